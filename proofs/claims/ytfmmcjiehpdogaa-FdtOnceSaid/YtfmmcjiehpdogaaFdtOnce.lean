/-
  The law FdtOnce returns true and changes no old block. No condition but that memory bears the bytes.
-/
import Derived.Test.YtfmmcjiehpdogaaOf
set_option linter.unusedVariables false
set_option linter.unusedSimpArgs false
namespace Go.Proofs.Ytfmmcjiehpdogaa
open Go.RowKit
attribute [local go_sem ↓] Go.wp_at_zero Go.wp_at_succ

set_option maxRecDepth 100000 in
set_option maxHeartbeats 1000000 in
theorem fdtOnce_any (A : Option Addr) (n c : Nat) (b : List UInt8) (w : World) (hr : Rd w 1 A n (b.map bv)) (hn : n ≤ 140737488351232) (hc : n ≤ c) :
    Calls Try.prog 6 #[.slice A n c] w fun e w' => e = .returned (.bool true) ∧ New w w' := by
  have HR := Lib.hid hr
  clear hr
  by_cases hlen : 4000 < n
  · have hd : decide ((4000 : Int) < (n : Int)) = true := decide_eq_true (by omega)
    go_enter Try.func6, Try.ntmps6
    go_wp2_with (go_at_call 11; (with_reducible refine (awake_any _).mono ?_); rintro e w2 ⟨rfl, hn2⟩)
    go_ret
    exact ⟨rfl, hn2⟩
  · have hd : decide ((4000 : Int) < (n : Int)) = false := decide_eq_false (by omega)
    cases hof : ofF b with
    | none =>
      have HOF := Lib.hid hof
      clear hof
      go_enter Try.func6, Try.ntmps6
      go_wp2_with (first
        | (go_at_call 11; (with_reducible refine (awake_any _).mono ?_); rintro e w2 ⟨rfl, hn2⟩
           have F := Lib.hid (of_none HOF.out w2 (HR.out.new_ hn2) hn hc))
        | (go_at_call 21; (with_reducible refine F.out.mono ?_); rintro e w3 ⟨rfl, hn3⟩))
      go_ret
      exact ⟨rfl, (hn2.new_ hn3).alloc _⟩
    | some t =>
      have hput := ofF_put hof
      have HOF := Lib.hid hof
      have HP := Lib.hid hput
      obtain ⟨S2, hS2⟩ : ∃ S2 : ByteArray, ⟨b.toArray⟩ = S2 := ⟨_, rfl⟩
      have HS2 := Lib.hid hS2
      clear hof hput hS2
      go_enter Try.func6, Try.ntmps6
      go_wp2_with (first
        | (go_at_call 11; (with_reducible refine (awake_any _).mono ?_); rintro e w2 ⟨rfl, hn2⟩
           have F := Lib.hid (of_some HOF.out w2 (HR.out.new_ hn2) hn hc))
        | (go_at_call 21; (with_reducible refine F.out.mono ?_); rintro e w3 ⟨Ap, Ak, cp, ck, rfl, ht, hn3⟩
           have HT := Lib.hid (And.intro ht hn3)
           clear ht hn3))
      obtain ⟨ht, hn3⟩ := HT.out
      have hal : New w3 (w3.alloc (.cells #[.string t.name, .slice Ap t.props.length cp, .slice Ak t.kids.length ck] 25)) := (Chg.refl _ _).alloc _
      have F5 := put_any t _ _ _ _ ((ht.new_ hal).more hal.size)
      rw [HP.out] at F5
      have F5 := Lib.hid F5
      have HAL := Lib.hid (hn2.new_ (hn3.new_ hal))
      clear ht hn3 hal
      go_wp2_with (go_at_call 13; (with_reducible refine F5.out.mono ?_); rintro e w5 ⟨A5, n5, c5, rfl, hn5, hown5, hnw5⟩
                   have hs1 := run_string_of w5 A5 n5 c5 b hown5.rd
                   rw [HS2.out] at hs1
                   have hs2 := run_string_of w5 A n c b (HR.out.new_ (HAL.out.new_ hnw5))
                   rw [HS2.out] at hs2
                   clear hn5 hown5)
      go_ret
      exact ⟨by simp, HAL.out.new_ hnw5⟩
end Go.Proofs.Ytfmmcjiehpdogaa
