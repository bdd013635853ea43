/-
  The law FdtReads returns true and changes no old block. No condition but that memory bears the bytes.
-/
import Derived.Test.YtfmmcjiehpdogaaRefOf
import Derived.Test.YtfmmcjiehpdogaaRefSame
set_option linter.unusedVariables false
set_option linter.unusedSimpArgs false
namespace Go.Proofs.Ytfmmcjiehpdogaa
open Go.RowKit
attribute [local go_sem ↓] Go.wp_at_zero Go.wp_at_succ

/-- the tree that is handed back, the error -/
def ofT (b : List UInt8) : TreeD := (ofF b).getD emptyT
def ofE (b : List UInt8) : Int := if (ofF b).isSome then 0 else 240
theorem ofpost_shape {b : List UInt8} {w w' : World} {e : Ending} (h : OfPost b w e w') : ∃ Ap Ak cp ck, e = .returned (.tuple #[.agg #[.string (ofT b).name, .slice Ap (ofT b).props.length cp, .slice Ak (ofT b).kids.length ck], .int .i64 (ofE b)]) ∧
    TreeIs w' w'.heap.size (.string (ofT b).name) (.slice Ap (ofT b).props.length cp) (.slice Ak (ofT b).kids.length ck) (ofT b) ∧ New w w' := by
  obtain ⟨h1, h2⟩ := h
  unfold ofT ofE
  cases hof : ofF b with
  | none =>
    rw [hof] at h2
    subst h2
    exact ⟨none, none, 0, 0, rfl, emptyIs _ _, h1⟩
  | some t =>
    rw [hof] at h2
    obtain ⟨v0, v1, v2, rfl, ht⟩ := h2
    obtain ⟨Ap, Ak, cp, ck, rfl, rfl, rfl, _⟩ := ht.shape
    exact ⟨Ap, Ak, cp, ck, rfl, ht, h1⟩

set_option maxRecDepth 100000 in
set_option maxHeartbeats 1000000 in
theorem fdtReads_any (A : Option Addr) (n c : Nat) (b : List UInt8) (w : World) (hr : Rd w 1 A n (b.map bv)) (hn : n ≤ 140737488351232) (hc : n ≤ c) :
    Calls Try.prog 5 #[.slice A n c] w fun e w' => e = .returned (.bool true) ∧ New w w' := by
  have HR := Lib.hid hr
  clear hr
  by_cases hlen : 4000 < n
  · have hd : decide ((4000 : Int) < (n : Int)) = true := decide_eq_true (by omega)
    go_enter Try.func5, Try.ntmps5
    go_wp2_with (go_at_call 11; (with_reducible refine (awake_any _).mono ?_); rintro e w2 ⟨rfl, hn2⟩)
    go_ret
    exact ⟨rfl, hn2⟩
  · have hd : decide ((4000 : Int) < (n : Int)) = false := decide_eq_false (by omega)
    obtain ⟨t, ht⟩ : ∃ t, ofT b = t := ⟨_, rfl⟩
    obtain ⟨k, hk⟩ : ∃ k, ofE b = k := ⟨_, rfl⟩
    have HTK := Lib.hid (And.intro ht hk)
    clear ht hk
    go_enter Try.func5, Try.ntmps5
    go_wp2_with (first
      | (go_at_call 11; (with_reducible refine (awake_any _).mono ?_); rintro e w2 ⟨rfl, hn2⟩
         have F := Lib.hid (of_any A n c b w2 (HR.out.new_ hn2) hn hc))
      | (go_at_call 21; (with_reducible refine F.out.mono ?_); intro e w3 h3
         obtain ⟨Ap, Ak, cp, ck, rfl, ht3, hn3⟩ := ofpost_shape h3
         rw [HTK.out.1] at ht3 ⊢
         rw [HTK.out.2]
         have hal := (Chg.refl (fun _ => False) w3).alloc (.cells #[.string t.name, .slice Ap t.props.length cp, .slice Ak t.kids.length ck] 25)
         have hb3 := Blk.made w3 25 #[.string t.name, .slice Ap t.props.length cp, .slice Ak t.kids.length ck]
         have F4 := Lib.hid (rof_any A n c b _ (HR.out.new_ ((hn2.new_ hn3).new_ hal)) hn hc)
         have HW3 := Lib.hid (And.intro ht3 (And.intro (hn2.new_ hn3) (And.intro hal hb3)))
         clear h3 ht3 hn3 hal hb3)
      | (go_at_call 22; (with_reducible refine F4.out.mono ?_); intro e w4 h4
         obtain ⟨Aq, Al, cq, cl, rfl, ht4, hn4⟩ := ofpost_shape h4
         rw [HTK.out.1] at ht4 ⊢
         rw [HTK.out.2]
         obtain ⟨g1, g2, g3, g4⟩ := HW3.out
         obtain ⟨x0, x1, x2, _⟩ := (g4.chg hn4 (fun h => h)).c3
         have hlt4 : w3.heap.size < w4.heap.size := (g4.chg hn4 (fun h => h)).lt
         have hal4 := (Chg.refl (fun _ => False) w4).alloc (.cells #[.string t.name, .slice Aq t.props.length cq, .slice Al t.kids.length cl] 25)
         have F5 := Lib.hid (rsame_any t w4.heap.size _ _ _ _ _ _ _ hal4.size ((g1.new_ ((g3.new_ hn4).new_ hal4)).more (by have := (g3.new_ hn4).size; omega)) (ht4.new_ hal4))
         have HN4 := Lib.hid ((g2.new_ (g3.new_ hn4)).new_ hal4)
         clear h4 ht4 hn4 g1 g2 g3 g4 hal4)
      | (go_at_call 20; (with_reducible refine F5.out.mono ?_); rintro e w5 ⟨rfl, hn5⟩))
    go_ret
    exact ⟨rfl, HN4.out.new_ hn5⟩
end Go.Proofs.Ytfmmcjiehpdogaa
