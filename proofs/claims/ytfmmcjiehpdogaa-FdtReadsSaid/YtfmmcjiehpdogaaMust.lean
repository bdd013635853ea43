/-
  The program's must, slices.Index, slices.Clone, text. No condition but the lengths.
-/
import Derived.Test.YtfmmcjiehpdogaaNum
set_option linter.unusedVariables false
set_option linter.unusedSimpArgs false
namespace Go.Proofs.Ytfmmcjiehpdogaa
open Go.RowKit

/-- what 'must' throws -/
def wrongCh : List PanicEntry := [{ v := .iface 118 (.agg #[]), recovered := false }]

theorem must_true (w : World) : Calls Try.prog 54 #[.bool true] w fun e w' => e = .returned (.tuple #[]) ∧ w = w' := by
  go_enter Try.func54, Try.ntmps54
  go_wp2_with fail
  go_end0
  exact ⟨rfl, rfl⟩
theorem must_false (w : World) : Calls Try.prog 54 #[.bool false] w fun e w' => e = .panicked wrongCh ∧ w = w' := by
  go_enter Try.func54, Try.ntmps54
  go_wp2_with fail
  exact ⟨rfl, rfl, rfl⟩
/-- 'must', whatever it is given -/
def MustPost (b : Bool) (w : World) (e : Ending) (w' : World) : Prop := (b = true → e = .returned (.tuple #[])) ∧ (b = false → e = .panicked wrongCh) ∧ w = w'

/-- how far the first byte 0 is -/
def idxV : Option (List UInt8) → Int
  | some s => (s.length : Int)
  | none => -1

set_option maxRecDepth 100000 in
set_option maxHeartbeats 1000000 in
theorem index_any (A : Option Addr) (n c : Nat) (b : List UInt8) (w : World) (hr : Rd w 1 A n (b.map bv)) (hn : n ≤ 140737488351232) :
    Calls Try.prog 106 #[.slice A n c, .int .u8 0] w fun e w' => e = .returned (.int .i64 (idxV (textP b 0))) ∧ w = w' := by
  have hlb : b.length = n := by simpa using hr.1
  have HLB := Lib.hid hlb
  clear hlb
  go_enter Try.func106, Try.ntmps106
  go_wp2_with fail
  go_loopw [8] (fun i wr => w = wr ∧ ∃ j : Nat, j ≤ n ∧ i = .int .i64 j ∧ (0 : UInt8) ∉ b.take j) (fun i _ => n - (intOf i).toNat)
  case atStart => exact ⟨rfl, 0, Nat.zero_le _, rfl, by simp⟩
  case round =>
    obtain ⟨rfl, j, hj, rfl, hno⟩ := hrel
    have HNO := Lib.hid hno
    clear hno
    by_cases hlt : j < n
    · obtain ⟨bb, o, u, rfl, hbl, hu, hcell⟩ := hr.at_ hlt
      obtain ⟨y, hy⟩ : ∃ y, b[j]? = some y := ⟨b[j]'(by rw [HLB.out]; exact hlt), List.getElem?_eq_getElem _⟩
      rw [List.getElem?_map, hy] at hu
      injection hu with hu
      subst hu
      have HY := Lib.hid hy
      by_cases hz : y = 0
      · subst hz
        simp only [bv] at hcell
        clear hy
        go_wp2_with fail
        go_ret
        have hsp : b.drop 0 = b.take j ++ 0 :: b.drop (j + 1) := by
          obtain ⟨h1, h2⟩ := List.getElem?_eq_some_iff.1 HY.out
          rw [List.drop_zero, ← h2, ← List.drop_eq_getElem_cons h1, List.take_append_drop]
        rw [textP_of hsp HNO.out]
        refine ⟨?_, rfl⟩
        simp only [idxV, List.length_take, HLB.out, Nat.min_eq_left (Nat.le_of_lt hlt)]
        rfl
      · have hyn : ¬ ((0 : Int) = (y.toNat : Int)) := fun e => hz (by apply UInt8.toNat_inj.1; simp; omega)
        simp only [bv] at hcell
        clear hy
        go_wp2_with fail
        go_roundw
        case rel =>
          refine ⟨by first | rfl | trivial, j + 1, by omega, by go_num, ?_⟩
          obtain ⟨h1, h2⟩ := List.getElem?_eq_some_iff.1 HY.out
          rw [List.take_succ_eq_append_getElem h1, h2]
          simp only [List.mem_append, List.mem_singleton, not_or]
          exact ⟨HNO.out, fun e => hz e.symm⟩
        case measure => simp [intOf]; omega
    · obtain rfl : n = j := by omega
      go_wp2_with fail
      go_ret
      have hno := HNO.out
      rw [List.take_of_length_le (by rw [HLB.out]; exact Nat.le_refl _)] at hno
      have htn : textP b 0 = none := by unfold textP; rw [List.drop_zero, if_neg hno]
      rw [htn]
      exact ⟨rfl, rfl⟩
end Go.Proofs.Ytfmmcjiehpdogaa
