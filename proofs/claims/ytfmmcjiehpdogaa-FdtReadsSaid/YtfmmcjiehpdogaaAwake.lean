/-
  The law's example call of Put answers as the law asks. No condition.
-/
import Derived.Test.YtfmmcjiehpdogaaFew
set_option linter.unusedVariables false
set_option linter.unusedSimpArgs false
namespace Go.Proofs.Ytfmmcjiehpdogaa
open Go.RowKit
attribute [local go_sem ↓] Go.wp_at_zero Go.wp_at_succ

set_option maxRecDepth 100000 in
set_option maxHeartbeats 1000000 in
theorem awake_any (w : World) : Calls Try.prog 11 #[] w fun e w' => e = .returned (.bool true) ∧ New w w' := by
  obtain ⟨l, hl, hlen, h0, h59, h67, h71⟩ := put_empty
  have HL := Lib.hid hl
  have hl' : (l.map bv).length = 72 := by simpa using hlen
  clear hl
  have h0' : (l.map bv)[0]? = some (.int .u8 208) := by rw [List.getElem?_map, h0]; rfl
  have h59' : (l.map bv)[59]? = some (.int .u8 1) := by rw [List.getElem?_map, h59]; rfl
  have h67' : (l.map bv)[67]? = some (.int .u8 2) := by rw [List.getElem?_map, h67]; rfl
  have h71' : (l.map bv)[71]? = some (.int .u8 9) := by rw [List.getElem?_map, h71]; rfl
  have HLEN := Lib.hid hlen
  clear h0 h59 h67 h71 hlen hl'
  have H0 := Lib.hid h0'
  have H59 := Lib.hid h59'
  have H67 := Lib.hid h67'
  have H71 := Lib.hid h71'
  clear h0' h59' h67' h71'
  have F := Lib.hid (put_any emptyT _ _ _ w (emptyIs w _))
  go_enter Try.func11, Try.ntmps11
  go_wp2_with (go_at_call 13; refine F.out.mono ?_; rintro e w2 ⟨A, n, c, rfl, hn, hown, hnew⟩
               rw [HL.out] at hn hown
               simp only [HLEN.out] at hn
               subst hn
               obtain ⟨b, o, rfl, hb, hcells⟩ := hown.rd.addr (by omega) (by omega)
               have q0 := hcells 0 _ H0.out
               rw [Nat.add_zero] at q0
               have q59 := hcells 59 _ H59.out
               have q67 := hcells 67 _ H67.out
               have q71 := hcells 71 _ H71.out
               clear hcells)
  all_goals (go_ret; exact ⟨rfl, hnew⟩)
end Go.Proofs.Ytfmmcjiehpdogaa
