/-
  The program's Check answers as checkF does. No condition but that memory bears the tree.
-/
import Derived.Test.YtfmmcjiehpdogaaMay
set_option linter.unusedVariables false
set_option linter.unusedSimpArgs false
namespace Go.Proofs.Ytfmmcjiehpdogaa
open Go.RowKit

set_option maxRecDepth 100000 in
set_option maxHeartbeats 1000000 in
theorem check_any (t : TreeD) (v0 v1 v2 : Value) (w : World) (ht : TreeIs w w.heap.size v0 v1 v2 t) :
    Calls Try.prog 15 #[.agg #[v0, v1, v2]] w fun e w' => e = .returned (.bool (checkF t)) ∧ New w w' := by
  obtain ⟨Aq, Aq2, cq, cq2, rfl, rfl, rfl, hqs⟩ := ht.shape
  have ht2 := Lib.hid ((ht.new_ ((Chg.refl (fun _ => False) w).alloc (.cells #[.string t.name, .slice Aq t.props.length cq, .slice Aq2 t.kids.length cq2] 25))).new_ ((Chg.refl (fun _ => False) _).alloc (.cells #[.int .i64 0, .int .i64 0] 80)))
  have hg2 := Lib.hid (Blk.made (w.alloc (.cells #[.string t.name, .slice Aq t.props.length cq, .slice Aq2 t.kids.length cq2] 25)) 80 #[.int .i64 0, .int .i64 0])
  go_enter Try.func15, Try.ntmps15
  go_wp2_with fail
  refine ((may_any t) 1 0 0 (w.heap.size + 1) w.heap.size _ _ _ _ ht2.out (by omega) (by simpa using hg2.out) (by omega) (by omega) (by omega) (by omega)).mono ?_
  rintro e w3 ⟨he, hch, -, -, -, -⟩
  subst he
  go_wp2_with fail
  go_ret
  exact ⟨rfl, (((Chg.refl _ _).alloc _).alloc _).trans hch (fun i hi hlt => by omega)⟩
end Go.Proofs.Ytfmmcjiehpdogaa
