/-
  FdtReads: for all bytes: fdt.Of and the reference's TreeOf give the same error and, by the reference's Same, the same tree.
-/
import Derived.Test.YtfmmcjiehpdogaaFdtReads
import Derived.Test.YtfmmcjiehpdogaaRow
set_option linter.unusedVariables false
namespace Go.Proofs.Ytfmmcjiehpdogaa
open Go.ChangeShapes Go.WideShapes Go.ChangeAt Go.RowKit Go.Deep

set_option maxRecDepth 100000 in
theorem fdtReads_lifted (os : Os) (started : os.Started) (H : Type) (enc : TypeId × Value → H) :
    ReturnsInHanded {} Try.checked os 5 .any (Rows.fdtReadsSpec.pre6 enc Try.prog Try.f5 Rows.fdtReadsRow.domain false) (Rows.fdtReadsSpec.post enc Try.prog Try.f5 false true false false) := by
  refine returnsInHanded_of_change_sized (C := Try.checked) ownNo started (by kernel_rfl) Try.func5
    (ChangeSpec.witness6 (enc := enc) (C := Try.checked) false ⟨#[], #[.slice none 0 0], []⟩ 8 (by kernel_rfl) (by kernel_rfl) (by kernel_rfl) (by kernel_rfl)) ?_
  intro W base args ds gs before hval0 hW _ hsz0 _
  have hval : ∀ (j : Nat) t v, Try.f5.params[j]? = some t → args[j]? = some v → Value.okWide Try.prog W .any base t v := hval0
  have hW' := hW
  obtain ⟨p, q, hA0, hV, rfl, _, _⟩ := hW
  have hA : DataW.TrodAll enc Try.prog W 0 (fun _ => true) true Try.f5.params.toList args.toList ds p := hA0
  rw [Try.params5] at hA hval hsz0
  obtain ⟨v0, d0, rfl, rfl, h0⟩ := trodAll_one hA
  obtain ⟨rfl, rfl⟩ := trodVars_none hV
  obtain ⟨fuel, hf⟩ := h0
  have hok := hval 0 28 v0 rfl rfl
  simp only [Value.okWide, Try.underlying28] at hok
  have hfit : Fit 28 d0 := fun n hn => by
    have := List.all_eq_true.1 hsz0 n (DataW.weights_mem_each (j := 0) (t := 28) rfl rfl n hn)
    simpa using this
  obtain ⟨A, l, c, hc, h1, h2, h3, h4⟩ := bytes_open hf hfit
  obtain ⟨a, len, cap, rfl⟩ : ∃ a len cap, v0 = .slice a len cap := by
    cases v0 <;> simp [Cell.okWide, Try.underlying28, Cell.ok] at hok ⊢
  obtain ⟨rfl, rfl, rfl⟩ : a = A ∧ len = l.length ∧ cap = c := by simpa [Value.cells] using hc
  refine (fdtReads_any _ _ _ l W h3 (Nat.le_trans h1 h2) h1).mono fun e W' ⟨he, hnew⟩ => ?_
  subst he
  exact ⟨_, rfl, law_post (tb := 4) rfl hW' rfl (by rw [Try.params5]; decide +kernel) (by kernel_rfl) Try.underlying4 (hnew.below (Nat.le_refl _) (fun _ _ h => h))⟩

theorem fdtReads_holds : Rows.FdtReadsSaid :=
  OpenClaim.holds_of_wide 5 Try.f5 rfl rfl rfl rfl rfl rfl rfl ⟨rfl, rfl, rfl, rfl, rfl⟩ rfl rfl rfl rfl rfl (by kernel_rfl) Try.func5 (by kernel_rfl)
    (of_decide_eq_true (by kernel_rfl)) (by unfold Func.isWrapper; rw [if_neg (of_decide_eq_false (by kernel_rfl))]; exact ⟨rfl, rfl⟩)
    (fun os started H enc _ => fdtReads_lifted os started H enc)
end Go.Proofs.Ytfmmcjiehpdogaa
