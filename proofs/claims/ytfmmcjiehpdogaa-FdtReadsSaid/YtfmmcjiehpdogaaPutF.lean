/-
  A tree as bytes, as a function of the plain tree. No program in sight.
-/
import Derived.Test.YtfmmcjiehpdogaaCheckF
import Derived.Test.YtfmmcjiehpdogaaBuf
set_option linter.unusedVariables false
set_option linter.unusedSimpArgs false
namespace Go.Proofs.Ytfmmcjiehpdogaa
open Go.RowKit

/-- a structure, the texts that it names, and their places -/
structure WS where
  b : List UInt8
  texts : List UInt8
  pl : List (List UInt8 × Nat)

/-- the place of a text -/
def plF (pl : List (List UInt8 × Nat)) (s : List UInt8) : Option Nat := (pl.find? fun x => x.1 == s).map (·.2)
def plI (pl : List (List UInt8 × Nat)) (s : List UInt8) : Option Int := (plF pl s).map fun n => (n : Int)
theorem plF_snoc (pl : List (List UInt8 × Nat)) (s s' : List UInt8) (v : Nat) (h : plF pl s = none) : plF (pl ++ [(s, v)]) s' = if s' = s then some v else plF pl s' := by
  simp only [plF, List.find?_append]
  by_cases hs : s' = s
  · subst hs
    rw [if_pos rfl]
    simp only [plF, Option.map_eq_none_iff] at h
    rw [h]
    simp
  · rw [if_neg hs]
    have : ((s == s') : Bool) = false := by simpa using fun e => hs e.symm
    simp [this]
theorem plI_snoc (pl : List (List UInt8 × Nat)) (s : List UInt8) (v : Nat) (h : plF pl s = none) : upd (plI pl) s (v : Int) = plI (pl ++ [(s, v)]) := by
  funext s'
  simp only [upd, plI, plF_snoc pl s s' v h]
  by_cases hs : s' = s <;> simp [hs]

/-- a text's place; it is put, where it is not there -/
def textF (s : List UInt8) (st : WS) : Nat × WS :=
  match plF st.pl s with
  | some at_ => (at_, st)
  | none => (st.texts.length, { st with texts := st.texts ++ s ++ [0], pl := st.pl ++ [(s, st.texts.length)] })
/-- numbers behind the structure -/
def num4 (l : List Nat) (st : WS) : WS := { st with b := st.b ++ puts32 l false }
/-- bytes behind the structure, filled up -/
def fillF (l : List UInt8) (st : WS) : WS := { st with b := pad4 (st.b ++ l) }
/-- a property -/
def propF (p : PropD) (st : WS) : WS :=
  fillF p.2 (num4 [3, p.2.length, (textF p.1.data.toList st).1] (textF p.1.data.toList st).2)
def propsF : List PropD → WS → WS
  | [], st => st
  | p :: ps, st => propsF ps (propF p st)
mutual
/-- a node -/
def nodeF : TreeD → WS → WS
  | .mk nm ps ks, st => num4 [2] (kidsF ks (propsF ps (fillF (nm.data.toList ++ [0]) (num4 [1] st))))
def kidsF : List TreeD → WS → WS
  | [], st => st
  | k :: ks, st => kidsF ks (nodeF k st)
end
theorem propsF_append (l r : List PropD) : ∀ st, propsF (l ++ r) st = propsF r (propsF l st) := by
  induction l with
  | nil => intro st; rfl
  | cons p l ih => intro st; exact ih _
theorem kidsF_append (l r : List TreeD) : ∀ st, kidsF (l ++ r) st = kidsF r (kidsF l st) := by
  induction l with
  | nil => intro st; rfl
  | cons p l ih => intro st; exact ih _

/-! how great it may become -/
def propW (p : PropD) : Nat := 32 + p.1.size + p.2.length
def propsW : List PropD → Nat
  | [] => 0
  | p :: ps => propW p + propsW ps
mutual
def nodeW : TreeD → Nat
  | .mk nm ps ks => 32 + nm.size + propsW ps + kidsW ks
def kidsW : List TreeD → Nat
  | [] => 0
  | k :: ks => nodeW k + kidsW ks
end
/-- all that a structure holds -/
def WS.wt (st : WS) : Nat := st.b.length + st.texts.length + st.pl.length
theorem pad4_length (l : List UInt8) : (pad4 l).length ≤ l.length + 3 := by
  simp only [pad4, List.length_append, List.length_replicate]; omega
theorem data_length (s : ByteArray) : s.data.toList.length = s.size := by simp
theorem textF_wt (s : List UInt8) (st : WS) : (textF s st).2.wt ≤ st.wt + s.length + 2 := by
  unfold textF
  split
  · simp only; omega
  · simp only [WS.wt, List.length_append, List.length_cons, List.length_nil]; omega
theorem num4_wt (l : List Nat) (st : WS) : (num4 l st).wt = st.wt + 4 * l.length := by
  simp only [num4, WS.wt, List.length_append, puts32_length]; omega
theorem fillF_wt (l : List UInt8) (st : WS) : (fillF l st).wt ≤ st.wt + l.length + 3 := by
  have := pad4_length (st.b ++ l)
  simp only [fillF, WS.wt, List.length_append] at this ⊢; omega
theorem propF_wt (p : PropD) (st : WS) : (propF p st).wt ≤ st.wt + propW p := by
  have h1 := textF_wt p.1.data.toList st
  have h2 := num4_wt [3, p.2.length, (textF p.1.data.toList st).1] (textF p.1.data.toList st).2
  have h3 := fillF_wt p.2 (num4 [3, p.2.length, (textF p.1.data.toList st).1] (textF p.1.data.toList st).2)
  rw [data_length] at h1
  simp only [List.length_cons, List.length_nil] at h2
  simp only [propF, propW]
  omega
theorem propsF_wt (ps : List PropD) : ∀ st, (propsF ps st).wt ≤ st.wt + propsW ps := by
  induction ps with
  | nil => intro st; simp [propsF, propsW]
  | cons p ps ih =>
    intro st
    have h1 := propF_wt p st
    have h2 := ih (propF p st)
    simp only [propsF, propsW]
    omega
theorem kidsF_wt (ks : List TreeD) (h : ∀ k ∈ ks, ∀ st, (nodeF k st).wt ≤ st.wt + nodeW k) : ∀ st, (kidsF ks st).wt ≤ st.wt + kidsW ks := by
  induction ks with
  | nil => intro st; simp [kidsF, kidsW]
  | cons k ks ih =>
    intro st
    have h1 := h k (by simp) st
    have h2 := ih (fun k hk => h k (by simp [hk])) (nodeF k st)
    simp only [kidsF, kidsW]
    omega
theorem nodeF_wt (t : TreeD) : ∀ st, (nodeF t st).wt ≤ st.wt + nodeW t := by
  induction t using TreeD.ind with
  | h nm ps ks ih =>
    intro st
    have h1 := num4_wt [1] st
    have h2 := fillF_wt (nm.data.toList ++ [0]) (num4 [1] st)
    have h3 := propsF_wt ps (fillF (nm.data.toList ++ [0]) (num4 [1] st))
    have h4 := kidsF_wt ks ih (propsF ps (fillF (nm.data.toList ++ [0]) (num4 [1] st)))
    have h5 := num4_wt [2] (kidsF ks (propsF ps (fillF (nm.data.toList ++ [0]) (num4 [1] st))))
    simp only [List.length_append, data_length, List.length_cons, List.length_nil] at h1 h2 h5
    simp only [nodeF, nodeW]
    omega
theorem propsW_take (ps : List PropD) (j : Nat) : propsW (ps.take j) ≤ propsW ps := by
  induction ps generalizing j with
  | nil => simp
  | cons p ps ih =>
    cases j with
    | zero => simp [propsW]
    | succ j => have := ih j; simp only [List.take_succ_cons, propsW]; omega
theorem propsW_take_succ (ps : List PropD) (j : Nat) (h : j < ps.length) : propsW (ps.take j) + propW ps[j] ≤ propsW ps := by
  induction ps generalizing j with
  | nil => simp at h
  | cons p ps ih =>
    cases j with
    | zero => simp [propsW]
    | succ j => have := ih j (by simpa using h); simp only [List.take_succ_cons, propsW, List.getElem_cons_succ]; omega
theorem kidsW_take_succ (ks : List TreeD) (j : Nat) (h : j < ks.length) : kidsW (ks.take j) + nodeW ks[j] ≤ kidsW ks := by
  induction ks generalizing j with
  | nil => simp at h
  | cons p ps ih =>
    cases j with
    | zero => simp [kidsW]
    | succ j => have := ih j (by simpa using h); simp only [List.take_succ_cons, kidsW, List.getElem_cons_succ]; omega

/-! a tree that may be is not great -/
theorem propsW_ok (ps : List PropD) (h : ps.all propOk = true) : propsW ps ≤ 4160 * ps.length := by
  induction ps with
  | nil => simp [propsW]
  | cons p ps ih =>
    simp only [List.all_cons, Bool.and_eq_true] at h
    have h2 := ih h.2
    have h1 := h.1
    simp only [propOk, nameB, Bool.and_eq_true, decide_eq_true_eq, data_length] at h1
    simp only [propsW, propW, List.length_cons]
    omega
theorem kidsW_ok (ks : List TreeD) (hk : ∀ k ∈ ks, ∀ at_ n p n' p', mayF k at_ n p = some (n', p') → nodeW k + 64 * n + 4160 * p ≤ 64 * n' + 4160 * p') : ∀ at_ n p n' p', mayL ks at_ n p = some (n', p') → kidsW ks + 64 * n + 4160 * p ≤ 64 * n' + 4160 * p' := by
  induction ks with
  | nil =>
    intro at_ n p n' p' h
    simp only [mayL, Option.some.injEq, Prod.mk.injEq] at h
    obtain ⟨rfl, rfl⟩ := h
    simp [kidsW]
  | cons k ks ih =>
    intro at_ n p n' p' h
    simp only [mayL] at h
    cases h1 : mayF k at_ n p with
    | none => simp [h1] at h
    | some x =>
      obtain ⟨n1, p1⟩ := x
      simp only [h1] at h
      have h2 := hk k (by simp) at_ n p n1 p1 h1
      have h3 := ih (fun k' hk' => hk k' (by simp [hk'])) at_ n1 p1 n' p' h
      simp only [kidsW]
      omega
theorem nodeW_ok : ∀ (t : TreeD) (at_ n p n' p' : Nat), mayF t at_ n p = some (n', p') → nodeW t + 64 * n + 4160 * p ≤ 64 * n' + 4160 * p' := by
  intro t
  induction t using TreeD.ind with
  | h nm ps ks ih =>
    intro at_ n p n' p' h
    simp only [mayF] at h
    split at h
    · cases h
    · split at h
      · cases h
      · rename_i hnm
        split at h
        · cases h
        · rename_i hall
          split at h
          · cases h
          · split at h
            · cases h
            · have h1 := kidsW_ok ks ih _ _ _ _ _ h
              have h2 := propsW_ok ps (by simpa using hall)
              have h3 : nm.size ≤ 31 := by
                rw [Bool.not_eq_false] at hnm
                rw [nmOk] at hnm
                rw [← data_length]
                split at hnm
                · simp only [List.isEmpty_iff] at hnm; rw [hnm]; simp
                · simp only [nameB, Bool.and_eq_true, decide_eq_true_eq] at hnm; exact hnm.2.2
              simp only [nodeW]
              omega
theorem check_small (t : TreeD) (h : checkF t = true) : nodeW t ≤ 4172800 := by
  unfold checkF at h
  obtain ⟨x, hx⟩ := Option.isSome_iff_exists.1 h
  have h1 := nodeW_ok t 1 0 0 x.1 x.2 hx
  have h2 := mayF_le t 1 0 0 x.1 x.2 hx
  omega

/-- the header -/
def headF (n m : Nat) : List Nat := [3490578157, 56 + n + m, 56, 56 + n, 40, 17, 16, 0, m, n]
/-- a tree as bytes; an error's number -/
def putF (t : TreeD) : List UInt8 × Nat :=
  if checkF t = false then ([], 240)
  else
    let st := num4 [9] (nodeF t ⟨[], [], []⟩)
    if 16384 < 56 + st.b.length + st.texts.length then ([], 2)
    else (puts32 (headF st.b.length st.texts.length) false ++ List.replicate 16 0 ++ st.b ++ st.texts, 0)
end Go.Proofs.Ytfmmcjiehpdogaa
