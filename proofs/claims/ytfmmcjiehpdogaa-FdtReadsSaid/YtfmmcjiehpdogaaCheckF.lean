/-
  Which trees may be, as a function of the plain tree. No program in sight.
-/
import Derived.Test.YtfmmcjiehpdogaaTree
import Derived.Test.YtfmmcjiehpdogaaNamed
import Derived.Test.YtfmmcjiehpdogaaTwice
set_option linter.unusedVariables false
set_option linter.unusedSimpArgs false
namespace Go.Proofs.Ytfmmcjiehpdogaa
open Go.RowKit

/-- signs of nodes' names, of properties' names -/
def ofNodes : List UInt8 := [44, 46, 95, 43, 45, 64]
def ofProps : List UInt8 := [44, 46, 95, 43, 63, 35, 45]
/-- a node's name, so many within one another -/
def nmOk (at_ : Nat) (nm : List UInt8) : Bool := if at_ = 1 then nm.isEmpty else nameB ofNodes nm
def propOk (p : PropD) : Bool := nameB ofProps p.1.data.toList && decide (p.2.length ≤ 4096)
def pnames (ps : List PropD) : List (List UInt8) := ps.map (·.1.data.toList)
def knames (ks : List TreeD) : List (List UInt8) := ks.map (·.name.data.toList)

mutual
/-- nodes and properties behind a node that may be -/
def mayF : TreeD → Nat → Nat → Nat → Option (Nat × Nat)
  | .mk nm ps ks, at_, n, p =>
    if 8 < at_ ∨ 200 < n + 1 ∨ 1000 < p + ps.length then none
    else if nmOk at_ nm.data.toList = false then none
    else if ps.all propOk = false then none
    else if dupB (pnames ps) = true then none
    else if dupB (knames ks) = true then none
    else mayL ks (at_ + 1) (n + 1) (p + ps.length)
def mayL : List TreeD → Nat → Nat → Nat → Option (Nat × Nat)
  | [], _, n, p => some (n, p)
  | k :: ks, at_, n, p =>
    match mayF k at_ n p with
    | none => none
    | some (n', p') => mayL ks at_ n' p'
end
/-- whether a tree may be -/
def checkF (t : TreeD) : Bool := (mayF t 1 0 0).isSome

theorem mayL_le (ks : List TreeD) : ∀ (at_ n p n' p' : Nat), (∀ k ∈ ks, ∀ at_ n p n' p', mayF k at_ n p = some (n', p') → n + 1 ≤ n' ∧ n' ≤ 200 ∧ p ≤ p' ∧ p' ≤ 1000) → n ≤ 200 → p ≤ 1000 → mayL ks at_ n p = some (n', p') → n + ks.length ≤ n' ∧ n' ≤ 200 ∧ p ≤ p' ∧ p' ≤ 1000 := by
  induction ks with
  | nil =>
    intro at_ n p n' p' _ hn hp h
    simp only [mayL, Option.some.injEq, Prod.mk.injEq] at h
    obtain ⟨rfl, rfl⟩ := h
    exact ⟨by simp, hn, Nat.le_refl _, hp⟩
  | cons k ks ih =>
    intro at_ n p n' p' hk hn hp h
    simp only [mayL] at h
    cases h1 : mayF k at_ n p with
    | none => simp [h1] at h
    | some x =>
      obtain ⟨n1, p1⟩ := x
      simp only [h1] at h
      have h2 := hk k (by simp) at_ n p n1 p1 h1
      have h3 := ih at_ n1 p1 n' p' (fun k' hk' => hk k' (by simp [hk'])) h2.2.1 h2.2.2.2 h
      simp only [List.length_cons]
      omega
theorem mayF_le : ∀ (t : TreeD) (at_ n p n' p' : Nat), mayF t at_ n p = some (n', p') → n + 1 ≤ n' ∧ n' ≤ 200 ∧ p ≤ p' ∧ p' ≤ 1000 := by
  intro t
  induction t using TreeD.ind with
  | h nm ps ks ih =>
    intro at_ n p n' p' h
    simp only [mayF] at h
    split at h
    · cases h
    · split at h
      · cases h
      · split at h
        · cases h
        · split at h
          · cases h
          · split at h
            · cases h
            · have := mayL_le ks (at_ + 1) (n + 1) (p + ps.length) n' p' ih (by omega) (by omega) h
              omega
theorem mayL_many (ks : List TreeD) (at_ n p : Nat) (hn : n ≤ 200) (hp : p ≤ 1000) (h : 200 < n + ks.length) : mayL ks at_ n p = none := by
  cases h1 : mayL ks at_ n p with
  | none => rfl
  | some x =>
    have := mayL_le ks at_ n p x.1 x.2 (fun k _ => mayF_le k) hn hp h1
    omega
theorem mayL_append (l r : List TreeD) : ∀ (at_ n p : Nat), mayL (l ++ r) at_ n p = (mayL l at_ n p).bind fun x => mayL r at_ x.1 x.2 := by
  induction l with
  | nil => intro at_ n p; rfl
  | cons k l ih =>
    intro at_ n p
    simp only [List.cons_append, mayL]
    cases mayF k at_ n p with
    | none => rfl
    | some x => exact ih _ _ _
theorem mayL_none_take (ks : List TreeD) (m at_ n p : Nat) (h : mayL (ks.take m) at_ n p = none) : mayL ks at_ n p = none := by
  have := mayL_append (ks.take m) (ks.drop m) at_ n p
  rw [List.take_append_drop, h] at this
  exact this
end Go.Proofs.Ytfmmcjiehpdogaa
