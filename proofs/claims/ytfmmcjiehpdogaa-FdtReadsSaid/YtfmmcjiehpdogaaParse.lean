/-
  Bytes as a tree, as a function. No program in sight.
-/
import Derived.Test.YtfmmcjiehpdogaaPutF
set_option linter.unusedVariables false
set_option linter.unusedSimpArgs false
namespace Go.Proofs.Ytfmmcjiehpdogaa
open Go.RowKit

/-- a number out of bytes, the highest ahead -/
def numB (l : List UInt8) : Nat := l.foldl (fun x c => x * 256 + c.toNat) 0
theorem numB_snoc (l : List UInt8) (c : UInt8) : numB (l ++ [c]) = numB l * 256 + c.toNat := by simp [numB]
theorem numB_lt' (l : List UInt8) : ∀ x : Nat, l.foldl (fun x c => x * 256 + c.toNat) x < (x + 1) * 256 ^ l.length := by
  induction l with
  | nil => intro x; simp
  | cons c l ih =>
    intro x
    have h := ih (x * 256 + c.toNat)
    have hc := c.toNat_lt
    simp only [List.foldl_cons, List.length_cons, Nat.pow_succ]
    have : (x * 256 + c.toNat + 1) * 256 ^ l.length ≤ ((x + 1) * 256) * 256 ^ l.length := Nat.mul_le_mul_right _ (by omega)
    have e : (x + 1) * (256 ^ l.length * 256) = ((x + 1) * 256) * 256 ^ l.length := by rw [Nat.mul_assoc, Nat.mul_comm 256]
    omega
theorem numB_lt (l : List UInt8) : numB l < 256 ^ l.length := by
  have := numB_lt' l 0
  simpa [numB] using this
/-- the number of four bytes at p -/
def be32F (b : List UInt8) (p : Nat) : Option Nat := if p + 4 ≤ b.length then some (numB ((b.drop p).take 4)) else none
theorem be32F_lt {b : List UInt8} {p n : Nat} (h : be32F b p = some n) : n < 4294967296 ∧ p + 4 ≤ b.length := by
  unfold be32F at h
  split at h
  · rename_i hp
    injection h with h
    refine ⟨?_, hp⟩
    have := numB_lt ((b.drop p).take 4)
    rw [h, List.length_take, List.length_drop, Nat.min_eq_left (by omega)] at this
    exact this
  · cases h
/-- what stands ahead of a byte 0 -/
def textP (b : List UInt8) (p : Nat) : Option (List UInt8) := if (0 : UInt8) ∈ b.drop p then some ((b.drop p).takeWhile (· != 0)) else none

mutual
/-- a node, behind its beginning: depth d, place p, so many left -/
def nodeP (b tx : List UInt8) : (f d p l : Nat) → Option (TreeD × Nat × Nat)
  | 0, _, _, _ => none
  | f + 1, d, p, l =>
    match textP b p with
    | none => none
    | some nm => if 8 < d ∨ l = 0 then none else loopP b tx f d ⟨nm.toArray⟩ [] [] (p + (nm.length + 4) / 4 * 4) (l - 1)
/-- what stands in a node -/
def loopP (b tx : List UInt8) : (f d : Nat) → (nm : ByteArray) → (ps : List PropD) → (ks : List TreeD) → (p l : Nat) → Option (TreeD × Nat × Nat)
  | 0, _, _, _, _, _, _ => none
  | f + 1, d, nm, ps, ks, p, l =>
    match be32F b p with
    | none => none
    | some k =>
      if k = 3 then
        match be32F b (p + 4) with
        | none => none
        | some n =>
          match be32F b (p + 8) with
          | none => none
          | some q =>
            match textP tx q with
            | none => none
            | some s => if b.length < p + 12 + n then none else loopP b tx f d nm (ps ++ [(⟨s.toArray⟩, (b.drop (p + 12)).take n)]) ks (p + 12 + (n + 3) / 4 * 4) l
      else if k = 1 then
        match nodeP b tx f (d + 1) (p + 4) l with
        | none => none
        | some (t, p', l') => loopP b tx f d nm ps (ks ++ [t]) p' l'
      else if k = 2 then some (.mk nm ps ks, p + 4, l)
      else none
end

theorem split0 : ∀ (l : List UInt8), (0 : UInt8) ∈ l → ∃ r, l = l.takeWhile (· != 0) ++ 0 :: r ∧ (0 : UInt8) ∉ l.takeWhile (· != 0)
  | c :: l, h => by
    by_cases hc : c = 0
    · subst hc
      exact ⟨l, by simp, by simp⟩
    · have hm : (0 : UInt8) ∈ l := by
        rcases List.mem_cons.1 h with h | h
        · exact absurd h.symm hc
        · exact h
      obtain ⟨r, h1, h2⟩ := split0 l hm
      have hb : (c != 0) = true := by simpa using hc
      refine ⟨r, ?_, ?_⟩
      · rw [List.takeWhile_cons, if_pos hb, List.cons_append, ← h1]
      · rw [List.takeWhile_cons, if_pos hb]
        intro hx
        rcases List.mem_cons.1 hx with h | h
        · exact hc h.symm
        · exact h2 h
theorem textP_some {b : List UInt8} {p : Nat} {s : List UInt8} (h : textP b p = some s) : p + s.length < b.length ∧ s = (b.drop p).take s.length ∧ (0 : UInt8) ∉ s ∧ b[p + s.length]? = some 0 := by
  unfold textP at h
  split at h
  · rename_i hm
    injection h with h
    obtain ⟨r, h1, h2⟩ := split0 _ hm
    rw [h] at h1 h2
    have hlen : (b.drop p).length = s.length + (r.length + 1) := by rw [h1]; simp
    rw [List.length_drop] at hlen
    refine ⟨by omega, by rw [h1]; simp, h2, ?_⟩
    have : (b.drop p)[s.length]? = some 0 := by rw [h1]; simp
    rwa [List.getElem?_drop] at this
  · cases h
/-- the other way: what stands ahead of the first byte 0 -/
theorem textP_of {b : List UInt8} {p : Nat} {s r : List UInt8} (h : b.drop p = s ++ 0 :: r) (h0 : (0 : UInt8) ∉ s) : textP b p = some s := by
  unfold textP
  rw [if_pos (by rw [h]; simp), h]
  congr 1
  clear h
  induction s with
  | nil => simp
  | cons c s ih =>
    have hc : c ≠ 0 := fun e => h0 (by simp [e])
    have hb : (c != 0) = true := by simpa using hc
    rw [List.cons_append, List.takeWhile_cons, if_pos hb, ih (fun h => h0 (by simp [h]))]
theorem textP_none {b : List UInt8} {p : Nat} (h : ∀ i, p ≤ i → b[i]? ≠ some 0) : textP b p = none := by
  unfold textP
  rw [if_neg]
  intro hm
  obtain ⟨i, hi, he⟩ := List.getElem_of_mem hm
  have h1 : (b.drop p)[i]? = some 0 := by rw [List.getElem?_eq_getElem hi, he]
  rw [List.getElem?_drop] at h1
  exact h (p + i) (by omega) h1

mutual
theorem nodeP_le (b tx : List UInt8) : ∀ (f d p l : Nat) (t : TreeD) (p' l' : Nat), nodeP b tx f d p l = some (t, p', l') → p + 8 ≤ p' ∧ l' < l
  | 0, d, p, l, t, p', l', h => by simp [nodeP] at h
  | f + 1, d, p, l, t, p', l', h => by
    simp only [nodeP] at h
    split at h
    · cases h
    · split at h
      · cases h
      · have := loopP_le b tx f _ _ _ _ _ _ _ _ _ h
        omega
theorem loopP_le (b tx : List UInt8) : ∀ (f d : Nat) (nm : ByteArray) (ps : List PropD) (ks : List TreeD) (p l : Nat) (t : TreeD) (p' l' : Nat), loopP b tx f d nm ps ks p l = some (t, p', l') → p + 4 ≤ p' ∧ l' ≤ l
  | 0, d, nm, ps, ks, p, l, t, p', l', h => by simp [loopP] at h
  | f + 1, d, nm, ps, ks, p, l, t, p', l', h => by
    simp only [loopP] at h
    split at h
    · cases h
    · split at h
      · split at h
        · cases h
        · split at h
          · cases h
          · split at h
            · cases h
            · split at h
              · cases h
              · have := loopP_le b tx f _ _ _ _ _ _ _ _ _ h
                omega
      · split at h
        · split at h
          · cases h
          · rename_i t2 p2 l2 hn
            have h1 := nodeP_le b tx f _ _ _ _ _ _ hn
            have h2 := loopP_le b tx f _ _ _ _ _ _ _ _ _ h
            omega
        · split at h
          · injection h with h
            injection h with h1 h2
            injection h2 with h2 h3
            omega
          · cases h
end
end Go.Proofs.Ytfmmcjiehpdogaa
