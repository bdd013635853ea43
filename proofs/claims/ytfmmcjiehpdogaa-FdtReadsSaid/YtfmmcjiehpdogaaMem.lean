/-
  Words for memory, used by all walks of this seat: what may have changed ('Chg'), a block known whole ('Blk'), a slice that reads as a list ('Rd'), a slice of the call's own ('Own'), and append in these words. No condition.
-/
import Derived.Test.YtfmmcjiehpdogaaRows
import Derived.WalkKit
import Derived.WalkSpells
import Derived.WalkLawsBesides
import Derived.Maps.AppendAt
import Derived.Lib.Hide
import Derived.Deep.Draws
set_option linter.unusedVariables false
set_option linter.unusedSimpArgs false
namespace Go.Proofs.Ytfmmcjiehpdogaa
open Go.RowKit

/-- From w to w' only blocks of S, and new ones, have changed. -/
structure Chg (S : Nat → Prop) (w w' : World) : Prop where
  os : w'.os = w.os
  tape : w'.tape = w.tape
  output : w'.output = w.output
  size : w.heap.size ≤ w'.heap.size
  block : ∀ k, k < w.heap.size → ¬ S k → w'.heap[k]? = w.heap[k]?

/-- nothing old has changed -/
abbrev New (w w' : World) : Prop := Chg (fun _ => False) w w'

section
variable {S T : Nat → Prop} {w w1 w2 w' : World}
theorem Chg.refl (S : Nat → Prop) (w : World) : Chg S w w := ⟨rfl, rfl, rfl, Nat.le_refl _, fun _ _ _ => rfl⟩
theorem Chg.trans (h : Chg S w w1) (k : Chg T w1 w2) (hT : ∀ i, T i → i < w.heap.size → S i) : Chg S w w2 :=
  ⟨k.os.trans h.os, k.tape.trans h.tape, k.output.trans h.output, Nat.le_trans h.size k.size,
   fun i hi hn => (k.block i (Nat.lt_of_lt_of_le hi h.size) (fun ht => hn (hT i ht hi))).trans (h.block i hi hn)⟩
theorem Chg.new_ (h : Chg S w w1) (k : New w1 w2) : Chg S w w2 := h.trans k (fun _ h => h.elim)
theorem Chg.mono (h : Chg S w w1) (hS : ∀ i, S i → i < w.heap.size → T i) : Chg T w w1 :=
  ⟨h.os, h.tape, h.output, h.size, fun i hi hn => h.block i hi (fun hs => hn (hS i hs hi))⟩
theorem Chg.alloc (h : Chg S w w1) (o : Obj) : Chg S w (w1.alloc o) :=
  ⟨h.os, h.tape, h.output, Nat.le_trans h.size (by simp), fun i hi hn => (Below.heap_alloc w1 o i (Nat.lt_of_lt_of_le hi h.size)).trans (h.block i hi hn)⟩
theorem Chg.drew (h : Chg S w w1) : Chg S w w1.drew := ⟨h.os, h.tape, h.output, h.size, h.block⟩
theorem Chg.drewN (h : Chg S w w1) (n : Nat) : Chg S w (w1.drewN n) := ⟨h.os, h.tape, h.output, h.size, h.block⟩
theorem Chg.setCell (h : Chg S w w1) {p : Addr} (hp : p.block < w.heap.size → S p.block) (u : Value) : Chg S w (w1.setCell p u) :=
  ⟨h.os, h.tape, h.output, by simpa [World.setCell] using h.size, fun i hi hn =>
    (Below.heap_setCell w1 p u i (fun e => hn (e ▸ hp (e ▸ hi)))).trans (h.block i hi hn)⟩
theorem Chg.grown {row : Option Nat} (h : Chg S w w1) (hg : w1.grownBy w2 row) (hr : ∀ k, row = some k → k < w.heap.size → S k) : Chg S w w2 :=
  ⟨hg.os.trans h.os, hg.tape.trans h.tape, hg.output.trans h.output, Nat.le_trans h.size hg.size,
   fun i hi hn => (hg.block i (Nat.lt_of_lt_of_le hi h.size) (fun e => hn (hr i e.symm hi))).trans (h.block i hi hn)⟩
theorem Chg.below {B : Nat} (h : Chg S w w1) (hB : B ≤ w.heap.size) (hS : ∀ i, i < B → ¬ S i) : Below B w w1 :=
  ⟨h.os, h.tape, h.output, h.size, fun i hi => h.block i (Nat.lt_of_lt_of_le hi hB) (hS i hi)⟩
theorem Chg.of_below (h : Below w.heap.size w w1) : New w w1 := ⟨h.os, h.tape, h.output, h.size, fun i hi _ => h.block i hi⟩
theorem Chg.cell (h : Chg S w w1) {p : Addr} (hp : p.block < w.heap.size) (hn : ¬ S p.block) : w1.cell? p = w.cell? p := World.cell?_of_block (h.block _ hp hn)
theorem Chg.frozen (h : Chg S w w1) {p : Addr} (hp : p.block < w.heap.size) (hn : ¬ S p.block) : w1.frozen? p = w.frozen? p := World.frozen?_of_block (h.block _ hp hn)
/-- the two rules that a walk uses by itself -/
theorem New.cells (h : New w w1) : (∀ b o, b < w.heap.size → w1.cell? ⟨b, o, none⟩ = w.cell? ⟨b, o, none⟩) ∧ (∀ b o, b < w.heap.size → w1.frozen? ⟨b, o, none⟩ = w.frozen? ⟨b, o, none⟩) :=
  ⟨fun _ _ hb => h.cell (p := ⟨_, _, none⟩) hb (fun h => h), fun _ _ hb => h.frozen (p := ⟨_, _, none⟩) hb (fun h => h)⟩
end

/-- a block known whole, none of it frozen -/
def Blk (w : World) (g : Nat) (t : TypeId) (cs : Array Value) : Prop := w.heap[g]? = some (.cells cs t (0, 0))
section
variable {w w1 : World} {g : Nat} {t : TypeId} {cs : Array Value} {S : Nat → Prop}
theorem Blk.lt (h : Blk w g t cs) : g < w.heap.size := by
  rcases Nat.lt_or_ge g w.heap.size with hlt | hge
  · exact hlt
  · unfold Blk at h; rw [Array.getElem?_eq_none hge] at h; cases h
theorem Blk.cell (h : Blk w g t cs) (i : Nat) : w.cell? ⟨g, i, none⟩ = cs[i]? := cell_of_row w g i cs t (0, 0) h
theorem Blk.frozen (h : Blk w g t cs) (i : Nat) : w.frozen? ⟨g, i, none⟩ = false := by
  unfold Blk at h
  simp [World.frozen?, h]
theorem Blk.c1 {x : Value} (h : Blk w g t #[x]) : w.cell? ⟨g, 0, none⟩ = some x ∧ w.frozen? ⟨g, 0, none⟩ = false := ⟨h.cell 0, h.frozen 0⟩
theorem Blk.c2 {x y : Value} (h : Blk w g t #[x, y]) : w.cell? ⟨g, 0, none⟩ = some x ∧ w.cell? ⟨g, 1, none⟩ = some y ∧ w.frozen? ⟨g, 0, none⟩ = false ∧ w.frozen? ⟨g, 1, none⟩ = false :=
  ⟨h.cell 0, h.cell 1, h.frozen 0, h.frozen 1⟩
theorem Blk.c3 {x y z : Value} (h : Blk w g t #[x, y, z]) : w.cell? ⟨g, 0, none⟩ = some x ∧ w.cell? ⟨g, 1, none⟩ = some y ∧ w.cell? ⟨g, 2, none⟩ = some z ∧
    w.frozen? ⟨g, 0, none⟩ = false ∧ w.frozen? ⟨g, 1, none⟩ = false ∧ w.frozen? ⟨g, 2, none⟩ = false :=
  ⟨h.cell 0, h.cell 1, h.cell 2, h.frozen 0, h.frozen 1, h.frozen 2⟩
theorem Blk.made (w : World) (t : TypeId) (cs : Array Value) : Blk (w.alloc (.cells cs t)) w.heap.size t cs := heap_alloc_new w _
theorem Blk.drew (h : Blk w g t cs) : Blk w.drew g t cs := h
theorem Blk.drewN (h : Blk w g t cs) (n : Nat) : Blk (w.drewN n) g t cs := h
theorem Blk.alloc (h : Blk w g t cs) (o : Obj) : Blk (w.alloc o) g t cs := (Below.heap_alloc w o g h.lt).trans h
theorem Blk.set_ (h : Blk w g t cs) (i : Nat) (u : Value) : Blk (w.setCell ⟨g, i, none⟩ u) g t (cs.setIfInBounds i u) := by
  unfold Blk at h ⊢
  simp [World.setCell, Array.getElem?_modify, h]
theorem Blk.far (h : Blk w g t cs) {p : Addr} (hp : g ≠ p.block) (u : Value) : Blk (w.setCell p u) g t cs := (Below.heap_setCell w p u g hp).trans h
theorem Blk.chg (h : Blk w g t cs) (hc : Chg S w w1) (hg : ¬ S g) : Blk w1 g t cs := (hc.block g h.lt hg).trans h
theorem Blk.ne_ {g' : Nat} {t' : TypeId} {cs' : Array Value} (h : Blk w g t cs) (h' : Blk w g' t' cs') (hne : t ≠ t') : g ≠ g' := by
  rintro rfl
  unfold Blk at h h'
  rw [h] at h'
  injection h' with h'
  injection h' with _ ht
  exact hne ht
end

theorem addr_add (a : Addr) (n : Nat) : (a.add n).block = a.block := by unfold Addr.add; split <;> rfl
theorem addr_add_add (a : Addr) (i j : Nat) : (a.add i).add j = a.add (i + j) := by
  unfold Addr.add
  by_cases hi : i = 0 <;> by_cases hj : j = 0 <;> simp [hi, hj, Nat.add_assoc]

/-- the slice at A of n elements, size cells each, reads as the cells xs -/
def Rd (w : World) (size : Nat) (A : Option Addr) (n : Nat) (xs : List Value) : Prop :=
  xs.length = n * size ∧ (0 < n → ∃ ad, A = some ad ∧ ∀ j u, xs[j]? = some u → w.cell? (ad.add j) = some u)
/-- the slice lies in no block of S -/
def Off (S : Nat → Prop) (A : Option Addr) : Prop := ∀ ad, A = some ad → ¬ S ad.block
section
variable {w w1 : World} {size n : Nat} {A : Option Addr} {xs : List Value} {S : Nat → Prop}
theorem Off.none_ : Off (fun _ => False) A := fun _ _ h => h
theorem Rd.nil_ : Rd w size A 0 [] := ⟨by simp, fun h => absurd h (by omega)⟩
theorem Rd.lt (h : Rd w size A n xs) (hn : 0 < n) (hs : 0 < size) : ∃ ad, A = some ad ∧ ad.block < w.heap.size := by
  obtain ⟨ad, e, hc⟩ := h.2 hn
  have hl : 0 < xs.length := by rw [h.1]; exact Nat.mul_pos hn hs
  have := hc 0 _ (List.getElem?_eq_getElem hl)
  exact ⟨ad, e, by have := World.block_lt_of_cell? w _ this; rwa [addr_add] at this⟩
theorem cell_spot {w : World} {a : Addr} {v : Value} (h : w.cell? a = some v) : a.spot = none := by
  unfold World.cell? at h
  split at h
  · cases hs : a.spot with
    | none => rfl
    | some x => simp [hs] at h
  · cases h
theorem Rd.addr (h : Rd w size A n xs) (hn : 0 < n) (hs : 0 < size) : ∃ b o, A = some ⟨b, o, none⟩ ∧ b < w.heap.size ∧ ∀ j u, xs[j]? = some u → w.cell? ⟨b, o + j, none⟩ = some u := by
  obtain ⟨ad, e, hc⟩ := h.2 hn
  have hl : 0 < xs.length := by rw [h.1]; exact Nat.mul_pos hn hs
  have h0 := hc 0 _ (List.getElem?_eq_getElem hl)
  have hlt := World.block_lt_of_cell? w _ h0
  rw [addr_add] at hlt
  have hsp : ad.spot = none := cell_spot (w := w) (by simpa [Addr.add] using h0)
  obtain ⟨b, o, sp⟩ := ad
  simp only at hsp
  subst hsp
  exact ⟨b, o, e, hlt, fun j u hu => by have := hc j u hu; rwa [Addr.add_lit] at this⟩
theorem Rd.at_ {k : Nat} (h : Rd w 1 A n xs) (hk : k < n) : ∃ b o u, A = some ⟨b, o, none⟩ ∧ b < w.heap.size ∧ xs[k]? = some u ∧ w.cell? ⟨b, o + k, none⟩ = some u := by
  obtain ⟨b, o, e, hb, hc⟩ := h.addr (by omega) (by omega)
  have hl : k < xs.length := by have := h.1; omega
  exact ⟨b, o, xs[k], e, hb, List.getElem?_eq_getElem hl, hc k _ (List.getElem?_eq_getElem hl)⟩
theorem Rd.chg (h : Rd w size A n xs) (hc : Chg S w w1) (ho : Off S A) : Rd w1 size A n xs :=
  ⟨h.1, fun hn => by
    obtain ⟨ad, e, hcell⟩ := h.2 hn
    exact ⟨ad, e, fun j u hu => by
      have h1 := hcell j u hu
      have hlt := World.block_lt_of_cell? w _ h1
      rw [hc.cell hlt (by rw [addr_add]; exact ho ad e)]
      exact h1⟩⟩
theorem Rd.new_ (h : Rd w size A n xs) (hc : New w w1) : Rd w1 size A n xs := h.chg hc Off.none_
theorem Rd.alloc (h : Rd w size A n xs) (o : Obj) : Rd (w.alloc o) size A n xs := h.new_ ((Chg.refl _ _).alloc o)
theorem Rd.drew (h : Rd w size A n xs) : Rd w.drew size A n xs := h
theorem Rd.drewN (h : Rd w size A n xs) (k : Nat) : Rd (w.drewN k) size A n xs := h
theorem Rd.cut (h : Rd w size A n xs) {k cap : Nat} (hk : k ≤ n) (hc : n ≤ cap) :
    Rd w size (if cap = k then A else A.map (·.add (k * size))) (n - k) (xs.drop (k * size)) := by
  refine ⟨by rw [List.length_drop, h.1, Nat.sub_mul], fun hn => ?_⟩
  obtain ⟨ad, rfl, hcell⟩ := h.2 (by omega)
  rw [if_neg (by omega)]
  exact ⟨ad.add (k * size), rfl, fun j u hu => by rw [addr_add_add]; exact hcell _ u (by rw [← hu, List.getElem?_drop])⟩
theorem Rd.take_ (h : Rd w size A n xs) {k : Nat} (hk : k ≤ n) : Rd w size A k (xs.take (k * size)) := by
  refine ⟨by rw [List.length_take, h.1]; exact Nat.min_eq_left (Nat.mul_le_mul_right _ hk), fun hn => ?_⟩
  obtain ⟨ad, e, hcell⟩ := h.2 (by omega)
  exact ⟨ad, e, fun j u hu => hcell j u (by rw [List.getElem?_take] at hu; split at hu <;> first | exact hu | cases hu)⟩
end

theorem Rd.made (w : World) (t : TypeId) (l : List Value) : Rd (w.alloc (.cells l.toArray t)) 1 (some ⟨w.heap.size, 0, none⟩) l.length l := by
  refine ⟨by simp, fun _ => ⟨_, rfl, fun j u hu => ?_⟩⟩
  rw [Addr.add_lit, Nat.zero_add, (Blk.made w t l.toArray).cell]
  simpa using hu

theorem Rd.made' (w : World) (t : TypeId) (l : List Value) {k n : Nat} (hk : w.heap.size = k) (hn : l.length = n) : Rd (w.alloc (.cells l.toArray t)) 1 (some ⟨k, 0, none⟩) n l := by
  subst hk
  subst hn
  exact Rd.made w t l

/-- none of the row's n cells is frozen -/
def Clear (n : Nat) (fr : Nat × Nat) : Prop := fr.2 = 0 ∨ n ≤ fr.1
/-- block g is the row cs, none of it frozen (a mark behind its end is let in: a string's bytes that were converted) -/
def Row (w : World) (g : Nat) (t : TypeId) (cs : Array Value) : Prop := ∃ fr, w.heap[g]? = some (.cells cs t fr) ∧ Clear cs.size fr
section
variable {w w1 : World} {g : Nat} {t : TypeId} {cs : Array Value} {S : Nat → Prop}
theorem Blk.row (h : Blk w g t cs) : Row w g t cs := ⟨_, h, .inl rfl⟩
theorem Row.lt (h : Row w g t cs) : g < w.heap.size := by
  obtain ⟨fr, h, _⟩ := h
  rcases Nat.lt_or_ge g w.heap.size with hlt | hge
  · exact hlt
  · rw [Array.getElem?_eq_none hge] at h; cases h
theorem Row.cell (h : Row w g t cs) (i : Nat) : w.cell? ⟨g, i, none⟩ = cs[i]? := by
  obtain ⟨fr, h, _⟩ := h
  exact cell_of_row w g i cs t fr h
theorem Row.chg (h : Row w g t cs) (hc : Chg S w w1) (hg : ¬ S g) : Row w1 g t cs := by
  have hlt := h.lt
  obtain ⟨fr, h, hf⟩ := h
  exact ⟨fr, (hc.block g hlt hg).trans h, hf⟩
theorem Row.far (h : Row w g t cs) {p : Addr} (hp : g ≠ p.block) (u : Value) : Row (w.setCell p u) g t cs := by
  obtain ⟨fr, h, hf⟩ := h
  exact ⟨fr, (Below.heap_setCell w p u g hp).trans h, hf⟩
theorem Row.set (h : Row w g t cs) (cs' : Array Value) (hs : cs'.size = cs.size) : Row (w.setRow g cs') g t cs' := by
  obtain ⟨fr, h, hf⟩ := h
  exact ⟨fr, setRow_heap w g cs cs' t fr h, by rw [hs]; exact hf⟩
theorem Row.ne_ {g' : Nat} {t' : TypeId} {cs' : Array Value} (h : Row w g t cs) (h' : Row w g' t' cs') (hne : t ≠ t') : g ≠ g' := by
  rintro rfl
  obtain ⟨fr, h, _⟩ := h
  obtain ⟨fr', h', _⟩ := h'
  rw [h] at h'
  injection h' with h'
  injection h' with _ ht
  exact hne ht
end
theorem run_storeCells_row {P : Program} (g o : Nat) (t : TypeId) : ∀ (vs : List Value) (i : Nat) (cur : Array Value) (w : World), Row w g t cur → o + i + vs.length ≤ cur.size → (∀ v ∈ vs, v.oneCell' = true) →
    (storeCells ⟨g, o, none⟩ vs i).run P w = .ok () (w.setRow g (cur.toList.take (o + i) ++ vs ++ cur.toList.drop (o + i + vs.length)).toArray)
  | [], i, cur, w, hg, _, _ => by
    obtain ⟨fr, hg, _⟩ := hg
    simp only [storeCells, List.append_nil, List.length_nil, Nat.add_zero, List.take_append_drop, Array.toArray_toList]
    rw [setRow_self w g cur t fr hg]
    rfl
  | v :: rest, i, cur, w, hgr, hl, h1 => by
    have hi : o + i < cur.size := by simp at hl; omega
    obtain ⟨fr, hg, hfr⟩ := id hgr
    have hadd : (⟨g, o, none⟩ : Addr).add i = ⟨g, o + i, none⟩ := by unfold Addr.add; split <;> simp_all
    have hcell : w.cell? ⟨g, o + i, none⟩ = some cur[o + i] := by simp [World.cell?, hg, hi]
    have hfro : w.frozen? ⟨g, o + i, none⟩ = false := by
      obtain ⟨lo, hi'⟩ := fr
      simp only [World.frozen?, hg]
      simp only [Clear] at hfr
      simp
      omega
    have hst : (store ((⟨g, o, none⟩ : Addr).add i) v).run P w = .ok () (w.setRow g (cur.setIfInBounds (o + i) v)) := by
      rw [hadd, run_store P w _ v _ (h1 v (by simp)), hcell]
      simp [hfro, setCell_eq_setRow w g (o + i) cur t fr v hg]
    have ih := run_storeCells_row (P := P) g o t rest (i + 1) (cur.setIfInBounds (o + i) v) (w.setRow g (cur.setIfInBounds (o + i) v)) (hgr.set _ (by simp)) (by simp at hl ⊢; omega) (fun x hx => h1 x (by simp [hx]))
    simp only [storeCells, Sem.run_bind, hst, Result.andThen_ok, ih, setRow_setRow]
    congr 3
    have e := list_seg_step cur.toList (o + i) v rest (by simp at hl ⊢; omega)
    simpa [Array.toList_setIfInBounds, Nat.add_assoc] using e

/-- a slice whose row is the call's own, from block B on -/
def Own (w : World) (B : Nat) (e : TypeId) (size : Nat) (A : Option Addr) (n c : Nat) (xs : List Value) : Prop :=
  xs.length = n * size ∧ ((A = none ∧ n = 0 ∧ c = 0) ∨ ∃ g cur, A = some ⟨g, 0, none⟩ ∧ B ≤ g ∧ Row w g e cur ∧ n ≤ c ∧ c ≤ maxLen ∧ cur.size = c * size ∧ cur.toList.take (n * size) = xs)
/-- the row's block -/
def blkOf (A : Option Addr) : Option Nat := A.map (·.block)
section
variable {w w1 : World} {B : Nat} {e : TypeId} {size n c : Nat} {A : Option Addr} {xs : List Value} {S : Nat → Prop}
theorem Own.nil_ (w : World) (B : Nat) (e : TypeId) (size : Nat) : Own w B e size none 0 0 [] := ⟨by simp, .inl ⟨rfl, rfl, rfl⟩⟩
theorem Own.len (h : Own w B e size A n c xs) : xs.length = n * size := h.1
theorem Own.cases (h : Own w B e size A n c xs) : (A = none ∧ n = 0 ∧ c = 0 ∧ xs = []) ∨
    ∃ g cur, A = some ⟨g, 0, none⟩ ∧ B ≤ g ∧ Row w g e cur ∧ n ≤ c ∧ c ≤ maxLen ∧ cur.size = c * size ∧ cur.toList.take (n * size) = xs := by
  rcases h.2 with ⟨ha, hb, hc⟩ | h2
  · exact .inl ⟨ha, hb, hc, List.eq_nil_of_length_eq_zero (by rw [h.1, hb]; simp)⟩
  · exact .inr h2
theorem Own.le (h : Own w B e size A n c xs) : n ≤ c ∧ c ≤ maxLen := by
  rcases h.cases with ⟨_, rfl, rfl, _⟩ | ⟨_, _, _, _, _, h1, h2, _⟩
  · exact ⟨Nat.le_refl _, Nat.zero_le _⟩
  · exact ⟨h1, h2⟩
theorem Own.lt (h : Own w B e size A n c xs) : ∀ k, blkOf A = some k → B ≤ k ∧ k < w.heap.size := by
  intro k hk
  rcases h.cases with ⟨rfl, _⟩ | ⟨g, _, rfl, hb, hr, _⟩
  · cases hk
  · obtain rfl : g = k := by simpa [blkOf] using hk
    exact ⟨hb, hr.lt⟩
theorem Own.rd (h : Own w B e size A n c xs) : Rd w size A n xs := by
  refine ⟨h.1, fun hn => ?_⟩
  rcases h.cases with ⟨_, rfl, _⟩ | ⟨g, cur, rfl, _, hr, _, _, _, htake⟩
  · omega
  · refine ⟨_, rfl, fun j u hu => ?_⟩
    rw [Addr.add_lit, Nat.zero_add, hr.cell]
    rw [← htake, List.getElem?_take] at hu
    split at hu
    · simpa using hu
    · cases hu
theorem Own.chg (h : Own w B e size A n c xs) (hc : Chg S w w1) (ho : ∀ k, blkOf A = some k → ¬ S k) : Own w1 B e size A n c xs := by
  rcases h.cases with ⟨rfl, rfl, rfl, rfl⟩ | ⟨g, cur, rfl, hb, hg, h1, h2, h3, h4⟩
  · exact Own.nil_ _ _ _ _
  · exact ⟨h.1, .inr ⟨g, cur, rfl, hb, hg.chg hc (ho g rfl), h1, h2, h3, h4⟩⟩
theorem Own.new_ (h : Own w B e size A n c xs) (hc : New w w1) : Own w1 B e size A n c xs := h.chg hc (fun _ _ h => h)
theorem Own.alloc (h : Own w B e size A n c xs) (o : Obj) : Own (w.alloc o) B e size A n c xs := h.new_ ((Chg.refl _ _).alloc o)
theorem Own.drew (h : Own w B e size A n c xs) : Own w.drew B e size A n c xs := h
theorem Own.drewN (h : Own w B e size A n c xs) (k : Nat) : Own (w.drewN k) B e size A n c xs := h
theorem Own.low {B' : Nat} (h : Own w B e size A n c xs) (hB : B' ≤ B) : Own w B' e size A n c xs := by
  rcases h.cases with ⟨rfl, rfl, rfl, rfl⟩ | ⟨g, cur, rfl, hb, hg, h1, h2, h3, h4⟩
  · exact Own.nil_ _ _ _ _
  · exact ⟨h.1, .inr ⟨g, cur, rfl, by omega, hg, h1, h2, h3, h4⟩⟩
/-- a row and a block of another element type are two -/
theorem Own.ne_ {g : Nat} {t : TypeId} {cs : Array Value} (h : Own w B e size A n c xs) (hg : Blk w g t cs) (hne : e ≠ t) : ∀ k, blkOf A = some k → k ≠ g := by
  intro k hk
  rcases h.cases with ⟨rfl, _⟩ | ⟨g', cur, rfl, _, hb, _⟩
  · cases hk
  · obtain rfl : g' = k := by simpa [blkOf] using hk
    exact hb.ne_ hg.row hne
theorem Own.far (h : Own w B e size A n c xs) {p : Addr} (hp : ∀ k, blkOf A = some k → k ≠ p.block) (u : Value) : Own (w.setCell p u) B e size A n c xs := by
  rcases h.cases with ⟨rfl, rfl, rfl, rfl⟩ | ⟨g, cur, rfl, hb, hg, h1, h2, h3, h4⟩
  · exact Own.nil_ _ _ _ _
  · exact ⟨h.1, .inr ⟨g, cur, rfl, hb, hg.far (hp g rfl) u, h1, h2, h3, h4⟩⟩
theorem Rd.far (h : Rd w size A n xs) {p : Addr} (hp : ∀ k, blkOf A = some k → k ≠ p.block) (u : Value) : Rd (w.setCell p u) size A n xs :=
  h.chg (S := fun k => k = p.block) (Chg.setCell (S := fun k => k = p.block) (p := p) (Chg.refl _ w) (fun _ => rfl) u) (fun ad e hh => hp ad.block (by rw [e]; rfl) hh)
theorem Own.mk_row {g : Nat} {cur : Array Value} (hg : Row w g e cur) (hB : B ≤ g) (n : Nat) (hn : n ≤ cur.size) (hc : cur.size ≤ maxLen) : Own w B e 1 (some ⟨g, 0, none⟩) n cur.size (cur.toList.take n) :=
  ⟨by simp [Nat.min_eq_left hn], .inr ⟨g, cur, rfl, hB, hg, hn, hc, by simp, by simp⟩⟩
end

/-- what every append gives -/
theorem own_append {w : World} {B : Nat} {e : TypeId} {size : Nat} {A : Option Addr} {n c : Nat} {xs : List Value} (hown : Own w B e size A n c xs) (m : Nat) (news : List Value) (hl : news.length = m * size)
    (h63 : n + m ≤ maxLen) (hB : B ≤ w.heap.size) (R : Result Value)
    (hzero : m = 0 → R = .ok (.slice A n c) w)
    (hroom : ∀ g cur, A = some ⟨g, 0, none⟩ → Row w g e cur → n + m ≤ c → cur.size = c * size → n * size + news.length ≤ cur.size →
      R = .ok (.slice (some ⟨g, 0, none⟩) (n + m) c) (w.setRow g (cur.toList.take (n * size) ++ news ++ cur.toList.drop (n * size + news.length)).toArray))
    (hgrow : 0 < m → c < n + m → (∀ g, A = some ⟨g, 0, none⟩ → ∀ j u, xs[j]? = some u → w.cell? ((⟨g, 0, none⟩ : Addr).add j) = some u) → ∃ rest : Array Value, rest.size = (grownCap w (n + m) c e - (n + m)) * size ∧
      R = .ok (.slice (some ⟨w.heap.size, 0, none⟩) (n + m) (grownCap w (n + m) c e)) (w.drew.alloc (.cells (xs.toArray ++ news.toArray ++ rest) e))) :
    ∃ A' c' w', R = .ok (.slice A' (n + m) c') w' ∧ Own w' B e size A' (n + m) c' (xs ++ news) ∧ w.grownBy w' (blkOf A) ∧ (blkOf A' = blkOf A ∨ blkOf A' = some w.heap.size) := by
  have hlen : (xs ++ news).length = (n + m) * size := by rw [List.length_append, hown.1, hl, Nat.add_mul]
  by_cases hm : m = 0
  · obtain rfl : news = [] := List.eq_nil_of_length_eq_zero (by rw [hl, hm]; simp)
    subst hm
    exact ⟨A, c, w, hzero rfl, by simpa using hown, World.grownBy.refl w _, .inl rfl⟩
  · have grown : c < n + m → ∃ A' c' w', R = .ok (.slice A' (n + m) c') w' ∧ Own w' B e size A' (n + m) c' (xs ++ news) ∧ w.grownBy w' (blkOf A) ∧ (blkOf A' = blkOf A ∨ blkOf A' = some w.heap.size) := by
      intro hc
      obtain ⟨rest, hrest, hR⟩ := hgrow (by omega) hc (by
        rintro g rfl
        intro j u hu
        have hxl : 0 < xs.length := by
          rcases xs with _ | _
          · simp at hu
          · simp
        rw [hown.1] at hxl
        obtain ⟨b, o, hA, _, hcell⟩ := hown.rd.addr (Nat.pos_of_mul_pos_right hxl) (Nat.pos_of_mul_pos_left hxl)
        injection hA with hA
        injection hA with h1 h2
        subst h1; subst h2
        rw [Addr.add_lit]
        exact hcell j u hu)
      have hge := grownCap_ge w (n + m) c e
      have hcm : grownCap w (n + m) c e ≤ maxLen := grownCap_le_maxLen w (n + m) c e h63
      refine ⟨_, _, _, hR, ⟨hlen, .inr ⟨w.heap.size, _, rfl, hB, (Blk.made w.drew _ _).row, hge, hcm, ?_, ?_⟩⟩, ⟨rfl, rfl, rfl, by simp, fun k hk _ => heap_alloc_old w.drew _ hk⟩, .inr rfl⟩
      · simp only [Array.size_append, List.size_toArray, hrest, hown.1, hl, ← Nat.add_mul]
        congr 1
        omega
      · simp only [Array.toList_append, List.append_assoc]
        rw [← List.append_assoc, ← hlen]
        exact List.take_left
    rcases hown.cases with ⟨rfl, rfl, rfl, rfl⟩ | ⟨g, cur, rfl, hb, hg, hnc, hcm, hcs, htake⟩
    · exact grown (by omega)
    · by_cases hr : n + m ≤ c
      · have hle : (n + m) * size ≤ c * size := Nat.mul_le_mul_right _ hr
        rw [Nat.add_mul] at hle
        have hR := hroom g cur rfl hg hr hcs (by rw [hl, hcs]; exact hle)
        refine ⟨_, _, _, hR, ⟨hlen, .inr ⟨g, _, rfl, hb, hg.set _ ?_, hr, hcm, ?_, ?_⟩⟩, ⟨rfl, rfl, rfl, by simp [World.setRow], fun k _ hk => setRow_other w g k _ (fun e => hk (by simp [blkOf, e]))⟩, .inl rfl⟩
        · simp only [List.size_toArray, List.length_append, List.length_take, List.length_drop, Array.length_toList, hl, hcs]
          omega
        · simp only [List.size_toArray, List.length_append, List.length_take, List.length_drop, Array.length_toList, hl, hcs]
          omega
        · rw [htake, ← hlen]
          exact List.take_left
      · exact grown (by omega)

section
variable {P : Program} (w : World)
/-- append onto a row of the call's own, whatever is appended -/
theorem run_append_x (B : Nat) (t ty e : TypeId) (i : TypeInfo) (z : Value) (size bytes : Nat) (ht : P.underlying t = some (.slice e)) (hi : P.info? e = some i) (hz : i.zero = some z)
    (hsize : i.size = size) (hby : i.bytes = bytes) (hzs : z.cells.size = size) (hsz : 0 < size)
    (A : Option Addr) (n c : Nat) (xs : List Value) (hown : Own w B e size A n c xs)
    (A2 : Option Addr) (m c2 : Nat) (news : List Value) (hr : Rd w size A2 m news) (h1 : ∀ u ∈ news, u.oneCell' = true)
    (h63 : n + m ≤ maxLen) (hbytes : (n + m) * bytes ≤ 140737488355328) (hB : B ≤ w.heap.size) :
    ∃ A' c' w', (Builtin.append_ #[t, t] ty #[.slice A n c, .slice A2 m c2]).run P w = .ok (.slice A' (n + m) c') w' ∧ Own w' B e size A' (n + m) c' (xs ++ news) ∧ w.grownBy w' (blkOf A) ∧
      (blkOf A' = blkOf A ∨ blkOf A' = some w.heap.size) := by
  subst hsize
  subst hby
  have hsmall : n + m ≤ 9223372036854775807 := by simp only [maxLen] at h63; omega
  have hmem : ∀ W : World, (W.heap = w.heap) → 0 < m → (Builtin.firstCells i.size m (.slice A2 m c2)).run P W = .ok news.toArray W := by
    intro W hW hm
    obtain ⟨ad, rfl, hc⟩ := hr.2 hm
    exact run_firstCells_some (P := P) W i.size m ad m c2 news hr.1 (fun j u hu => by rw [← hc j u hu]; simp [World.cell?, hW])
  refine own_append hown m news hr.1 h63 hB _ (fun hm => ?_) (fun g cur hA hg hroom hcs hfit => ?_) (fun hm hc holds => ?_)
  · subst hm
    obtain rfl : news = [] := List.eq_nil_of_length_eq_zero (by simpa using hr.1)
    have hf : (Builtin.firstCells i.size 0 (.slice A2 0 c2)).run P w = .ok #[] w := by
      cases A2 <;> simp [Builtin.firstCells, loadCells, loadCellsFrom]
    rcases hown.cases with ⟨rfl, rfl, rfl, rfl⟩ | ⟨g, cur, rfl, hb, hg, hnc, h2, h3, h4⟩
    · simp [Builtin.append_, run_underlying ht, sizeOf, typeInfo, hi, Builtin.lenOf, hf]
    · simp [Builtin.append_, run_underlying ht, sizeOf, typeInfo, hi, Builtin.lenOf, hf, hnc, storeCells]
  · subst hA
    have hst := run_storeCells_row (P := P) g (n * i.size) e news 0 cur w hg (by simpa using hfit) h1
    simp only [Nat.add_zero] at hst
    rcases Nat.eq_zero_or_pos m with hm | hm
    · subst hm
      obtain rfl : news = [] := List.eq_nil_of_length_eq_zero (by simpa using hr.1)
      have hf : (Builtin.firstCells i.size 0 (.slice A2 0 c2)).run P w = .ok #[] w := by
        cases A2 <;> simp [Builtin.firstCells, loadCells, loadCellsFrom]
      have hroom' : n ≤ c := by omega
      simp [Builtin.append_, run_underlying ht, sizeOf, typeInfo, hi, Builtin.lenOf, hf, hroom', Addr.add_lit] at hst ⊢
      rw [hst]; rfl
    · have hf := hmem w rfl hm
      simp [Builtin.append_, run_underlying ht, sizeOf, typeInfo, hi, Builtin.lenOf, hroom, hf, Addr.add_lit] at hst ⊢
      rw [hst]; rfl
  · have hn : ¬ (n + m ≤ c) := by omega
    have h63' : ¬ (9223372036854775807 < ((n : Int) + (m : Int))) := by omega
    have h48' : ¬ (281474976710656 < Builtin.nextslicecap (n + m) c * i.bytes) := by have := growslice_fits (bytes := i.bytes) hc hbytes; omega
    have hf := hmem w.drew rfl hm
    have hfo : (Builtin.firstCells i.size n (.slice A n c)).run P w.drew = .ok xs.toArray w.drew := by
      rcases hown.cases with ⟨rfl, rfl, rfl, rfl⟩ | ⟨g, cur, rfl, hb, hg, hnc, h2, h3, h4⟩
      · simp [Builtin.firstCells]
      · exact run_firstCells_some (P := P) w.drew i.size n _ n c xs hown.1 (by simpa using holds g rfl)
    refine ⟨Builtin.zeroCells z.cells (grownCap w (n + m) c e - (n + m)), by rw [size_zeroCells, hzs], ?_⟩
    simp [Builtin.append_, run_underlying ht, sizeOf, typeInfo, zeroValue, hi, hz, Builtin.lenOf, hn, h63', h48', Question.forced, hf, hfo, newRow, grownCap]
    rw [← Array.append_assoc]
    simp

theorem wp_append_x {o : Oper} {a : Act} {K : Act → World → Prop} {Q : Exit → Act → World → Prop} (s x : Operand) (t : TypeId)
    (ho : o.op = .call { callee := .builtin .append, args := #[s, x], argTypes := #[t, t] })
    (B : Nat) (e : TypeId) (i : TypeInfo) (z : Value) (size bytes : Nat) (ht : P.underlying t = some (.slice e)) (hi : P.info? e = some i) (hz : i.zero = some z)
    (hsize : i.size = size) (hby : i.bytes = bytes) (hzs : z.cells.size = size) (hsz : 0 < size)
    (A : Option Addr) (n c : Nat) (xs : List Value) (hs : a.eval s = .slice A n c) (hown : Own w B e size A n c xs)
    (A2 : Option Addr) (m c2 : Nat) (news : List Value) (hx : a.eval x = .slice A2 m c2) (hr : Rd w size A2 m news) (h1 : ∀ u ∈ news, u.oneCell' = true)
    (N : Nat) (hN : N = n + m) (h63 : N ≤ maxLen) (hbytes : N * bytes ≤ 140737488355328) (hB : B ≤ w.heap.size)
    (h : ∀ A' c' w', Own w' B e size A' N c' (xs ++ news) → w.grownBy w' (blkOf A) → (blkOf A' = blkOf A ∨ blkOf A' = some w.heap.size) → K (a.put o.dst (.slice A' N c')) w') : o.wp P a w K Q := by
  subst hN
  obtain ⟨A', c', w', hrun, h2, h3, h4⟩ := run_append_x (P := P) w B t o.type e i z size bytes ht hi hz hsize hby hzs hsz A n c xs hown A2 m c2 news hr h1 h63 hbytes hB
  unfold Oper.wp execOp
  simp only [ho, resolve, invoke, builtin, Sem.run_bind, Sem.run_pure, Result.andThen_ok, List.map_toArray, List.map_cons, List.map_nil, hs, hx, hrun]
  exact h A' c' w' h2 h3 h4

theorem wpList_append_x {ops : Array Oper} {rest : List Oper} {o : Oper} {a : Act} {Q : Exit → Act → World → Prop} (hgd : o.guard = none) (s x : Operand) (t : TypeId)
    (ho : o.op = .call { callee := .builtin .append, args := #[s, x], argTypes := #[t, t] })
    (B : Nat) (e : TypeId) (i : TypeInfo) (z : Value) (size bytes : Nat) (ht : P.underlying t = some (.slice e)) (hi : P.info? e = some i) (hz : i.zero = some z)
    (hsize : i.size = size) (hby : i.bytes = bytes) (hzs : z.cells.size = size) (hsz : 0 < size)
    (A : Option Addr) (n c : Nat) (xs : List Value) (hs : a.eval s = .slice A n c) (hown : Own w B e size A n c xs)
    (A2 : Option Addr) (m c2 : Nat) (news : List Value) (hx : a.eval x = .slice A2 m c2) (hr : Rd w size A2 m news) (h1 : ∀ u ∈ news, u.oneCell' = true)
    (N : Nat) (hN : N = n + m) (h63 : N ≤ maxLen) (hbytes : N * bytes ≤ 140737488355328) (hB : B ≤ w.heap.size)
    (h : ∀ A' c' w', Own w' B e size A' N c' (xs ++ news) → w.grownBy w' (blkOf A) → (blkOf A' = blkOf A ∨ blkOf A' = some w.heap.size) → wpList P ops Q rest (a.put o.dst (.slice A' N c')) w') : wpList P ops Q (o :: rest) a w :=
  wpList_plain hgd fun _ hK => wp_append_x w s x t ho B e i z size bytes ht hi hz hsize hby hzs hsz A n c xs hs hown A2 m c2 news hx hr h1 N hN h63 hbytes hB fun A' c' w' h2 h3 h4 => hK _ _ (h A' c' w' h2 h3 h4)
end

/-- the walk's goal, put where no step of it fits: 'go_wp2_with (at_builtin; refine stop ?_)' stands still there -/
def Stop (p : Prop) : Prop := p
theorem stop {p : Prop} (h : Stop p) : p := h
theorem unstop {p : Prop} (h : p) : Stop p := h

/-- stand still at the operation that writes slot d: 'go_wp2_with (with_reducible refine stopAt 26 rfl ?_)' -/
theorem stopAt {P : Program} {ops : Array Oper} {rest : List Oper} {o : Oper} {a : Act} {w : World} {Q : Exit → Act → World → Prop} (d : Tmp) (ho : o.dst = some d) (h : Stop (wpList P ops Q (o :: rest) a w)) :
    wpList P ops Q (o :: rest) a w := h

/-- go on from whatever world meets F -/
theorem stop_forget {P : Program} {ops : Array Oper} {l : List Oper} {a : Act} {W : World} {Q : Exit → Act → World → Prop} (F : World → Prop) (hF : F W) (h : ∀ w, F w → wpList P ops Q l a w) :
    Stop (wpList P ops Q l a W) := h W hF

/-- a byte as a cell -/
def bv (b : UInt8) : Value := .int .u8 (b.toNat : Int)
theorem bv_one (l : List UInt8) : ∀ u ∈ l.map bv, u.oneCell' = true := by
  intro u hu
  obtain ⟨_, _, rfl⟩ := List.mem_map.1 hu
  rfl
end Go.Proofs.Ytfmmcjiehpdogaa
