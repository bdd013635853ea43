/-
  Trees that a call itself makes: where they lie, told by a set of blocks. No condition.
-/
import Derived.Test.YtfmmcjiehpdogaaText
set_option linter.unusedVariables false
set_option linter.unusedSimpArgs false
namespace Go.Proofs.Ytfmmcjiehpdogaa
open Go.RowKit

/-- so many properties at A, all of it in blocks of Z -/
def PropsZ (w : World) (Z : Nat → Prop) (A : Option Addr) (ps : List PropD) : Prop :=
  ∀ i p, ps[i]? = some p → ∃ b o A' c', A = some ⟨b, o, none⟩ ∧ Z b ∧ w.cell? ⟨b, o + i * 2, none⟩ = some (.string p.1) ∧ w.cell? ⟨b, o + i * 2 + 1, none⟩ = some (.slice A' p.2.length c') ∧
    p.2.length ≤ c' ∧ p.2.length ≤ 140737488351232 ∧ p.1.size ≤ 140737488351232 ∧ Rd w 1 A' p.2.length (p.2.map bv) ∧ (0 < p.2.length → ∀ ad, A' = some ad → Z ad.block)

/-- the three cells of a node read as t, all of it in blocks of Z -/
inductive TreeZ (w : World) (Z : Nat → Prop) : Value → Value → Value → TreeD → Prop
  | mk (nm : ByteArray) (ps : List PropD) (ks : List TreeD) (Ap Ak : Option Addr) (cp ck : Nat) (c0 c1 c2 : Nat → Value)
      (hn : nm.size ≤ 140737488351232) (hp : ps.length ≤ cp) (hp' : ps.length ≤ 140737488351232) (hk : ks.length ≤ ck) (hk' : ks.length ≤ 140737488351232) (hps : PropsZ w Z Ap ps)
      (hc : ∀ i, i < ks.length → ∃ b o, Ak = some ⟨b, o, none⟩ ∧ Z b ∧ w.cell? ⟨b, o + i * 3, none⟩ = some (c0 i) ∧ w.cell? ⟨b, o + i * 3 + 1, none⟩ = some (c1 i) ∧ w.cell? ⟨b, o + i * 3 + 2, none⟩ = some (c2 i))
      (hks : ∀ i k, ks[i]? = some k → TreeZ w Z (c0 i) (c1 i) (c2 i) k) : TreeZ w Z (.string nm) (.slice Ap ps.length cp) (.slice Ak ks.length ck) (.mk nm ps ks)

section
variable {w w1 : World} {Z Z' S : Nat → Prop}
theorem cell_z {b o : Nat} {v : Value} (h : w.cell? ⟨b, o, none⟩ = some v) (hb : Z b) (hc : Chg S w w1) (hS : ∀ k, Z k → ¬ S k) : w1.cell? ⟨b, o, none⟩ = some v := by
  rw [hc.cell (p := ⟨b, o, none⟩) (World.block_lt_of_cell? w _ h) (hS b hb)]
  exact h
theorem PropsZ.chg {A : Option Addr} {ps : List PropD} (h : PropsZ w Z A ps) (hc : Chg S w w1) (hS : ∀ k, Z k → ¬ S k) : PropsZ w1 Z A ps := by
  intro i p hp
  obtain ⟨b, o, A', c', rfl, hb, h1, h2, h3, h4, h5, h6, h7⟩ := h i p hp
  refine ⟨b, o, A', c', rfl, hb, cell_z h1 hb hc hS, cell_z h2 hb hc hS, h3, h4, h5, ?_, h7⟩
  rcases Nat.eq_zero_or_pos p.2.length with h0 | h0
  · exact ⟨h6.1, fun hn => by omega⟩
  · exact h6.chg hc (fun ad e => hS _ (h7 h0 ad e))
theorem PropsZ.more {A : Option Addr} {ps : List PropD} (h : PropsZ w Z A ps) (hZ : ∀ k, Z k → Z' k) : PropsZ w Z' A ps := by
  intro i p hp
  obtain ⟨b, o, A', c', rfl, hb, h1, h2, h3, h4, h5, h6, h7⟩ := h i p hp
  exact ⟨b, o, A', c', rfl, hZ _ hb, h1, h2, h3, h4, h5, h6, fun hn ad e => hZ _ (h7 hn ad e)⟩
theorem TreeZ.chg {v0 v1 v2 : Value} {t : TreeD} (h : TreeZ w Z v0 v1 v2 t) (hc : Chg S w w1) (hS : ∀ k, Z k → ¬ S k) : TreeZ w1 Z v0 v1 v2 t := by
  induction h with
  | mk nm ps ks Ap Ak cp ck c0 c1 c2 hn hp hp' hk hk' hps hcs _ ih =>
    refine .mk nm ps ks Ap Ak cp ck c0 c1 c2 hn hp hp' hk hk' (hps.chg hc hS) (fun i hi => ?_) ih
    obtain ⟨b, o, rfl, hb, h1, h2, h3⟩ := hcs i hi
    exact ⟨b, o, rfl, hb, cell_z h1 hb hc hS, cell_z h2 hb hc hS, cell_z h3 hb hc hS⟩
theorem TreeZ.new_ {v0 v1 v2 : Value} {t : TreeD} (h : TreeZ w Z v0 v1 v2 t) (hc : New w w1) : TreeZ w1 Z v0 v1 v2 t := h.chg hc (fun _ _ h => h)
theorem TreeZ.more {v0 v1 v2 : Value} {t : TreeD} (h : TreeZ w Z v0 v1 v2 t) (hZ : ∀ k, Z k → Z' k) : TreeZ w Z' v0 v1 v2 t := by
  induction h with
  | mk nm ps ks Ap Ak cp ck c0 c1 c2 hn hp hp' hk hk' hps hcs _ ih =>
    refine .mk nm ps ks Ap Ak cp ck c0 c1 c2 hn hp hp' hk hk' (hps.more hZ) (fun i hi => ?_) ih
    obtain ⟨b, o, rfl, hb, h1, h2, h3⟩ := hcs i hi
    exact ⟨b, o, rfl, hZ _ hb, h1, h2, h3⟩
/-- such a tree lies below B, where Z does -/
theorem TreeZ.is {B : Nat} {v0 v1 v2 : Value} {t : TreeD} (h : TreeZ w Z v0 v1 v2 t) (hZ : ∀ k, Z k → k < B) : TreeIs w B v0 v1 v2 t := by
  induction h with
  | mk nm ps ks Ap Ak cp ck c0 c1 c2 hn hp hp' hk hk' hps hcs _ ih =>
    refine .mk nm ps ks Ap Ak cp ck c0 c1 c2 hn hp hp' hk hk' (fun i p hp => ?_) (fun i hi => ?_) ih
    · obtain ⟨b, o, A', c', rfl, hb, h1, h2, h3, h4, h5, h6, h7⟩ := hps i p hp
      exact ⟨b, o, A', c', rfl, hZ _ hb, h1, h2, h3, h4, h5, h6, fun hn ad e => hZ _ (h7 hn ad e)⟩
    · obtain ⟨b, o, rfl, hb, h1, h2, h3⟩ := hcs i hi
      exact ⟨b, o, rfl, hZ _ hb, h1, h2, h3⟩

/-! a node under way: its two rows are the call's own -/
/-- the properties' row says ps -/
def PropsO (w : World) (B : Nat) (Z : Nat → Prop) (A : Option Addr) (c : Nat) (ps : List PropD) : Prop :=
  ∃ qs : List (Option Addr × Nat), qs.length = ps.length ∧ Own w B 96 2 A ps.length c ((ps.zip qs).flatMap fun x => [.string x.1.1, .slice x.2.1 x.1.2.length x.2.2]) ∧
    ∀ (i : Nat) (p : PropD) (q : Option Addr × Nat), ps[i]? = some p → qs[i]? = some q → p.2.length ≤ q.2 ∧ p.2.length ≤ 140737488351232 ∧ p.1.size ≤ 140737488351232 ∧ Rd w 1 q.1 p.2.length (p.2.map bv) ∧ (0 < p.2.length → ∀ ad, q.1 = some ad → Z ad.block)
/-- the kids' row says ks -/
def KidsO (w : World) (B : Nat) (Z : Nat → Prop) (A : Option Addr) (c : Nat) (ks : List TreeD) : Prop :=
  ∃ qs : List (Value × Value × Value), qs.length = ks.length ∧ Own w B 25 3 A ks.length c (qs.flatMap fun x => [x.1, x.2.1, x.2.2]) ∧
    ∀ (i : Nat) (k : TreeD) (q : Value × Value × Value), ks[i]? = some k → qs[i]? = some q → TreeZ w Z q.1 q.2.1 q.2.2 k
theorem flat2_at {α : Type} (f g : α → Value) (l : List α) (i : Nat) (x : α) (h : l[i]? = some x) : (l.flatMap fun x => [f x, g x])[i * 2]? = some (f x) ∧ (l.flatMap fun x => [f x, g x])[i * 2 + 1]? = some (g x) := by
  induction l generalizing i with
  | nil => simp at h
  | cons y l ih =>
    cases i with
    | zero =>
      obtain rfl : y = x := by simpa using h
      simp
    | succ i =>
      have := ih i (by simpa using h)
      rw [show (i + 1) * 2 = i * 2 + 2 from by omega, show i * 2 + 2 + 1 = i * 2 + 1 + 2 from by omega]
      simpa using this
theorem flat3_at {α : Type} (f g k : α → Value) (l : List α) (i : Nat) (x : α) (h : l[i]? = some x) :
    (l.flatMap fun x => [f x, g x, k x])[i * 3]? = some (f x) ∧ (l.flatMap fun x => [f x, g x, k x])[i * 3 + 1]? = some (g x) ∧ (l.flatMap fun x => [f x, g x, k x])[i * 3 + 2]? = some (k x) := by
  induction l generalizing i with
  | nil => simp at h
  | cons y l ih =>
    cases i with
    | zero =>
      obtain rfl : y = x := by simpa using h
      simp
    | succ i =>
      have := ih i (by simpa using h)
      rw [show (i + 1) * 3 = i * 3 + 3 from by omega, show i * 3 + 3 + 1 = i * 3 + 1 + 3 from by omega, show i * 3 + 3 + 2 = i * 3 + 2 + 3 from by omega]
      simpa using this
theorem PropsO.is {B c : Nat} {A : Option Addr} {ps : List PropD} (h : PropsO w B Z A c ps) (hZ : ∀ k, blkOf A = some k → Z' k) (hz : ∀ k, Z k → Z' k) : PropsZ w Z' A ps := by
  obtain ⟨qs, hl, hown, hall⟩ := h
  intro i p hp
  obtain ⟨hi, hpe⟩ := List.getElem?_eq_some_iff.1 hp
  have hq : qs[i]? = some (qs[i]'(by omega)) := List.getElem?_eq_getElem (by omega)
  obtain ⟨h1, h2, h3, h4, h5⟩ := hall i p _ hp hq
  have hzip : (ps.zip qs)[i]? = some (p, qs[i]'(by omega)) := by
    rw [List.getElem?_zip_eq_some]
    exact ⟨hp, hq⟩
  obtain ⟨e0, e1⟩ := flat2_at (fun x : PropD × (Option Addr × Nat) => Value.string x.1.1) (fun x => .slice x.2.1 x.1.2.length x.2.2) _ i _ hzip
  obtain ⟨b, o, rfl, hb, hc⟩ := hown.rd.addr (by omega) (by omega)
  refine ⟨b, o, _, _, rfl, hZ b rfl, hc _ _ e0, by rw [Nat.add_assoc]; exact hc _ _ e1, h1, h2, h3, h4, fun hn ad e => hz _ (h5 hn ad e)⟩
/-- a node that is done -/
theorem TreeZ.done {B cp ck : Nat} {nm : ByteArray} {Ap Ak : Option Addr} {ps : List PropD} {ks : List TreeD} (hn : nm.size ≤ 140737488351232) (hp : PropsO w B Z Ap cp ps) (hk : KidsO w B Z Ak ck ks) (hpl : ps.length ≤ 140737488351232) (hkl : ks.length ≤ 140737488351232)
    (hZp : ∀ k, blkOf Ap = some k → Z' k) (hZk : ∀ k, blkOf Ak = some k → Z' k) (hz : ∀ k, Z k → Z' k) : TreeZ w Z' (.string nm) (.slice Ap ps.length cp) (.slice Ak ks.length ck) (.mk nm ps ks) := by
  have hps := hp.is hZp hz
  obtain ⟨_, _, hpo, _⟩ := hp
  obtain ⟨qs, hl, hown, hall⟩ := hk
  refine .mk nm ps ks Ap Ak cp ck (fun i => (qs.getD i (undef, undef, undef)).1) (fun i => (qs.getD i (undef, undef, undef)).2.1) (fun i => (qs.getD i (undef, undef, undef)).2.2) hn hpo.le.1 hpl hown.le.1 hkl hps (fun i hi => ?_) (fun i k hk => ?_)
  · have hq : qs[i]? = some (qs[i]'(by omega)) := List.getElem?_eq_getElem (by omega)
    obtain ⟨e0, e1, e2⟩ := flat3_at (fun x : Value × Value × Value => x.1) (fun x => x.2.1) (fun x => x.2.2) qs i _ hq
    obtain ⟨b, o, rfl, hb, hc⟩ := hown.rd.addr (by omega) (by omega)
    simp only [List.getD_eq_getElem?_getD, hq, Option.getD_some]
    exact ⟨b, o, rfl, hZk b rfl, hc _ _ e0, by rw [Nat.add_assoc]; exact hc _ _ e1, by rw [Nat.add_assoc]; exact hc _ _ e2⟩
  · obtain ⟨hi, _⟩ := List.getElem?_eq_some_iff.1 hk
    have hq : qs[i]? = some (qs[i]'(by omega)) := List.getElem?_eq_getElem (by omega)
    simp only [List.getD_eq_getElem?_getD, hq, Option.getD_some]
    exact (hall i k _ hk hq).more hz
theorem PropsO.nil_ (w : World) (B : Nat) (Z : Nat → Prop) : PropsO w B Z none 0 [] := ⟨[], rfl, Own.nil_ _ _ _ _, fun i p q hp => by simp at hp⟩
theorem KidsO.nil_ (w : World) (B : Nat) (Z : Nat → Prop) : KidsO w B Z none 0 [] := ⟨[], rfl, Own.nil_ _ _ _ _, fun i k q hk => by simp at hk⟩
theorem PropsO.chg {B c : Nat} {A : Option Addr} {ps : List PropD} (h : PropsO w B Z A c ps) (hc : Chg S w w1) (hA : ∀ k, blkOf A = some k → ¬ S k) (hS : ∀ k, Z k → ¬ S k) (hz : ∀ k, Z k → Z' k) : PropsO w1 B Z' A c ps := by
  obtain ⟨qs, hl, hown, hall⟩ := h
  refine ⟨qs, hl, hown.chg hc hA, fun i p q hp hq => ?_⟩
  obtain ⟨h1, h2, h3, h4, h5⟩ := hall i p q hp hq
  refine ⟨h1, h2, h3, ?_, fun hn ad e => hz _ (h5 hn ad e)⟩
  rcases Nat.eq_zero_or_pos p.2.length with h0 | h0
  · exact ⟨h4.1, fun hn => by omega⟩
  · exact h4.chg hc (fun ad e => hS _ (h5 h0 ad e))
theorem KidsO.chg {B c : Nat} {A : Option Addr} {ks : List TreeD} (h : KidsO w B Z A c ks) (hc : Chg S w w1) (hA : ∀ k, blkOf A = some k → ¬ S k) (hS : ∀ k, Z k → ¬ S k) (hz : ∀ k, Z k → Z' k) : KidsO w1 B Z' A c ks := by
  obtain ⟨qs, hl, hown, hall⟩ := h
  exact ⟨qs, hl, hown.chg hc hA, fun i k q hk hq => ((hall i k q hk hq).chg hc hS).more hz⟩
/-- one more property: the row as it grew, the rest as it was -/
theorem PropsO.snoc {B c c' cq : Nat} {A A' Aq : Option Addr} {ps : List PropD} {p : PropD} {qs : List (Option Addr × Nat)} (hl : qs.length = ps.length)
    (hown : Own w1 B 96 2 A' (ps.length + 1) c' (((ps.zip qs).flatMap fun x => [.string x.1.1, .slice x.2.1 x.1.2.length x.2.2]) ++ [.string p.1, .slice Aq p.2.length cq]))
    (hall : ∀ (i : Nat) (p : PropD) (q : Option Addr × Nat), ps[i]? = some p → qs[i]? = some q → p.2.length ≤ q.2 ∧ p.2.length ≤ 140737488351232 ∧ p.1.size ≤ 140737488351232 ∧ Rd w1 1 q.1 p.2.length (p.2.map bv) ∧ (0 < p.2.length → ∀ ad, q.1 = some ad → Z ad.block))
    (h1 : p.2.length ≤ cq) (h2 : p.2.length ≤ 140737488351232) (h3 : p.1.size ≤ 140737488351232) (h4 : Rd w1 1 Aq p.2.length (p.2.map bv)) (h5 : 0 < p.2.length → ∀ ad, Aq = some ad → Z ad.block) : PropsO w1 B Z A' c' (ps ++ [p]) := by
  refine ⟨qs ++ [(Aq, cq)], by simp [hl], ?_, fun i p' q hp hq => ?_⟩
  · rw [List.zip_append (by omega), List.flatMap_append, List.length_append]
    simpa using hown
  · rcases Nat.lt_or_ge i ps.length with hi | hi
    · rw [List.getElem?_append_left hi] at hp
      rw [List.getElem?_append_left (by omega)] at hq
      exact hall i p' q hp hq
    · rw [List.getElem?_append_right hi] at hp
      rw [List.getElem?_append_right (by omega)] at hq
      obtain ⟨h0, he⟩ := List.getElem?_eq_some_iff.1 hp
      have hi0 : i - ps.length = 0 := by simpa using h0
      rw [hi0] at hp
      rw [show i - qs.length = 0 by omega] at hq
      obtain rfl : p = p' := by simpa using hp
      obtain rfl : (Aq, cq) = q := by simpa using hq
      exact ⟨h1, h2, h3, h4, h5⟩
theorem KidsO.snoc {B c' : Nat} {A' : Option Addr} {ks : List TreeD} {k : TreeD} {v0 v1 v2 : Value} {qs : List (Value × Value × Value)} (hl : qs.length = ks.length)
    (hown : Own w1 B 25 3 A' (ks.length + 1) c' ((qs.flatMap fun x => [x.1, x.2.1, x.2.2]) ++ [v0, v1, v2]))
    (hall : ∀ (i : Nat) (k : TreeD) (q : Value × Value × Value), ks[i]? = some k → qs[i]? = some q → TreeZ w1 Z q.1 q.2.1 q.2.2 k) (h1 : TreeZ w1 Z v0 v1 v2 k) : KidsO w1 B Z A' c' (ks ++ [k]) := by
  refine ⟨qs ++ [(v0, v1, v2)], by simp [hl], ?_, fun i k' q hk hq => ?_⟩
  · rw [List.flatMap_append, List.length_append]
    simpa using hown
  · rcases Nat.lt_or_ge i ks.length with hi | hi
    · rw [List.getElem?_append_left hi] at hk
      rw [List.getElem?_append_left (by omega)] at hq
      exact hall i k' q hk hq
    · rw [List.getElem?_append_right hi] at hk
      rw [List.getElem?_append_right (by omega)] at hq
      obtain ⟨h0, he⟩ := List.getElem?_eq_some_iff.1 hk
      have hi0 : i - ks.length = 0 := by simpa using h0
      rw [hi0] at hk
      rw [show i - qs.length = 0 by omega] at hq
      obtain rfl : k = k' := by simpa using hk
      obtain rfl : (v0, v1, v2) = q := by simpa using hq
      exact h1
end
end Go.Proofs.Ytfmmcjiehpdogaa
