/-
  Trees as plain data, and where they lie in memory. No condition.
-/
import Derived.Test.YtfmmcjiehpdogaaCopy
set_option linter.unusedVariables false
set_option linter.unusedSimpArgs false
namespace Go.Proofs.Ytfmmcjiehpdogaa
open Go.RowKit

/-- a property: its name, its bytes -/
abbrev PropD := ByteArray × List UInt8
/-- a node of a tree -/
inductive TreeD where
  | mk (name : ByteArray) (props : List PropD) (kids : List TreeD)

theorem TreeD.ind {p : TreeD → Prop} (h : ∀ nm ps ks, (∀ k ∈ ks, p k) → p (.mk nm ps ks)) : ∀ t, p t
  | .mk nm ps ks => h nm ps ks fun k hk => TreeD.ind h k
  termination_by t => SizeOf.sizeOf t
  decreasing_by
    have := List.sizeOf_lt_of_mem hk
    simp only [TreeD.mk.sizeOf_spec]
    omega

def TreeD.name : TreeD → ByteArray | .mk nm _ _ => nm
def TreeD.props : TreeD → List PropD | .mk _ ps _ => ps
def TreeD.kids : TreeD → List TreeD | .mk _ _ ks => ks

/-- the slice lies below block B, where it has elements -/
def Lo (B : Nat) (A : Option Addr) (n : Nat) : Prop := 0 < n → ∀ ad, A = some ad → ad.block < B

/-- so many properties at A -/
def PropsAt (w : World) (B : Nat) (A : Option Addr) (ps : List PropD) : Prop :=
  ∀ i p, ps[i]? = some p → ∃ b o A' c', A = some ⟨b, o, none⟩ ∧ b < B ∧ w.cell? ⟨b, o + i * 2, none⟩ = some (.string p.1) ∧ w.cell? ⟨b, o + i * 2 + 1, none⟩ = some (.slice A' p.2.length c') ∧
    p.2.length ≤ c' ∧ p.2.length ≤ 140737488351232 ∧ p.1.size ≤ 140737488351232 ∧ Rd w 1 A' p.2.length (p.2.map bv) ∧ Lo B A' p.2.length

/-- the three cells of a node read as t, all of it below block B -/
inductive TreeIs (w : World) (B : Nat) : Value → Value → Value → TreeD → Prop
  | mk (nm : ByteArray) (ps : List PropD) (ks : List TreeD) (Ap Ak : Option Addr) (cp ck : Nat) (c0 c1 c2 : Nat → Value)
      (hn : nm.size ≤ 140737488351232) (hp : ps.length ≤ cp) (hp' : ps.length ≤ 140737488351232) (hk : ks.length ≤ ck) (hk' : ks.length ≤ 140737488351232) (hps : PropsAt w B Ap ps)
      (hc : ∀ i, i < ks.length → ∃ b o, Ak = some ⟨b, o, none⟩ ∧ b < B ∧ w.cell? ⟨b, o + i * 3, none⟩ = some (c0 i) ∧ w.cell? ⟨b, o + i * 3 + 1, none⟩ = some (c1 i) ∧ w.cell? ⟨b, o + i * 3 + 2, none⟩ = some (c2 i))
      (hks : ∀ i k, ks[i]? = some k → TreeIs w B (c0 i) (c1 i) (c2 i) k) : TreeIs w B (.string nm) (.slice Ap ps.length cp) (.slice Ak ks.length ck) (.mk nm ps ks)

section
variable {w w1 : World} {B : Nat} {S : Nat → Prop}
theorem Lo.off {A : Option Addr} {n : Nat} (h : Lo B A n) (hS : ∀ k, k < B → ¬ S k) (hn : 0 < n) : Off S A := fun ad e => hS _ (h hn ad e)
theorem Rd.chg_lo {size n : Nat} {A : Option Addr} {xs : List Value} (h : Rd w size A n xs) (hlo : Lo B A n) (hc : Chg S w w1) (hS : ∀ k, k < B → ¬ S k) : Rd w1 size A n xs := by
  rcases Nat.eq_zero_or_pos n with h0 | h0
  · exact ⟨h.1, fun hn => by omega⟩
  · exact h.chg hc (hlo.off hS h0)
theorem cell_chg {b o : Nat} {v : Value} (h : w.cell? ⟨b, o, none⟩ = some v) (hb : b < B) (hc : Chg S w w1) (hS : ∀ k, k < B → ¬ S k) : w1.cell? ⟨b, o, none⟩ = some v := by
  rw [hc.cell (p := ⟨b, o, none⟩) (World.block_lt_of_cell? w _ h) (hS b hb)]
  exact h
theorem PropsAt.chg {A : Option Addr} {ps : List PropD} (h : PropsAt w B A ps) (hc : Chg S w w1) (hS : ∀ k, k < B → ¬ S k) : PropsAt w1 B A ps := by
  intro i p hp
  obtain ⟨b, o, A', c', rfl, hb, h1, h2, h3, h4, h5, h6, h7⟩ := h i p hp
  exact ⟨b, o, A', c', rfl, hb, cell_chg h1 hb hc hS, cell_chg h2 hb hc hS, h3, h4, h5, h6.chg_lo h7 hc hS, h7⟩
theorem TreeIs.chg {v0 v1 v2 : Value} {t : TreeD} (h : TreeIs w B v0 v1 v2 t) (hc : Chg S w w1) (hS : ∀ k, k < B → ¬ S k) : TreeIs w1 B v0 v1 v2 t := by
  induction h with
  | mk nm ps ks Ap Ak cp ck c0 c1 c2 hn hp hp' hk hk' hps hcs _ ih =>
    refine .mk nm ps ks Ap Ak cp ck c0 c1 c2 hn hp hp' hk hk' (hps.chg hc hS) (fun i hi => ?_) ih
    obtain ⟨b, o, rfl, hb, h1, h2, h3⟩ := hcs i hi
    exact ⟨b, o, rfl, hb, cell_chg h1 hb hc hS, cell_chg h2 hb hc hS, cell_chg h3 hb hc hS⟩
theorem TreeIs.new_ {v0 v1 v2 : Value} {t : TreeD} (h : TreeIs w B v0 v1 v2 t) (hc : New w w1) : TreeIs w1 B v0 v1 v2 t := h.chg hc (fun _ _ h => h)
theorem PropsAt.new_ {A : Option Addr} {ps : List PropD} (h : PropsAt w B A ps) (hc : New w w1) : PropsAt w1 B A ps := h.chg hc (fun _ _ h => h)
theorem PropsAt.more {B' : Nat} {A : Option Addr} {ps : List PropD} (h : PropsAt w B A ps) (hB : B ≤ B') : PropsAt w B' A ps := by
  intro i p hp
  obtain ⟨b, o, A', c', rfl, hb, h1, h2, h3, h4, h5, h6, h7⟩ := h i p hp
  exact ⟨b, o, A', c', rfl, by omega, h1, h2, h3, h4, h5, h6, fun hn ad e => Nat.lt_of_lt_of_le (h7 hn ad e) hB⟩
theorem TreeIs.more {B' : Nat} {v0 v1 v2 : Value} {t : TreeD} (h : TreeIs w B v0 v1 v2 t) (hB : B ≤ B') : TreeIs w B' v0 v1 v2 t := by
  induction h with
  | mk nm ps ks Ap Ak cp ck c0 c1 c2 hn hp hp' hk hk' hps hcs _ ih =>
    refine .mk nm ps ks Ap Ak cp ck c0 c1 c2 hn hp hp' hk hk' (hps.more hB) (fun i hi => ?_) ih
    obtain ⟨b, o, rfl, hb, h1, h2, h3⟩ := hcs i hi
    exact ⟨b, o, rfl, by omega, h1, h2, h3⟩
theorem TreeIs.shape {v0 v1 v2 : Value} {t : TreeD} (h : TreeIs w B v0 v1 v2 t) : ∃ (Ap Ak : Option Addr) (cp ck : Nat), v0 = .string t.name ∧ v1 = .slice Ap t.props.length cp ∧ v2 = .slice Ak t.kids.length ck ∧ t.name.size ≤ 140737488351232 := by
  cases h
  exact ⟨_, _, _, _, rfl, rfl, rfl, by assumption⟩
end
end Go.Proofs.Ytfmmcjiehpdogaa
