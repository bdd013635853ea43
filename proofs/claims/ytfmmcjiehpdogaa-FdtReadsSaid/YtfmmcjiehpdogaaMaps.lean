/-
  A map from texts to numbers that the call itself made, as a function. No condition.
-/
import Derived.Test.YtfmmcjiehpdogaaCopy
import Derived.Maps.OwnOps
import Derived.Maps.OwnSet
import Derived.Maps.Views
set_option linter.unusedVariables false
set_option linter.unusedSimpArgs false
namespace Go.Proofs.Ytfmmcjiehpdogaa
open Go.RowKit Go.Maps

theorem strKeyed : Keyed Try.prog 9 := string_keyed Try.underlying9

/-- block b is a map of at most n entries that says f, its elements of type e, an integer of kind q -/
def MapIs (w : World) (e : TypeId) (q : IntKind) (b n : Nat) (f : List UInt8 → Option Int) : Prop :=
  ∃ D : DataW Unit, w.ownsMap Try.prog 9 (plainElem Try.prog e) b n D ∧ IsMap D ∧ ∀ s : List UInt8, has D (.string s) = (f s).isSome ∧ D.atKey (.string s) (.lit (.int q 0)) = .lit (.int q ((f s).getD 0))
/-- f, with one answer turned -/
def upd (f : List UInt8 → Option Int) (s : List UInt8) (v : Int) : List UInt8 → Option Int := fun s' => if s' = s then some v else f s'

section
variable {w w1 : World} {e : TypeId} {q : IntKind} {b n : Nat} {f : List UInt8 → Option Int} {S : Nat → Prop}
theorem MapIs.lt (h : MapIs w e q b n f) : b < w.heap.size := h.choose_spec.1.lt
theorem MapIs.chg (h : MapIs w e q b n f) (hc : Chg S w w1) (hb : ¬ S b) : MapIs w1 e q b n f := by
  obtain ⟨D, h1, h2⟩ := h
  have hlt := h1.lt
  obtain ⟨es, clock, hbl, r⟩ := h1
  exact ⟨D, ⟨es, clock, (hc.block b hlt hb).trans hbl, r⟩, h2⟩
theorem MapIs.new_ (h : MapIs w e q b n f) (hc : New w w1) : MapIs w1 e q b n f := h.chg hc (fun h => h)
theorem MapIs.made (w : World) (e : TypeId) (q : IntKind) : MapIs (w.alloc (.map #[] 0)) e q w.heap.size 0 (fun _ => none) :=
  ⟨.map [], World.ownsMap_made w _ _ _, isMap_empty, fun s => ⟨rfl, rfl⟩⟩
theorem MapIs.far (h : MapIs w e q b n f) {p : Addr} (hp : b ≠ p.block) (u : Value) : MapIs (w.setCell p u) e q b n f :=
  h.chg (S := fun k => k = p.block) (Chg.setCell (S := fun k => k = p.block) (p := p) (Chg.refl _ w) (fun _ => rfl) u) hp
theorem MapIs.ne_blk {g : Nat} {t : TypeId} {cs : Array Value} (h : MapIs w e q b n f) (hg : Row w g t cs) : b ≠ g := by
  rintro rfl
  obtain ⟨D, ⟨es, clock, hbl, _⟩, _⟩ := h
  obtain ⟨fr, hg, _⟩ := hg
  rw [hbl] at hg
  cases hg
end

section
variable {w : World} {ops : Array Oper} {rest : List Oper} {o : Oper} {a : Act} {Q : Exit → Act → World → Prop} {e : TypeId} {q : IntKind} {b n : Nat} {f : List UInt8 → Option Int}
theorem key_string (s : ByteArray) (hs : s.size ≤ maxLen) : keyOf Try.prog 9 (.string s) = some (.string s.data.toList) := WideMaps.keyOf_string_mk Try.underlying9 hs

theorem wpList_look (hg : o.guard = none) (m x : Operand) (t : TypeId) (hop : o.op = Op.lookup t m x false) (ht : Try.prog.underlying t = some (.map 9 e)) (he : Try.prog.underlying e = some (.int q))
    (hz : (zeroValue e).run Try.prog w = .ok (.int q 0) w) (hm : a.eval m = .map (some b)) (hown : MapIs w e q b n f) (s : ByteArray) (hx : a.eval x = .string s) (hs : s.size ≤ maxLen)
    (hK : wpList Try.prog ops Q rest (a.put o.dst (.int q ((f s.data.toList).getD 0))) w) : wpList Try.prog ops Q (o :: rest) a w := by
  obtain ⟨D, h1, h2, h3⟩ := hown
  refine wpList_lookup_own_int w hg m x t hop _ e q strKeyed ht he hz b n D hm h1 _ _ hx (key_string s hs) fun c hc _ => ?_
  have := (h3 s.data.toList).2
  rw [hc] at this
  injection this with this
  injection this with _ this
  rw [this]
  exact hK

theorem wpList_look_ok (hg : o.guard = none) (m x : Operand) (t : TypeId) (hop : o.op = Op.lookup t m x true) (ht : Try.prog.underlying t = some (.map 9 e)) (he : Try.prog.underlying e = some (.int q))
    (hz : (zeroValue e).run Try.prog w = .ok (.int q 0) w) (hm : a.eval m = .map (some b)) (hown : MapIs w e q b n f) (s : ByteArray) (hx : a.eval x = .string s) (hs : s.size ≤ maxLen)
    (hK : wpList Try.prog ops Q rest (a.put o.dst (.tuple #[.int q ((f s.data.toList).getD 0), .bool (f s.data.toList).isSome])) w) : wpList Try.prog ops Q (o :: rest) a w := by
  obtain ⟨D, h1, h2, h3⟩ := hown
  refine wpList_lookup_own_ok_int w hg m x t hop _ e q strKeyed ht he hz b n D hm h1 _ _ hx (key_string s hs) fun c hc _ => ?_
  have := (h3 s.data.toList).2
  rw [hc] at this
  injection this with this
  injection this with _ this
  rw [this, (h3 s.data.toList).1]
  exact hK

theorem wpList_upd (hg : o.guard = none) (m x v : Operand) (t : TypeId) (hop : o.op = Op.mapUpdate t m x v) (ht : Try.prog.underlying t = some (.map 9 e)) (he : Try.prog.underlying e = some (.int q))
    (hm : a.eval m = .map (some b)) (hown : MapIs w e q b n f) (hn : n < maxLen) (s : ByteArray) (hx : a.eval x = .string s) (hs : s.size ≤ maxLen) (c : Int) (hv : a.eval v = .int q c) (hc : (Lit.int q c).wf = true)
    (hK : ∀ w', MapIs w' e q b (n + 1) (upd f s.data.toList c) → w.grownBy w' (some b) → wpList Try.prog ops Q rest (a.put o.dst undef) w') : wpList Try.prog ops Q (o :: rest) a w := by
  obtain ⟨D, h1, h2, h3⟩ := hown
  refine wpList_mapUpdate_own w hg m x v t hop _ e strKeyed ht _ b n D hm h1 hn _ _ _ hx hv (key_string s hs) _ _ (plainElem_int he hc) fun w' h1' hg' => hK w' ⟨_, h1', h2.put _ _, fun s' => ?_⟩ hg'
  have hk : WideAt.IsKeyLit (Lit.string s.data.toList) := by simp [WideAt.IsKeyLit]
  by_cases hss : s' = s.data.toList
  · subst hss
    rw [has_put_same h2 hk, atKey_put_same h2 hk]
    simp [upd]
  · have hne : Lit.string s' ≠ Lit.string s.data.toList := by intro e; injection e with e; exact hss e
    rw [has_put_other hne, atKey_put_other hne]
    simp only [upd, if_neg hss]
    exact h3 s'
end
end Go.Proofs.Ytfmmcjiehpdogaa
