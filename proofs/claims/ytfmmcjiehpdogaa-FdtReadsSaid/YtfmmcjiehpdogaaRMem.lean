/-
  A node that a reader has under way, in memory. No condition.
-/
import Derived.Test.YtfmmcjiehpdogaaTreeZ
set_option linter.unusedVariables false
set_option linter.unusedSimpArgs false
namespace Go.Proofs.Ytfmmcjiehpdogaa
open Go.RowKit

theorem ReaderIs.chg {S : Nat → Prop} {w w1 : World} {g p : Nat} {b tx : List UInt8} {l : Int} (h : ReaderIs w g b tx p l) (hc : Chg S w w1) (hS : ∀ k, k ≤ g → ¬ S k) : ReaderIs w1 g b tx p l := by
  obtain ⟨Ab, cb, At, ct, h1, h2, h3, h4, h5, h6, h7⟩ := h
  exact ⟨Ab, cb, At, ct, h1.chg hc (hS _ (Nat.le_refl _)), h2.chg hc (fun ad e => hS _ (Nat.le_of_lt (h6 ad e))), h3.chg hc (fun ad e => hS _ (Nat.le_of_lt (h7 ad e))), h4, h5, h6, h7⟩

theorem infoTree : (Try.prog.info? 25).map (fun i => (i.zero, i.size, i.bytes)) = some (some (.agg #[.string .empty, .slice none 0 0, .slice none 0 0]), 3, 64) := by kernel_rfl
theorem infoProp : (Try.prog.info? 96).map (fun i => (i.zero, i.size, i.bytes)) = some (some (.agg #[.string .empty, .slice none 0 0]), 2, 40) := by kernel_rfl
theorem TreeZ.shape {w : World} {Z : Nat → Prop} {v0 v1 v2 : Value} {t : TreeD} (h : TreeZ w Z v0 v1 v2 t) : ∃ (Ap Ak : Option Addr) (cp ck : Nat), v0 = .string t.name ∧ v1 = .slice Ap t.props.length cp ∧ v2 = .slice Ak t.kids.length ck := by
  cases h
  exact ⟨_, _, _, _, rfl, rfl, rfl⟩
/-- a block as a slice of one element -/
theorem Rd.box {w : World} {g size : Nat} {t : TypeId} {l : List Value} (h : Blk w g t l.toArray) (hl : l.length = size) : Rd w size (some ⟨g, 0, none⟩) 1 l := by
  refine ⟨by rw [hl, Nat.one_mul], fun _ => ⟨_, rfl, fun j u hu => ?_⟩⟩
  rw [Addr.add_lit, Nat.zero_add, h.cell]
  simpa using hu

/-- where a node's parts may lie: behind the node, not in its two rows; or below block lo -/
def ZS (lo bt sz : Nat) (Ap Ak : Option Addr) (k : Nat) : Prop := k < lo ∨ (bt < k ∧ k < sz ∧ blkOf Ap ≠ some k ∧ blkOf Ak ≠ some k)
/-- where a tree lies that was read -/
def ZT (lo0 lo hi : Nat) (k : Nat) : Prop := k < lo0 ∨ (lo ≤ k ∧ k < hi)

/-- a node under way: the reader in block g, the result in block w.heap.size, the node in block bt -/
structure NodeM (lo g bt : Nat) (nm : ByteArray) (w wr : World) (ps : List PropD) (ks : List TreeD) (Ap Ak : Option Addr) (cp ck : Nat) : Prop where
  chg : Chg (fun k => k = g) w wr
  res : Blk wr w.heap.size 25 #[.string ⟨#[]⟩, .slice none 0 0, .slice none 0 0]
  box : Blk wr bt 25 #[.string nm, .slice Ap ps.length cp, .slice Ak ks.length ck]
  hlo : lo ≤ g
  hg : g < w.heap.size
  hbt : w.heap.size < bt
  props : PropsO wr (bt + 1) (ZS lo bt wr.heap.size Ap Ak) Ap cp ps
  kids : KidsO wr (bt + 1) (ZS lo bt wr.heap.size Ap Ak) Ak ck ks
  apart : ∀ k, blkOf Ap = some k → blkOf Ak ≠ some k

section
variable {lo g bt : Nat} {nm : ByteArray} {w wr w' : World} {ps : List PropD} {ks : List TreeD} {Ap Ak : Option Addr} {cp ck : Nat}
theorem PropsO.lt {B c : Nat} {Z : Nat → Prop} {A : Option Addr} (h : PropsO w B Z A c ps) : ∀ k, blkOf A = some k → B ≤ k ∧ k < w.heap.size := by
  obtain ⟨qs, _, hown, _⟩ := h
  exact hown.lt
theorem KidsO.lt {B c : Nat} {Z : Nat → Prop} {A : Option Addr} (h : KidsO w B Z A c ks) : ∀ k, blkOf A = some k → B ≤ k ∧ k < w.heap.size := by
  obtain ⟨qs, _, hown, _⟩ := h
  exact hown.lt
theorem NodeM.go_ (h : NodeM lo g bt nm w wr ps ks Ap Ak cp ck) (hc : Chg (fun k => k = g) wr w') : NodeM lo g bt nm w w' ps ks Ap Ak cp ck := by
  have hg := h.hg
  have hlo := h.hlo
  have hbt := h.hbt
  have hsz := hc.size
  have hz : ∀ k, ZS lo bt wr.heap.size Ap Ak k → ZS lo bt w'.heap.size Ap Ak k := fun k hk => by
    rcases hk with hk | ⟨h1, h2, h3⟩
    · exact .inl hk
    · exact .inr ⟨h1, Nat.lt_of_lt_of_le h2 hsz, h3⟩
  have hzg : ∀ k, ZS lo bt wr.heap.size Ap Ak k → ¬ k = g := fun k hk e => by
    rcases hk with hk | ⟨h1, _⟩ <;> omega
  exact ⟨h.chg.trans hc (fun i hi _ => hi), h.res.chg hc (by omega), h.box.chg hc (by omega), hlo, hg, hbt,
    h.props.chg hc (fun k hk e => by have := (h.props.lt k hk).1; omega) hzg hz,
    h.kids.chg hc (fun k hk e => by have := (h.kids.lt k hk).1; omega) hzg hz, h.apart⟩
theorem NodeM.new_ (h : NodeM lo g bt nm w wr ps ks Ap Ak cp ck) (hc : New wr w') : NodeM lo g bt nm w w' ps ks Ap Ak cp ck := h.go_ (hc.mono (fun _ h _ => h.elim))

/-- what the properties' row says of its strings and bytes -/
def PropsQ (w : World) (Z : Nat → Prop) (ps : List PropD) (qs : List (Option Addr × Nat)) : Prop :=
  qs.length = ps.length ∧ ∀ (i : Nat) (p : PropD) (q : Option Addr × Nat), ps[i]? = some p → qs[i]? = some q → p.2.length ≤ q.2 ∧ p.2.length ≤ 140737488351232 ∧ p.1.size ≤ 140737488351232 ∧ Rd w 1 q.1 p.2.length (p.2.map bv) ∧ (0 < p.2.length → ∀ ad, q.1 = some ad → Z ad.block)
/-- the cells of the properties' row -/
def propCells (ps : List PropD) (qs : List (Option Addr × Nat)) : List Value := (ps.zip qs).flatMap fun x => [.string x.1.1, .slice x.2.1 x.1.2.length x.2.2]
theorem PropsO.open_ {B c : Nat} {Z : Nat → Prop} {A : Option Addr} (h : PropsO w B Z A c ps) : ∃ qs, PropsQ w Z ps qs ∧ Own w B 96 2 A ps.length c (propCells ps qs) := by
  obtain ⟨qs, h1, h2, h3⟩ := h
  exact ⟨qs, ⟨h1, h3⟩, h2⟩
def KidsQ (w : World) (Z : Nat → Prop) (ks : List TreeD) (qs : List (Value × Value × Value)) : Prop :=
  qs.length = ks.length ∧ ∀ (i : Nat) (k : TreeD) (q : Value × Value × Value), ks[i]? = some k → qs[i]? = some q → TreeZ w Z q.1 q.2.1 q.2.2 k
def kidCells (qs : List (Value × Value × Value)) : List Value := qs.flatMap fun x => [x.1, x.2.1, x.2.2]
theorem KidsO.open_ {B c : Nat} {Z : Nat → Prop} {A : Option Addr} (h : KidsO w B Z A c ks) : ∃ qs, KidsQ w Z ks qs ∧ Own w B 25 3 A ks.length c (kidCells qs) := by
  obtain ⟨qs, h1, h2, h3⟩ := h
  exact ⟨qs, ⟨h1, h3⟩, h2⟩

/-- what a row's growth and the node's new header leave alone -/
theorem row_chg {wr w5 w7 : World} {o : Obj} {A : Option Addr} (i : Nat) (v : Value) (hn5 : New wr w5) (hgr : (w5.alloc o).grownBy w7 (blkOf A)) :
    Chg (fun k => blkOf A = some k ∨ k = bt) wr (w7.setCell ⟨bt, i, none⟩ v) ∧ w5.heap.size + 1 ≤ (w7.setCell ⟨bt, i, none⟩ v).heap.size := by
  have c7 : Chg (fun k => blkOf A = some k) wr w7 := ((hn5.mono (fun _ h _ => h.elim)).alloc o).grown hgr (fun k hk _ => hk)
  refine ⟨Chg.setCell (p := ⟨bt, i, none⟩) (c7.mono (fun _ h _ => .inl h)) (fun _ => .inr rfl) _, ?_⟩
  have := hgr.size
  simpa [World.setCell] using this

/-- one property more -/
theorem NodeM.prop (h : NodeM lo g bt nm w wr ps ks Ap Ak cp ck) {w5 w7 : World} {o : Obj} {s : ByteArray} {bs : List UInt8} {Aq A' : Option Addr} {cq c' n' m : Nat} (hm : m = bs.length) (hn5 : New wr w5)
    (hq : Rd w5 1 Aq m (bs.map bv)) (hcq : bs.length ≤ cq) (hloc : 0 < bs.length → ∀ ad, Aq = some ad → ad.block < lo ∨ (wr.heap.size ≤ ad.block ∧ ad.block < w5.heap.size))
    (hb1 : bs.length ≤ 140737488351232) (hs : s.size ≤ 140737488351232) {qs : List (Option Addr × Nat)} (hqs : PropsQ wr (ZS lo bt wr.heap.size Ap Ak) ps qs)
    (hn' : n' = ps.length + 1) (hown : Own w7 (bt + 1) 96 2 A' n' c' (propCells ps qs ++ [.string s, .slice Aq m cq]))
    (hgr : (w5.alloc o).grownBy w7 (blkOf Ap)) (hat : blkOf A' = blkOf Ap ∨ blkOf A' = some (w5.alloc o).heap.size) :
    NodeM lo g bt nm w (w7.setCell ⟨bt, 1, none⟩ (.slice A' n' c')) (ps ++ [(s, bs)]) ks A' Ak c' ck ∧ Chg (fun k => g < k) wr (w7.setCell ⟨bt, 1, none⟩ (.slice A' n' c')) := by
  subst hm
  subst hn'
  obtain ⟨hl, hall⟩ := hqs
  have hg := h.hg
  have hlo := h.hlo
  have hbt := h.hbt
  have hlp := h.props.lt
  have hlk := h.kids.lt
  have hlt := h.box.lt
  have hs5 := hn5.size
  have hsz : (w5.alloc o).heap.size = w5.heap.size + 1 := by simp
  rw [hsz] at hat
  obtain ⟨c8, hs8⟩ := row_chg (bt := bt) 1 (.slice A' (ps.length + 1) c') hn5 hgr
  have hz : ∀ k, ZS lo bt wr.heap.size Ap Ak k → ZS lo bt (w7.setCell ⟨bt, 1, none⟩ (.slice A' (ps.length + 1) c')).heap.size A' Ak k := fun k hk => by
    rcases hk with hk | ⟨h1, h2, h3, h4⟩
    · exact .inl hk
    · refine .inr ⟨h1, by omega, fun e => ?_, h4⟩
      rcases hat with ha | ha
      · exact h3 (ha ▸ e)
      · rw [ha] at e; injection e with e; omega
  have hne : ∀ k, blkOf A' = some k → k ≠ bt := fun k hk e => by have := (hown.lt k hk).1; omega
  have hzn : ∀ k, ZS lo bt wr.heap.size Ap Ak k → ¬ (blkOf Ap = some k ∨ k = bt) := fun k hk e => by
    rcases hk with hk | ⟨h1, h2, h3, h4⟩
    · rcases e with e | e
      · have := (hlp _ e).1; omega
      · omega
    · rcases e with e | e
      · exact h3 e
      · omega
  have hrq : Rd (w7.setCell ⟨bt, 1, none⟩ (.slice A' (ps.length + 1) c')) 1 Aq bs.length (bs.map bv) := by
    have c78 := (row_chg (bt := bt) 1 (.slice A' (ps.length + 1) c') (Chg.refl _ w5) hgr).1
    rcases Nat.eq_zero_or_pos bs.length with h0 | h0
    · exact ⟨hq.1, fun hn => by omega⟩
    · refine hq.chg c78 (fun ad e hh => ?_)
      rcases hloc h0 ad e with hl | hl
      · rcases hh with hh | hh
        · have := (hlp _ hh).1; omega
        · omega
      · rcases hh with hh | hh
        · have := (hlp _ hh).2; omega
        · omega
  refine ⟨⟨h.chg.trans c8 (fun i hi hlt2 => ?_), h.res.chg c8 (fun e => ?_), ?_, hlo, hg, hbt, ?_, ?_, fun k hk e => ?_⟩, c8.mono (fun k e hk => ?_)⟩
  · exfalso
    rcases hi with hi | hi
    · have := (hlp _ hi).1; omega
    · omega
  · rcases e with e | e
    · have := (hlp _ e).1; omega
    · omega
  · have c7 : Chg (fun k => blkOf Ap = some k) wr w7 := ((hn5.mono (fun _ h _ => h.elim)).alloc o).grown hgr (fun k hk _ => hk)
    have := (h.box.chg c7 (fun e => by have := (hlp _ e).1; omega)).set_ 1 (.slice A' (ps.length + 1) c')
    simpa using this
  · refine PropsO.snoc (A := none) (c := 0) hl (hown.far hne _) (fun i p q hp hq => ?_) hcq hb1 hs hrq (fun h0 ad e => ?_)
    · obtain ⟨h1, h2, h3, h4, h5⟩ := hall i p q hp hq
      refine ⟨h1, h2, h3, ?_, fun hn ad e => hz _ (h5 hn ad e)⟩
      rcases Nat.eq_zero_or_pos p.2.length with h0 | h0
      · exact ⟨h4.1, fun hn => by omega⟩
      · exact h4.chg c8 (fun ad e => hzn _ (h5 h0 ad e))
    · rcases hloc h0 ad e with hl | hl
      · exact .inl hl
      · refine .inr ⟨by omega, by omega, fun e2 => ?_, fun e2 => ?_⟩
        · rcases hat with ha | ha
          · rw [ha] at e2; have := hlp _ e2; omega
          · rw [ha] at e2; injection e2 with e2; omega
        · have := hlk _ e2; omega
  · exact h.kids.chg c8 (fun k hk e => by
      rcases e with e | e
      · exact h.apart k e hk
      · have := (hlk _ hk).1; omega) hzn hz
  · rcases hat with ha | ha
    · exact h.apart k (ha ▸ hk) e
    · rw [ha] at hk; injection hk with hk; have := hlk _ e; omega
  · rcases e with e | e
    · have := (hlp _ e).1; omega
    · omega

/-- one kid more -/
theorem NodeM.kid (h : NodeM lo g bt nm w wr ps ks Ap Ak cp ck) {w7 : World} {o : Obj} {t : TreeD} {v0 v1 v2 : Value} {A' : Option Addr} {c' n' : Nat}
    (ht : TreeZ wr (ZS lo bt wr.heap.size Ap Ak) v0 v1 v2 t) {qs : List (Value × Value × Value)} (hqs : KidsQ wr (ZS lo bt wr.heap.size Ap Ak) ks qs)
    (hn' : n' = ks.length + 1) (hown : Own w7 (bt + 1) 25 3 A' n' c' (kidCells qs ++ [v0, v1, v2]))
    (hgr : (wr.alloc o).grownBy w7 (blkOf Ak)) (hat : blkOf A' = blkOf Ak ∨ blkOf A' = some (wr.alloc o).heap.size) :
    NodeM lo g bt nm w (w7.setCell ⟨bt, 2, none⟩ (.slice A' n' c')) ps (ks ++ [t]) Ap A' cp c' ∧ Chg (fun k => g < k) wr (w7.setCell ⟨bt, 2, none⟩ (.slice A' n' c')) := by
  subst hn'
  obtain ⟨hl, hall⟩ := hqs
  have hg := h.hg
  have hlo := h.hlo
  have hbt := h.hbt
  have hlp := h.props.lt
  have hlk := h.kids.lt
  have hlt := h.box.lt
  have hsz : (wr.alloc o).heap.size = wr.heap.size + 1 := by simp
  rw [hsz] at hat
  obtain ⟨c8, hs8⟩ := row_chg (bt := bt) 2 (.slice A' (ks.length + 1) c') (Chg.refl _ wr) hgr
  have hz : ∀ k, ZS lo bt wr.heap.size Ap Ak k → ZS lo bt (w7.setCell ⟨bt, 2, none⟩ (.slice A' (ks.length + 1) c')).heap.size Ap A' k := fun k hk => by
    rcases hk with hk | ⟨h1, h2, h3, h4⟩
    · exact .inl hk
    · refine .inr ⟨h1, by omega, h3, fun e => ?_⟩
      rcases hat with ha | ha
      · exact h4 (ha ▸ e)
      · rw [ha] at e; injection e with e; omega
  have hne : ∀ k, blkOf A' = some k → k ≠ bt := fun k hk e => by have := (hown.lt k hk).1; omega
  have hzn : ∀ k, ZS lo bt wr.heap.size Ap Ak k → ¬ (blkOf Ak = some k ∨ k = bt) := fun k hk e => by
    rcases hk with hk | ⟨h1, h2, h3, h4⟩
    · rcases e with e | e
      · have := (hlk _ e).1; omega
      · omega
    · rcases e with e | e
      · exact h4 e
      · omega
  refine ⟨⟨h.chg.trans c8 (fun i hi hlt2 => ?_), h.res.chg c8 (fun e => ?_), ?_, hlo, hg, hbt, ?_, ?_, fun k hk e => ?_⟩, c8.mono (fun k e hk => ?_)⟩
  · exfalso
    rcases hi with hi | hi
    · have := (hlk _ hi).1; omega
    · omega
  · rcases e with e | e
    · have := (hlk _ e).1; omega
    · omega
  · have c7 : Chg (fun k => blkOf Ak = some k) wr w7 := ((Chg.refl _ wr).alloc o).grown hgr (fun k hk _ => hk)
    have := (h.box.chg c7 (fun e => by have := (hlk _ e).1; omega)).set_ 2 (.slice A' (ks.length + 1) c')
    simpa using this
  · exact h.props.chg c8 (fun k hk e => by
      rcases e with e | e
      · exact h.apart k hk e
      · have := (hlp _ hk).1; omega) hzn hz
  · exact KidsO.snoc hl (hown.far hne _) (fun i k q hk hq => ((hall i k q hk hq).chg c8 hzn).more hz) ((ht.chg c8 hzn).more hz)
  · rcases hat with ha | ha
    · exact h.apart k hk (ha ▸ e)
    · rw [ha] at e; injection e with e; have := hlp _ hk; omega
  · rcases e with e | e
    · have := (hlk _ e).1; omega
    · omega

/-- the tree that a node under way is -/
theorem NodeM.tree (h : NodeM lo g bt nm w wr ps ks Ap Ak cp ck) (hn : nm.size ≤ 140737488351232) (hp : ps.length ≤ 140737488351232) (hk : ks.length ≤ 140737488351232) :
    TreeZ wr (ZT lo (w.heap.size + 1) wr.heap.size) (.string nm) (.slice Ap ps.length cp) (.slice Ak ks.length ck) (.mk nm ps ks) := by
  have hbt := h.hbt
  exact TreeZ.done hn h.props h.kids hp hk (fun k hk => .inr (by have := h.props.lt k hk; omega)) (fun k hk => .inr (by have := h.kids.lt k hk; omega)) (fun k hk => by
    rcases hk with hk | ⟨h1, h2, _⟩
    · exact .inl hk
    · exact .inr (by omega))
theorem NodeM.tree_out (h : NodeM lo g bt nm w wr ps ks Ap Ak cp ck) (hn : nm.size ≤ 140737488351232) (hp : ps.length ≤ 140737488351232) (hk : ks.length ≤ 140737488351232) {w1 : World} (hc : Chg (fun k => k = w.heap.size) wr w1) :
    TreeZ w1 (ZT lo w.heap.size w1.heap.size) (.string nm) (.slice Ap ps.length cp) (.slice Ak ks.length ck) (.mk nm ps ks) ∧ Chg (fun k => k = g) w w1 := by
  have hg := h.hg
  have hlo := h.hlo
  have hs := hc.size
  refine ⟨((h.tree hn hp hk).chg hc (fun k hk e => ?_)).more (fun k hk => ?_), h.chg.trans hc (fun k hk hlt => by omega)⟩
  · rcases hk with hk | hk <;> omega
  · rcases hk with hk | hk
    · exact .inl hk
    · exact .inr (by omega)
/-- the node is stored as the result -/
theorem NodeM.ret (h : NodeM lo g bt nm w wr ps ks Ap Ak cp ck) {v0 v1 v2 : Value} :
    Blk (((wr.setCell ⟨w.heap.size, 0, none⟩ v0).setCell ⟨w.heap.size, 1, none⟩ v1).setCell ⟨w.heap.size, 2, none⟩ v2) w.heap.size 25 #[v0, v1, v2] ∧
    Chg (fun k => k = w.heap.size) wr (((wr.setCell ⟨w.heap.size, 0, none⟩ v0).setCell ⟨w.heap.size, 1, none⟩ v1).setCell ⟨w.heap.size, 2, none⟩ v2) :=
  ⟨by simpa using ((h.res.set_ 0 v0).set_ 1 v1).set_ 2 v2, by
    have c0 : Chg (fun k => k = w.heap.size) wr wr := Chg.refl _ _
    have c1 := c0.setCell (p := ⟨w.heap.size, 0, none⟩) (fun _ => rfl) v0
    have c2 := c1.setCell (p := ⟨w.heap.size, 1, none⟩) (fun _ => rfl) v1
    exact c2.setCell (p := ⟨w.heap.size, 2, none⟩) (fun _ => rfl) v2⟩
/-- a kid's tree as a node under way wants it -/
theorem NodeM.zt (h : NodeM lo g bt nm w wr ps ks Ap Ak cp ck) {w2 : World} {v0 v1 v2 : Value} {t : TreeD} (ht : TreeZ w2 (ZT lo wr.heap.size w2.heap.size) v0 v1 v2 t) : TreeZ w2 (ZS lo bt w2.heap.size Ap Ak) v0 v1 v2 t := by
  have hlt := h.box.lt
  refine ht.more (fun k hk => ?_)
  rcases hk with hk | ⟨h1, h2⟩
  · exact .inl hk
  · exact .inr ⟨by omega, h2, fun e => by have := (h.props.lt _ e).2; omega, fun e => by have := (h.kids.lt _ e).2; omega⟩
/-- a node that has nothing yet -/
theorem NodeM.start (hc : Chg (fun k => k = g) w wr) (hres : Blk wr w.heap.size 25 #[.string ⟨#[]⟩, .slice none 0 0, .slice none 0 0])
    (hbox : Blk wr bt 25 #[.string nm, .slice none 0 0, .slice none 0 0]) (hlo : lo ≤ g) (hg : g < w.heap.size) (hbt : w.heap.size < bt) : NodeM lo g bt nm w wr [] [] none none 0 0 :=
  ⟨hc, hres, hbox, hlo, hg, hbt, PropsO.nil_ _ _ _, KidsO.nil_ _ _ _, fun k hk => nomatch hk⟩
end

mutual
theorem nodeP_in (b tx : List UInt8) : ∀ (f d p l : Nat) (t : TreeD) (p' l' : Nat), nodeP b tx f d p l = some (t, p', l') → p' ≤ b.length
  | 0, d, p, l, t, p', l', h => by simp [nodeP] at h
  | f + 1, d, p, l, t, p', l', h => by
    simp only [nodeP] at h
    split at h
    · cases h
    · split at h
      · cases h
      · exact loopP_in b tx f _ _ _ _ _ _ _ _ _ h
theorem loopP_in (b tx : List UInt8) : ∀ (f d : Nat) (nm : ByteArray) (ps : List PropD) (ks : List TreeD) (p l : Nat) (t : TreeD) (p' l' : Nat), loopP b tx f d nm ps ks p l = some (t, p', l') → p' ≤ b.length
  | 0, d, nm, ps, ks, p, l, t, p', l', h => by simp [loopP] at h
  | f + 1, d, nm, ps, ks, p, l, t, p', l', h => by
    simp only [loopP] at h
    split at h
    · cases h
    · rename_i x hx
      have hxp := (be32F_lt hx).2
      split at h
      · split at h
        · cases h
        · split at h
          · cases h
          · split at h
            · cases h
            · split at h
              · cases h
              · exact loopP_in b tx f _ _ _ _ _ _ _ _ _ h
      · split at h
        · split at h
          · cases h
          · exact loopP_in b tx f _ _ _ _ _ _ _ _ _ h
        · split at h
          · injection h with h
            injection h with h1 h2
            injection h2 with h2 h3
            omega
          · cases h
end
end Go.Proofs.Ytfmmcjiehpdogaa
