/-
  The reference's cursor reads a node as nodeP does, or notes that it is bad. No condition but the lengths.
-/
import Derived.Test.YtfmmcjiehpdogaaRefText
import Derived.Deep.LoopGhost
import Derived.Test.YtfmmcjiehpdogaaOf
set_option linter.unusedVariables false
set_option linter.unusedSimpArgs false
namespace Go.Proofs.Ytfmmcjiehpdogaa
open Go.RowKit
attribute [local go_sem ↓] Go.wp_at_zero Go.wp_at_succ

/-- what the cursor's 'node' leaves -/
def CNodePost (lo g : Nat) (b tx : List UInt8) (r : Option (TreeD × Nat × Nat)) (w : World) (e : Ending) (w' : World) : Prop :=
  Chg (fun k => k = g) w w' ∧ ∃ (s : ByteArray) (Ap Ak : Option Addr) (np cp nk ck : Nat), e = .returned (.agg #[.string s, .slice Ap np cp, .slice Ak nk ck]) ∧ match r with
    | some (t, p', l') => TreeZ w' (ZT lo w.heap.size w'.heap.size) (.string s) (.slice Ap np cp) (.slice Ak nk ck) t ∧ CurIs w' lo g b tx p' false (l' : Int)
    | none => ∃ p' l', CurIs w' lo g b tx p' true l'
def CNodeOk (b tx : List UInt8) (f : Nat) : Prop := ∀ (d p l g lo : Nat) (w : World), CurIs w lo g b tx p false (l : Int) → b.length + 8 ≤ p + 4 * f → p ≤ b.length + 8 → d ≤ 200 → l ≤ 200 → p % 4 = 0 →
  Calls Try.prog 59 #[.pointer (some ⟨g, 0, none⟩), .int .i64 d] w (CNodePost lo g b tx (nodeP b tx f d p l) w)
/-- the loop's head: so many rounds at most -/
def LoopC (lo : Nat) (b tx : List UInt8) (g bt : Nat) (nm : ByteArray) (r : Option (TreeD × Nat × Nat)) (d f : Nat) (w : World) (n : Nat) (wr : World) : Prop :=
  (∃ (k : Nat) (ps : List PropD) (ks : List TreeD) (Ap Ak : Option Addr) (cp ck p l : Nat), n = k + 1 ∧ k < f ∧ r = loopP b tx k d nm ps ks p l ∧ b.length + 8 ≤ p + 4 * k ∧ p ≤ b.length + 8 ∧ l ≤ 200 ∧ p % 4 = 0 ∧
    ps.length ≤ p ∧ ks.length ≤ p ∧ CurIs wr lo g b tx p false (l : Int) ∧ NodeM lo g bt nm w wr ps ks Ap Ak cp ck) ∨
  (r = none ∧ Chg (fun k => k = g) w wr ∧ (∃ p l, CurIs wr lo g b tx p true l) ∧ Blk wr w.heap.size 25 #[zt0, zt1, zt1] ∧ w.heap.size < bt ∧
    ∃ (s : ByteArray) (Ap Ak : Option Addr) (np cp nk ck : Nat), Blk wr bt 25 #[.string s, .slice Ap np cp, .slice Ak nk ck])
theorem cnode_none {lo g : Nat} {b tx : List UInt8} {r : Option (TreeD × Nat × Nat)} {w w' : World} {s : ByteArray} {Ap Ak : Option Addr} {np cp nk ck p' : Nat} {l' : Int} (hr : r = none) (hc : Chg (fun k => k = g) w w') (hi : CurIs w' lo g b tx p' true l') :
    CNodePost lo g b tx r w (.returned (.agg #[.string s, .slice Ap np cp, .slice Ak nk ck])) w' := by
  subst hr
  exact ⟨hc, _, _, _, _, _, _, _, rfl, _, _, hi⟩

theorem cnode_end {lo g : Nat} {b tx : List UInt8} {r : Option (TreeD × Nat × Nat)} {w W : World} {v0 v1 v2 : Value} {tmps : Array Value} (hp : CNodePost lo g b tx r w (.returned (.agg #[v0, v1, v2])) W) (hB : Blk W w.heap.size 25 #[v0, v1, v2])
    (h4 : tmps[4]? = some (.pointer (some ⟨w.heap.size, 0, none⟩))) : bodyPost Try.prog Try.f59 (CNodePost lo g b tx r w) .ret { tmps := tmps, defers := [] } W := by
  obtain ⟨z0, z1, z2, _⟩ := hB.c3
  exact bodyPost_ret (v := .agg #[v0, v1, v2]) (by simp [results, Try.results59, go_sem, h4, z0, z1, z2]) rfl hp
theorem cnode_bad0 {lo g : Nat} {b tx : List UInt8} {r : Option (TreeD × Nat × Nat)} {w : World} {p : Nat} {l lm : Int} {tmps : Array Value} (hr : r = none) (h : CurIs w lo g b tx p false l) (hlm : lm = l - 1)
    (h4 : tmps[4]? = some (.pointer (some ⟨w.heap.size, 0, none⟩))) : bodyPost Try.prog Try.f59 (CNodePost lo g b tx r w) .ret { tmps := tmps, defers := [] }
      (((w.setCell ⟨g, 4, none⟩ (.int .i64 lm)).setCell ⟨g, 3, none⟩ (.bool true)).alloc (.cells #[zt0, zt1, zt1] 25)).drew := by
  subst hlm
  have c0 : Chg (fun k => k = g) w w := Chg.refl _ _
  have c1 := c0.setCell (p := ⟨g, 4, none⟩) (fun _ => rfl) (.int .i64 (l - 1))
  have c2 := c1.setCell (p := ⟨g, 3, none⟩) (fun _ => rfl) (.bool true)
  refine cnode_end (v0 := zt0) (v1 := zt1) (v2 := zt1) (cnode_none hr ((c2.alloc _).drew) ((((h.setleft (l - 1)).setbad true).alloc _).drew)) ?_ h4
  have := (Blk.made ((w.setCell ⟨g, 4, none⟩ (.int .i64 (l - 1))).setCell ⟨g, 3, none⟩ (.bool true)) 25 #[zt0, zt1, zt1]).drew
  simpa [World.setCell] using this

/-- the end, where the cursor is bad -/
theorem cnode_badend {lo g : Nat} {b tx : List UInt8} {r : Option (TreeD × Nat × Nat)} {w wr : World} {s : ByteArray} {Ap Ak : Option Addr} {np cp nk ck q : Nat} {m : Int} {tmps : Array Value} (hr : r = none) (hch : Chg (fun k => k = g) w wr) (hC : CurIs wr lo g b tx q true m) (hg : g < w.heap.size)
    (hres : Blk wr w.heap.size 25 #[zt0, zt1, zt1]) (h4 : tmps[4]? = some (.pointer (some ⟨w.heap.size, 0, none⟩))) :
    bodyPost Try.prog Try.f59 (CNodePost lo g b tx r w) .ret { tmps := tmps, defers := [] } (((wr.setCell ⟨w.heap.size, 0, none⟩ (.string s)).setCell ⟨w.heap.size, 1, none⟩ (.slice Ap np cp)).setCell ⟨w.heap.size, 2, none⟩ (.slice Ak nk ck)) := by
  have c0 : Chg (fun k => k = w.heap.size) wr wr := Chg.refl _ _
  have c1 := c0.setCell (p := ⟨w.heap.size, 0, none⟩) (fun _ => rfl) (.string s)
  have c2 := c1.setCell (p := ⟨w.heap.size, 1, none⟩) (fun _ => rfl) (.slice Ap np cp)
  have c3 := c2.setCell (p := ⟨w.heap.size, 2, none⟩) (fun _ => rfl) (.slice Ak nk ck)
  have hB := ((hres.set_ 0 (.string s)).set_ 1 (.slice Ap np cp)).set_ 2 (.slice Ak nk ck)
  simp only [List.setIfInBounds_toArray, List.set_cons_zero, List.set_cons_succ] at hB
  exact cnode_end (cnode_none hr (hch.trans c3 (fun k hk hlt => by omega)) (hC.chg c3 (fun k hk e => by omega))) hB h4
/-- the end, where the node is read -/
theorem cnode_goodend {lo g bt : Nat} {b tx : List UInt8} {r : Option (TreeD × Nat × Nat)} {nm : ByteArray} {w wr : World} {ps : List PropD} {ks : List TreeD} {Ap Ak : Option Addr} {cp ck p' l' : Nat} {tmps : Array Value} (hr : r = some (.mk nm ps ks, p', l'))
    (hN : NodeM lo g bt nm w wr ps ks Ap Ak cp ck) (hC : CurIs wr lo g b tx p' false (l' : Int)) (hnm : nm.size ≤ 140737488351232) (hp : ps.length ≤ 140737488351232) (hk : ks.length ≤ 140737488351232) (h4 : tmps[4]? = some (.pointer (some ⟨w.heap.size, 0, none⟩))) :
    bodyPost Try.prog Try.f59 (CNodePost lo g b tx r w) .ret { tmps := tmps, defers := [] } (((wr.setCell ⟨w.heap.size, 0, none⟩ (.string nm)).setCell ⟨w.heap.size, 1, none⟩ (.slice Ap ps.length cp)).setCell ⟨w.heap.size, 2, none⟩ (.slice Ak ks.length ck)) := by
  subst hr
  have hg := hN.hg
  obtain ⟨hB, hc⟩ := hN.ret (v0 := .string nm) (v1 := .slice Ap ps.length cp) (v2 := .slice Ak ks.length ck)
  obtain ⟨ht, hch⟩ := hN.tree_out hnm hp hk hc
  exact cnode_end ⟨hch, _, _, _, _, _, _, _, rfl, ht, hC.chg hc (fun k hk e => by omega)⟩ hB h4
/-- the loop's head, where the cursor is bad -/
theorem loopc_bad {lo : Nat} {b tx : List UInt8} {g bt : Nat} {nm : ByteArray} {r : Option (TreeD × Nat × Nat)} {d f n q : Nat} {m : Int} {w wr : World} {s : ByteArray} {Ap Ak : Option Addr} {np cp nk ck : Nat} (hr : r = none) (hch : Chg (fun k => k = g) w wr) (hC : CurIs wr lo g b tx q true m)
    (hres : Blk wr w.heap.size 25 #[zt0, zt1, zt1]) (hbt : w.heap.size < bt) (hbox : Blk wr bt 25 #[.string s, .slice Ap np cp, .slice Ak nk ck]) : LoopC lo b tx g bt nm r d f w n wr :=
  .inr ⟨hr, hch, ⟨q, m, hC⟩, hres, hbt, _, _, _, _, _, _, _, hbox⟩
/-- noting that it is bad -/
theorem loopc_setbad {lo : Nat} {b tx : List UInt8} {g bt : Nat} {nm : ByteArray} {r : Option (TreeD × Nat × Nat)} {d f n q : Nat} {m : Int} {bad : Bool} {w wr : World} {ps : List PropD} {ks : List TreeD} {Ap Ak : Option Addr} {cp ck : Nat} (hr : r = none) (hN : NodeM lo g bt nm w wr ps ks Ap Ak cp ck)
    (hC : CurIs wr lo g b tx q bad m) : LoopC lo b tx g bt nm r d f w n (wr.setCell ⟨g, 3, none⟩ (.bool true)) := by
  have hg := hN.hg
  have hbt := hN.hbt
  have c0 : Chg (fun k => k = g) wr wr := Chg.refl _ _
  have hN2 := hN.go_ (c0.setCell (p := ⟨g, 3, none⟩) (fun _ => rfl) (.bool true))
  exact loopc_bad hr hN2.chg (hC.setbad true) hN2.res hbt hN2.box

/-- a kid that was not read is appended -/
theorem NodeM.rowbad {lo g bt : Nat} {nm : ByteArray} {w wr : World} {ps : List PropD} {ks : List TreeD} {Ap Ak : Option Addr} {cp ck : Nat} (h : NodeM lo g bt nm w wr ps ks Ap Ak cp ck) {w7 : World} {o : Obj} (A' : Option Addr) (n' c' : Nat) (hgr : (wr.alloc o).grownBy w7 (blkOf Ak)) :
    Chg (fun k => k = g) w (w7.setCell ⟨bt, 2, none⟩ (.slice A' n' c')) ∧ Chg (fun k => g < k) wr (w7.setCell ⟨bt, 2, none⟩ (.slice A' n' c')) ∧ Blk (w7.setCell ⟨bt, 2, none⟩ (.slice A' n' c')) w.heap.size 25 #[zt0, zt1, zt1] ∧
      Blk (w7.setCell ⟨bt, 2, none⟩ (.slice A' n' c')) bt 25 #[.string nm, .slice Ap ps.length cp, .slice A' n' c'] := by
  have hg := h.hg
  have hbt := h.hbt
  have hlk := h.kids.lt
  obtain ⟨c8, hs8⟩ := row_chg (bt := bt) 2 (.slice A' n' c') (Chg.refl _ wr) hgr
  refine ⟨h.chg.trans c8 (fun i hi hlt2 => ?_), c8.mono (fun k e hk => ?_), h.res.chg c8 (fun e => ?_), ?_⟩
  · exfalso
    rcases hi with hi | hi
    · have := (hlk _ hi).1; omega
    · omega
  · rcases e with e | e
    · have := (hlk _ e).1; omega
    · omega
  · rcases e with e | e
    · have := (hlk _ e).1; omega
    · omega
  · have c7 : Chg (fun k => blkOf Ak = some k) wr w7 := ((Chg.refl _ wr).alloc o).grown hgr (fun k hk _ => hk)
    have := (h.box.chg c7 (fun e => by have := (hlk _ e).1; omega)).set_ 2 (.slice A' n' c')
    simpa using this

theorem KidsQ.new_ {w w1 : World} {Z Z' : Nat → Prop} {ks : List TreeD} {qs : List (Value × Value × Value)} (h : KidsQ w Z ks qs) (hc : New w w1) (hz : ∀ k, Z k → Z' k) : KidsQ w1 Z' ks qs := ⟨h.1, fun i k q hk hq => ((h.2 i k q hk hq).new_ hc).more hz⟩

theorem rtext_some {A : Option Addr} {n c : Nat} {b : List UInt8} (w : World) (hr : Rd w 1 A n (b.map bv)) (hn : n ≤ 140737488351232) (hc : n ≤ c) :
    Calls Try.prog 92 #[.slice A n c, .int .i64 0] w fun e w' => ∃ S is, e = .returned (.tuple #[.string S, .bool is]) ∧ w = w' := by
  have h := rtext_any A n c b 0 w hr hn (by omega) hc
  rw [show ((0 : Nat) : Int) = 0 from rfl] at h
  refine h.mono fun e w' h => ?_
  obtain ⟨h1, h2⟩ := h
  cases ht : textP b 0 with
  | none => rw [ht] at h2; exact ⟨_, _, h2, h1⟩
  | some s => rw [ht] at h2; exact ⟨_, _, h2, h1⟩

mutual
theorem nodeP_mod (b tx : List UInt8) : ∀ (f d p l : Nat) (t : TreeD) (p' l' : Nat), p % 4 = 0 → nodeP b tx f d p l = some (t, p', l') → p' % 4 = 0
  | 0, d, p, l, t, p', l', h4, h => by simp [nodeP] at h
  | f + 1, d, p, l, t, p', l', h4, h => by
    simp only [nodeP] at h
    split at h
    · cases h
    · split at h
      · cases h
      · exact loopP_mod b tx f _ _ _ _ _ _ _ _ _ (by omega) h
theorem loopP_mod (b tx : List UInt8) : ∀ (f d : Nat) (nm : ByteArray) (ps : List PropD) (ks : List TreeD) (p l : Nat) (t : TreeD) (p' l' : Nat), p % 4 = 0 → loopP b tx f d nm ps ks p l = some (t, p', l') → p' % 4 = 0
  | 0, d, nm, ps, ks, p, l, t, p', l', h4, h => by simp [loopP] at h
  | f + 1, d, nm, ps, ks, p, l, t, p', l', h4, h => by
    simp only [loopP] at h
    split at h
    · cases h
    · split at h
      · split at h
        · cases h
        · split at h
          · cases h
          · split at h
            · cases h
            · split at h
              · cases h
              · exact loopP_mod b tx f _ _ _ _ _ _ _ _ _ (by omega) h
      · split at h
        · split at h
          · cases h
          · rename_i t2 p2 l2 hn
            exact loopP_mod b tx f _ _ _ _ _ _ _ _ _ (nodeP_mod b tx f _ _ _ _ _ _ (by omega) hn) h
        · split at h
          · injection h with h
            injection h with h1 h2
            injection h2 with h2 h3
            omega
          · cases h
end

set_option maxRecDepth 100000 in
set_option maxHeartbeats 8000000 in
theorem cnode_walk (b tx : List UInt8) (hb : b.length ≤ 1099511620000) (htx : tx.length ≤ 1099511627776) (f : Nat) : CNodeOk b tx f := by
  induction f using Nat.strongRecOn with
  | _ f ih =>
  intro d p l g lo w h hfu hpb hd hl hp4
  have h0 := h.alloc (.cells #[zt0, zt1, zt1] 25)
  have HR := Lib.hid h
  have HR0 := Lib.hid h0
  have hbx0 := Lib.hid (Blk.made w 25 #[zt0, zt1, zt1])
  obtain ⟨Ab, cb, At, ct, x0, x1, x2, x3, x4, x5, x6, x7, x8, x9, x10, x11, x12, x13, x14⟩ := h.cells
  have hw0 : Chg (fun k => k = g) w (w.alloc (.cells #[zt0, zt1, zt1] 25)) := (Chg.refl _ _).alloc _
  have F := Lib.hid (rtext_any Ab b.length cb b p (w.alloc (.cells #[zt0, zt1, zt1] 25)).drew ((x9.alloc _).drew) (by omega) (by omega) x11)
  clear h h0 x9 x10
  cases ht : textP b p with
  | none =>
    have HN := Lib.hid (nodeP_notext b tx f d p l ht)
    rw [ht] at F
    clear ht
    go_enter Try.func59, Try.ntmps59
    go_wp2_with fail
    go_region_held3 (fun wx => wx.cell? ⟨g, 0, none⟩ = some (.slice Ab b.length cb) ∧ wx.cell? ⟨g, 2, none⟩ = some (.int .i64 (p : Int))) (first | exact ⟨‹_›, ‹_›⟩ | go_keep) (first
      | (go_at_call 92; (with_reducible refine F.out.mono ?_); rintro e w' ⟨rfl, rfl⟩))
    go_wp2_with fail
    exact cnode_bad0 HN.out HR.out rfl (by rfl)
  | some nm =>
    obtain ⟨t1, t2, t3, t4⟩ := textP_some ht
    have HT := Lib.hid ht
    rw [ht] at F
    obtain ⟨L, hL⟩ : ∃ L, nm.length = L := ⟨_, rfl⟩
    have HL := Lib.hid hL
    rw [hL] at t1
    have hsz : (⟨nm.toArray⟩ : ByteArray).size = L := by rw [← hL]; rfl
    obtain ⟨nms, hnms⟩ : ∃ s : ByteArray, ⟨nm.toArray⟩ = s := ⟨_, rfl⟩
    rw [hnms] at hsz
    have HNMS := Lib.hid hnms
    have HSZ := Lib.hid hsz
    have F : Hid (Calls Try.prog 92 #[.slice Ab b.length cb, .int .i64 p] (w.alloc (.cells #[zt0, zt1, zt1] 25)).drew fun e w' => (w.alloc (.cells #[zt0, zt1, zt1] 25)).drew = w' ∧ e = .returned (.tuple #[.string nms, .bool true])) := by
      refine Lib.hid (F.out.mono fun e w' h => ?_)
      obtain ⟨h1, h2⟩ := h
      exact ⟨h1, by rw [h2, hnms]⟩
    clear ht t2 t3 t4 hL hnms hsz
    by_cases hbad : 8 < d ∨ l = 0
    · have HN := Lib.hid (nodeP_bad b tx f d p l hbad)
      rcases hbad with hd8 | hl0
      · have hd8' : (8 : Int) < (d : Int) := by omega
        go_enter Try.func59, Try.ntmps59
        go_wp2_with fail
        go_region_held3 (fun wx => wx.cell? ⟨g, 0, none⟩ = some (.slice Ab b.length cb) ∧ wx.cell? ⟨g, 2, none⟩ = some (.int .i64 (p : Int))) (first | exact ⟨‹_›, ‹_›⟩ | go_keep) (first
          | (go_at_call 92; (with_reducible refine F.out.mono ?_); rintro e w' ⟨rfl, rfl⟩))
        go_wp2_with fail
        exact cnode_bad0 HN.out HR.out rfl (by rfl)
      · subst hl0
        by_cases hd8 : 8 < d
        · have hd8' : (8 : Int) < (d : Int) := by omega
          go_enter Try.func59, Try.ntmps59
          go_wp2_with fail
          go_region_held3 (fun wx => wx.cell? ⟨g, 0, none⟩ = some (.slice Ab b.length cb) ∧ wx.cell? ⟨g, 2, none⟩ = some (.int .i64 (p : Int))) (first | exact ⟨‹_›, ‹_›⟩ | go_keep) (first
            | (go_at_call 92; (with_reducible refine F.out.mono ?_); rintro e w' ⟨rfl, rfl⟩))
          go_wp2_with fail
          exact cnode_bad0 HN.out HR.out (by rfl) (by rfl)
        · have hd8' : (d : Int) ≤ 8 := by omega
          go_enter Try.func59, Try.ntmps59
          go_wp2_with fail
          go_region_held3 (fun wx => wx.cell? ⟨g, 0, none⟩ = some (.slice Ab b.length cb) ∧ wx.cell? ⟨g, 2, none⟩ = some (.int .i64 (p : Int))) (first | exact ⟨‹_›, ‹_›⟩ | go_keep) (first
            | (go_at_call 92; (with_reducible refine F.out.mono ?_); rintro e w' ⟨rfl, rfl⟩))
          go_wp2_with fail
          exact cnode_bad0 HN.out HR.out (by rfl) (by rfl)
    · have hd8 : (d : Int) ≤ 8 := by omega
      have hl1 : (1 : Int) ≤ (l : Int) := by omega
      have e4 : ((p : Int) + (L : Int) + 4).tdiv 4 * 4 = ((p + (L + 4) / 4 * 4 : Nat) : Int) := by rw [Int.tdiv_eq_ediv_of_nonneg (by omega)]; omega
      have HSZ2 := HSZ.out
      go_enter Try.func59, Try.ntmps59
      go_wp2_with fail
      go_region_held3 (fun wx => wx.cell? ⟨g, 0, none⟩ = some (.slice Ab b.length cb) ∧ wx.cell? ⟨g, 2, none⟩ = some (.int .i64 (p : Int))) (first | exact ⟨‹_›, ‹_›⟩ | go_keep) (first
        | (go_at_call 92; (with_reducible refine F.out.mono ?_); rintro e w' ⟨rfl, rfl⟩))
      go_wp2_with fail
      obtain ⟨f1, rfl⟩ : ∃ f1, f = f1 + 1 := ⟨f - 1, by have := t1; omega⟩
      have hstart : nodeP b tx (f1 + 1) d p l = loopP b tx f1 d nms [] [] (p + (L + 4) / 4 * 4) (l - 1) := by
        simp only [nodeP, HT.out]
        rw [if_neg hbad, HNMS.out, HL.out]
      have HST := Lib.hid hstart
      have hnm : nms.size ≤ 140737488351232 := by have := HSZ.out; omega
      clear hstart e4 HSZ2 F hw0 x0 x1 x2 x3 x4 x5 x6 x7
      go_loopg [] (f1 + 1) (fun n wr => LoopC lo b tx g (w.heap.size + 1) nms (nodeP b tx (f1 + 1) d p l) d (f1 + 1) w n wr)
      case atStart =>
        have e5 : (p : Int) + ((L : Int) / 4 + 1) * 4 = ((p + (L + 4) / 4 * 4 : Nat) : Int) := by omega
        have e6 : (l : Int) - 1 = ((l - 1 : Nat) : Int) := by omega
        rw [e5, e6]
        have c0 : Chg (fun k => k = g) w w := Chg.refl _ _
        have c1 := c0.setCell (p := ⟨g, 4, none⟩) (fun _ => rfl) (.int .i64 ((l - 1 : Nat) : Int))
        have c2 := c1.setCell (p := ⟨g, 2, none⟩) (fun _ => rfl) (.int .i64 ((p + (L + 4) / 4 * 4 : Nat) : Int))
        have b1 := Blk.made ((w.setCell ⟨g, 4, none⟩ (.int .i64 ((l - 1 : Nat) : Int))).setCell ⟨g, 2, none⟩ (.int .i64 ((p + (L + 4) / 4 * 4 : Nat) : Int))) 25 #[zt0, zt1, zt1]
        have b2 := Blk.made (((w.setCell ⟨g, 4, none⟩ (.int .i64 ((l - 1 : Nat) : Int))).setCell ⟨g, 2, none⟩ (.int .i64 ((p + (L + 4) / 4 * 4 : Nat) : Int))).alloc (.cells #[zt0, zt1, zt1] 25)) 25 #[.string nms, .slice none 0 0, .slice none 0 0]
        have s1 : ((w.setCell ⟨g, 4, none⟩ (.int .i64 ((l - 1 : Nat) : Int))).setCell ⟨g, 2, none⟩ (.int .i64 ((p + (L + 4) / 4 * 4 : Nat) : Int))).heap.size = w.heap.size := by simp [World.setCell]
        have s2 : (((w.setCell ⟨g, 4, none⟩ (.int .i64 ((l - 1 : Nat) : Int))).setCell ⟨g, 2, none⟩ (.int .i64 ((p + (L + 4) / 4 * 4 : Nat) : Int))).alloc (.cells #[zt0, zt1, zt1] 25)).heap.size = w.heap.size + 1 := by simp [World.setCell]
        rw [s1] at b1
        rw [s2] at b2
        refine .inl ⟨f1, [], [], none, none, 0, 0, p + (L + 4) / 4 * 4, l - 1, rfl, by omega, HST.out, by omega, by omega, by omega, by omega, by simp, by simp, ((((HR.out.setleft _).setat _).alloc _).alloc _).drew, ?_⟩
        exact NodeM.start (((c2.alloc _).alloc _).drew) ((b1.alloc _).drew) b2.drew x14 x8 (by omega)
      case round =>
        rcases hrel with ⟨k, ps, ks, Ap, Ak, cp, ck, q, m, rfl, hk, hr, hfu2, hqb, hm, hq4, hps, hks, hC, hN⟩ | ⟨hr, hch, ⟨q, m, hC⟩, hres, hbt, s, Ap, Ak, np, cp, nk, ck, hbox⟩
        · have HRr := Lib.hid hr
          have F1 := Lib.hid (cur_four lo g b tx q false m wr hC (by omega) (by omega))
          obtain ⟨Ab1, cb1, At1, ct1, y0, y1, y2, y3, y4, y5, y6, y7, y8, y9, y10, y11, y12, y13, y14⟩ := hC.cells
          have HN1 := Lib.hid hN
          clear hr hC hN y9 y10 y0 y1 y2 y4 y5 y6 y7
          cases hb1 : be32F b q with
          | none =>
            have HN := Lib.hid (show nodeP b tx (f1 + 1) d p l = none by rw [HRr.out]; cases k <;> simp [loopP, hb1])
            rw [hb1] at F1
            clear hb1
            go_wp2_with (go_at_call 58; (with_reducible refine F1.out.mono ?_); rintro e w2 ⟨hc2, hj, rfl, hC2⟩; clear hj
                         obtain ⟨_, _, _, _, _, _, _, v3, _, _, v6, _, v8, _⟩ := hC2.cells)
            go_roundg 0
            case measure => omega
            case rel => exact loopc_setbad HN.out (HN1.out.go_ hc2) hC2
          | some v =>
            obtain ⟨hv, hvp⟩ := be32F_lt hb1
            obtain ⟨k1, rfl⟩ : ∃ k1, k = k1 + 1 := ⟨k - 1, by omega⟩
            have HRs := HRr.out
            simp only [loopP, hb1] at HRs
            rw [hb1] at F1
            clear hb1 HRr
            by_cases h3 : v = 3
            · subst h3
              rw [if_pos rfl] at HRs
              have HR1 := Lib.hid HRs
              clear HRs hv
              go_wp2_with (go_at_call 58; (with_reducible refine F1.out.mono ?_); rintro e w2 ⟨hc2, hj, rfl, hC2⟩; clear hj
                           have hN2 := HN1.out.go_ hc2
                           have F2 := Lib.hid (cur_four lo g b tx (q + 4) false m w2 hC2 (by omega) (by omega))
                           have HN2 := Lib.hid hN2
                           clear hc2 hC2 hN2)
              cases hb2 : be32F b (q + 4) with
              | none =>
                have HN := Lib.hid (show nodeP b tx (f1 + 1) d p l = none by rw [HR1.out, hb2])
                have HB2 := Lib.hid hb2
                rw [hb2] at F2
                clear hb2 HR1
                go_wp2_with (go_at_call 58; (with_reducible refine F2.out.mono ?_); rintro e w3 ⟨hc3, hj, rfl, hC3⟩; clear hj
                             have F3 := cur_four lo g b tx (q + 4) true m w3 hC3 (by omega) (by omega)
                             rw [HB2.out] at F3
                             have F3 := Lib.hid F3
                             have HN3 := Lib.hid (HN2.out.go_ hc3)
                             clear hc3 hC3)
                go_wp2_with (go_at_call 58; (with_reducible refine F3.out.mono ?_); rintro e w4 ⟨hc4, hj, rfl, hC4⟩; clear hj
                             have HN4 := Lib.hid (And.intro (HN3.out.go_ hc4) hC4)
                             obtain ⟨Ab4, cb4, At4, ct4, v0, v1, v2, v3, v4, v5, v6, v7, v8, v9, v10, v11, v12, v13, v14⟩ := hC4.cells
                             have F6 := Lib.hid (rtext_some w4 v10 (by omega) v12)
                             clear hc4 hC4 v9 v10)
                go_wp2_with (go_at_call 92; (with_reducible refine F6.out.mono ?_); rintro e w5 ⟨S, is, rfl, rfl⟩)
                refine wp_region_held_drew (S := fun wx => wx.cell? ⟨g, 3, none⟩ = some (.bool true)) (by kernel_rfl) v3 (fun hHeld => ?_)
                refine wpAnyH_take (i := 0) (v := ?_) rfl (by kernel_rfl) (by kernel_rfl) (by kernel_rfl) (fun _ _ _ h => h) (Or.inl ⟨by rfl, ?_⟩) (by assumption) ?_
                rotate_left
                · intro w hSw; (try dsimp only at hSw); go_simp
                  try with_reducible rfl
                try simp only [Act.put, List.getElem_toArray, List.getElem_cons_zero, List.getElem_cons_succ, List.setIfInBounds_toArray, List.set_cons_zero, List.set_cons_succ]
                refine wpAnyH_take (i := 1) (v := ?_) rfl (by kernel_rfl) (by kernel_rfl) (by kernel_rfl) (fun _ _ _ h => h) (Or.inl ⟨by rfl, ?_⟩) (by assumption) ?_
                rotate_left
                · intro w hSw; (try dsimp only at hSw); go_simp
                  try with_reducible rfl
                try simp only [Act.put, List.getElem_toArray, List.getElem_cons_zero, List.getElem_cons_succ, List.setIfInBounds_toArray, List.set_cons_zero, List.set_cons_succ]
                refine wpAnyH_take (i := 2) (v := ?_) rfl (by kernel_rfl) (by kernel_rfl) (by kernel_rfl) (fun _ _ _ h => h) (Or.inl ⟨by rfl, ?_⟩) (by assumption) ?_
                rotate_left
                · intro w hSw; (try dsimp only at hSw); go_simp
                  try with_reducible rfl
                try simp only [Act.put, List.getElem_toArray, List.getElem_cons_zero, List.getElem_cons_succ, List.setIfInBounds_toArray, List.set_cons_zero, List.set_cons_succ]
                refine wpAnyH_take (i := 3) (v := ?_) rfl (by kernel_rfl) (by kernel_rfl) (by kernel_rfl) (fun _ _ _ h => h) (Or.inl ⟨by rfl, ?_⟩) (by assumption) ?_
                rotate_left
                · intro w hSw; (try dsimp only at hSw); go_simp
                  try with_reducible rfl
                try simp only [Act.put, List.getElem_toArray, List.getElem_cons_zero, List.getElem_cons_succ, List.setIfInBounds_toArray, List.set_cons_zero, List.set_cons_succ]
                refine wpAnyH_take (i := 4) (v := ?_) rfl (by kernel_rfl) (by kernel_rfl) (by kernel_rfl) (fun _ _ _ h => h) (Or.inl ⟨by rfl, ?_⟩) (by assumption) ?_
                rotate_left
                · intro w hSw; (try dsimp only at hSw); go_simp
                  try with_reducible rfl
                try simp only [Act.put, List.getElem_toArray, List.getElem_cons_zero, List.getElem_cons_succ, List.setIfInBounds_toArray, List.set_cons_zero, List.set_cons_succ]
                refine wpAnyH_take (i := 5) (v := undef) rfl (by kernel_rfl) (by kernel_rfl) (by kernel_rfl) (fun _ _ _ h => h) (Or.inr ⟨by rfl, rfl⟩) (by assumption) ?_
                try simp only [Act.put, List.getElem_toArray, List.getElem_cons_zero, List.getElem_cons_succ, List.setIfInBounds_toArray, List.set_cons_zero, List.set_cons_succ]
                refine wpAnyH_take (i := 6) (v := undef) rfl (by kernel_rfl) (by kernel_rfl) (by kernel_rfl) (fun _ _ _ h => h) (Or.inr ⟨by rfl, rfl⟩) (by assumption) ?_
                try simp only [Act.put, List.getElem_toArray, List.getElem_cons_zero, List.getElem_cons_succ, List.setIfInBounds_toArray, List.set_cons_zero, List.set_cons_succ]
                refine wpAnyH_take (i := 7) (v := ?_) rfl (by kernel_rfl) (by kernel_rfl) (by kernel_rfl) (fun _ _ _ h => h) (Or.inl ⟨by rfl, ?_⟩) (by assumption) ?_
                rotate_left
                · intro w hSw; (try dsimp only at hSw); go_simp
                  try with_reducible rfl
                try simp only [Act.put, List.getElem_toArray, List.getElem_cons_zero, List.getElem_cons_succ, List.setIfInBounds_toArray, List.set_cons_zero, List.set_cons_succ]
                refine wpAnyH_take (i := 8) (v := ?_) rfl (by kernel_rfl) (by kernel_rfl) (by kernel_rfl) (fun _ _ _ h => h) (Or.inl ⟨by rfl, ?_⟩) (by assumption) ?_
                rotate_left
                · intro w hSw; (try dsimp only at hSw); go_simp
                  try with_reducible rfl
                try simp only [Act.put, List.getElem_toArray, List.getElem_cons_zero, List.getElem_cons_succ, List.setIfInBounds_toArray, List.set_cons_zero, List.set_cons_succ]
                refine wpAnyH_take (i := 9) (v := undef) rfl (by kernel_rfl) (by kernel_rfl) (by kernel_rfl) (fun _ _ _ h => h) (Or.inr ⟨by rfl, rfl⟩) (by assumption) ?_
                try simp only [Act.put, List.getElem_toArray, List.getElem_cons_zero, List.getElem_cons_succ, List.setIfInBounds_toArray, List.set_cons_zero, List.set_cons_succ]
                refine wpAnyH_take (i := 10) (v := undef) rfl (by kernel_rfl) (by kernel_rfl) (by kernel_rfl) (fun _ _ _ h => h) (Or.inr ⟨by rfl, rfl⟩) (by assumption) ?_
                try simp only [Act.put, List.getElem_toArray, List.getElem_cons_zero, List.getElem_cons_succ, List.setIfInBounds_toArray, List.set_cons_zero, List.set_cons_succ]
                refine wpAnyH_take (i := 11) (v := ?_) rfl (by kernel_rfl) (by kernel_rfl) (by kernel_rfl) (fun _ _ _ h => h) (Or.inl ⟨by rfl, ?_⟩) (by assumption) ?_
                rotate_left
                · intro w hSw; (try dsimp only at hSw); go_simp
                  try with_reducible rfl
                try simp only [Act.put, List.getElem_toArray, List.getElem_cons_zero, List.getElem_cons_succ, List.setIfInBounds_toArray, List.set_cons_zero, List.set_cons_succ]
                refine wpAnyH_take (i := 12) (v := ?_) rfl (by kernel_rfl) (by kernel_rfl) (by kernel_rfl) (fun _ _ _ h => h) (Or.inl ⟨by rfl, ?_⟩) (by assumption) ?_
                rotate_left
                · intro w hSw; (try dsimp only at hSw); go_simp
                  try with_reducible rfl
                try simp only [Act.put, List.getElem_toArray, List.getElem_cons_zero, List.getElem_cons_succ, List.setIfInBounds_toArray, List.set_cons_zero, List.set_cons_succ]
                refine wpAnyH_take (i := 13) (v := undef) rfl (by kernel_rfl) (by kernel_rfl) (by kernel_rfl) (fun _ _ _ h => h) (Or.inr ⟨by rfl, rfl⟩) (by assumption) ?_
                try simp only [Act.put, List.getElem_toArray, List.getElem_cons_zero, List.getElem_cons_succ, List.setIfInBounds_toArray, List.set_cons_zero, List.set_cons_succ]
                refine wpAnyH_take (i := 14) (v := undef) rfl (by kernel_rfl) (by kernel_rfl) (by kernel_rfl) (fun _ _ _ h => h) (Or.inr ⟨by rfl, rfl⟩) (by assumption) ?_
                try simp only [Act.put, List.getElem_toArray, List.getElem_cons_zero, List.getElem_cons_succ, List.setIfInBounds_toArray, List.set_cons_zero, List.set_cons_succ]
                refine wpAnyH_take (i := 15) (v := undef) rfl (by kernel_rfl) (by kernel_rfl) (by kernel_rfl) (fun _ _ _ h => h) (Or.inr ⟨by rfl, rfl⟩) (by assumption) ?_
                try simp only [Act.put, List.getElem_toArray, List.getElem_cons_zero, List.getElem_cons_succ, List.setIfInBounds_toArray, List.set_cons_zero, List.set_cons_succ]
                refine wpAnyH_take (i := 16) (v := undef) rfl (by kernel_rfl) (by kernel_rfl) (by kernel_rfl) (fun _ _ _ h => h) (Or.inr ⟨by rfl, rfl⟩) (by assumption) ?_
                try simp only [Act.put, List.getElem_toArray, List.getElem_cons_zero, List.getElem_cons_succ, List.setIfInBounds_toArray, List.set_cons_zero, List.set_cons_succ]
                refine wpAnyH_take (i := 17) (v := undef) rfl (by kernel_rfl) (by kernel_rfl) (by kernel_rfl) (fun _ _ _ h => h) (Or.inr ⟨by rfl, rfl⟩) (by assumption) ?_
                try simp only [Act.put, List.getElem_toArray, List.getElem_cons_zero, List.getElem_cons_succ, List.setIfInBounds_toArray, List.set_cons_zero, List.set_cons_succ]
                refine wpAnyH_take (i := 18) (v := undef) rfl (by kernel_rfl) (by kernel_rfl) (by kernel_rfl) (fun _ _ _ h => h) (Or.inr ⟨by rfl, rfl⟩) (by assumption) ?_
                try simp only [Act.put, List.getElem_toArray, List.getElem_cons_zero, List.getElem_cons_succ, List.setIfInBounds_toArray, List.set_cons_zero, List.set_cons_succ]
                refine wpAnyH_take (i := 19) (v := undef) rfl (by kernel_rfl) (by kernel_rfl) (by kernel_rfl) (fun _ _ _ h => h) (Or.inr ⟨by rfl, rfl⟩) (by assumption) ?_
                try simp only [Act.put, List.getElem_toArray, List.getElem_cons_zero, List.getElem_cons_succ, List.setIfInBounds_toArray, List.set_cons_zero, List.set_cons_succ]
                refine wpAnyH_take (i := 20) (v := undef) rfl (by kernel_rfl) (by kernel_rfl) (by kernel_rfl) (fun _ _ _ h => h) (Or.inr ⟨by rfl, rfl⟩) (by assumption) ?_
                try simp only [Act.put, List.getElem_toArray, List.getElem_cons_zero, List.getElem_cons_succ, List.setIfInBounds_toArray, List.set_cons_zero, List.set_cons_succ]
                refine wpAnyH_take (i := 21) (v := undef) rfl (by kernel_rfl) (by kernel_rfl) (by kernel_rfl) (fun _ _ _ h => h) (Or.inr ⟨by rfl, rfl⟩) (by assumption) ?_
                try simp only [Act.put, List.getElem_toArray, List.getElem_cons_zero, List.getElem_cons_succ, List.setIfInBounds_toArray, List.set_cons_zero, List.set_cons_succ]
                refine wpAnyH_take (i := 22) (v := undef) rfl (by kernel_rfl) (by kernel_rfl) (by kernel_rfl) (fun _ _ _ h => h) (Or.inr ⟨by rfl, rfl⟩) (by assumption) ?_
                try simp only [Act.put, List.getElem_toArray, List.getElem_cons_zero, List.getElem_cons_succ, List.setIfInBounds_toArray, List.set_cons_zero, List.set_cons_succ]
                refine wpAnyH_take (i := 23) (v := undef) rfl (by kernel_rfl) (by kernel_rfl) (by kernel_rfl) (fun _ _ _ h => h) (Or.inr ⟨by rfl, rfl⟩) (by assumption) ?_
                try simp only [Act.put, List.getElem_toArray, List.getElem_cons_zero, List.getElem_cons_succ, List.setIfInBounds_toArray, List.set_cons_zero, List.set_cons_succ]
                refine wpAnyH_take (i := 24) (v := undef) rfl (by kernel_rfl) (by kernel_rfl) (by kernel_rfl) (fun _ _ _ h => h) (Or.inr ⟨by rfl, rfl⟩) (by assumption) ?_
                try simp only [Act.put, List.getElem_toArray, List.getElem_cons_zero, List.getElem_cons_succ, List.setIfInBounds_toArray, List.set_cons_zero, List.set_cons_succ]
                refine wpAnyH_take (i := 25) (v := ?_) rfl (by kernel_rfl) (by kernel_rfl) (by kernel_rfl) (fun _ _ _ h => h) (Or.inl ⟨by rfl, ?_⟩) (by assumption) ?_
                rotate_left
                · intro w hSw; (try dsimp only at hSw); go_simp
                  try with_reducible rfl
                try simp only [Act.put, List.getElem_toArray, List.getElem_cons_zero, List.getElem_cons_succ, List.setIfInBounds_toArray, List.set_cons_zero, List.set_cons_succ]
                clear hHeld
                obtain ⟨hN4, hC4⟩ := HN4.out
                obtain ⟨x0, x1, x2, x3, x4, x5⟩ := hN4.box.c3
                obtain ⟨y0, y1, y2, y3, y4, y5⟩ := hN4.res.c3
                have hbt4 := hN4.box.lt
                have hg4 := hN4.hg
                clear hN4 hC4
                refine wpAnyH_done (by kernel_rfl) ?_ _
                go_wp2_with fail
                obtain ⟨hN4, hC4⟩ := HN4.out
                have hN5 := hN4.go_ ((Chg.setCell (S := fun k => k = g) (p := ⟨g, 3, none⟩) (Chg.refl _ w4) (fun _ => rfl) (.bool true)).drew)
                exact cnode_badend HN.out hN5.chg ((hC4.setbad true).drew) x8 hN5.res (by rfl)
              | some n =>
                obtain ⟨hn, hnp⟩ := be32F_lt hb2
                have HRs := HR1.out
                simp only [hb2] at HRs
                have HR2 := Lib.hid HRs
                rw [hb2] at F2
                clear HRs hb2 HR1
                go_wp2_with (go_at_call 58; (with_reducible refine F2.out.mono ?_); rintro e w3 ⟨hc3, hj, rfl, hC3⟩; clear hj
                             have F3 := cur_four lo g b tx (q + 8) false m w3 hC3 (by omega) (by omega)
                             have F3 := Lib.hid F3
                             have HN3 := Lib.hid (HN2.out.go_ hc3)
                             clear hc3 hC3)
                cases hb3 : be32F b (q + 8) with
                | none =>
                  have HN := Lib.hid (show nodeP b tx (f1 + 1) d p l = none by rw [HR2.out, hb3])
                  rw [hb3] at F3
                  clear hb3 HR2
                  go_wp2_with (go_at_call 58; (with_reducible refine F3.out.mono ?_); rintro e w4 ⟨hc4, hj, rfl, hC4⟩; clear hj
                               have HN4 := Lib.hid (And.intro (HN3.out.go_ hc4) hC4)
                               obtain ⟨Ab4, cb4, At4, ct4, v0, v1, v2, v3, v4, v5, v6, v7, v8, v9, v10, v11, v12, v13, v14⟩ := hC4.cells
                               have F6 := Lib.hid (rtext_some w4 v10 (by omega) v12)
                               clear hc4 hC4 v9 v10)
                  go_wp2_with (go_at_call 92; (with_reducible refine F6.out.mono ?_); rintro e w5 ⟨S, is, rfl, rfl⟩)
                  refine wp_region_held_drew (S := fun wx => wx.cell? ⟨g, 3, none⟩ = some (.bool true)) (by kernel_rfl) v3 (fun hHeld => ?_)
                  refine wpAnyH_take (i := 0) (v := ?_) rfl (by kernel_rfl) (by kernel_rfl) (by kernel_rfl) (fun _ _ _ h => h) (Or.inl ⟨by rfl, ?_⟩) (by assumption) ?_
                  rotate_left
                  · intro w hSw; (try dsimp only at hSw); go_simp
                    try with_reducible rfl
                  try simp only [Act.put, List.getElem_toArray, List.getElem_cons_zero, List.getElem_cons_succ, List.setIfInBounds_toArray, List.set_cons_zero, List.set_cons_succ]
                  refine wpAnyH_take (i := 1) (v := ?_) rfl (by kernel_rfl) (by kernel_rfl) (by kernel_rfl) (fun _ _ _ h => h) (Or.inl ⟨by rfl, ?_⟩) (by assumption) ?_
                  rotate_left
                  · intro w hSw; (try dsimp only at hSw); go_simp
                    try with_reducible rfl
                  try simp only [Act.put, List.getElem_toArray, List.getElem_cons_zero, List.getElem_cons_succ, List.setIfInBounds_toArray, List.set_cons_zero, List.set_cons_succ]
                  refine wpAnyH_take (i := 2) (v := ?_) rfl (by kernel_rfl) (by kernel_rfl) (by kernel_rfl) (fun _ _ _ h => h) (Or.inl ⟨by rfl, ?_⟩) (by assumption) ?_
                  rotate_left
                  · intro w hSw; (try dsimp only at hSw); go_simp
                    try with_reducible rfl
                  try simp only [Act.put, List.getElem_toArray, List.getElem_cons_zero, List.getElem_cons_succ, List.setIfInBounds_toArray, List.set_cons_zero, List.set_cons_succ]
                  refine wpAnyH_take (i := 3) (v := ?_) rfl (by kernel_rfl) (by kernel_rfl) (by kernel_rfl) (fun _ _ _ h => h) (Or.inl ⟨by rfl, ?_⟩) (by assumption) ?_
                  rotate_left
                  · intro w hSw; (try dsimp only at hSw); go_simp
                    try with_reducible rfl
                  try simp only [Act.put, List.getElem_toArray, List.getElem_cons_zero, List.getElem_cons_succ, List.setIfInBounds_toArray, List.set_cons_zero, List.set_cons_succ]
                  refine wpAnyH_take (i := 4) (v := ?_) rfl (by kernel_rfl) (by kernel_rfl) (by kernel_rfl) (fun _ _ _ h => h) (Or.inl ⟨by rfl, ?_⟩) (by assumption) ?_
                  rotate_left
                  · intro w hSw; (try dsimp only at hSw); go_simp
                    try with_reducible rfl
                  try simp only [Act.put, List.getElem_toArray, List.getElem_cons_zero, List.getElem_cons_succ, List.setIfInBounds_toArray, List.set_cons_zero, List.set_cons_succ]
                  refine wpAnyH_take (i := 5) (v := undef) rfl (by kernel_rfl) (by kernel_rfl) (by kernel_rfl) (fun _ _ _ h => h) (Or.inr ⟨by rfl, rfl⟩) (by assumption) ?_
                  try simp only [Act.put, List.getElem_toArray, List.getElem_cons_zero, List.getElem_cons_succ, List.setIfInBounds_toArray, List.set_cons_zero, List.set_cons_succ]
                  refine wpAnyH_take (i := 6) (v := undef) rfl (by kernel_rfl) (by kernel_rfl) (by kernel_rfl) (fun _ _ _ h => h) (Or.inr ⟨by rfl, rfl⟩) (by assumption) ?_
                  try simp only [Act.put, List.getElem_toArray, List.getElem_cons_zero, List.getElem_cons_succ, List.setIfInBounds_toArray, List.set_cons_zero, List.set_cons_succ]
                  refine wpAnyH_take (i := 7) (v := ?_) rfl (by kernel_rfl) (by kernel_rfl) (by kernel_rfl) (fun _ _ _ h => h) (Or.inl ⟨by rfl, ?_⟩) (by assumption) ?_
                  rotate_left
                  · intro w hSw; (try dsimp only at hSw); go_simp
                    try with_reducible rfl
                  try simp only [Act.put, List.getElem_toArray, List.getElem_cons_zero, List.getElem_cons_succ, List.setIfInBounds_toArray, List.set_cons_zero, List.set_cons_succ]
                  refine wpAnyH_take (i := 8) (v := ?_) rfl (by kernel_rfl) (by kernel_rfl) (by kernel_rfl) (fun _ _ _ h => h) (Or.inl ⟨by rfl, ?_⟩) (by assumption) ?_
                  rotate_left
                  · intro w hSw; (try dsimp only at hSw); go_simp
                    try with_reducible rfl
                  try simp only [Act.put, List.getElem_toArray, List.getElem_cons_zero, List.getElem_cons_succ, List.setIfInBounds_toArray, List.set_cons_zero, List.set_cons_succ]
                  refine wpAnyH_take (i := 9) (v := undef) rfl (by kernel_rfl) (by kernel_rfl) (by kernel_rfl) (fun _ _ _ h => h) (Or.inr ⟨by rfl, rfl⟩) (by assumption) ?_
                  try simp only [Act.put, List.getElem_toArray, List.getElem_cons_zero, List.getElem_cons_succ, List.setIfInBounds_toArray, List.set_cons_zero, List.set_cons_succ]
                  refine wpAnyH_take (i := 10) (v := undef) rfl (by kernel_rfl) (by kernel_rfl) (by kernel_rfl) (fun _ _ _ h => h) (Or.inr ⟨by rfl, rfl⟩) (by assumption) ?_
                  try simp only [Act.put, List.getElem_toArray, List.getElem_cons_zero, List.getElem_cons_succ, List.setIfInBounds_toArray, List.set_cons_zero, List.set_cons_succ]
                  refine wpAnyH_take (i := 11) (v := ?_) rfl (by kernel_rfl) (by kernel_rfl) (by kernel_rfl) (fun _ _ _ h => h) (Or.inl ⟨by rfl, ?_⟩) (by assumption) ?_
                  rotate_left
                  · intro w hSw; (try dsimp only at hSw); go_simp
                    try with_reducible rfl
                  try simp only [Act.put, List.getElem_toArray, List.getElem_cons_zero, List.getElem_cons_succ, List.setIfInBounds_toArray, List.set_cons_zero, List.set_cons_succ]
                  refine wpAnyH_take (i := 12) (v := ?_) rfl (by kernel_rfl) (by kernel_rfl) (by kernel_rfl) (fun _ _ _ h => h) (Or.inl ⟨by rfl, ?_⟩) (by assumption) ?_
                  rotate_left
                  · intro w hSw; (try dsimp only at hSw); go_simp
                    try with_reducible rfl
                  try simp only [Act.put, List.getElem_toArray, List.getElem_cons_zero, List.getElem_cons_succ, List.setIfInBounds_toArray, List.set_cons_zero, List.set_cons_succ]
                  refine wpAnyH_take (i := 13) (v := undef) rfl (by kernel_rfl) (by kernel_rfl) (by kernel_rfl) (fun _ _ _ h => h) (Or.inr ⟨by rfl, rfl⟩) (by assumption) ?_
                  try simp only [Act.put, List.getElem_toArray, List.getElem_cons_zero, List.getElem_cons_succ, List.setIfInBounds_toArray, List.set_cons_zero, List.set_cons_succ]
                  refine wpAnyH_take (i := 14) (v := undef) rfl (by kernel_rfl) (by kernel_rfl) (by kernel_rfl) (fun _ _ _ h => h) (Or.inr ⟨by rfl, rfl⟩) (by assumption) ?_
                  try simp only [Act.put, List.getElem_toArray, List.getElem_cons_zero, List.getElem_cons_succ, List.setIfInBounds_toArray, List.set_cons_zero, List.set_cons_succ]
                  refine wpAnyH_take (i := 15) (v := undef) rfl (by kernel_rfl) (by kernel_rfl) (by kernel_rfl) (fun _ _ _ h => h) (Or.inr ⟨by rfl, rfl⟩) (by assumption) ?_
                  try simp only [Act.put, List.getElem_toArray, List.getElem_cons_zero, List.getElem_cons_succ, List.setIfInBounds_toArray, List.set_cons_zero, List.set_cons_succ]
                  refine wpAnyH_take (i := 16) (v := undef) rfl (by kernel_rfl) (by kernel_rfl) (by kernel_rfl) (fun _ _ _ h => h) (Or.inr ⟨by rfl, rfl⟩) (by assumption) ?_
                  try simp only [Act.put, List.getElem_toArray, List.getElem_cons_zero, List.getElem_cons_succ, List.setIfInBounds_toArray, List.set_cons_zero, List.set_cons_succ]
                  refine wpAnyH_take (i := 17) (v := undef) rfl (by kernel_rfl) (by kernel_rfl) (by kernel_rfl) (fun _ _ _ h => h) (Or.inr ⟨by rfl, rfl⟩) (by assumption) ?_
                  try simp only [Act.put, List.getElem_toArray, List.getElem_cons_zero, List.getElem_cons_succ, List.setIfInBounds_toArray, List.set_cons_zero, List.set_cons_succ]
                  refine wpAnyH_take (i := 18) (v := undef) rfl (by kernel_rfl) (by kernel_rfl) (by kernel_rfl) (fun _ _ _ h => h) (Or.inr ⟨by rfl, rfl⟩) (by assumption) ?_
                  try simp only [Act.put, List.getElem_toArray, List.getElem_cons_zero, List.getElem_cons_succ, List.setIfInBounds_toArray, List.set_cons_zero, List.set_cons_succ]
                  refine wpAnyH_take (i := 19) (v := undef) rfl (by kernel_rfl) (by kernel_rfl) (by kernel_rfl) (fun _ _ _ h => h) (Or.inr ⟨by rfl, rfl⟩) (by assumption) ?_
                  try simp only [Act.put, List.getElem_toArray, List.getElem_cons_zero, List.getElem_cons_succ, List.setIfInBounds_toArray, List.set_cons_zero, List.set_cons_succ]
                  refine wpAnyH_take (i := 20) (v := undef) rfl (by kernel_rfl) (by kernel_rfl) (by kernel_rfl) (fun _ _ _ h => h) (Or.inr ⟨by rfl, rfl⟩) (by assumption) ?_
                  try simp only [Act.put, List.getElem_toArray, List.getElem_cons_zero, List.getElem_cons_succ, List.setIfInBounds_toArray, List.set_cons_zero, List.set_cons_succ]
                  refine wpAnyH_take (i := 21) (v := undef) rfl (by kernel_rfl) (by kernel_rfl) (by kernel_rfl) (fun _ _ _ h => h) (Or.inr ⟨by rfl, rfl⟩) (by assumption) ?_
                  try simp only [Act.put, List.getElem_toArray, List.getElem_cons_zero, List.getElem_cons_succ, List.setIfInBounds_toArray, List.set_cons_zero, List.set_cons_succ]
                  refine wpAnyH_take (i := 22) (v := undef) rfl (by kernel_rfl) (by kernel_rfl) (by kernel_rfl) (fun _ _ _ h => h) (Or.inr ⟨by rfl, rfl⟩) (by assumption) ?_
                  try simp only [Act.put, List.getElem_toArray, List.getElem_cons_zero, List.getElem_cons_succ, List.setIfInBounds_toArray, List.set_cons_zero, List.set_cons_succ]
                  refine wpAnyH_take (i := 23) (v := undef) rfl (by kernel_rfl) (by kernel_rfl) (by kernel_rfl) (fun _ _ _ h => h) (Or.inr ⟨by rfl, rfl⟩) (by assumption) ?_
                  try simp only [Act.put, List.getElem_toArray, List.getElem_cons_zero, List.getElem_cons_succ, List.setIfInBounds_toArray, List.set_cons_zero, List.set_cons_succ]
                  refine wpAnyH_take (i := 24) (v := undef) rfl (by kernel_rfl) (by kernel_rfl) (by kernel_rfl) (fun _ _ _ h => h) (Or.inr ⟨by rfl, rfl⟩) (by assumption) ?_
                  try simp only [Act.put, List.getElem_toArray, List.getElem_cons_zero, List.getElem_cons_succ, List.setIfInBounds_toArray, List.set_cons_zero, List.set_cons_succ]
                  refine wpAnyH_take (i := 25) (v := ?_) rfl (by kernel_rfl) (by kernel_rfl) (by kernel_rfl) (fun _ _ _ h => h) (Or.inl ⟨by rfl, ?_⟩) (by assumption) ?_
                  rotate_left
                  · intro w hSw; (try dsimp only at hSw); go_simp
                    try with_reducible rfl
                  try simp only [Act.put, List.getElem_toArray, List.getElem_cons_zero, List.getElem_cons_succ, List.setIfInBounds_toArray, List.set_cons_zero, List.set_cons_succ]
                  clear hHeld
                  obtain ⟨hN4, hC4⟩ := HN4.out
                  obtain ⟨x0, x1, x2, x3, x4, x5⟩ := hN4.box.c3
                  obtain ⟨y0, y1, y2, y3, y4, y5⟩ := hN4.res.c3
                  have hbt4 := hN4.box.lt
                  have hg4 := hN4.hg
                  clear hN4 hC4
                  refine wpAnyH_done (by kernel_rfl) ?_ _
                  go_wp2_with fail
                  obtain ⟨hN4, hC4⟩ := HN4.out
                  have hN5 := hN4.go_ ((Chg.setCell (S := fun k => k = g) (p := ⟨g, 3, none⟩) (Chg.refl _ w4) (fun _ => rfl) (.bool true)).drew)
                  exact cnode_badend HN.out hN5.chg ((hC4.setbad true).drew) x8 hN5.res (by rfl)
                | some pl =>
                  obtain ⟨hpl, hpp⟩ := be32F_lt hb3
                  have HRs := HR2.out
                  simp only [hb3] at HRs
                  have HR3 := Lib.hid HRs
                  rw [hb3] at F3
                  clear HRs hb3 HR2
                  obtain ⟨q3, hq3⟩ : ∃ q3, q + 12 = q3 := ⟨_, rfl⟩
                  have hq3a : q + 12 ≤ q3 := by omega
                  have hq3b : q3 ≤ q + 12 := by omega
                  have HQ3 := Lib.hid hq3
                  clear hq3
                  go_wp2_with (go_at_call 58; (with_reducible refine F3.out.mono ?_); rintro e w4 ⟨hc4, hj, rfl, hC4⟩; clear hj
                               have hC4 : CurIs w4 lo g b tx q3 false m := by rw [← HQ3.out]; exact hC4
                               have HN4 := Lib.hid (And.intro (HN3.out.go_ hc4) hC4)
                               obtain ⟨Ab4, cb4, At4, ct4, v0, v1, v2, v3, v4, v5, v6, v7, v8, v9, v10, v11, v12, v13, v14⟩ := hC4.cells
                               have V9 := Lib.hid v9
                               have F6 := Lib.hid (rtext_any At4 tx.length ct4 tx pl w4 v10 (by omega) (by omega) v12)
                               clear hc4 hC4 v9 v10)
                  cases ht : textP tx pl with
                  | none =>
                    have HN := Lib.hid (show nodeP b tx (f1 + 1) d p l = none by rw [HR3.out, ht])
                    rw [ht] at F6
                    clear ht HR3
                    go_wp2_with (go_at_call 92; (with_reducible refine F6.out.mono ?_); rintro e w5 ⟨rfl, rfl⟩)
                    refine wp_region_held_drew (S := fun wx => wx.cell? ⟨g, 3, none⟩ = some (.bool false)) (by kernel_rfl) v3 (fun hHeld => ?_)
                    refine wpAnyH_take (i := 0) (v := ?_) rfl (by kernel_rfl) (by kernel_rfl) (by kernel_rfl) (fun _ _ _ h => h) (Or.inl ⟨by rfl, ?_⟩) (by assumption) ?_
                    rotate_left
                    · intro w hSw; (try dsimp only at hSw); go_simp
                      try with_reducible rfl
                    try simp only [Act.put, List.getElem_toArray, List.getElem_cons_zero, List.getElem_cons_succ, List.setIfInBounds_toArray, List.set_cons_zero, List.set_cons_succ]
                    refine wpAnyH_take (i := 1) (v := ?_) rfl (by kernel_rfl) (by kernel_rfl) (by kernel_rfl) (fun _ _ _ h => h) (Or.inl ⟨by rfl, ?_⟩) (by assumption) ?_
                    rotate_left
                    · intro w hSw; (try dsimp only at hSw); go_simp
                      try with_reducible rfl
                    try simp only [Act.put, List.getElem_toArray, List.getElem_cons_zero, List.getElem_cons_succ, List.setIfInBounds_toArray, List.set_cons_zero, List.set_cons_succ]
                    refine wpAnyH_take (i := 2) (v := ?_) rfl (by kernel_rfl) (by kernel_rfl) (by kernel_rfl) (fun _ _ _ h => h) (Or.inl ⟨by rfl, ?_⟩) (by assumption) ?_
                    rotate_left
                    · intro w hSw; (try dsimp only at hSw); go_simp
                      try with_reducible rfl
                    try simp only [Act.put, List.getElem_toArray, List.getElem_cons_zero, List.getElem_cons_succ, List.setIfInBounds_toArray, List.set_cons_zero, List.set_cons_succ]
                    refine wpAnyH_take (i := 3) (v := ?_) rfl (by kernel_rfl) (by kernel_rfl) (by kernel_rfl) (fun _ _ _ h => h) (Or.inl ⟨by rfl, ?_⟩) (by assumption) ?_
                    rotate_left
                    · intro w hSw; (try dsimp only at hSw); go_simp
                      try with_reducible rfl
                    try simp only [Act.put, List.getElem_toArray, List.getElem_cons_zero, List.getElem_cons_succ, List.setIfInBounds_toArray, List.set_cons_zero, List.set_cons_succ]
                    refine wpAnyH_take (i := 4) (v := ?_) rfl (by kernel_rfl) (by kernel_rfl) (by kernel_rfl) (fun _ _ _ h => h) (Or.inl ⟨by rfl, ?_⟩) (by assumption) ?_
                    rotate_left
                    · intro w hSw; (try dsimp only at hSw); go_simp
                      try with_reducible rfl
                    try simp only [Act.put, List.getElem_toArray, List.getElem_cons_zero, List.getElem_cons_succ, List.setIfInBounds_toArray, List.set_cons_zero, List.set_cons_succ]
                    refine wpAnyH_take (i := 5) (v := ?_) rfl (by kernel_rfl) (by kernel_rfl) (by kernel_rfl) (fun _ _ _ h => h) (Or.inl ⟨by rfl, ?_⟩) (by assumption) ?_
                    rotate_left
                    · intro w hSw; (try dsimp only at hSw); go_simp
                      try with_reducible rfl
                    try simp only [Act.put, List.getElem_toArray, List.getElem_cons_zero, List.getElem_cons_succ, List.setIfInBounds_toArray, List.set_cons_zero, List.set_cons_succ]
                    refine wpAnyH_take (i := 6) (v := ?_) rfl (by kernel_rfl) (by kernel_rfl) (by kernel_rfl) (fun _ _ _ h => h) (Or.inl ⟨by rfl, ?_⟩) (by assumption) ?_
                    rotate_left
                    · intro w hSw; (try dsimp only at hSw); go_simp
                      try with_reducible rfl
                    try simp only [Act.put, List.getElem_toArray, List.getElem_cons_zero, List.getElem_cons_succ, List.setIfInBounds_toArray, List.set_cons_zero, List.set_cons_succ]
                    refine wpAnyH_take (i := 7) (v := ?_) rfl (by kernel_rfl) (by kernel_rfl) (by kernel_rfl) (fun _ _ _ h => h) (Or.inl ⟨by rfl, ?_⟩) (by assumption) ?_
                    rotate_left
                    · intro w hSw; (try dsimp only at hSw); go_simp
                      try with_reducible rfl
                    try simp only [Act.put, List.getElem_toArray, List.getElem_cons_zero, List.getElem_cons_succ, List.setIfInBounds_toArray, List.set_cons_zero, List.set_cons_succ]
                    refine wpAnyH_take (i := 8) (v := ?_) rfl (by kernel_rfl) (by kernel_rfl) (by kernel_rfl) (fun _ _ _ h => h) (Or.inl ⟨by rfl, ?_⟩) (by assumption) ?_
                    rotate_left
                    · intro w hSw; (try dsimp only at hSw); go_simp
                      try with_reducible rfl
                    try simp only [Act.put, List.getElem_toArray, List.getElem_cons_zero, List.getElem_cons_succ, List.setIfInBounds_toArray, List.set_cons_zero, List.set_cons_succ]
                    refine wpAnyH_take (i := 9) (v := undef) rfl (by kernel_rfl) (by kernel_rfl) (by kernel_rfl) (fun _ _ _ h => h) (Or.inr ⟨by rfl, rfl⟩) (by assumption) ?_
                    try simp only [Act.put, List.getElem_toArray, List.getElem_cons_zero, List.getElem_cons_succ, List.setIfInBounds_toArray, List.set_cons_zero, List.set_cons_succ]
                    refine wpAnyH_take (i := 10) (v := undef) rfl (by kernel_rfl) (by kernel_rfl) (by kernel_rfl) (fun _ _ _ h => h) (Or.inr ⟨by rfl, rfl⟩) (by assumption) ?_
                    try simp only [Act.put, List.getElem_toArray, List.getElem_cons_zero, List.getElem_cons_succ, List.setIfInBounds_toArray, List.set_cons_zero, List.set_cons_succ]
                    refine wpAnyH_take (i := 11) (v := ?_) rfl (by kernel_rfl) (by kernel_rfl) (by kernel_rfl) (fun _ _ _ h => h) (Or.inl ⟨by rfl, ?_⟩) (by assumption) ?_
                    rotate_left
                    · intro w hSw; (try dsimp only at hSw); go_simp
                      try with_reducible rfl
                    try simp only [Act.put, List.getElem_toArray, List.getElem_cons_zero, List.getElem_cons_succ, List.setIfInBounds_toArray, List.set_cons_zero, List.set_cons_succ]
                    refine wpAnyH_take (i := 12) (v := ?_) rfl (by kernel_rfl) (by kernel_rfl) (by kernel_rfl) (fun _ _ _ h => h) (Or.inl ⟨by rfl, ?_⟩) (by assumption) ?_
                    rotate_left
                    · intro w hSw; (try dsimp only at hSw); go_simp
                      try with_reducible rfl
                    try simp only [Act.put, List.getElem_toArray, List.getElem_cons_zero, List.getElem_cons_succ, List.setIfInBounds_toArray, List.set_cons_zero, List.set_cons_succ]
                    refine wpAnyH_take (i := 13) (v := undef) rfl (by kernel_rfl) (by kernel_rfl) (by kernel_rfl) (fun _ _ _ h => h) (Or.inr ⟨by rfl, rfl⟩) (by assumption) ?_
                    try simp only [Act.put, List.getElem_toArray, List.getElem_cons_zero, List.getElem_cons_succ, List.setIfInBounds_toArray, List.set_cons_zero, List.set_cons_succ]
                    refine wpAnyH_take (i := 14) (v := undef) rfl (by kernel_rfl) (by kernel_rfl) (by kernel_rfl) (fun _ _ _ h => h) (Or.inr ⟨by rfl, rfl⟩) (by assumption) ?_
                    try simp only [Act.put, List.getElem_toArray, List.getElem_cons_zero, List.getElem_cons_succ, List.setIfInBounds_toArray, List.set_cons_zero, List.set_cons_succ]
                    refine wpAnyH_take (i := 15) (v := undef) rfl (by kernel_rfl) (by kernel_rfl) (by kernel_rfl) (fun _ _ _ h => h) (Or.inr ⟨by rfl, rfl⟩) (by assumption) ?_
                    try simp only [Act.put, List.getElem_toArray, List.getElem_cons_zero, List.getElem_cons_succ, List.setIfInBounds_toArray, List.set_cons_zero, List.set_cons_succ]
                    refine wpAnyH_take (i := 16) (v := undef) rfl (by kernel_rfl) (by kernel_rfl) (by kernel_rfl) (fun _ _ _ h => h) (Or.inr ⟨by rfl, rfl⟩) (by assumption) ?_
                    try simp only [Act.put, List.getElem_toArray, List.getElem_cons_zero, List.getElem_cons_succ, List.setIfInBounds_toArray, List.set_cons_zero, List.set_cons_succ]
                    refine wpAnyH_take (i := 17) (v := undef) rfl (by kernel_rfl) (by kernel_rfl) (by kernel_rfl) (fun _ _ _ h => h) (Or.inr ⟨by rfl, rfl⟩) (by assumption) ?_
                    try simp only [Act.put, List.getElem_toArray, List.getElem_cons_zero, List.getElem_cons_succ, List.setIfInBounds_toArray, List.set_cons_zero, List.set_cons_succ]
                    refine wpAnyH_take (i := 18) (v := undef) rfl (by kernel_rfl) (by kernel_rfl) (by kernel_rfl) (fun _ _ _ h => h) (Or.inr ⟨by rfl, rfl⟩) (by assumption) ?_
                    try simp only [Act.put, List.getElem_toArray, List.getElem_cons_zero, List.getElem_cons_succ, List.setIfInBounds_toArray, List.set_cons_zero, List.set_cons_succ]
                    refine wpAnyH_take (i := 19) (v := undef) rfl (by kernel_rfl) (by kernel_rfl) (by kernel_rfl) (fun _ _ _ h => h) (Or.inr ⟨by rfl, rfl⟩) (by assumption) ?_
                    try simp only [Act.put, List.getElem_toArray, List.getElem_cons_zero, List.getElem_cons_succ, List.setIfInBounds_toArray, List.set_cons_zero, List.set_cons_succ]
                    refine wpAnyH_take (i := 20) (v := undef) rfl (by kernel_rfl) (by kernel_rfl) (by kernel_rfl) (fun _ _ _ h => h) (Or.inr ⟨by rfl, rfl⟩) (by assumption) ?_
                    try simp only [Act.put, List.getElem_toArray, List.getElem_cons_zero, List.getElem_cons_succ, List.setIfInBounds_toArray, List.set_cons_zero, List.set_cons_succ]
                    refine wpAnyH_take (i := 21) (v := undef) rfl (by kernel_rfl) (by kernel_rfl) (by kernel_rfl) (fun _ _ _ h => h) (Or.inr ⟨by rfl, rfl⟩) (by assumption) ?_
                    try simp only [Act.put, List.getElem_toArray, List.getElem_cons_zero, List.getElem_cons_succ, List.setIfInBounds_toArray, List.set_cons_zero, List.set_cons_succ]
                    refine wpAnyH_take (i := 22) (v := undef) rfl (by kernel_rfl) (by kernel_rfl) (by kernel_rfl) (fun _ _ _ h => h) (Or.inr ⟨by rfl, rfl⟩) (by assumption) ?_
                    try simp only [Act.put, List.getElem_toArray, List.getElem_cons_zero, List.getElem_cons_succ, List.setIfInBounds_toArray, List.set_cons_zero, List.set_cons_succ]
                    refine wpAnyH_take (i := 23) (v := undef) rfl (by kernel_rfl) (by kernel_rfl) (by kernel_rfl) (fun _ _ _ h => h) (Or.inr ⟨by rfl, rfl⟩) (by assumption) ?_
                    try simp only [Act.put, List.getElem_toArray, List.getElem_cons_zero, List.getElem_cons_succ, List.setIfInBounds_toArray, List.set_cons_zero, List.set_cons_succ]
                    refine wpAnyH_take (i := 24) (v := undef) rfl (by kernel_rfl) (by kernel_rfl) (by kernel_rfl) (fun _ _ _ h => h) (Or.inr ⟨by rfl, rfl⟩) (by assumption) ?_
                    try simp only [Act.put, List.getElem_toArray, List.getElem_cons_zero, List.getElem_cons_succ, List.setIfInBounds_toArray, List.set_cons_zero, List.set_cons_succ]
                    refine wpAnyH_take (i := 25) (v := ?_) rfl (by kernel_rfl) (by kernel_rfl) (by kernel_rfl) (fun _ _ _ h => h) (Or.inl ⟨by rfl, ?_⟩) (by assumption) ?_
                    rotate_left
                    · intro w hSw; (try dsimp only at hSw); go_simp
                      try with_reducible rfl
                    try simp only [Act.put, List.getElem_toArray, List.getElem_cons_zero, List.getElem_cons_succ, List.setIfInBounds_toArray, List.set_cons_zero, List.set_cons_succ]
                    clear hHeld
                    obtain ⟨hN4, hC4⟩ := HN4.out
                    obtain ⟨x0, x1, x2, x3, x4, x5⟩ := hN4.box.c3
                    obtain ⟨y0, y1, y2, y3, y4, y5⟩ := hN4.res.c3
                    have hbt4 := hN4.box.lt
                    have hg4 := hN4.hg
                    clear hN4 hC4
                    refine wpAnyH_done (by kernel_rfl) ?_ _
                    go_wp2_with fail
                    obtain ⟨hN4, hC4⟩ := HN4.out
                    have hN5 := hN4.go_ ((Chg.setCell (S := fun k => k = g) (p := ⟨g, 3, none⟩) (Chg.refl _ w4) (fun _ => rfl) (.bool true)).drew)
                    exact cnode_badend HN.out hN5.chg ((hC4.setbad true).drew) x8 hN5.res (by rfl)
                  | some s =>
                    have HRs := HR3.out
                    simp only [ht] at HRs
                    have HR4 := Lib.hid HRs
                    obtain ⟨t2, _⟩ := textP_some ht
                    obtain ⟨S, hS⟩ : ∃ S : ByteArray, ⟨s.toArray⟩ = S := ⟨_, rfl⟩
                    have HS := Lib.hid hS
                    have hSz : S.size ≤ 140737488351232 := by rw [← hS]; show s.toArray.size ≤ _; simp; omega
                    have F7 : Hid (Calls Try.prog 92 #[.slice At4 tx.length ct4, .int .i64 pl] w4 fun e w' => w4 = w' ∧ e = .returned (.tuple #[.string S, .bool true])) := by
                      refine Lib.hid (F6.out.mono fun e w' h => ?_)
                      obtain ⟨h1, h2⟩ := h
                      rw [ht] at h2
                      exact ⟨h1, by rw [h2, hS]⟩
                    clear HRs ht HR3 F6 hS t2
                    go_wp2_with (go_at_call 92; (with_reducible refine F7.out.mono ?_); rintro e w5 ⟨rfl, rfl⟩)
                    by_cases hfit : b.length < q3 + n
                    · have HN := Lib.hid (show nodeP b tx (f1 + 1) d p l = none by rw [HR4.out, if_pos (by omega)])
                      have e2 : decide ((b.length : Int) - (q3 : Int) < (n : Int)) = true := decide_eq_true (by omega)
                      have e1 : IntKind.i64.wrap ((b.length : Int) - (q3 : Int)) = (b.length : Int) - (q3 : Int) := IntWalk.i64_in _ (by omega)
                      refine wp_region_held_drew (S := fun wx => wx.cell? ⟨g, 3, none⟩ = some (.bool false) ∧ wx.cell? ⟨g, 0, none⟩ = some (.slice Ab4 b.length cb4) ∧ wx.cell? ⟨g, 2, none⟩ = some (.int .i64 (q3 : Int))) (by kernel_rfl) ⟨v3, v0, v2⟩ (fun hHeld => ?_)
                      refine wpAnyH_take (i := 0) (v := ?_) rfl (by kernel_rfl) (by kernel_rfl) (by kernel_rfl) (fun _ _ _ h => h) (Or.inl ⟨by rfl, ?_⟩) (by assumption) ?_
                      rotate_left
                      · intro w hSw; (try dsimp only at hSw); go_simp
                        try with_reducible rfl
                      try simp only [Act.put, List.getElem_toArray, List.getElem_cons_zero, List.getElem_cons_succ, List.setIfInBounds_toArray, List.set_cons_zero, List.set_cons_succ]
                      refine wpAnyH_take (i := 1) (v := ?_) rfl (by kernel_rfl) (by kernel_rfl) (by kernel_rfl) (fun _ _ _ h => h) (Or.inl ⟨by rfl, ?_⟩) (by assumption) ?_
                      rotate_left
                      · intro w hSw; (try dsimp only at hSw); go_simp
                        try with_reducible rfl
                      try simp only [Act.put, List.getElem_toArray, List.getElem_cons_zero, List.getElem_cons_succ, List.setIfInBounds_toArray, List.set_cons_zero, List.set_cons_succ]
                      refine wpAnyH_take (i := 2) (v := ?_) rfl (by kernel_rfl) (by kernel_rfl) (by kernel_rfl) (fun _ _ _ h => h) (Or.inl ⟨by rfl, ?_⟩) (by assumption) ?_
                      rotate_left
                      · intro w hSw; (try dsimp only at hSw); go_simp
                        try with_reducible rfl
                      try simp only [Act.put, List.getElem_toArray, List.getElem_cons_zero, List.getElem_cons_succ, List.setIfInBounds_toArray, List.set_cons_zero, List.set_cons_succ]
                      refine wpAnyH_take (i := 3) (v := ?_) rfl (by kernel_rfl) (by kernel_rfl) (by kernel_rfl) (fun _ _ _ h => h) (Or.inl ⟨by rfl, ?_⟩) (by assumption) ?_
                      rotate_left
                      · intro w hSw; (try dsimp only at hSw); go_simp
                        try with_reducible rfl
                      try simp only [Act.put, List.getElem_toArray, List.getElem_cons_zero, List.getElem_cons_succ, List.setIfInBounds_toArray, List.set_cons_zero, List.set_cons_succ]
                      refine wpAnyH_take (i := 4) (v := ?_) rfl (by kernel_rfl) (by kernel_rfl) (by kernel_rfl) (fun _ _ _ h => h) (Or.inl ⟨by rfl, ?_⟩) (by assumption) ?_
                      rotate_left
                      · intro w hSw; (try dsimp only at hSw); go_simp
                        try with_reducible rfl
                      try simp only [Act.put, List.getElem_toArray, List.getElem_cons_zero, List.getElem_cons_succ, List.setIfInBounds_toArray, List.set_cons_zero, List.set_cons_succ]
                      refine wpAnyH_take (i := 5) (v := ?_) rfl (by kernel_rfl) (by kernel_rfl) (by kernel_rfl) (fun _ _ _ h => h) (Or.inl ⟨by rfl, ?_⟩) (by assumption) ?_
                      rotate_left
                      · intro w hSw; (try dsimp only at hSw); go_simp
                        try with_reducible rfl
                      try simp only [Act.put, List.getElem_toArray, List.getElem_cons_zero, List.getElem_cons_succ, List.setIfInBounds_toArray, List.set_cons_zero, List.set_cons_succ]
                      refine wpAnyH_take (i := 6) (v := ?_) rfl (by kernel_rfl) (by kernel_rfl) (by kernel_rfl) (fun _ _ _ h => h) (Or.inl ⟨by rfl, ?_⟩) (by assumption) ?_
                      rotate_left
                      · intro w hSw; (try dsimp only at hSw); go_simp
                        try with_reducible rfl
                      try simp only [Act.put, List.getElem_toArray, List.getElem_cons_zero, List.getElem_cons_succ, List.setIfInBounds_toArray, List.set_cons_zero, List.set_cons_succ]
                      refine wpAnyH_take (i := 7) (v := ?_) rfl (by kernel_rfl) (by kernel_rfl) (by kernel_rfl) (fun _ _ _ h => h) (Or.inl ⟨by rfl, ?_⟩) (by assumption) ?_
                      rotate_left
                      · intro w hSw; (try dsimp only at hSw); go_simp
                        try with_reducible rfl
                      try simp only [Act.put, List.getElem_toArray, List.getElem_cons_zero, List.getElem_cons_succ, List.setIfInBounds_toArray, List.set_cons_zero, List.set_cons_succ]
                      refine wpAnyH_take (i := 8) (v := ?_) rfl (by kernel_rfl) (by kernel_rfl) (by kernel_rfl) (fun _ _ _ h => h) (Or.inl ⟨by rfl, ?_⟩) (by assumption) ?_
                      rotate_left
                      · intro w hSw; (try dsimp only at hSw); go_simp
                        try with_reducible rfl
                      try simp only [Act.put, List.getElem_toArray, List.getElem_cons_zero, List.getElem_cons_succ, List.setIfInBounds_toArray, List.set_cons_zero, List.set_cons_succ]
                      refine wpAnyH_take (i := 9) (v := ?_) rfl (by kernel_rfl) (by kernel_rfl) (by kernel_rfl) (fun _ _ _ h => h) (Or.inl ⟨by rfl, ?_⟩) (by assumption) ?_
                      rotate_left
                      · intro w hSw; (try dsimp only at hSw); go_simp
                        try with_reducible rfl
                      try simp only [Act.put, List.getElem_toArray, List.getElem_cons_zero, List.getElem_cons_succ, List.setIfInBounds_toArray, List.set_cons_zero, List.set_cons_succ]
                      refine wpAnyH_take (i := 10) (v := ?_) rfl (by kernel_rfl) (by kernel_rfl) (by kernel_rfl) (fun _ _ _ h => h) (Or.inl ⟨by rfl, ?_⟩) (by assumption) ?_
                      rotate_left
                      · intro w hSw; (try dsimp only at hSw); go_simp
                        try with_reducible rfl
                      try simp only [Act.put, List.getElem_toArray, List.getElem_cons_zero, List.getElem_cons_succ, List.setIfInBounds_toArray, List.set_cons_zero, List.set_cons_succ]
                      refine wpAnyH_take (i := 11) (v := ?_) rfl (by kernel_rfl) (by kernel_rfl) (by kernel_rfl) (fun _ _ _ h => h) (Or.inl ⟨by rfl, ?_⟩) (by assumption) ?_
                      rotate_left
                      · intro w hSw; (try dsimp only at hSw); go_simp
                        try with_reducible rfl
                      try simp only [Act.put, List.getElem_toArray, List.getElem_cons_zero, List.getElem_cons_succ, List.setIfInBounds_toArray, List.set_cons_zero, List.set_cons_succ]
                      refine wpAnyH_take (i := 12) (v := ?_) rfl (by kernel_rfl) (by kernel_rfl) (by kernel_rfl) (fun _ _ _ h => h) (Or.inl ⟨by rfl, ?_⟩) (by assumption) ?_
                      rotate_left
                      · intro w hSw; (try dsimp only at hSw); go_simp
                        try with_reducible rfl
                      try simp only [Act.put, List.getElem_toArray, List.getElem_cons_zero, List.getElem_cons_succ, List.setIfInBounds_toArray, List.set_cons_zero, List.set_cons_succ]
                      refine wpAnyH_take (i := 13) (v := ?_) rfl (by kernel_rfl) (by kernel_rfl) (by kernel_rfl) (fun _ _ _ h => h) (Or.inl ⟨by rfl, ?_⟩) (by assumption) ?_
                      rotate_left
                      · intro w hSw; (try dsimp only at hSw); go_simp
                        try with_reducible rfl
                      try simp only [Act.put, List.getElem_toArray, List.getElem_cons_zero, List.getElem_cons_succ, List.setIfInBounds_toArray, List.set_cons_zero, List.set_cons_succ]
                      refine wpAnyH_take (i := 14) (v := ?_) rfl (by kernel_rfl) (by kernel_rfl) (by kernel_rfl) (fun _ _ _ h => h) (Or.inl ⟨by rfl, ?_⟩) (by assumption) ?_
                      rotate_left
                      · intro w hSw; (try dsimp only at hSw); go_simp
                        try with_reducible rfl
                      try simp only [Act.put, List.getElem_toArray, List.getElem_cons_zero, List.getElem_cons_succ, List.setIfInBounds_toArray, List.set_cons_zero, List.set_cons_succ]
                      refine wpAnyH_take (i := 15) (v := ?_) rfl (by kernel_rfl) (by kernel_rfl) (by kernel_rfl) (fun _ _ _ h => h) (Or.inl ⟨by rfl, ?_⟩) (by assumption) ?_
                      rotate_left
                      · intro w hSw; (try dsimp only at hSw); go_simp
                        try with_reducible rfl
                      try simp only [Act.put, List.getElem_toArray, List.getElem_cons_zero, List.getElem_cons_succ, List.setIfInBounds_toArray, List.set_cons_zero, List.set_cons_succ]
                      refine wpAnyH_take (i := 16) (v := ?_) rfl (by kernel_rfl) (by kernel_rfl) (by kernel_rfl) (fun _ _ _ h => h) (Or.inl ⟨by rfl, ?_⟩) (by assumption) ?_
                      rotate_left
                      · intro w hSw; (try dsimp only at hSw); go_simp
                        try with_reducible rfl
                      try simp only [Act.put, List.getElem_toArray, List.getElem_cons_zero, List.getElem_cons_succ, List.setIfInBounds_toArray, List.set_cons_zero, List.set_cons_succ]
                      refine wpAnyH_take (i := 17) (v := ?_) rfl (by kernel_rfl) (by kernel_rfl) (by kernel_rfl) (fun _ _ _ h => h) (Or.inl ⟨by rfl, ?_⟩) (by assumption) ?_
                      rotate_left
                      · intro w hSw; (try dsimp only at hSw); go_simp
                        try with_reducible rfl
                      try simp only [Act.put, List.getElem_toArray, List.getElem_cons_zero, List.getElem_cons_succ, List.setIfInBounds_toArray, List.set_cons_zero, List.set_cons_succ]
                      refine wpAnyH_take (i := 18) (v := ?_) rfl (by kernel_rfl) (by kernel_rfl) (by kernel_rfl) (fun _ _ _ h => h) (Or.inl ⟨by rfl, ?_⟩) (by assumption) ?_
                      rotate_left
                      · intro w hSw; (try dsimp only at hSw); go_simp
                        try with_reducible rfl
                      try simp only [Act.put, List.getElem_toArray, List.getElem_cons_zero, List.getElem_cons_succ, List.setIfInBounds_toArray, List.set_cons_zero, List.set_cons_succ]
                      refine wpAnyH_take (i := 19) (v := ?_) rfl (by kernel_rfl) (by kernel_rfl) (by kernel_rfl) (fun _ _ _ h => h) (Or.inl ⟨by rfl, ?_⟩) (by assumption) ?_
                      rotate_left
                      · intro w hSw; (try dsimp only at hSw); go_simp
                        try with_reducible rfl
                      try simp only [Act.put, List.getElem_toArray, List.getElem_cons_zero, List.getElem_cons_succ, List.setIfInBounds_toArray, List.set_cons_zero, List.set_cons_succ]
                      refine wpAnyH_take (i := 20) (v := ?_) rfl (by kernel_rfl) (by kernel_rfl) (by kernel_rfl) (fun _ _ _ h => h) (Or.inl ⟨by rfl, ?_⟩) (by assumption) ?_
                      rotate_left
                      · intro w hSw; (try dsimp only at hSw); go_simp
                        try with_reducible rfl
                      try simp only [Act.put, List.getElem_toArray, List.getElem_cons_zero, List.getElem_cons_succ, List.setIfInBounds_toArray, List.set_cons_zero, List.set_cons_succ]
                      refine wpAnyH_take (i := 21) (v := ?_) rfl (by kernel_rfl) (by kernel_rfl) (by kernel_rfl) (fun _ _ _ h => h) (Or.inl ⟨by rfl, ?_⟩) (by assumption) ?_
                      rotate_left
                      · intro w hSw; (try dsimp only at hSw); go_simp
                        try with_reducible rfl
                      try simp only [Act.put, List.getElem_toArray, List.getElem_cons_zero, List.getElem_cons_succ, List.setIfInBounds_toArray, List.set_cons_zero, List.set_cons_succ]
                      refine wpAnyH_take (i := 22) (v := ?_) rfl (by kernel_rfl) (by kernel_rfl) (by kernel_rfl) (fun _ _ _ h => h) (Or.inl ⟨by rfl, ?_⟩) (by assumption) ?_
                      rotate_left
                      · intro w hSw; (try dsimp only at hSw); go_simp
                        try with_reducible rfl
                      try simp only [Act.put, List.getElem_toArray, List.getElem_cons_zero, List.getElem_cons_succ, List.setIfInBounds_toArray, List.set_cons_zero, List.set_cons_succ]
                      refine wpAnyH_take (i := 23) (v := ?_) rfl (by kernel_rfl) (by kernel_rfl) (by kernel_rfl) (fun _ _ _ h => h) (Or.inl ⟨by rfl, ?_⟩) (by assumption) ?_
                      rotate_left
                      · intro w hSw; (try dsimp only at hSw); go_simp
                        try with_reducible rfl
                      try simp only [Act.put, List.getElem_toArray, List.getElem_cons_zero, List.getElem_cons_succ, List.setIfInBounds_toArray, List.set_cons_zero, List.set_cons_succ]
                      refine wpAnyH_take (i := 24) (v := ?_) rfl (by kernel_rfl) (by kernel_rfl) (by kernel_rfl) (fun _ _ _ h => h) (Or.inl ⟨by rfl, ?_⟩) (by assumption) ?_
                      rotate_left
                      · intro w hSw; (try dsimp only at hSw); go_simp
                        try with_reducible rfl
                      try simp only [Act.put, List.getElem_toArray, List.getElem_cons_zero, List.getElem_cons_succ, List.setIfInBounds_toArray, List.set_cons_zero, List.set_cons_succ]
                      refine wpAnyH_take (i := 25) (v := ?_) rfl (by kernel_rfl) (by kernel_rfl) (by kernel_rfl) (fun _ _ _ h => h) (Or.inl ⟨by rfl, ?_⟩) (by assumption) ?_
                      rotate_left
                      · intro w hSw; (try dsimp only at hSw); go_simp
                        try with_reducible rfl
                      try simp only [Act.put, List.getElem_toArray, List.getElem_cons_zero, List.getElem_cons_succ, List.setIfInBounds_toArray, List.set_cons_zero, List.set_cons_succ]
                      clear e1 e2
                      clear hHeld
                      obtain ⟨hN4, hC4⟩ := HN4.out
                      obtain ⟨x0, x1, x2, x3, x4, x5⟩ := hN4.box.c3
                      obtain ⟨y0, y1, y2, y3, y4, y5⟩ := hN4.res.c3
                      have hbt4 := hN4.box.lt
                      have hg4 := hN4.hg
                      clear hN4 hC4
                      refine wpAnyH_done (by kernel_rfl) ?_ _
                      go_wp2_with fail
                      obtain ⟨hN4, hC4⟩ := HN4.out
                      have hN5 := hN4.go_ ((Chg.setCell (S := fun k => k = g) (p := ⟨g, 3, none⟩) (Chg.refl _ w4) (fun _ => rfl) (.bool true)).drew)
                      exact cnode_badend HN.out hN5.chg ((hC4.setbad true).drew) x8 hN5.res (by rfl)
                    · have e2 : decide ((b.length : Int) - (q3 : Int) < (n : Int)) = false := decide_eq_false (by omega)
                      have e1 : IntKind.i64.wrap ((b.length : Int) - (q3 : Int)) = (b.length : Int) - (q3 : Int) := IntWalk.i64_in _ (by omega)
                      refine wp_region_held_drew (S := fun wx => wx.cell? ⟨g, 3, none⟩ = some (.bool false) ∧ wx.cell? ⟨g, 0, none⟩ = some (.slice Ab4 b.length cb4) ∧ wx.cell? ⟨g, 2, none⟩ = some (.int .i64 (q3 : Int))) (by kernel_rfl) ⟨v3, v0, v2⟩ (fun hHeld => ?_)
                      refine wpAnyH_take (i := 0) (v := ?_) rfl (by kernel_rfl) (by kernel_rfl) (by kernel_rfl) (fun _ _ _ h => h) (Or.inl ⟨by rfl, ?_⟩) (by assumption) ?_
                      rotate_left
                      · intro w hSw; (try dsimp only at hSw); go_simp
                        try with_reducible rfl
                      try simp only [Act.put, List.getElem_toArray, List.getElem_cons_zero, List.getElem_cons_succ, List.setIfInBounds_toArray, List.set_cons_zero, List.set_cons_succ]
                      refine wpAnyH_take (i := 1) (v := ?_) rfl (by kernel_rfl) (by kernel_rfl) (by kernel_rfl) (fun _ _ _ h => h) (Or.inl ⟨by rfl, ?_⟩) (by assumption) ?_
                      rotate_left
                      · intro w hSw; (try dsimp only at hSw); go_simp
                        try with_reducible rfl
                      try simp only [Act.put, List.getElem_toArray, List.getElem_cons_zero, List.getElem_cons_succ, List.setIfInBounds_toArray, List.set_cons_zero, List.set_cons_succ]
                      refine wpAnyH_take (i := 2) (v := ?_) rfl (by kernel_rfl) (by kernel_rfl) (by kernel_rfl) (fun _ _ _ h => h) (Or.inl ⟨by rfl, ?_⟩) (by assumption) ?_
                      rotate_left
                      · intro w hSw; (try dsimp only at hSw); go_simp
                        try with_reducible rfl
                      try simp only [Act.put, List.getElem_toArray, List.getElem_cons_zero, List.getElem_cons_succ, List.setIfInBounds_toArray, List.set_cons_zero, List.set_cons_succ]
                      refine wpAnyH_take (i := 3) (v := ?_) rfl (by kernel_rfl) (by kernel_rfl) (by kernel_rfl) (fun _ _ _ h => h) (Or.inl ⟨by rfl, ?_⟩) (by assumption) ?_
                      rotate_left
                      · intro w hSw; (try dsimp only at hSw); go_simp
                        try with_reducible rfl
                      try simp only [Act.put, List.getElem_toArray, List.getElem_cons_zero, List.getElem_cons_succ, List.setIfInBounds_toArray, List.set_cons_zero, List.set_cons_succ]
                      refine wpAnyH_take (i := 4) (v := ?_) rfl (by kernel_rfl) (by kernel_rfl) (by kernel_rfl) (fun _ _ _ h => h) (Or.inl ⟨by rfl, ?_⟩) (by assumption) ?_
                      rotate_left
                      · intro w hSw; (try dsimp only at hSw); go_simp
                        try with_reducible rfl
                      try simp only [Act.put, List.getElem_toArray, List.getElem_cons_zero, List.getElem_cons_succ, List.setIfInBounds_toArray, List.set_cons_zero, List.set_cons_succ]
                      refine wpAnyH_take (i := 5) (v := ?_) rfl (by kernel_rfl) (by kernel_rfl) (by kernel_rfl) (fun _ _ _ h => h) (Or.inl ⟨by rfl, ?_⟩) (by assumption) ?_
                      rotate_left
                      · intro w hSw; (try dsimp only at hSw); go_simp
                        try with_reducible rfl
                      try simp only [Act.put, List.getElem_toArray, List.getElem_cons_zero, List.getElem_cons_succ, List.setIfInBounds_toArray, List.set_cons_zero, List.set_cons_succ]
                      refine wpAnyH_take (i := 6) (v := ?_) rfl (by kernel_rfl) (by kernel_rfl) (by kernel_rfl) (fun _ _ _ h => h) (Or.inl ⟨by rfl, ?_⟩) (by assumption) ?_
                      rotate_left
                      · intro w hSw; (try dsimp only at hSw); go_simp
                        try with_reducible rfl
                      try simp only [Act.put, List.getElem_toArray, List.getElem_cons_zero, List.getElem_cons_succ, List.setIfInBounds_toArray, List.set_cons_zero, List.set_cons_succ]
                      refine wpAnyH_take (i := 7) (v := ?_) rfl (by kernel_rfl) (by kernel_rfl) (by kernel_rfl) (fun _ _ _ h => h) (Or.inl ⟨by rfl, ?_⟩) (by assumption) ?_
                      rotate_left
                      · intro w hSw; (try dsimp only at hSw); go_simp
                        try with_reducible rfl
                      try simp only [Act.put, List.getElem_toArray, List.getElem_cons_zero, List.getElem_cons_succ, List.setIfInBounds_toArray, List.set_cons_zero, List.set_cons_succ]
                      refine wpAnyH_take (i := 8) (v := ?_) rfl (by kernel_rfl) (by kernel_rfl) (by kernel_rfl) (fun _ _ _ h => h) (Or.inl ⟨by rfl, ?_⟩) (by assumption) ?_
                      rotate_left
                      · intro w hSw; (try dsimp only at hSw); go_simp
                        try with_reducible rfl
                      try simp only [Act.put, List.getElem_toArray, List.getElem_cons_zero, List.getElem_cons_succ, List.setIfInBounds_toArray, List.set_cons_zero, List.set_cons_succ]
                      refine wpAnyH_take (i := 9) (v := ?_) rfl (by kernel_rfl) (by kernel_rfl) (by kernel_rfl) (fun _ _ _ h => h) (Or.inl ⟨by rfl, ?_⟩) (by assumption) ?_
                      rotate_left
                      · intro w hSw; (try dsimp only at hSw); go_simp
                        try with_reducible rfl
                      try simp only [Act.put, List.getElem_toArray, List.getElem_cons_zero, List.getElem_cons_succ, List.setIfInBounds_toArray, List.set_cons_zero, List.set_cons_succ]
                      refine wpAnyH_take (i := 10) (v := ?_) rfl (by kernel_rfl) (by kernel_rfl) (by kernel_rfl) (fun _ _ _ h => h) (Or.inl ⟨by rfl, ?_⟩) (by assumption) ?_
                      rotate_left
                      · intro w hSw; (try dsimp only at hSw); go_simp
                        try with_reducible rfl
                      try simp only [Act.put, List.getElem_toArray, List.getElem_cons_zero, List.getElem_cons_succ, List.setIfInBounds_toArray, List.set_cons_zero, List.set_cons_succ]
                      refine wpAnyH_take (i := 11) (v := ?_) rfl (by kernel_rfl) (by kernel_rfl) (by kernel_rfl) (fun _ _ _ h => h) (Or.inl ⟨by rfl, ?_⟩) (by assumption) ?_
                      rotate_left
                      · intro w hSw; (try dsimp only at hSw); go_simp
                        try with_reducible rfl
                      try simp only [Act.put, List.getElem_toArray, List.getElem_cons_zero, List.getElem_cons_succ, List.setIfInBounds_toArray, List.set_cons_zero, List.set_cons_succ]
                      refine wpAnyH_take (i := 12) (v := ?_) rfl (by kernel_rfl) (by kernel_rfl) (by kernel_rfl) (fun _ _ _ h => h) (Or.inl ⟨by rfl, ?_⟩) (by assumption) ?_
                      rotate_left
                      · intro w hSw; (try dsimp only at hSw); go_simp
                        try with_reducible rfl
                      try simp only [Act.put, List.getElem_toArray, List.getElem_cons_zero, List.getElem_cons_succ, List.setIfInBounds_toArray, List.set_cons_zero, List.set_cons_succ]
                      refine wpAnyH_take (i := 13) (v := ?_) rfl (by kernel_rfl) (by kernel_rfl) (by kernel_rfl) (fun _ _ _ h => h) (Or.inl ⟨by rfl, ?_⟩) (by assumption) ?_
                      rotate_left
                      · intro w hSw; (try dsimp only at hSw); go_simp
                        try with_reducible rfl
                      try simp only [Act.put, List.getElem_toArray, List.getElem_cons_zero, List.getElem_cons_succ, List.setIfInBounds_toArray, List.set_cons_zero, List.set_cons_succ]
                      refine wpAnyH_take (i := 14) (v := ?_) rfl (by kernel_rfl) (by kernel_rfl) (by kernel_rfl) (fun _ _ _ h => h) (Or.inl ⟨by rfl, ?_⟩) (by assumption) ?_
                      rotate_left
                      · intro w hSw; (try dsimp only at hSw); go_simp
                        try with_reducible rfl
                      try simp only [Act.put, List.getElem_toArray, List.getElem_cons_zero, List.getElem_cons_succ, List.setIfInBounds_toArray, List.set_cons_zero, List.set_cons_succ]
                      refine wpAnyH_take (i := 15) (v := ?_) rfl (by kernel_rfl) (by kernel_rfl) (by kernel_rfl) (fun _ _ _ h => h) (Or.inl ⟨by rfl, ?_⟩) (by assumption) ?_
                      rotate_left
                      · intro w hSw; (try dsimp only at hSw); go_simp
                        try with_reducible rfl
                      try simp only [Act.put, List.getElem_toArray, List.getElem_cons_zero, List.getElem_cons_succ, List.setIfInBounds_toArray, List.set_cons_zero, List.set_cons_succ]
                      refine wpAnyH_take (i := 16) (v := ?_) rfl (by kernel_rfl) (by kernel_rfl) (by kernel_rfl) (fun _ _ _ h => h) (Or.inl ⟨by rfl, ?_⟩) (by assumption) ?_
                      rotate_left
                      · intro w hSw; (try dsimp only at hSw); go_simp
                        try with_reducible rfl
                      try simp only [Act.put, List.getElem_toArray, List.getElem_cons_zero, List.getElem_cons_succ, List.setIfInBounds_toArray, List.set_cons_zero, List.set_cons_succ]
                      refine wpAnyH_take (i := 17) (v := ?_) rfl (by kernel_rfl) (by kernel_rfl) (by kernel_rfl) (fun _ _ _ h => h) (Or.inl ⟨by rfl, ?_⟩) (by assumption) ?_
                      rotate_left
                      · intro w hSw; (try dsimp only at hSw); go_simp
                        try with_reducible rfl
                      try simp only [Act.put, List.getElem_toArray, List.getElem_cons_zero, List.getElem_cons_succ, List.setIfInBounds_toArray, List.set_cons_zero, List.set_cons_succ]
                      refine wpAnyH_take (i := 18) (v := ?_) rfl (by kernel_rfl) (by kernel_rfl) (by kernel_rfl) (fun _ _ _ h => h) (Or.inl ⟨by rfl, ?_⟩) (by assumption) ?_
                      rotate_left
                      · intro w hSw; (try dsimp only at hSw); go_simp
                        try with_reducible rfl
                      try simp only [Act.put, List.getElem_toArray, List.getElem_cons_zero, List.getElem_cons_succ, List.setIfInBounds_toArray, List.set_cons_zero, List.set_cons_succ]
                      refine wpAnyH_take (i := 19) (v := ?_) rfl (by kernel_rfl) (by kernel_rfl) (by kernel_rfl) (fun _ _ _ h => h) (Or.inl ⟨by rfl, ?_⟩) (by assumption) ?_
                      rotate_left
                      · intro w hSw; (try dsimp only at hSw); go_simp
                        try with_reducible rfl
                      try simp only [Act.put, List.getElem_toArray, List.getElem_cons_zero, List.getElem_cons_succ, List.setIfInBounds_toArray, List.set_cons_zero, List.set_cons_succ]
                      refine wpAnyH_take (i := 20) (v := ?_) rfl (by kernel_rfl) (by kernel_rfl) (by kernel_rfl) (fun _ _ _ h => h) (Or.inl ⟨by rfl, ?_⟩) (by assumption) ?_
                      rotate_left
                      · intro w hSw; (try dsimp only at hSw); go_simp
                        try with_reducible rfl
                      try simp only [Act.put, List.getElem_toArray, List.getElem_cons_zero, List.getElem_cons_succ, List.setIfInBounds_toArray, List.set_cons_zero, List.set_cons_succ]
                      refine wpAnyH_take (i := 21) (v := ?_) rfl (by kernel_rfl) (by kernel_rfl) (by kernel_rfl) (fun _ _ _ h => h) (Or.inl ⟨by rfl, ?_⟩) (by assumption) ?_
                      rotate_left
                      · intro w hSw; (try dsimp only at hSw); go_simp
                        try with_reducible rfl
                      try simp only [Act.put, List.getElem_toArray, List.getElem_cons_zero, List.getElem_cons_succ, List.setIfInBounds_toArray, List.set_cons_zero, List.set_cons_succ]
                      refine wpAnyH_take (i := 22) (v := ?_) rfl (by kernel_rfl) (by kernel_rfl) (by kernel_rfl) (fun _ _ _ h => h) (Or.inl ⟨by rfl, ?_⟩) (by assumption) ?_
                      rotate_left
                      · intro w hSw; (try dsimp only at hSw); go_simp
                        try with_reducible rfl
                      try simp only [Act.put, List.getElem_toArray, List.getElem_cons_zero, List.getElem_cons_succ, List.setIfInBounds_toArray, List.set_cons_zero, List.set_cons_succ]
                      refine wpAnyH_take (i := 23) (v := ?_) rfl (by kernel_rfl) (by kernel_rfl) (by kernel_rfl) (fun _ _ _ h => h) (Or.inl ⟨by rfl, ?_⟩) (by assumption) ?_
                      rotate_left
                      · intro w hSw; (try dsimp only at hSw); go_simp
                        try with_reducible rfl
                      try simp only [Act.put, List.getElem_toArray, List.getElem_cons_zero, List.getElem_cons_succ, List.setIfInBounds_toArray, List.set_cons_zero, List.set_cons_succ]
                      refine wpAnyH_take (i := 24) (v := ?_) rfl (by kernel_rfl) (by kernel_rfl) (by kernel_rfl) (fun _ _ _ h => h) (Or.inl ⟨by rfl, ?_⟩) (by assumption) ?_
                      rotate_left
                      · intro w hSw; (try dsimp only at hSw); go_simp
                        try with_reducible rfl
                      try simp only [Act.put, List.getElem_toArray, List.getElem_cons_zero, List.getElem_cons_succ, List.setIfInBounds_toArray, List.set_cons_zero, List.set_cons_succ]
                      refine wpAnyH_take (i := 25) (v := ?_) rfl (by kernel_rfl) (by kernel_rfl) (by kernel_rfl) (fun _ _ _ h => h) (Or.inl ⟨by rfl, ?_⟩) (by assumption) ?_
                      rotate_left
                      · intro w hSw; (try dsimp only at hSw); go_simp
                        try with_reducible rfl
                      try simp only [Act.put, List.getElem_toArray, List.getElem_cons_zero, List.getElem_cons_succ, List.setIfInBounds_toArray, List.set_cons_zero, List.set_cons_succ]
                      clear e1 e2 hHeld
                      refine wpAnyH_done (by kernel_rfl) ?_ _
                      go_wp2_with fail
                      obtain ⟨bb, o5, rfl, hbb, _⟩ := V9.out.addr (by omega) (by omega)
                      have hblo : bb < lo := v13 _ rfl
                      obtain ⟨iP, hiP, hP0, hP1, hP2⟩ := info_parts infoProp
                      obtain ⟨bs, hbs⟩ : ∃ bs, (b.drop q3).take n = bs := ⟨_, rfl⟩
                      have hbl : n = bs.length := by rw [← hbs, List.length_take, List.length_drop]; omega
                      have hrd : Rd w4 1 (if cb4 = q3 then some ⟨bb, o5, none⟩ else some ⟨bb, o5 + q3, none⟩) n (bs.map bv) := by
                        have h1 := (V9.out.cut (k := q3) (cap := cb4) (by omega) v11).take_ (k := n) (by omega)
                        rw [Nat.mul_one, Nat.mul_one, ← List.map_drop, ← List.map_take, hbs] at h1
                        simp only [Option.map_some, Addr.add_lit] at h1
                        exact h1
                      obtain ⟨qs, hqs, hown⟩ := HN4.out.1.props.open_
                      have hbx1 : w4.cell? ⟨w.heap.size + 1, 1, none⟩ = some (.slice Ap ps.length cp) := HN4.out.1.box.cell 1
                      have hbt4 : w.heap.size + 1 < w4.heap.size := HN4.out.1.box.lt
                      have HQS := Lib.hid (And.intro hqs hown)
                      have HRD := Lib.hid hrd
                      have HBS := Lib.hid (And.intro hbs hbl)
                      clear hqs hown hrd hbs hbl hbb v1 v3 v4 v6 v7 y3
                      have e4 : (0 : Int) ≤ (q3 : Int) := by omega
                      have e5 : (q3 : Int) ≤ (q3 : Int) + (n : Int) := by omega
                      have e6 : (q3 : Int) + (n : Int) ≤ (cb4 : Int) := by omega
                      have e7 : ((q3 : Int) + (n : Int)).toNat = q3 + n := by omega
                      have e8 : q3 + n - q3 = n := by omega
                      have e3 : IntKind.i64.wrap ((q3 : Int) + (n : Int)) = (q3 : Int) + (n : Int) := IntWalk.i64_in _ (by omega)
                      refine wp_region_held_drew (S := fun wx => wx.cell? ⟨g, 0, none⟩ = some (.slice (some ⟨bb, o5, none⟩) b.length cb4) ∧ wx.cell? ⟨g, 2, none⟩ = some (.int .i64 (q3 : Int))) (by kernel_rfl) ⟨v0, v2⟩ (fun hHeld => ?_)
                      refine wpAnyH_take (i := 0) (v := ?_) rfl (by kernel_rfl) (by kernel_rfl) (by kernel_rfl) (fun _ _ _ h => h) (Or.inl ⟨by rfl, ?_⟩) (by assumption) ?_
                      rotate_left
                      · intro w hSw; (try dsimp only at hSw); go_simp
                        try with_reducible rfl
                      try simp only [Act.put, List.getElem_toArray, List.getElem_cons_zero, List.getElem_cons_succ, List.setIfInBounds_toArray, List.set_cons_zero, List.set_cons_succ]
                      refine wpAnyH_take (i := 2) (v := ?_) rfl (by kernel_rfl) (by kernel_rfl) (by kernel_rfl) (fun _ _ _ h => h) (Or.inl ⟨by rfl, ?_⟩) (by assumption) ?_
                      rotate_left
                      · intro w hSw; (try dsimp only at hSw); go_simp
                        try with_reducible rfl
                      try simp only [Act.put, List.getElem_toArray, List.getElem_cons_zero, List.getElem_cons_succ, List.setIfInBounds_toArray, List.set_cons_zero, List.set_cons_succ]
                      refine wpAnyH_take (i := 3) (v := ?_) rfl (by kernel_rfl) (by kernel_rfl) (by kernel_rfl) (fun _ _ _ h => h) (Or.inl ⟨by rfl, ?_⟩) (by assumption) ?_
                      rotate_left
                      · intro w hSw; (try dsimp only at hSw); go_simp
                        try with_reducible rfl
                      try simp only [Act.put, List.getElem_toArray, List.getElem_cons_zero, List.getElem_cons_succ, List.setIfInBounds_toArray, List.set_cons_zero, List.set_cons_succ]
                      refine wpAnyH_take (i := 4) (v := ?_) rfl (by kernel_rfl) (by kernel_rfl) (by kernel_rfl) (fun _ _ _ h => h) (Or.inl ⟨by rfl, ?_⟩) (by assumption) ?_
                      rotate_left
                      · intro w hSw; (try dsimp only at hSw); go_simp
                        try with_reducible rfl
                      try simp only [Act.put, List.getElem_toArray, List.getElem_cons_zero, List.getElem_cons_succ, List.setIfInBounds_toArray, List.set_cons_zero, List.set_cons_succ]
                      refine wpAnyH_take (i := 5) (v := ?_) rfl (by kernel_rfl) (by kernel_rfl) (by kernel_rfl) (fun _ _ _ h => h) (Or.inl ⟨by rfl, ?_⟩) (by assumption) ?_
                      rotate_left
                      · intro w hSw; (try dsimp only at hSw); go_simp
                        try with_reducible rfl
                      try simp only [Act.put, List.getElem_toArray, List.getElem_cons_zero, List.getElem_cons_succ, List.setIfInBounds_toArray, List.set_cons_zero, List.set_cons_succ]
                      refine wpAnyH_take (i := 6) (v := ?_) rfl (by kernel_rfl) (by kernel_rfl) (by kernel_rfl) (fun _ _ _ h => h) (Or.inl ⟨by rfl, ?_⟩) (by assumption) ?_
                      rotate_left
                      · intro w hSw; (try dsimp only at hSw); go_simp
                        try with_reducible rfl
                      try simp only [Act.put, List.getElem_toArray, List.getElem_cons_zero, List.getElem_cons_succ, List.setIfInBounds_toArray, List.set_cons_zero, List.set_cons_succ]
                      refine wpAnyH_take (i := 7) (v := ?_) rfl (by kernel_rfl) (by kernel_rfl) (by kernel_rfl) (fun _ _ _ h => h) (Or.inl ⟨by rfl, ?_⟩) (by assumption) ?_
                      rotate_left
                      · intro w hSw; (try dsimp only at hSw); go_simp
                        try with_reducible rfl
                      try simp only [Act.put, List.getElem_toArray, List.getElem_cons_zero, List.getElem_cons_succ, List.setIfInBounds_toArray, List.set_cons_zero, List.set_cons_succ]
                      refine wpAnyH_take (i := 8) (v := ?_) rfl (by kernel_rfl) (by kernel_rfl) (by kernel_rfl) (fun _ _ _ h => h) (Or.inl ⟨by rfl, ?_⟩) (by assumption) ?_
                      rotate_left
                      · intro w hSw; (try dsimp only at hSw); go_simp
                        try with_reducible rfl
                      try simp only [Act.put, List.getElem_toArray, List.getElem_cons_zero, List.getElem_cons_succ, List.setIfInBounds_toArray, List.set_cons_zero, List.set_cons_succ]
                      refine wpAnyH_take (i := 9) (v := ?_) rfl (by kernel_rfl) (by kernel_rfl) (by kernel_rfl) (fun _ _ _ h => h) (Or.inl ⟨by rfl, ?_⟩) (by assumption) ?_
                      rotate_left
                      · intro w hSw; (try dsimp only at hSw); go_simp
                        try with_reducible rfl
                      try simp only [Act.put, List.getElem_toArray, List.getElem_cons_zero, List.getElem_cons_succ, List.setIfInBounds_toArray, List.set_cons_zero, List.set_cons_succ]
                      refine wpAnyH_take (i := 10) (v := ?_) rfl (by kernel_rfl) (by kernel_rfl) (by kernel_rfl) (fun _ _ _ h => h) (Or.inl ⟨by rfl, ?_⟩) (by assumption) ?_
                      rotate_left
                      · intro w hSw; (try dsimp only at hSw); go_simp
                        try with_reducible rfl
                      try simp only [Act.put, List.getElem_toArray, List.getElem_cons_zero, List.getElem_cons_succ, List.setIfInBounds_toArray, List.set_cons_zero, List.set_cons_succ]
                      refine wpAnyH_take (i := 11) (v := ?_) rfl (by kernel_rfl) (by kernel_rfl) (by kernel_rfl) (fun _ _ _ h => h) (Or.inl ⟨by rfl, ?_⟩) (by assumption) ?_
                      rotate_left
                      · intro w hSw; (try dsimp only at hSw); go_simp
                        try with_reducible rfl
                      try simp only [Act.put, List.getElem_toArray, List.getElem_cons_zero, List.getElem_cons_succ, List.setIfInBounds_toArray, List.set_cons_zero, List.set_cons_succ]
                      refine wpAnyH_take (i := 12) (v := ?_) rfl (by kernel_rfl) (by kernel_rfl) (by kernel_rfl) (fun _ _ _ h => h) (Or.inl ⟨by rfl, ?_⟩) (by assumption) ?_
                      rotate_left
                      · intro w hSw; (try dsimp only at hSw); go_simp
                        try with_reducible rfl
                      try simp only [Act.put, List.getElem_toArray, List.getElem_cons_zero, List.getElem_cons_succ, List.setIfInBounds_toArray, List.set_cons_zero, List.set_cons_succ]
                      refine wpAnyH_take (i := 13) (v := ?_) rfl (by kernel_rfl) (by kernel_rfl) (by kernel_rfl) (fun _ _ _ h => h) (Or.inl ⟨by rfl, ?_⟩) (by assumption) ?_
                      rotate_left
                      · intro w hSw; (try dsimp only at hSw); go_simp
                        try with_reducible rfl
                      try simp only [Act.put, List.getElem_toArray, List.getElem_cons_zero, List.getElem_cons_succ, List.setIfInBounds_toArray, List.set_cons_zero, List.set_cons_succ]
                      refine wpAnyH_take (i := 14) (v := ?_) rfl (by kernel_rfl) (by kernel_rfl) (by kernel_rfl) (fun _ _ _ h => h) (Or.inl ⟨by rfl, ?_⟩) (by assumption) ?_
                      rotate_left
                      · intro w hSw; (try dsimp only at hSw); go_simp
                        try with_reducible rfl
                      try simp only [Act.put, List.getElem_toArray, List.getElem_cons_zero, List.getElem_cons_succ, List.setIfInBounds_toArray, List.set_cons_zero, List.set_cons_succ]
                      refine wpAnyH_take (i := 15) (v := ?_) rfl (by kernel_rfl) (by kernel_rfl) (by kernel_rfl) (fun _ _ _ h => h) (Or.inl ⟨by rfl, ?_⟩) (by assumption) ?_
                      rotate_left
                      · intro w hSw; (try dsimp only at hSw); go_simp
                        try with_reducible rfl
                      try simp only [Act.put, List.getElem_toArray, List.getElem_cons_zero, List.getElem_cons_succ, List.setIfInBounds_toArray, List.set_cons_zero, List.set_cons_succ]
                      refine wpAnyH_take (i := 16) (v := ?_) rfl (by kernel_rfl) (by kernel_rfl) (by kernel_rfl) (fun _ _ _ h => h) (Or.inl ⟨by rfl, ?_⟩) (by assumption) ?_
                      rotate_left
                      · intro w hSw; (try dsimp only at hSw); go_simp
                        try with_reducible rfl
                      try simp only [Act.put, List.getElem_toArray, List.getElem_cons_zero, List.getElem_cons_succ, List.setIfInBounds_toArray, List.set_cons_zero, List.set_cons_succ]
                      refine wpAnyH_take (i := 17) (v := ?_) rfl (by kernel_rfl) (by kernel_rfl) (by kernel_rfl) (fun _ _ _ h => h) (Or.inl ⟨by rfl, ?_⟩) (by assumption) ?_
                      rotate_left
                      · intro w hSw; (try dsimp only at hSw); go_simp
                        try with_reducible rfl
                      try simp only [Act.put, List.getElem_toArray, List.getElem_cons_zero, List.getElem_cons_succ, List.setIfInBounds_toArray, List.set_cons_zero, List.set_cons_succ]
                      clear e3 e4 e5 e6 e7 e8
                      generalize hX : (if cb4 = q3 then some (⟨bb, o5, none⟩ : Addr) else some ⟨bb, o5 + q3, none⟩) = X5
                      have HX := Lib.hid hX
                      clear hX
                      have hn4a : New w4 (w4.alloc (.cells #[.string S, .slice X5 n (cb4 - q3)] 96)) := (Chg.refl _ _).alloc _
                      have hSa : (w4.alloc (.cells #[.string S, .slice X5 n (cb4 - q3)] 96)).cell? ⟨g, 0, none⟩ = some (.slice (some ⟨bb, o5, none⟩) b.length cb4) ∧ (w4.alloc (.cells #[.string S, .slice X5 n (cb4 - q3)] 96)).cell? ⟨g, 2, none⟩ = some (.int .i64 (q3 : Int)) :=
                        ⟨(hn4a.cell (p := ⟨g, 0, none⟩) v8 (fun h => h)).trans v0, (hn4a.cell (p := ⟨g, 2, none⟩) v8 (fun h => h)).trans v2⟩
                      have hbx1a : (w4.alloc (.cells #[.string S, .slice X5 n (cb4 - q3)] 96)).cell? ⟨w.heap.size + 1, 1, none⟩ = some (.slice Ap ps.length cp) := (hn4a.cell (p := ⟨w.heap.size + 1, 1, none⟩) hbt4 (fun h => h)).trans hbx1
                      clear hn4a
                      refine wpAnyH_take (i := 18) (v := ?_) rfl (by kernel_rfl) (by kernel_rfl) (by kernel_rfl) (fun _ _ _ h => h) (Or.inl ⟨by rfl, ?_⟩) (by assumption) ?_
                      rotate_left
                      · intro w hSw; (try dsimp only at hSw); go_simp
                        try with_reducible rfl
                      try simp only [Act.put, List.getElem_toArray, List.getElem_cons_zero, List.getElem_cons_succ, List.setIfInBounds_toArray, List.set_cons_zero, List.set_cons_succ]
                      refine wpAnyH_ready (rs := [1, 19]) (by kernel_rfl) (by simp) ?_
                      refine AllReadyH.cons rfl (fun K hK => ?_) (AllReadyH.cons rfl (fun K hK => ?_) AllReadyH.nil)
                      · go_simp
                        refine hK.out _ _ (⟨v0, v2⟩) (fun hHeld => ?_)
                        clear hK K
                        try simp only [Act.put, List.getElem_toArray, List.getElem_cons_zero, List.getElem_cons_succ, List.setIfInBounds_toArray, List.set_cons_zero, List.set_cons_succ]
                        refine wpAnyH_ready (rs := [19]) (by kernel_rfl) (by simp) ?_
                        refine AllReadyH.cons rfl (fun K hK => ?_) AllReadyH.nil
                        go_simp
                        refine hK.out _ _ (hSa) (fun hHeld => ?_)
                        clear hK K
                        try simp only [Act.put, List.getElem_toArray, List.getElem_cons_zero, List.getElem_cons_succ, List.setIfInBounds_toArray, List.set_cons_zero, List.set_cons_succ]
                        refine wpAnyH_ready (rs := [20]) (by kernel_rfl) (by simp) ?_
                        refine AllReadyH.cons rfl (fun K hK => ?_) AllReadyH.nil
                        refine step_of_wp rfl (wp_append_x _ _ _ 22 rfl (w.heap.size + 1 + 1) 96 iP _ 2 40 Try.underlying22 hiP hP0 hP1 hP2 rfl (by omega) Ap ps.length cp _ rfl ((HQS.out.2.alloc _).drew.drew) (some ⟨w4.heap.size, 0, none⟩) 1 _ [.string S, .slice X5 n (cb4 - q3)] rfl (Rd.box ((Blk.made w4 _ _).drew.drew) rfl) (by simp; exact ⟨rfl, rfl⟩) (ps.length + 1) rfl (by simp only [maxLen]; omega) (by omega) (by simp; omega) ?_)
                        intro A7 c7 w7 hown7 hg7 hat7
                        have hg7' : (w4.alloc (.cells #[.string S, .slice X5 n (cb4 - q3)] 96)).grownBy w7 (blkOf Ap) := ⟨hg7.os, hg7.tape, hg7.output, hg7.size, hg7.block⟩
                        have hlp := HN4.out.1.props.lt
                        have hc47 := ((Chg.refl _ w4).alloc _).grown hg7' (fun k hk _ => hk)
                        have hB7 := HN4.out.1.box.chg hc47 (fun e => by have := (hlp _ e).1; omega)
                        have hS7 : w7.cell? ⟨g, 0, none⟩ = some (.slice (some ⟨bb, o5, none⟩) b.length cb4) ∧ w7.cell? ⟨g, 2, none⟩ = some (.int .i64 (q3 : Int)) :=
                          ⟨(hc47.cell (p := ⟨g, 0, none⟩) v8 (fun e => by have := (hlp g e).1; omega)).trans v0, (hc47.cell (p := ⟨g, 2, none⟩) v8 (fun e => by have := (hlp g e).1; omega)).trans v2⟩
                        refine hK.out _ _ (hS7) (fun hHeld => ?_)
                        clear hK K
                        try simp only [Act.put, List.getElem_toArray, List.getElem_cons_zero, List.getElem_cons_succ, List.setIfInBounds_toArray, List.set_cons_zero, List.set_cons_succ]
                        refine wpAnyH_take (i := 21) (v := ?_) rfl (by kernel_rfl) (by kernel_rfl) (by kernel_rfl) (fun _ _ _ h => h) (Or.inl ⟨by rfl, ?_⟩) (by assumption) ?_
                        rotate_left
                        · intro w hSw; (try dsimp only at hSw); go_simp
                          try with_reducible rfl
                        try simp only [Act.put, List.getElem_toArray, List.getElem_cons_zero, List.getElem_cons_succ, List.setIfInBounds_toArray, List.set_cons_zero, List.set_cons_succ]
                        have hb7 := hB7.cell 1
                        have hf7 := hB7.frozen 1
                        have hf72 : w7.frozen? ⟨g, 2, none⟩ = false := (hc47.frozen (p := ⟨g, 2, none⟩) v8 (fun e => by have := (hlp g e).1; omega)).trans v5
                        have hc72 := hS7.2
                        have HH7 := Lib.hid (And.intro hown7 (And.intro hg7' hat7))
                        have HS8 := Lib.hid (show ∀ v, (w7.setCell ⟨w.heap.size + 1, 1, none⟩ v).cell? ⟨g, 0, none⟩ = some (.slice (some ⟨bb, o5, none⟩) b.length cb4) ∧ (w7.setCell ⟨w.heap.size + 1, 1, none⟩ v).cell? ⟨g, 2, none⟩ = some (.int .i64 (q3 : Int)) from fun v =>
                          ⟨(World.cell?_setCell_far w7 _ _ v (by show w.heap.size + 1 ≠ g; omega)).trans hS7.1, (World.cell?_setCell_far w7 _ _ v (by show w.heap.size + 1 ≠ g; omega)).trans hS7.2⟩)
                        clear hB7 hown7 hg7 hg7' hat7 hc47 hlp
                        refine wpAnyH_ready (rs := [22]) (by kernel_rfl) (by simp) ?_
                        refine AllReadyH.cons rfl (fun K hK => ?_) AllReadyH.nil
                        go_simp
                        refine hK.out _ _ (HS8.out _) (fun hHeld => ?_)
                        clear hK K
                        try simp only [Act.put, List.getElem_toArray, List.getElem_cons_zero, List.getElem_cons_succ, List.setIfInBounds_toArray, List.set_cons_zero, List.set_cons_succ]
                        refine wpAnyH_done (by kernel_rfl) ?_ _
                        clear hHeld
                        go_wp2_with fail
                        obtain ⟨hown7, hg7, hat7⟩ := HH7.out
                        obtain ⟨hbs, hbl⟩ := HBS.out
                        obtain ⟨hN8, hc8⟩ := HN4.out.1.prop hbl (Chg.refl _ w4) (by rw [← HX.out]; exact HRD.out) (by omega) (fun _ ad e => .inl (by
                          rw [← HX.out] at e
                          split at e <;> (injection e with e; subst e; exact hblo))) (by omega) hSz HQS.out.1 rfl hown7 hg7 hat7
                        have hC8 := HN4.out.2.chg hc8 (fun k hk e => by omega)
                        go_roundg (k1 + 1)
                        case measure => omega
                        case rel =>
                          have e9 : ((q3 : Int) + (n : Int) + 3) / 4 * 4 = ((q3 + (n + 3) / 4 * 4 : Nat) : Int) := by omega
                          rw [e9]
                          exact .inl ⟨k1, ps ++ [(S, bs)], ks, A7, Ak, c7, ck, q3 + (n + 3) / 4 * 4, m, rfl, by omega, by rw [HR4.out, if_neg (by omega), HQ3.out, HS.out, hbs], by omega, by omega, by omega, by omega, by simp; omega, by omega, hC8.setat _,
                            hN8.go_ (Chg.setCell (S := fun k => k = g) (p := ⟨g, 2, none⟩) (Chg.refl _ _) (fun _ => rfl) _)⟩
                      · go_simp
                        refine hK.out _ _ (hSa) (fun hHeld => ?_)
                        clear hK K
                        try simp only [Act.put, List.getElem_toArray, List.getElem_cons_zero, List.getElem_cons_succ, List.setIfInBounds_toArray, List.set_cons_zero, List.set_cons_succ]
                        refine wpAnyH_ready (rs := [1]) (by kernel_rfl) (by simp) ?_
                        refine AllReadyH.cons rfl (fun K hK => ?_) AllReadyH.nil
                        go_simp
                        refine hK.out _ _ (hSa) (fun hHeld => ?_)
                        clear hK K
                        try simp only [Act.put, List.getElem_toArray, List.getElem_cons_zero, List.getElem_cons_succ, List.setIfInBounds_toArray, List.set_cons_zero, List.set_cons_succ]
                        refine wpAnyH_ready (rs := [20]) (by kernel_rfl) (by simp) ?_
                        refine AllReadyH.cons rfl (fun K hK => ?_) AllReadyH.nil
                        refine step_of_wp rfl (wp_append_x _ _ _ 22 rfl (w.heap.size + 1 + 1) 96 iP _ 2 40 Try.underlying22 hiP hP0 hP1 hP2 rfl (by omega) Ap ps.length cp _ rfl ((HQS.out.2.alloc _).drew.drew) (some ⟨w4.heap.size, 0, none⟩) 1 _ [.string S, .slice X5 n (cb4 - q3)] rfl (Rd.box ((Blk.made w4 _ _).drew.drew) rfl) (by simp; exact ⟨rfl, rfl⟩) (ps.length + 1) rfl (by simp only [maxLen]; omega) (by omega) (by simp; omega) ?_)
                        intro A7 c7 w7 hown7 hg7 hat7
                        have hg7' : (w4.alloc (.cells #[.string S, .slice X5 n (cb4 - q3)] 96)).grownBy w7 (blkOf Ap) := ⟨hg7.os, hg7.tape, hg7.output, hg7.size, hg7.block⟩
                        have hlp := HN4.out.1.props.lt
                        have hc47 := ((Chg.refl _ w4).alloc _).grown hg7' (fun k hk _ => hk)
                        have hB7 := HN4.out.1.box.chg hc47 (fun e => by have := (hlp _ e).1; omega)
                        have hS7 : w7.cell? ⟨g, 0, none⟩ = some (.slice (some ⟨bb, o5, none⟩) b.length cb4) ∧ w7.cell? ⟨g, 2, none⟩ = some (.int .i64 (q3 : Int)) :=
                          ⟨(hc47.cell (p := ⟨g, 0, none⟩) v8 (fun e => by have := (hlp g e).1; omega)).trans v0, (hc47.cell (p := ⟨g, 2, none⟩) v8 (fun e => by have := (hlp g e).1; omega)).trans v2⟩
                        refine hK.out _ _ (hS7) (fun hHeld => ?_)
                        clear hK K
                        try simp only [Act.put, List.getElem_toArray, List.getElem_cons_zero, List.getElem_cons_succ, List.setIfInBounds_toArray, List.set_cons_zero, List.set_cons_succ]
                        refine wpAnyH_take (i := 21) (v := ?_) rfl (by kernel_rfl) (by kernel_rfl) (by kernel_rfl) (fun _ _ _ h => h) (Or.inl ⟨by rfl, ?_⟩) (by assumption) ?_
                        rotate_left
                        · intro w hSw; (try dsimp only at hSw); go_simp
                          try with_reducible rfl
                        try simp only [Act.put, List.getElem_toArray, List.getElem_cons_zero, List.getElem_cons_succ, List.setIfInBounds_toArray, List.set_cons_zero, List.set_cons_succ]
                        have hb7 := hB7.cell 1
                        have hf7 := hB7.frozen 1
                        have hf72 : w7.frozen? ⟨g, 2, none⟩ = false := (hc47.frozen (p := ⟨g, 2, none⟩) v8 (fun e => by have := (hlp g e).1; omega)).trans v5
                        have hc72 := hS7.2
                        have HH7 := Lib.hid (And.intro hown7 (And.intro hg7' hat7))
                        have HS8 := Lib.hid (show ∀ v, (w7.setCell ⟨w.heap.size + 1, 1, none⟩ v).cell? ⟨g, 0, none⟩ = some (.slice (some ⟨bb, o5, none⟩) b.length cb4) ∧ (w7.setCell ⟨w.heap.size + 1, 1, none⟩ v).cell? ⟨g, 2, none⟩ = some (.int .i64 (q3 : Int)) from fun v =>
                          ⟨(World.cell?_setCell_far w7 _ _ v (by show w.heap.size + 1 ≠ g; omega)).trans hS7.1, (World.cell?_setCell_far w7 _ _ v (by show w.heap.size + 1 ≠ g; omega)).trans hS7.2⟩)
                        clear hB7 hown7 hg7 hg7' hat7 hc47 hlp
                        refine wpAnyH_ready (rs := [22]) (by kernel_rfl) (by simp) ?_
                        refine AllReadyH.cons rfl (fun K hK => ?_) AllReadyH.nil
                        go_simp
                        refine hK.out _ _ (HS8.out _) (fun hHeld => ?_)
                        clear hK K
                        try simp only [Act.put, List.getElem_toArray, List.getElem_cons_zero, List.getElem_cons_succ, List.setIfInBounds_toArray, List.set_cons_zero, List.set_cons_succ]
                        refine wpAnyH_done (by kernel_rfl) ?_ _
                        clear hHeld
                        go_wp2_with fail
                        obtain ⟨hown7, hg7, hat7⟩ := HH7.out
                        obtain ⟨hbs, hbl⟩ := HBS.out
                        obtain ⟨hN8, hc8⟩ := HN4.out.1.prop hbl (Chg.refl _ w4) (by rw [← HX.out]; exact HRD.out) (by omega) (fun _ ad e => .inl (by
                          rw [← HX.out] at e
                          split at e <;> (injection e with e; subst e; exact hblo))) (by omega) hSz HQS.out.1 rfl hown7 hg7 hat7
                        have hC8 := HN4.out.2.chg hc8 (fun k hk e => by omega)
                        go_roundg (k1 + 1)
                        case measure => omega
                        case rel =>
                          have e9 : ((q3 : Int) + (n : Int) + 3) / 4 * 4 = ((q3 + (n + 3) / 4 * 4 : Nat) : Int) := by omega
                          rw [e9]
                          exact .inl ⟨k1, ps ++ [(S, bs)], ks, A7, Ak, c7, ck, q3 + (n + 3) / 4 * 4, m, rfl, by omega, by rw [HR4.out, if_neg (by omega), HQ3.out, HS.out, hbs], by omega, by omega, by omega, by omega, by simp; omega, by omega, hC8.setat _,
                            hN8.go_ (Chg.setCell (S := fun k => k = g) (p := ⟨g, 2, none⟩) (Chg.refl _ _) (fun _ => rfl) _)⟩
            · by_cases h1 : v = 1
              · subst h1
                rw [if_neg (by omega), if_pos rfl] at HRs
                have HR1 := Lib.hid HRs
                clear HRs hv
                have e3 : ((1 : Int) == 3) = false := rfl
                obtain ⟨iT, hiT, hT0, hT1, hT2⟩ := info_parts infoTree
                go_wp2_with (go_at_call 58; (with_reducible refine F1.out.mono ?_); rintro e w2 ⟨hc2, hj, rfl, hC2⟩; clear hj
                             have hN2 := HN1.out.go_ hc2
                             have F4 := ih k1 (by omega) (d + 1) (q + 4) m g lo w2 hC2 (by omega) (by omega) (by omega) (by omega) (by omega)
                             rw [show ((d + 1 : Nat) : Int) = (d : Int) + 1 from by omega] at F4
                             have F4 := Lib.hid F4
                             have HN2 := Lib.hid hN2
                             clear hc2 hC2 hN2)
                go_wp2_with (first
                  | (go_at_call 59; (with_reducible refine F4.out.mono ?_); rintro e w4 ⟨hc4, s, Ax, Ay, nx, cx, ny, cy, rfl, h4⟩
                     have hN4 := HN2.out.go_ hc4
                     obtain ⟨x0, x1, x2, x3, x4, x5⟩ := hN4.box.c3
                     have hlt4 := hN4.box.lt
                     obtain ⟨qs, hqs, hown⟩ := hN4.kids.open_
                     have HH4 := Lib.hid h4
                     have HQ := Lib.hid (And.intro hqs hown)
                     have HN4 := Lib.hid hN4
                     clear hc4 h4 hN4 hqs hown)
                  | (with_reducible refine stopAt 163 rfl ?_))
                refine unstop ?_
                have hb5 := Blk.made (w4.alloc (.cells #[.string s, .slice Ax nx cx, .slice Ay ny cy] 25)) 25 #[.string s, .slice Ax nx cx, .slice Ay ny cy]
                have hs5 : (w4.alloc (.cells #[.string s, .slice Ax nx cx, .slice Ay ny cy] 25)).heap.size = w4.heap.size + 1 := by simp
                rw [hs5] at hb5
                refine wpList_append_x _ rfl _ _ 23 rfl (w.heap.size + 1 + 1) 25 iT _ 3 64 Try.underlying23 hiT hT0 hT1 hT2 rfl (by omega) Ak ks.length ck _ rfl ((HQ.out.2.alloc _).alloc _) (some ⟨w4.heap.size + 1, 0, none⟩) 1 _ [.string s, .slice Ax nx cx, .slice Ay ny cy] rfl (Rd.box hb5 rfl) (by simp; exact ⟨rfl, rfl, rfl⟩) (ks.length + 1) rfl (by simp only [maxLen]; omega) (by omega) (by simp; omega) ?_
                intro A7 c7 w7 hown7 hg7 hat7
                have hal : New w4 (w4.alloc (.cells #[.string s, .slice Ax nx cx, .slice Ay ny cy] 25)) := (Chg.refl _ _).alloc _
                have hN5 := HN4.out.new_ hal
                have hB7 := hN5.box.chg (((Chg.refl _ _).alloc _).grown hg7 (fun k hk _ => hk)) (fun e => by have := (hN5.kids.lt _ e).1; omega)
                have hb7 := hB7.cell 2
                have hf7 := hB7.frozen 2
                have HH7 := Lib.hid (And.intro hown7 (And.intro hg7 (And.intro hat7 (And.intro hal hN5))))
                clear hown7 hg7 hat7 hal hN5 hB7 hb5
                go_wp2_with fail
                obtain ⟨hown7, hg7, hat7, hal, hN5⟩ := HH7.out
                have h4 := HH4.out
                cases hnp : nodeP b tx k1 (d + 1) (q + 4) m with
                | none =>
                  rw [hnp] at h4
                  obtain ⟨p', l', hC4⟩ := h4
                  obtain ⟨r1, r2, r3, r4⟩ := hN5.rowbad A7 (ks.length + 1) c7 hg7
                  go_roundg 0
                  case measure => omega
                  case rel => exact loopc_bad (by rw [HR1.out, hnp]) r1 ((hC4.new_ hal).chg r2 (fun k hk e => by omega)) r3 (by omega) r4
                | some x =>
                  obtain ⟨t, q', m'⟩ := x
                  rw [hnp] at h4
                  obtain ⟨hT, hC4⟩ := h4
                  obtain ⟨hq1, hm1⟩ := nodeP_le b tx _ _ _ _ _ _ _ hnp
                  have hq2 := nodeP_in b tx _ _ _ _ _ _ _ hnp
                  have hq3 := nodeP_mod b tx _ _ _ _ _ _ _ (by omega) hnp
                  have hzz : ∀ k, ZS lo (w.heap.size + 1) w4.heap.size Ap Ak k → ZS lo (w.heap.size + 1) (w4.alloc (.cells #[.string s, .slice Ax nx cx, .slice Ay ny cy] 25)).heap.size Ap Ak k := fun k hk => by
                    rcases hk with hk | ⟨h1, h2, h3⟩
                    · exact .inl hk
                    · exact .inr ⟨h1, Nat.lt_of_lt_of_le h2 hal.size, h3⟩
                  have hT5 := ((HN2.out.zt hT).new_ hal).more hzz
                  obtain ⟨hN8, hc8⟩ := hN5.kid hT5 (HQ.out.1.new_ hal hzz) rfl hown7 hg7 hat7
                  go_roundg (k1 + 1)
                  case measure => omega
                  case rel => exact .inl ⟨k1, ps, ks ++ [t], Ap, A7, cp, c7, q', m', rfl, by omega, by rw [HR1.out, hnp], by omega, by omega, by omega, hq3, by omega, by simp; omega, (hC4.new_ hal).chg hc8 (fun k hk e => by omega), hN8⟩
              · by_cases h2 : v = 2
                · subst h2
                  rw [if_neg (by omega), if_neg (by omega), if_pos rfl] at HRs
                  have HR1 := Lib.hid HRs
                  clear HRs hv h3 h1
                  go_wp2_with (go_at_call 58; (with_reducible refine F1.out.mono ?_); rintro e w2 ⟨hc2, hj, rfl, hC2⟩; clear hj
                               have hN2 := HN1.out.go_ hc2
                               obtain ⟨x0, x1, x2, x3, x4, x5⟩ := hN2.box.c3
                               obtain ⟨y0, y1, y2, y3, y4, y5⟩ := hN2.res.c3)
                  exact cnode_goodend HR1.out hN2 hC2 hnm (by omega) (by omega) (by rfl)
                · rw [if_neg h3, if_neg h1, if_neg h2] at HRs
                  have HN := Lib.hid HRs
                  have e3 : ((v : Int) == 3) = false := by rw [beq_eq_false_iff_ne]; omega
                  have e1 : ((v : Int) == 1) = false := by rw [beq_eq_false_iff_ne]; omega
                  have e2 : ((v : Int) == 2) = false := by rw [beq_eq_false_iff_ne]; omega
                  clear HRs h1 h2 h3
                  go_wp2_with (go_at_call 58; (with_reducible refine F1.out.mono ?_); rintro e w2 ⟨hc2, hj, rfl, hC2⟩; clear hj
                               obtain ⟨_, _, _, _, _, _, _, v3, _, _, v6, _, v8, _⟩ := hC2.cells)
                  go_roundg 0
                  case measure => omega
                  case rel => exact loopc_setbad HN.out (HN1.out.go_ hc2) hC2
        · obtain ⟨Ab, cb, At, ct, y0, y1, y2, y3, y4, y5, y6, y7, y8, y9, y10, y11, y12, y13, y14⟩ := hC.cells
          obtain ⟨z0, z1, z2, z3, z4, z5⟩ := hres.c3
          obtain ⟨u0, u1, u2, u3, u4, u5⟩ := hbox.c3
          have HH := Lib.hid (And.intro hr (And.intro hch (And.intro hC (And.intro hres hbox))))
          clear hr hch hC hres hbox y9 y10
          go_wp2_with fail
          obtain ⟨hr, hch, hC, hres, hbox⟩ := HH.out
          exact cnode_badend hr hch hC x8 hres (by rfl)
end Go.Proofs.Ytfmmcjiehpdogaa
