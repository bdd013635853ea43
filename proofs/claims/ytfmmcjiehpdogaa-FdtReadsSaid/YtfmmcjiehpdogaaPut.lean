/-
  fdt.Put is putF. No condition but that memory bears the tree.
-/
import Derived.Test.YtfmmcjiehpdogaaNode
import Derived.Test.YtfmmcjiehpdogaaCat
set_option linter.unusedVariables false
set_option linter.unusedSimpArgs false
namespace Go.Proofs.Ytfmmcjiehpdogaa
open Go.RowKit
attribute [local go_sem ↓] Go.wp_at_zero Go.wp_at_succ

/-- what a function that gives bytes and an error's number leaves -/
def BytesPost (r : List UInt8 × Nat) (w : World) (e : Ending) (w' : World) : Prop :=
  ∃ A n c, e = .returned (.tuple #[.slice A n c, .int .i64 (r.2 : Int)]) ∧ n = r.1.length ∧ Own w' w.heap.size 5 1 A n c (r.1.map bv) ∧ New w w'

theorem BytesPost.mk' {r : List UInt8 × Nat} {w w' : World} {A : Option Addr} {n c : Nat} {v : Value} (hn : n = r.1.length) (hv : v = .int .i64 (r.2 : Int)) (hown : Own w' w.heap.size 5 1 A r.1.length c (r.1.map bv)) (hnew : New w w') :
    BytesPost r w (.returned (.tuple #[.slice A n c, v])) w' := by
  subst hn
  subst hv
  exact ⟨A, _, c, rfl, rfl, hown, hnew⟩

/-- the writer as it is made -/
theorem wr_start (w : World) : WrIs ((w.alloc (.map #[] 0)).alloc (.cells #[.slice none 0 0, .slice none 0 0, .map (some w.heap.size)] 68)) (fun k => k = w.heap.size ∨ k = w.heap.size + 1) (w.heap.size + 1) ⟨[], [], []⟩ := by
  refine ⟨none, 0, none, 0, w.heap.size, 0, ?_, Own.nil_ _ _ _ _, Own.nil_ _ _ _ _, ?_, Nat.le_refl _, (fun k hk => nomatch hk), .inr rfl, .inl rfl, (fun k hk => nomatch hk), (fun k hk => nomatch hk), ?_⟩
  · have := Blk.made (w.alloc (.map #[] 0)) 68 #[.slice none 0 0, .slice none 0 0, .map (some w.heap.size)]
    simpa using this
  · exact (MapIs.made w 34 .u32).new_ ((Chg.refl _ _).alloc _)
  · rintro k (rfl | rfl) <;> simp <;> omega

theorem run_make_u8 (k : Nat) (hk : k ≤ 1048576) (W : World) : (Instr.makeSlice 28 (.int .i64 k) (.int .i64 k)).run Try.prog W =
    .ok (.slice (some ⟨W.heap.size, 0, none⟩) k k) (W.alloc (.cells ((List.replicate k (0 : UInt8)).map bv).toArray 5)) := by
  obtain ⟨i0, hi0, hz0, hz1, hz2⟩ := info_parts infoU8
  rw [run_make (P := Try.prog) W 28 5 i0 _ Try.underlying28 hi0 hz0 .i64 .i64 (k : Int) (k : Int) (by omega) (by omega) (by rw [hz2]; omega) (by omega)]
  have : madeCells (Value.int .u8 0).cells ((k : Int).toNat * i0.size) = ((List.replicate k (0 : UInt8)).map bv).toArray := by
    apply Array.toList_inj.1
    rw [madeCells_one _ rfl, hz1, List.map_replicate]
    simp [bv]
  rw [this]
  simp
theorem run_make_16 (W : World) : (Instr.makeSlice 28 (.int .i64 16) (.int .i64 16)).run Try.prog W =
    .ok (.slice (some ⟨W.heap.size, 0, none⟩) 16 16) (W.alloc (.cells ((List.replicate 16 (0 : UInt8)).map bv).toArray 5)) := run_make_u8 16 (by omega) W

set_option maxRecDepth 100000 in
set_option maxHeartbeats 1000000 in
theorem put_any (t : TreeD) (v0 v1 v2 : Value) (w : World) (ht : TreeIs w w.heap.size v0 v1 v2 t) :
    Calls Try.prog 13 #[.agg #[v0, v1, v2]] w (BytesPost (putF t) w) := by
  obtain ⟨Aq, Aq2, cq, cq2, rfl, rfl, rfl, hqs⟩ := ht.shape
  have hbox := Blk.made w 25 #[.string t.name, .slice Aq t.props.length cq, .slice Aq2 t.kids.length cq2]
  have hal : New w (w.alloc (.cells #[.string t.name, .slice Aq t.props.length cq, .slice Aq2 t.kids.length cq2] 25)) := (Chg.refl _ _).alloc _
  have ht2 := Lib.hid ((ht.new_ hal).more hal.size)
  cases hck : checkF t with
  | false =>
    have hpf : putF t = ([], 240) := by simp [putF, hck]
    have HPF := Lib.hid hpf
    have HCK := Lib.hid hck
    clear hpf hck
    go_enter Try.func13, Try.ntmps13
    go_wp2_with (go_at_call 15; refine (check_any t _ _ _ _ ht2.out).mono ?_; rintro e w2 ⟨he, hnew⟩; rw [HCK.out] at he; subst he)
    go_ret2
    rw [HPF.out]
    exact ⟨none, 0, 0, rfl, rfl, Own.nil_ _ _ _ _, hal.new_ hnew⟩
  | true =>
    have hsm := check_small t hck
    have hpf : putF t = if 16384 < 56 + (num4 [9] (nodeF t ⟨[], [], []⟩)).b.length + (num4 [9] (nodeF t ⟨[], [], []⟩)).texts.length then ([], 2)
      else (puts32 (headF (num4 [9] (nodeF t ⟨[], [], []⟩)).b.length (num4 [9] (nodeF t ⟨[], [], []⟩)).texts.length) false ++ List.replicate 16 0 ++ (num4 [9] (nodeF t ⟨[], [], []⟩)).b ++ (num4 [9] (nodeF t ⟨[], [], []⟩)).texts, 0) := by simp only [putF, hck]; rfl
    have hwt := nodeF_wt t ⟨[], [], []⟩
    have hwt0 : WS.wt ⟨[], [], []⟩ = 0 := rfl
    obtain ⟨s1, hs1⟩ : ∃ s1, nodeF t ⟨[], [], []⟩ = s1 := ⟨_, rfl⟩
    rw [hs1] at hpf hwt
    have hwt2 := num4_wt [9] s1
    rw [List.length_singleton] at hwt2
    obtain ⟨s2, hs2⟩ : ∃ s2, num4 [9] s1 = s2 := ⟨_, rfl⟩
    rw [hs2] at hpf hwt2
    have hb1 := wt_b s1
    have hb2 := wt_b s2
    have ht2b : s2.texts.length ≤ s2.wt := by unfold WS.wt; omega
    have HPF := Lib.hid hpf
    have HS1 := Lib.hid hs1
    have HS2 := Lib.hid hs2
    have HCK := Lib.hid hck
    clear hpf hck hs1 hs2
    have hmm := @run_makeMap Try.prog
    go_enter Try.func13, Try.ntmps13
    go_wp2_with (first
      | (go_at_call 15; refine (check_any t _ _ _ _ ht2.out).mono ?_; rintro e w2 ⟨he, hnew⟩; rw [HCK.out] at he; subst he
         have hsz2 : w.heap.size < w2.heap.size := by have := hnew.size; simp at this; omega
         obtain ⟨hx0, hx1, hx2, hf0, hf1, hf2⟩ := (hbox.chg hnew (fun h => h)).c3
         have hn2 : New w w2 := hal.new_ hnew
         have hn3 : New w2 ((w2.alloc (.map #[] 0)).alloc (.cells #[.slice none 0 0, .slice none 0 0, .map (some w2.heap.size)] 68)) := ((Chg.refl _ _).alloc _).alloc _
         have ht3 := Lib.hid ((ht.new_ hn2).new_ hn3)
         have hbs : ∀ k, k < w.heap.size → ¬ (k = w2.heap.size ∨ k = w2.heap.size + 1) := fun k hk h => by omega
         have HBS := Lib.hid hbs
         have hwr := Lib.hid (wr_start w2)
         clear hbs)
      | (go_at_call 32
         refine (node_any t (fun k => k = w2.heap.size ∨ k = w2.heap.size + 1) (w2.heap.size + 1) w.heap.size _ _ _ _ _ hwr.out ht3.out HBS.out (by simp; omega) (by omega)).mono ?_
         rintro e w4 ⟨rfl, S4, he4, hw4, hch4⟩
         rw [HS1.out] at hw4
         have HW4 := Lib.hid (hw4.new_ ((Chg.refl _ _).alloc (.cells #[.int .u32 9] 34)))
         have hr4 := Lib.hid (Rd.made' w4 34 ([9].map wv32) (k := w4.heap.size) (n := 1) rfl rfl))
      | (go_at_call 33; refine (wr_four S4 (w2.heap.size + 1) _ _ HW4.out _ 1 1 [9] hr4.out (by omega) (by omega)).mono ?_
         rintro e w5 ⟨rfl, S5, he5, hw5, hch5⟩
         rw [HS2.out] at hw5
         have hw5' := hw5
         obtain ⟨A, c, A2, c2, m, cnt, k1, k2, k3, k4, k5, k6, k7, k8, k9, k10, k11⟩ := hw5'
         obtain ⟨hy0, hy1, hy2, hg0, hg1, hg2⟩ := k1.c3
         obtain ⟨L1, hL1⟩ : ∃ L, s2.b.length = L := ⟨_, rfl⟩
         obtain ⟨L2, hL2⟩ : ∃ L, s2.texts.length = L := ⟨_, rfl⟩
         rw [hL1] at hy0 hb2; rw [hL2] at hy1 ht2b
         have HL1 := Lib.hid hL1; have HL2 := Lib.hid hL2
         clear hL1 hL2)
      | (with_reducible refine stopAt 37 rfl ?_))
    have hW5 : New w w5 := (hn2.new_ hn3).trans (hch4.ext he4 (((Chg.refl _ _).alloc _).trans hch5 (fun i hi _ => hi))) (fun i hi hlt => by omega)
    by_cases hbig : 16384 < 56 + L1 + L2
    · refine unstop ?_
      go_wp2_with fail
      go_ret2
      rw [HPF.out, HL1.out, HL2.out, if_pos hbig]
      exact ⟨none, 0, 0, rfl, rfl, Own.nil_ _ _ _ _, hW5⟩
    · have hbig2 : 56 + L1 + L2 ≤ 16384 := by omega
      have HBIG := Lib.hid hbig
      clear hbig
      have e1 : IntKind.u32.wrap (56 + (L1 : Int)) = 56 + (L1 : Int) := by have := wrap_u32 (56 + L1) (by omega); simpa using this
      have e2 : IntKind.u32.wrap (56 + (L1 : Int) + (L2 : Int)) = 56 + (L1 : Int) + (L2 : Int) := by have := wrap_u32 (56 + L1 + L2) (by omega); simpa using this
      have e3 : IntKind.u32.wrap (L1 : Int) = (L1 : Int) := wrap_u32 L1 (by omega)
      have e4 : IntKind.u32.wrap (L2 : Int) = (L2 : Int) := wrap_u32 L2 (by omega)
      clear hmm hx0 hx1 hx2 hf0 hf1 hf2 hg0 hg1 hg2 hw4 hch4 hch5 hn3 he4 he5 hnew hal hbox ht HW4 hr4 hwr ht2 ht3
      refine unstop ?_
      go_wp2_with fail
      have hb6 := Blk.made w5 66 #[.slice none 0 0]
      have hk6 := k1.alloc (.cells #[.slice none 0 0] 66)
      have hgl : w2.heap.size + 1 < w5.heap.size := k1.lt
      have k1' := k1
      rw [HL1.out, HL2.out] at k1' hk6
      obtain ⟨hz0, hz1, hz2, _, _, _⟩ := hk6.c3
      have hl7 : (headF L1 L2).map wv32 = [.int .u32 3490578157, .int .u32 (56 + (L1 : Int) + (L2 : Int)), .int .u32 56, .int .u32 (56 + (L1 : Int)), .int .u32 40, .int .u32 17, .int .u32 16, .int .u32 0, .int .u32 (L2 : Int), .int .u32 (L1 : Int)] := by
        simp [headF, wv32]
      obtain ⟨w6, hw6⟩ : ∃ w6, ((w5.alloc (.cells #[.slice none 0 0] 66)).alloc (.cells #[.int .u32 3490578157, .int .u32 (56 + (L1 : Int) + (L2 : Int)), .int .u32 56, .int .u32 (56 + (L1 : Int)), .int .u32 40, .int .u32 17, .int .u32 16, .int .u32 0, .int .u32 (L2 : Int), .int .u32 (L1 : Int)] 34)).drew = w6 := ⟨_, rfl⟩
      have hr7 : Rd w6 1 (some ⟨w5.heap.size + 1, 0, none⟩) 10 ((headF L1 L2).map wv32) := by
        rw [hl7, ← hw6]
        exact (Rd.made' (w5.alloc (.cells #[.slice none 0 0] 66)) _ [.int .u32 3490578157, .int .u32 (56 + (L1 : Int) + (L2 : Int)), .int .u32 56, .int .u32 (56 + (L1 : Int)), .int .u32 40, .int .u32 17, .int .u32 16, .int .u32 0, .int .u32 (L2 : Int), .int .u32 (L1 : Int)] (by simp) rfl).drew
      have hb7 : Blk w6 w5.heap.size 66 #[.slice none 0 0] := by rw [← hw6]; exact (hb6.alloc _).drew
      have hk7 : Blk w6 (w2.heap.size + 1) 68 #[.slice A L1 c, .slice A2 L2 c2, .map (some m)] := by rw [← hw6]; exact (hk6.alloc _).drew
      obtain ⟨hv0, hv1, _⟩ := hk7.c3
      have hn6 : New w5 w6 := by rw [← hw6]; exact ((((Chg.refl _ _).alloc _).alloc _).drew)
      go_region_held3 (fun wx => wx.cell? ⟨w2.heap.size + 1, 0, none⟩ = some (.slice A L1 c) ∧ wx.cell? ⟨w2.heap.size + 1, 1, none⟩ = some (.slice A2 L2 c2)) (first | exact ⟨‹_›, ‹_›⟩ | go_keep) (first
        | (go_at_call 33
           try rw [hw6]
           refine (four_any w5.heap.size _ _ none 0 0 [] _ 10 10 (headF L1 L2) w6 hb7 rfl (Own.nil_ _ _ _ _) hr7 (by omega) (by omega)).mono ?_
           rintro e w7 ⟨rfl, A7, n7, c7, hb8, hn7, hown7, hch7, hat7⟩
           have hk8 := hk7.chg hch7 (fun h => by simp [blkOf] at h; omega)
           obtain ⟨hz0, hz1, hz2, _, _, _⟩ := hk8.c3))
      simp only [List.nil_append] at hown7 hn7
      have hl0 : (puts32 (headF L1 L2) false).length = 40 := by rw [puts32_length]; rfl
      rw [hl0] at hn7
      subst hn7
      have hb8' : Blk w7 w5.heap.size 66 #[.slice A7 40 c7] := by simpa using hb8
      obtain ⟨hu0, _⟩ := hb8'.c1
      clear hb8 hb7 hk7 hr7 hl7 hb6 hk6 hy0 hy1 hy2 k1
      go_wp2_with fail
      have hc7 : New w5 w7 := hn6.trans hch7 (fun i hi hlt => by simp [blkOf] at hi; omega)
      have hz : ∃ z, ((List.replicate 16 (0 : UInt8)).map bv).toArray = z := ⟨_, rfl⟩
      have hmk := run_make_16
      obtain ⟨z16, hz16⟩ := hz
      rw [hz16] at hmk
      obtain ⟨w8, hw8⟩ : ∃ w8, ((w7.alloc (.cells z16 5)).alloc (.cells #[.slice A7 40 c7, .slice (some ⟨w7.heap.size, 0, none⟩) 16 16, .slice A L1 c, .slice A2 L2 c2] 28)).drew = w8 := ⟨_, rfl⟩
      have hn8 : New w7 w8 := by rw [← hw8]; exact ((((Chg.refl _ _).alloc _).alloc _).drew)
      have hrow : RowsAt w8 (some ⟨w7.heap.size + 1, 0, none⟩) 4 [puts32 (headF L1 L2) false, List.replicate 16 0, s2.b, s2.texts] := by
        have hcc : Blk w8 (w7.heap.size + 1) 28 #[.slice A7 40 c7, .slice (some ⟨w7.heap.size, 0, none⟩) 16 16, .slice A L1 c, .slice A2 L2 c2] := by
          rw [← hw8]
          have := Blk.made (w7.alloc (.cells z16 5)) 28 #[.slice A7 40 c7, .slice (some ⟨w7.heap.size, 0, none⟩) 16 16, .slice A L1 c, .slice A2 L2 c2]
          simpa using this.drew
        refine ⟨rfl, fun i l hl => ?_⟩
        rcases i with _ | _ | _ | _ | i
        · obtain rfl : puts32 (headF L1 L2) false = l := by simpa using hl
          exact ⟨_, _, A7, c7, rfl, by rw [hcc.cell, hl0]; rfl, by rw [hl0]; exact hown7.rd.new_ hn8⟩
        · obtain rfl : List.replicate 16 0 = l := by simpa using hl
          refine ⟨_, _, some ⟨w7.heap.size, 0, none⟩, 16, rfl, by rw [hcc.cell]; rfl, ?_⟩
          rw [← hw8, ← hz16]
          exact ((Rd.made' w7 5 ((List.replicate 16 (0 : UInt8)).map bv) rfl (by simp)).alloc _).drew
        · obtain rfl : s2.b = l := by simpa using hl
          exact ⟨_, _, A, c, rfl, by rw [hcc.cell, HL1.out]; rfl, (k2.rd.new_ hc7).new_ hn8⟩
        · obtain rfl : s2.texts = l := by simpa using hl
          exact ⟨_, _, A2, c2, rfl, by rw [hcc.cell, HL2.out]; rfl, (k3.rd.new_ hc7).new_ hn8⟩
        · simp at hl
      have hrows : ([puts32 (headF L1 L2) false, List.replicate 16 0, s2.b, s2.texts] : List (List UInt8)).flatten = puts32 (headF L1 L2) false ++ List.replicate 16 0 ++ s2.b ++ s2.texts := by simp
      have hrl : ([puts32 (headF L1 L2) false, List.replicate 16 0, s2.b, s2.texts] : List (List UInt8)).flatten.length ≤ 1099511627776 := by
        rw [hrows]
        simp only [List.length_append, List.length_replicate, hl0, HL1.out, HL2.out]
        omega
      have HRL := Lib.hid hrl
      have HROWS := Lib.hid hrows
      clear hrl hrows
      have hbc : w7.cell? ⟨w5.heap.size, 0, none⟩ = some (.slice A7 40 c7) := hu0
      have hsz8 := hn8.size
      have hd8 : New w w8 := (hW5.new_ hc7).new_ hn8
      obtain ⟨hq0, hq1⟩ := (hk8.chg hn8 (fun h => h)).c3
      obtain ⟨hq1, _⟩ := hq1
      obtain ⟨hq2, _⟩ := (hb8'.chg hn8 (fun h => h)).c1
      go_region_held3 (fun wx => wx.cell? ⟨w2.heap.size + 1, 0, none⟩ = some (.slice A L1 c) ∧ wx.cell? ⟨w2.heap.size + 1, 1, none⟩ = some (.slice A2 L2 c2) ∧ wx.cell? ⟨w5.heap.size, 0, none⟩ = some (.slice A7 40 c7)) (first | exact ⟨‹_›, ‹_›, ‹_›⟩ | go_keep) (first
        | (go_at_call 34
           try rw [hw8]
           refine (cat_any _ 4 4 _ w8 hrow (by omega) HRL.out).mono ?_
           rintro e w9 ⟨A9, c9, rfl, hown9, hnew9⟩
           obtain ⟨hr0, hr1⟩ := ((hk8.chg hn8 (fun h => h)).chg hnew9 (fun h => h)).c3
           obtain ⟨hr1, _⟩ := hr1
           obtain ⟨hr2, _⟩ := ((hb8'.chg hn8 (fun h => h)).chg hnew9 (fun h => h)).c1))
      go_wp2_with fail
      go_ret2
      rw [HPF.out, HL1.out, HL2.out, if_neg HBIG.out, ← HROWS.out]
      refine BytesPost.mk' ?_ rfl (hown9.low hd8.size) (hd8.new_ hnew9)
      show _ = List.length (List.flatten _)
      simp only [List.flatten_cons, List.flatten_nil, List.length_append, List.length_replicate, hl0, HL1.out, HL2.out, List.length_nil]
      omega
end Go.Proofs.Ytfmmcjiehpdogaa
