/-
  The reference's PutTree gives what putF gives. No condition but that memory bears the tree.
-/
import Derived.Test.YtfmmcjiehpdogaaRefNode
import Derived.Test.YtfmmcjiehpdogaaRefCheck
import Derived.Test.YtfmmcjiehpdogaaPut
set_option linter.unusedVariables false
set_option linter.unusedSimpArgs false
namespace Go.Proofs.Ytfmmcjiehpdogaa
open Go.RowKit
attribute [local go_sem ↓] Go.wp_at_zero Go.wp_at_succ

theorem Own.raise {w : World} {B B' : Nat} {e : TypeId} {size n c : Nat} {A : Option Addr} {xs : List Value} (h : Own w B e size A n c xs) (hB : ∀ k, blkOf A = some k → B' ≤ k) : Own w B' e size A n c xs := by
  rcases h with ⟨h1, h2 | ⟨g, cur, rfl, _, h3⟩⟩
  · exact ⟨h1, .inl h2⟩
  · exact ⟨h1, .inr ⟨g, cur, rfl, hB g rfl, h3⟩⟩
/-- the structure as it is made -/
theorem fl_start (w : World) : FlIs (w.alloc (.cells #[.slice none 0 0, .slice none 0 0, .slice none 0 0] 75)) (fun k => k = w.heap.size) w.heap.size ⟨[], [], []⟩ :=
  ⟨none, 0, none, 0, none, 0, Blk.made _ _ _, Own.nil_ _ _ _ _, Own.nil_ _ _ _ _, Own.nil_ _ _ _ _, (fun k hk => nomatch hk), rfl, (fun k hk => nomatch hk), (fun k hk => nomatch hk), (fun k hk => nomatch hk), by rintro k rfl; simp⟩
theorem head_zeros (l : List Nat) : puts32 (l ++ [0, 0, 0, 0]) false = puts32 l false ++ List.replicate 16 0 := by
  simp only [puts32, List.flatMap_append]
  congr 1
theorem headF_small (L1 L2 : Nat) (h : 56 + L1 + L2 ≤ 16384) : ∀ x ∈ headF L1 L2 ++ [0, 0, 0, 0], x ≤ 4294967295 := by
  intro x hx
  simp [headF] at hx
  omega

set_option maxRecDepth 100000 in
set_option maxHeartbeats 1000000 in
theorem rput_any (t : TreeD) (v0 v1 v2 : Value) (w : World) (ht : TreeIs w w.heap.size v0 v1 v2 t) :
    Calls Try.prog 14 #[.agg #[v0, v1, v2]] w (BytesPost (putF t) w) := by
  obtain ⟨Aq, Aq2, cq, cq2, rfl, rfl, rfl, hqs⟩ := ht.shape
  obtain ⟨i0, hi0, hi1, hi2, hi3⟩ := info_parts infoU8
  have hbox := Blk.made w 25 #[.string t.name, .slice Aq t.props.length cq, .slice Aq2 t.kids.length cq2]
  have hal : New w (w.alloc (.cells #[.string t.name, .slice Aq t.props.length cq, .slice Aq2 t.kids.length cq2] 25)) := (Chg.refl _ _).alloc _
  have ht2 := Lib.hid ((ht.new_ hal).more hal.size)
  cases hck : checkF t with
  | false =>
    have hpf : putF t = ([], 240) := by simp [putF, hck]
    have HPF := Lib.hid hpf
    have HCK := Lib.hid hck
    clear hpf hck
    go_enter Try.func14, Try.ntmps14
    go_wp2_with (go_at_call 16; refine (refCheck_any t _ _ _ _ ht2.out).mono ?_; rintro e w2 ⟨he, hnew⟩; rw [HCK.out] at he; subst he)
    go_ret2
    rw [HPF.out]
    exact ⟨none, 0, 0, rfl, rfl, Own.nil_ _ _ _ _, hal.new_ hnew⟩
  | true =>
    have hsm := check_small t hck
    have hpf : putF t = if 16384 < 56 + (num4 [9] (nodeF t ⟨[], [], []⟩)).b.length + (num4 [9] (nodeF t ⟨[], [], []⟩)).texts.length then ([], 2)
      else (puts32 (headF (num4 [9] (nodeF t ⟨[], [], []⟩)).b.length (num4 [9] (nodeF t ⟨[], [], []⟩)).texts.length) false ++ List.replicate 16 0 ++ (num4 [9] (nodeF t ⟨[], [], []⟩)).b ++ (num4 [9] (nodeF t ⟨[], [], []⟩)).texts, 0) := by simp only [putF, hck]; rfl
    have hwt := nodeF_wt t ⟨[], [], []⟩
    have hwt0 : WS.wt ⟨[], [], []⟩ = 0 := rfl
    have hok : okPl ⟨[], [], []⟩ := fun x hx => nomatch hx
    have HOK := Lib.hid hok
    obtain ⟨s1, hs1⟩ : ∃ s1, nodeF t ⟨[], [], []⟩ = s1 := ⟨_, rfl⟩
    rw [hs1] at hpf hwt
    have hwt2 := num4_wt [9] s1
    rw [List.length_singleton] at hwt2
    obtain ⟨s2, hs2⟩ : ∃ s2, num4 [9] s1 = s2 := ⟨_, rfl⟩
    rw [hs2] at hpf hwt2
    have hb1 := wt_b s1
    have hb2 := wt_b s2
    have ht2b : s2.texts.length ≤ s2.wt := by unfold WS.wt; omega
    have HPF := Lib.hid hpf
    have HS1 := Lib.hid hs1
    have HS2 := Lib.hid hs2
    have HCK := Lib.hid hck
    clear hpf hck hs1 hs2 hok
    go_enter Try.func14, Try.ntmps14
    go_wp2_with (first
      | (go_at_call 16; refine (refCheck_any t _ _ _ _ ht2.out).mono ?_; rintro e w2 ⟨he, hnew⟩; rw [HCK.out] at he; subst he
         have hsz2 : w.heap.size < w2.heap.size := by have := hnew.size; simp at this; omega
         obtain ⟨hx0, hx1, hx2, hf0, hf1, hf2⟩ := (hbox.chg hnew (fun h => h)).c3
         have hn2 : New w w2 := hal.new_ hnew
         have hn3 : New w2 (w2.alloc (.cells #[.slice none 0 0, .slice none 0 0, .slice none 0 0] 75)) := (Chg.refl _ _).alloc _
         have ht3 := Lib.hid ((ht.new_ hn2).new_ hn3)
         have hbs : ∀ k, k < w.heap.size → ¬ (k = w2.heap.size) := fun k hk h => by omega
         have HBS := Lib.hid hbs
         have hwr := Lib.hid (fl_start w2)
         clear hbs)
      | (go_at_call 35
         refine (rnode_any t (fun k => k = w2.heap.size) w2.heap.size w.heap.size _ _ _ _ _ hwr.out ht3.out HBS.out (by simp; omega) (by omega) HOK.out).mono ?_
         rintro e w4 ⟨rfl, S4, he4, hw4, hch4⟩
         rw [HS1.out] at hw4
         have F := Lib.hid (fl_four S4 w2.heap.size _ _ hw4 9 (by omega) (by omega)))
      | (go_at_call 36; (refine F.out.mono ?_)
         rintro e w5 ⟨rfl, S5, he5, hw5, hch5⟩
         rw [HS2.out] at hw5
         have hw5' := hw5
         obtain ⟨A, c, A2, c2, A3, c3, k1, k2, k3, k4, k6, k7, k8, k9, k10, k11⟩ := hw5'
         have K6 := Lib.hid k6
         have K8 := Lib.hid k8
         have K9 := Lib.hid k9
         have K10 := Lib.hid k10
         have K11 := Lib.hid k11
         clear k6 k8 k9 k10 k11
         obtain ⟨hy0, hy1, hy2, hg0, hg1, hg2⟩ := k1.c3
         obtain ⟨L1, hL1⟩ : ∃ L, s2.b.length = L := ⟨_, rfl⟩
         obtain ⟨L2, hL2⟩ : ∃ L, s2.texts.length = L := ⟨_, rfl⟩
         rw [hL1] at hy0 hb2; rw [hL2] at hy1 ht2b
         have HL1 := Lib.hid hL1; have HL2 := Lib.hid hL2
         clear hL1 hL2)
      | (with_reducible refine stopAt 34 rfl ?_))
    have hW5 : New w w5 := (hn2.new_ hn3).trans (hch4.ext he4 hch5) (fun i hi hlt => by omega)
    by_cases hbig : 16384 < 56 + L1 + L2
    · refine unstop ?_
      go_wp2_with fail
      go_ret2
      rw [HPF.out, HL1.out, HL2.out, if_pos hbig]
      exact ⟨none, 0, 0, rfl, rfl, Own.nil_ _ _ _ _, hW5⟩
    · have hbig2 : 56 + L1 + L2 ≤ 16384 := by omega
      have HBIG := Lib.hid hbig
      clear hbig
      clear hx0 hx1 hx2 hf0 hf1 hf2 hg0 hg1 hg2 hw4 hch4 hch5 hn3 he4 he5 hnew hal hbox ht hwr ht2 ht3
      refine unstop ?_
      go_wp2_with fail
      have hb6 := Blk.made w5 75 #[.slice none 0 0, .slice none 0 0, .slice none 0 0]
      have hk6 := k1.alloc (.cells #[.slice none 0 0, .slice none 0 0, .slice none 0 0] 75)
      have hgl : w2.heap.size < w5.heap.size := k1.lt
      rw [HL1.out, HL2.out] at hk6
      have hl6 : (headF L1 L2 ++ [0, 0, 0, 0]).map (fun x : Nat => Value.int .i64 (x : Int)) = [.int .i64 3490578157, .int .i64 (56 + (L1 : Int) + (L2 : Int)), .int .i64 56, .int .i64 (56 + (L1 : Int)), .int .i64 40, .int .i64 17, .int .i64 16, .int .i64 0, .int .i64 (L2 : Int), .int .i64 (L1 : Int), .int .i64 0, .int .i64 0, .int .i64 0, .int .i64 0] := by
        simp [headF]
      obtain ⟨w6, hw6⟩ : ∃ w6, ((w5.alloc (.cells #[.slice none 0 0, .slice none 0 0, .slice none 0 0] 75)).alloc (.cells #[.int .i64 3490578157, .int .i64 (56 + (L1 : Int) + (L2 : Int)), .int .i64 56, .int .i64 (56 + (L1 : Int)), .int .i64 40, .int .i64 17, .int .i64 16, .int .i64 0, .int .i64 (L2 : Int), .int .i64 (L1 : Int), .int .i64 0, .int .i64 0, .int .i64 0, .int .i64 0] 3)).drew = w6 := ⟨_, rfl⟩
      have hr6 : Rd w6 1 (some ⟨w5.heap.size + 1, 0, none⟩) 14 ((headF L1 L2 ++ [0, 0, 0, 0]).map (fun x : Nat => Value.int .i64 (x : Int))) := by
        rw [hl6, ← hw6]
        exact (Rd.made' (w5.alloc (.cells #[.slice none 0 0, .slice none 0 0, .slice none 0 0] 75)) _ [.int .i64 3490578157, .int .i64 (56 + (L1 : Int) + (L2 : Int)), .int .i64 56, .int .i64 (56 + (L1 : Int)), .int .i64 40, .int .i64 17, .int .i64 16, .int .i64 0, .int .i64 (L2 : Int), .int .i64 (L1 : Int), .int .i64 0, .int .i64 0, .int .i64 0, .int .i64 0] (by simp) rfl).drew
      have hfl6 : FlIs w6 (fun k => k = w5.heap.size) w5.heap.size ⟨[], [], []⟩ := by rw [← hw6]; exact (fl_start w5).new_ ((Chg.drew ((Chg.refl _ _).alloc _)))
      have hk7 : Blk w6 w2.heap.size 75 #[.slice A L1 c, .slice A2 L2 c2, .slice A3 s2.pl.length c3] := by rw [← hw6]; exact (hk6.alloc _).drew
      have hn6 : New w5 w6 := by rw [← hw6]; exact ((((Chg.refl _ _).alloc _).alloc _).drew)
      obtain ⟨hz0, hz1, hz2, _, _, _⟩ := hk6.c3
      obtain ⟨hv0, hv1, _⟩ := hk7.c3
      go_region_held3 (fun wx => wx.cell? ⟨w2.heap.size, 0, none⟩ = some (.slice A L1 c) ∧ wx.cell? ⟨w2.heap.size, 1, none⟩ = some (.slice A2 L2 c2)) (first | exact ⟨‹_›, ‹_›⟩ | go_keep) (fail)
      try rw [hw6]
      clear hz0 hz1 hz2 hv0 hv1 hb6 hk6 hl6 hw6 hy0 hy1 hy2
      obtain ⟨hl, hhl⟩ : ∃ hl, headF L1 L2 ++ [0, 0, 0, 0] = hl := ⟨_, rfl⟩
      have hsmall := headF_small L1 L2 hbig2
      have hhlen : hl.length = 14 := by rw [← hhl]; rfl
      rw [hhl] at hr6 hsmall
      have HHL := Lib.hid hhl
      have HSM := Lib.hid hsmall
      clear hhl hsmall
      go_wp2_with fail
      go_loopw [51] (fun i wr => ∃ (j : Nat) (S' : Nat → Prop), j ≤ 14 ∧ i = .int .i64 j ∧ Ext (fun k => k = w5.heap.size) S' w6 ∧ FlIs wr S' w5.heap.size (num4 (hl.take j) ⟨[], [], []⟩) ∧ Chg (fun k => k = w5.heap.size) w6 wr) (fun i _ => 14 - (intOf i).toNat)
      case atStart => exact ⟨0, _, Nat.zero_le _, rfl, Ext.refl _ _, by simpa [num4, puts32] using hfl6, Chg.refl _ _⟩
      case round =>
        obtain ⟨j, S6, hj, rfl, he6, hw6, hch6⟩ := hrel
        have hlb : (num4 (hl.take j) ⟨[], [], []⟩).b.length ≤ 56 := by simp only [num4, List.nil_append, puts32_length, List.length_take]; omega
        by_cases hlt : j < 14
        · have hjl : j < hl.length := by omega
          obtain ⟨x, hx⟩ : ∃ x, hl[j] = x := ⟨_, rfl⟩
          have hxs : x ≤ 4294967295 := by rw [← hx]; exact HSM.out _ (List.getElem_mem hjl)
          obtain ⟨b, o, u, hA, hbl, hu, hcell⟩ := (hr6.chg hch6 (fun ad e h => by injection e with e; subst e; simp at h)).at_ hlt
          injection hA with hA
          injection hA with hA1 hA2
          subst hA1
          subst hA2
          rw [List.getElem?_map, List.getElem?_eq_getElem hjl, hx] at hu
          injection hu with hu
          subst hu
          rw [Nat.zero_add] at hcell
          have hnx : num4 (hl.take (j + 1)) ⟨[], [], []⟩ = num4 [x] (num4 (hl.take j) ⟨[], [], []⟩) := by rw [num4_num, List.take_succ_eq_append_getElem hjl, hx]
          have HNX := Lib.hid hnx
          have F2 := Lib.hid (fl_four S6 w5.heap.size _ _ hw6 x hxs (by omega))
          clear hnx hx hlb
          go_wp2_with (go_at_call 36; (refine F2.out.mono ?_); rintro e w7 ⟨rfl, S7, he7, hw7, hch7⟩)
          go_roundw
          case rel => exact ⟨j + 1, S7, by omega, by go_num, he6.trans he7 hch6.size, by rw [HNX.out]; exact hw7, hch6.ext he6 hch7⟩
          case measure => simp [intOf]; omega
        · obtain rfl : j = 14 := by omega
          rw [List.take_of_length_le (by omega)] at hw6
          obtain ⟨B, d, B2, d2, B3, d3, r1, r2, -, -, -, -, r8, -⟩ := hw6
          have hbl : (num4 hl ⟨[], [], []⟩).b = puts32 (headF L1 L2) false ++ List.replicate 16 0 := by rw [← head_zeros, HHL.out]; rfl
          have hbn : (num4 hl ⟨[], [], []⟩).b.length = 56 := by simp only [num4, List.nil_append, puts32_length, hhlen]
          rw [hbn] at r1 r2
          rw [hbl] at r2
          obtain ⟨hu0, _⟩ := r1.c3
          have hk8 := hk7.chg hch6 (fun h => by omega)
          obtain ⟨hv0, hv1, _⟩ := hk8.c3
          have hgl8 := hk8.lt
          have hgh8 := r1.lt
          have hrA : Rd wr 1 A L1 (s2.b.map bv) := by
            have := (k2.rd.new_ hn6).chg hch6 (fun ad e h => by have := (k2.lt ad.block (by rw [e]; rfl)).2; omega)
            rwa [HL1.out] at this
          have hrA2 : Rd wr 1 A2 L2 (s2.texts.map bv) := by
            have := (k3.rd.new_ hn6).chg hch6 (fun ad e h => by have := (k3.lt ad.block (by rw [e]; rfl)).2; omega)
            rwa [HL2.out] at this
          have hB5 : ∀ k, blkOf B = some k → w5.heap.size ≤ k := fun k hk => by
            rcases he6 k (r8 k hk) with h | h
            · omega
            · have := hn6.size; omega
          have r2d := (r2.raise hB5).drew
          have hrAd := hrA.drew
          have hBA : ∀ ad, A = some ad → ¬ blkOf B = some ad.block := fun ad e h => by have := (k2.lt ad.block (by rw [e]; rfl)).2; have := hB5 _ h; omega
          have hBA2 : ∀ ad, A2 = some ad → ¬ blkOf B = some ad.block := fun ad e h => by have := (k3.lt ad.block (by rw [e]; rfl)).2; have := hB5 _ h; omega
          have hBh : ∀ k, blkOf B = some k → k ≠ w5.heap.size := r2.ne_ r1 (by decide)
          have hBg : ∀ k, blkOf B = some k → k ≠ w2.heap.size := r2.ne_ hk8 (by decide)
          have hwr5 : w5.heap.size ≤ wr.heap.size := Nat.le_trans hn6.size hch6.size
          have hnw : New w wr := (hW5.new_ hn6).trans hch6 (fun i hi hlt => by have := hW5.size; omega)
          go_wp2_with fail
          go_region_held3 (fun wx => wx.cell? ⟨w2.heap.size, 0, none⟩ = some (.slice A L1 c) ∧ wx.cell? ⟨w2.heap.size, 1, none⟩ = some (.slice A2 L2 c2) ∧ wx.cell? ⟨w5.heap.size, 0, none⟩ = some (.slice B 56 d)) (first | exact ⟨‹_›, ‹_›, ‹_›⟩ | go_keep) (first
            | (refine step_of_wp rfl (wp_append_x _ _ _ 28 rfl w5.heap.size 5 i0 _ 1 1 Try.underlying28 hi0 hi1 hi2 hi3 rfl (by omega) B 56 d _ rfl r2d A L1 c _ rfl hrAd (bv_one _) (56 + L1) rfl (by simp only [maxLen]; omega) (by omega) hwr5 ?_)
               intro A6 c6 w8 hown6 hg6 hat6
               have hc8 : Chg (fun k => blkOf B = some k) wr w8 := (Chg.drew (Chg.refl _ _)).grown hg6 (fun k hk _ => hk)
               have hrA28 := hrA2.chg hc8 hBA2
               obtain ⟨hx0, hx1, _⟩ := (hk8.chg hc8 (fun h => hBg _ h rfl)).c3
               obtain ⟨hy0, _⟩ := (r1.chg hc8 (fun h => hBh _ h rfl)).c3
               have hbl6 : ∀ k, blkOf A6 = some k → w5.heap.size ≤ k := fun k hk => (hown6.lt k hk).1)
            | (refine step_of_wp rfl (wp_append_x _ _ _ 28 rfl w5.heap.size 5 i0 _ 1 1 Try.underlying28 hi0 hi1 hi2 hi3 rfl (by omega) A6 (56 + L1) c6 _ rfl hown6 A2 L2 c2 _ rfl hrA28 (bv_one _) (56 + L1 + L2) rfl (by simp only [maxLen]; omega) (by omega) (Nat.le_trans hwr5 hc8.size) ?_)
               intro A7 c7 w9 hown7 hg7 hat7
               have hc9 : Chg (fun k => blkOf A6 = some k) w8 w9 := (Chg.refl _ _).grown hg7 (fun k hk _ => hk)
               have hA6g : ∀ k, blkOf A6 = some k → k ≠ w2.heap.size := hown6.ne_ (hk8.chg hc8 (fun h => hBg _ h rfl)) (by decide)
               have hA6h : ∀ k, blkOf A6 = some k → k ≠ w5.heap.size := hown6.ne_ (r1.chg hc8 (fun h => hBh _ h rfl)) (by decide)
               obtain ⟨ha0, ha1, _⟩ := ((hk8.chg hc8 (fun h => hBg _ h rfl)).chg hc9 (fun h => hA6g _ h rfl)).c3
               obtain ⟨hb0, _⟩ := ((r1.chg hc8 (fun h => hBh _ h rfl)).chg hc9 (fun h => hA6h _ h rfl)).c3))
          go_wp2_with fail
          go_ret2
          rw [HPF.out, HL1.out, HL2.out, if_neg HBIG.out]
          have hlen : (puts32 (headF L1 L2) false ++ List.replicate 16 0 ++ s2.b ++ s2.texts).length = 56 + L1 + L2 := by
            have h10 : (headF L1 L2).length = 10 := rfl
            simp only [List.length_append, puts32_length, List.length_replicate, HL1.out, HL2.out, h10]
          refine BytesPost.mk' (r := (puts32 (headF L1 L2) false ++ List.replicate 16 0 ++ s2.b ++ s2.texts, 0)) ?_ rfl ?_ ?_
          · rw [hlen]
          · rw [hlen]
            have := hown7.low hW5.size
            simpa [List.map_append, List.append_assoc] using this
          · exact (hnw.trans hc8 (fun i hi hlt => by have := hB5 i hi; have := hW5.size; omega)).trans hc9 (fun i hi hlt => by have := hbl6 i hi; have := hW5.size; omega)
end Go.Proofs.Ytfmmcjiehpdogaa
