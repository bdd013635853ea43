/-
  The program's writer puts a node as nodeF does. No condition but that memory bears the tree.
-/
import Derived.Test.YtfmmcjiehpdogaaWr
import Derived.Test.YtfmmcjiehpdogaaCheck
set_option linter.unusedVariables false
set_option linter.unusedSimpArgs false
namespace Go.Proofs.Ytfmmcjiehpdogaa
open Go.RowKit
attribute [local go_sem ↓] Go.wp_at_zero Go.wp_at_succ

/-- what 'node' gives, for one tree -/
def NodeOk (t : TreeD) : Prop := ∀ (S : Nat → Prop) (g B : Nat) (s : WS) (w : World) (v0 v1 v2 : Value), WrIs w S g s → TreeIs w B v0 v1 v2 t → (∀ k, k < B → ¬ S k) → B ≤ w.heap.size → s.wt + nodeW t ≤ 1073741824 →
  Calls Try.prog 32 #[.pointer (some ⟨g, 0, none⟩), .agg #[v0, v1, v2]] w (WrPost (.tuple #[]) S g (nodeF t s) w)

theorem Ext.off {S S1 : Nat → Prop} {w : World} {B : Nat} (h : Ext S S1 w) (hS : ∀ k, k < B → ¬ S k) (hB : B ≤ w.heap.size) : ∀ k, k < B → ¬ S1 k := fun k hk h1 => by
  rcases h k h1 with h2 | h2
  · exact hS k hk h2
  · omega
theorem wt_b (s : WS) : s.b.length ≤ s.wt := by unfold WS.wt; omega

theorem wrap_u32 (n : Nat) (h : n ≤ 1073741824) : IntKind.u32.wrap (n : Int) = n := by
  simp [IntKind.wrap, IntKind.signed, IntKind.bits]
  omega
/-- between two steps of 'node': the writer says s, the node's own block bx is there -/
def NodeMid (S : Nat → Prop) (g bx : Nat) (cells : Array Value) (s : WS) (w wx : World) : Prop :=
  ∃ S5, Ext S S5 w ∧ WrIs wx S5 g s ∧ Chg S w wx ∧ Blk wx bx 25 cells ∧ ¬ S5 bx

set_option maxRecDepth 100000 in
set_option maxHeartbeats 400000 in
theorem node_any (t : TreeD) : NodeOk t := by
  induction t using TreeD.ind with
  | h nm ps ks ih =>
    intro S g B s w v0 v1 v2 hw ht hBS hBw hwt
    obtain ⟨i0, hi0, hz0, hz1, hz2⟩ := info_parts infoU8
    have ht' := ht
    have hWN : s.wt + 32 + nm.size + propsW ps + kidsW ks ≤ 1073741824 := by simp only [nodeW] at hwt; omega
    cases ht with
    | mk _ _ _ Ap Ak cp ck c0 c1 c2 hnm hp1 hp2 hk1 hk2 hps hcs hks =>
      have hgl := hw.lt g hw.mem
      have hbox := Blk.made w 25 #[.string nm, .slice Ap ps.length cp, .slice Ak ks.length ck]
      have hw1 := Lib.hid ((hw.new_ ((Chg.refl _ _).alloc (.cells #[.string nm, .slice Ap ps.length cp, .slice Ak ks.length ck] 25))).new_ ((Chg.refl _ _).alloc (.cells #[.int .u32 1] 34)))
      have hr1 := Lib.hid (Rd.made' (w.alloc (.cells #[.string nm, .slice Ap ps.length cp, .slice Ak ks.length ck] 25)) 34 ([1].map wv32) (k := w.heap.size + 1) (n := 1) (by simp) rfl)
      have HBS := Lib.hid hBS
      have hsb := wt_b s
      clear hBS hwt
      go_enter Try.func32, Try.ntmps32
      go_wp2_with (go_at_call 33; refine (wr_four S g s _ hw1.out _ 1 1 [1] hr1.out (by omega) (by omega)).mono ?_; rintro e w3 ⟨rfl, S3, he3, hw3, hch3⟩)
      have hsz3 := hch3.size
      simp only [World.size_alloc] at hsz3
      have hnS : ¬ S w.heap.size := fun h => by have := hw.lt _ h; omega
      have hchW : Chg S w w3 := ((((Chg.refl S w).alloc _).alloc _)).trans hch3 (fun i hi _ => hi)
      have heW : Ext S S3 w := he3.of_le (by simp; omega)
      have hnS3 : ¬ S3 w.heap.size := fun h => by
        rcases he3 _ h with h1 | h1
        · exact hnS h1
        · simp at h1; omega
      have hb3 := (hbox.alloc (.cells #[.int .u32 1] 34)).chg hch3 hnS
      have hw3wt := num4_wt [1] s
      have hw3b := wt_b (num4 [1] s)
      simp only [List.length_cons, List.length_nil] at hw3wt
      clear hw1 hr1
      go_cut [] (fun wx => ∃ S5, Ext S S5 w ∧ WrIs wx S5 g (fillF (nm.data.toList ++ [0]) (num4 [1] s)) ∧ Chg S w wx ∧ Blk wx w.heap.size 25 #[.string nm, .slice Ap ps.length cp, .slice Ak ks.length ck] ∧ ¬ S5 w.heap.size)
      case first =>
        obtain ⟨hc0, hc1, hc2, hf0, hf1, hf2⟩ := hb3.c3
        have hd0 := (hb3.alloc (.cells #[.int .u8 0] 5)).c3.1
        obtain ⟨cx, wx, hrunx, hownx, hnewx⟩ := run_bytes_of (P := Try.prog) w3.drew 9 28 5 nm Try.underlying9 Try.underlying28 Try.underlying5 (by simp only [maxLen]; omega)
        obtain ⟨cy, wy, hruny, howny, hnewy⟩ := run_bytes_of (P := Try.prog) (w3.alloc (.cells #[.int .u8 0] 5)).drew 9 28 5 nm Try.underlying9 Try.underlying28 Try.underlying5 (by simp only [maxLen]; omega)
        have hownx' := hownx.low (Nat.zero_le _)
        have hownx2 := hownx'.alloc (.cells #[.int .u8 0] 5)
        have howny' : Own wy 0 5 1 (some ⟨w3.heap.size + 1, 0, none⟩) nm.size cy (nm.data.toList.map bv) := by
          have := howny.low (Nat.zero_le _)
          simpa using this
        have hrdx := Rd.made wx 5 ([(0 : UInt8)].map bv)
        have hrdy := (Rd.made' w3 5 ([(0 : UInt8)].map bv) (k := w3.heap.size) (n := 1) rfl rfl).drew.new_ hnewy
        have hnx : New w3 (wx.alloc (.cells #[.int .u8 0] 5)) := ((Chg.drew (Chg.refl _ w3)).new_ hnewx).alloc _
        have hny : New w3 wy := (Chg.drew ((Chg.refl _ w3).alloc _)).new_ hnewy
        have hsh : (nm.data.toList.map bv ++ [(0 : UInt8)].map bv) = (nm.data.toList ++ [0]).map bv := by simp
        clear hownx howny hownx' hnewx hnewy
        go_region_law (first
          | (refine step_of_wp rfl (wp_append_x _ _ _ 28 rfl 0 5 i0 _ 1 1 Try.underlying28 hi0 hz0 hz1 hz2 rfl (by omega) (some ⟨w3.heap.size, 0, none⟩) nm.size cx _ rfl hownx2 _ 1 _ _ rfl hrdx (bv_one _) (nm.size + 1) rfl (by simp only [maxLen]; omega) (by omega) (Nat.zero_le _) ?_)
             intro A5 c5 w5 hown5 hg5 hat5
             have hn5 : New w3 w5 := hnx.grown hg5 (fun k hk h => by simp [blkOf] at hk; omega)
             have hr5 := hown5.rd
             rw [hsh] at hr5
             have hw5 := hw3.new_ hn5)
          | (refine step_of_wp rfl (wp_append_x _ _ _ 28 rfl 0 5 i0 _ 1 1 Try.underlying28 hi0 hz0 hz1 hz2 rfl (by omega) (some ⟨w3.heap.size + 1, 0, none⟩) nm.size cy _ rfl howny' _ 1 _ _ rfl hrdy (bv_one _) (nm.size + 1) rfl (by simp only [maxLen]; omega) (by omega) (Nat.zero_le _) ?_)
             intro A5 c5 w5 hown5 hg5 hat5
             have hn5 : New w3 w5 := hny.grown hg5 (fun k hk h => by simp [blkOf] at hk; omega)
             have hr5 := hown5.rd
             rw [hsh] at hr5
             have hw5 := hw3.new_ hn5)
          | (go_simp
             go_at_call 76
             refine (wr_fill S3 g _ w5 hw5 _ _ _ (nm.data.toList ++ [0]) hr5 (by omega) (by omega)).mono ?_
             rintro e w6 ⟨rfl, S6, he6, hw6, hch6⟩))
        all_goals
          go_wp2_with fail
          go_meet
          refine ⟨S6, heW.trans (he6.of_le hn5.size) hchW.size, hw6, (hchW.new_ hn5).ext heW hch6, ((hb3.chg hn5 (fun h => h)).chg hch6 hnS3), fun h => ?_⟩
          rcases he6 _ h with h1 | h1
          · exact hnS3 h1
          · have := hn5.size; omega
      case rest =>
        obtain ⟨S5, he5, hw5, hch5, hb5, hn5⟩ := hcut
        clear hw3 hch3 hsz3 hnS3 hb3 he3 heW hchW
        have hwt5 := fillF_wt (nm.data.toList ++ [0]) (num4 [1] s)
        rw [List.length_append, data_length, List.length_singleton] at hwt5
        obtain ⟨s5, hs5⟩ : ∃ s5, fillF (nm.data.toList ++ [0]) (num4 [1] s) = s5 := ⟨_, rfl⟩
        rw [hs5] at hw5 hwt5
        have HS5 := Lib.hid hs5
        clear hs5
        obtain ⟨hbc0, hbc1, hbc2, hbf0, hbf1, hbf2⟩ := hb5.c3
        have hsz5 := hb5.lt
        go_wp2_with fail
        go_loopw [25] (fun i wr => ∃ (j : Nat), j ≤ ps.length ∧ i = .int .i64 j ∧ NodeMid S g w.heap.size #[.string nm, .slice Ap ps.length cp, .slice Ak ks.length ck] (propsF (ps.take j) s5) w wr) (fun i _ => ps.length - (intOf i).toNat)
        case atStart => exact ⟨0, Nat.zero_le _, rfl, S5, he5, hw5, hch5, hb5, hn5⟩
        case round =>
          clear hw5 hch5 hb5 hn5 he5 hsz5 hbc0 hbc1 hbc2 hbf0 hbf1 hbf2
          obtain ⟨j, hj, rfl, S6, he6, hw6, hch6, hb6, hn6⟩ := hrel
          obtain ⟨hbc0, hbc1, hbc2, hbf0, hbf1, hbf2⟩ := hb6.c3
          have hsz6 : w.heap.size < wr.heap.size := hb6.lt
          by_cases hlt : j < ps.length
          · have hjp : ps[j]? = some ps[j] := List.getElem?_eq_getElem hlt
            have hwj := propsF_wt (ps.take j) s5
            have hwj2 := propsW_take_succ ps j hlt
            obtain ⟨q, hq⟩ : ∃ q, ps[j] = q := ⟨_, rfl⟩
            rw [hq] at hjp hwj2
            have htake : propsF (ps.take (j + 1)) s5 = propF q (propsF (ps.take j) s5) := by rw [List.take_succ_eq_append_getElem hlt, hq, propsF_append]; rfl
            obtain ⟨s6, hs6⟩ : ∃ s6, propsF (ps.take j) s5 = s6 := ⟨_, rfl⟩
            rw [hs6] at hw6 hwj htake
            have HT := Lib.hid htake
            clear htake hs6 hq
            obtain ⟨b, o, Aq, cq, rfl, hbB, hq1, hq2, hq3, hq4, hq5, hq6, hq7⟩ := (hps.chg hch6 HBS.out) j q hjp
            have hwr : IntKind.u32.wrap (q.2.length : Int) = q.2.length := wrap_u32 _ (by simp only [propW] at hwj2; omega)
            have hbq := Blk.made wr 96 #[.string q.1, .slice Aq q.2.length cq]
            obtain ⟨hx0, hx1, hx2, hx3⟩ := hbq.c2
            have hqsz : q.1.size ≤ 1073741824 := by simp only [propW] at hwj2; omega
            have hwt6 : s6.wt ≤ 1073741824 := by omega
            have HW6 := Lib.hid (hw6.new_ (Chg.drew ((Chg.refl _ _).alloc (.cells #[.string q.1, .slice Aq q.2.length cq] 96))))
            have hpw : propW q = 32 + q.1.size + q.2.length := rfl
            have e7 := textF_wt q.1.data.toList s6
            rw [data_length] at e7
            have b7 := wt_b (textF q.1.data.toList s6).2
            have e8 := num4_wt [3, q.2.length, (textF q.1.data.toList s6).1] (textF q.1.data.toList s6).2
            simp only [List.length_cons, List.length_nil] at e8
            have b8 := wt_b (num4 [3, q.2.length, (textF q.1.data.toList s6).1] (textF q.1.data.toList s6).2)
            have k7 : (textF q.1.data.toList s6).2.b.length ≤ 1099511627776 := by omega
            have k8 : (num4 [3, q.2.length, (textF q.1.data.toList s6).1] (textF q.1.data.toList s6).2).b.length ≤ 1099511627776 := by omega
            clear e7 b7 e8 b8
            go_wp2_with fail
            go_region_held3 (fun wx => wx.cell? ⟨wr.heap.size, 0, none⟩ = some (.string q.1) ∧ wx.cell? ⟨wr.heap.size, 1, none⟩ = some (.slice Aq q.2.length cq)) (first | exact ⟨‹_›, ‹_›⟩ | go_keep) (first
              | (go_at_call 77
                 refine (wr_text S6 g s6 _ HW6.out q.1 hwt6 hqsz).mono ?_
                 rintro e w7 ⟨rfl, S7, he7, hw7, hch7⟩
                 have hbq7 := hbq.chg ((Chg.drew (Chg.refl _ _)).trans hch7 (fun i hi _ => hi)) (fun h => by have := hw6.lt _ h; omega)
                 obtain ⟨hy0, hy1, hy2, hy3⟩ := hbq7.c2
                 have hn7 : ¬ S7 wr.heap.size := fun h => by
                   rcases he7 _ h with h1 | h1
                   · have := hw6.lt _ h1; omega
                   · simp at h1; omega
                 have HW7 := Lib.hid (hw7.new_ ((Chg.refl _ _).alloc (.cells #[.int .u32 3, .int .u32 q.2.length, .int .u32 ((textF q.1.data.toList s6).1 : Int)] 34)))
                 have hr7 := Rd.made' w7 34 ([3, q.2.length, (textF q.1.data.toList s6).1].map wv32) (k := w7.heap.size) (n := 3) rfl rfl)
              | (go_at_call 33
                 refine (wr_four S7 g _ _ HW7.out _ 3 3 _ hr7 k7 (by omega)).mono ?_
                 rintro e w8 ⟨rfl, S8, he8, hw8, hch8⟩
                 have hbq8 := (hbq7.alloc (.cells #[.int .u32 3, .int .u32 q.2.length, .int .u32 ((textF q.1.data.toList s6).1 : Int)] 34)).chg hch8 hn7
                 obtain ⟨hz0, hz1, hz2, hz3⟩ := hbq8.c2))
            go_wp2_with fail
            have hc7 : Chg S6 wr w7 := (Chg.drew ((Chg.refl _ _).alloc _)).trans hch7 (fun i hi _ => hi)
            have hc8 : Chg S6 wr w8 := hc7.ext (he7.of_le (by simp)) (((Chg.refl _ _).alloc _).trans hch8 (fun i hi _ => hi))
            have he68 : Ext S6 S8 wr := (he7.of_le (w := wr) (by simp)).trans (he8.of_le (w := w7) (by simp)) hc7.size
            have hBS6 : ∀ k, k < B → ¬ S6 k := he6.off HBS.out hBw
            have hr8 := hq6.chg_lo hq7 hc8 hBS6
            have HW8 := Lib.hid (hw8.new_ (Chg.drew (Chg.refl _ _)))
            have hr8' : Rd w8.drew 1 Aq q.2.length (q.2.map bv) := hr8
            clear HW6 HW7 hr7 hx0 hx1 hx2 hx3 hy0 hy1 hy2 hy3 hq1 hq2 hz2 hz3 hq6
            go_region_held3 (fun wx => wx.cell? ⟨wr.heap.size, 1, none⟩ = some (.slice Aq q.2.length cq)) (first | exact ‹_› | trivial | go_keep) (first
              | (go_at_call 76
                 refine (wr_fill S8 g _ _ HW8.out _ _ cq q.2 hr8' k8 (by omega)).mono ?_
                 rintro e w9 ⟨rfl, S9, he9, hw9, hch9⟩
                 have hn8 : ¬ S8 wr.heap.size := fun h => by
                   rcases he8 _ h with h1 | h1
                   · exact hn7 h1
                   · have := hc7.size; simp at this h1; omega
                 obtain ⟨hu0, hu1, hu2, hu3⟩ := (hbq8.chg ((Chg.drew (Chg.refl _ _)).trans hch9 (fun i hi _ => hi)) hn8).c2))
            go_wp2_with fail
            go_roundw
            case rel =>
              have hc9 : Chg S6 wr w9 := hc8.ext he68 ((Chg.drew (Chg.refl _ _)).trans hch9 (fun i hi _ => hi))
              have he69 : Ext S6 S9 wr := he68.trans (he9.of_le (w := w8) (by simp)) hc8.size
              refine ⟨j + 1, by omega, by go_num, S9, he6.trans he69 hch6.size, by rw [HT.out]; exact hw9, hch6.ext he6 hc9, hb6.chg hc9 hn6, fun h => ?_⟩
              rcases he69 _ h with h1 | h1
              · exact hn6 h1
              · omega
            case measure => simp [intOf]; omega
          · obtain rfl : j = ps.length := by omega
            rw [List.take_of_length_le (Nat.le_refl _)] at hw6
            have hwt6 := propsF_wt ps s5
            obtain ⟨s6, hs6⟩ : ∃ s6, propsF ps s5 = s6 := ⟨_, rfl⟩
            rw [hs6] at hw6 hwt6
            have HS6 := Lib.hid hs6
            clear hs6
            go_wp2_with fail
            go_loopw [52] (fun i wr => ∃ (j : Nat), j ≤ ks.length ∧ i = .int .i64 j ∧ NodeMid S g w.heap.size #[.string nm, .slice Ap ps.length cp, .slice Ak ks.length ck] (kidsF (ks.take j) s6) w wr) (fun i _ => ks.length - (intOf i).toNat)
            case atStart => exact ⟨0, Nat.zero_le _, rfl, S6, he6, hw6, hch6, hb6, hn6⟩
            case round =>
              clear hw6 hch6 hb6 hn6 he6 hsz6 hbc0 hbc1 hbc2 hbf0 hbf1 hbf2 hj
              obtain ⟨j, hj, rfl, S7, he7, hw7, hch7, hb7, hn7⟩ := hrel
              obtain ⟨hbc0, hbc1, hbc2, hbf0, hbf1, hbf2⟩ := hb7.c3
              have hsz7 : w.heap.size < wr.heap.size := hb7.lt
              by_cases hlt : j < ks.length
              · have hjk : ks[j]? = some ks[j] := List.getElem?_eq_getElem hlt
                have hwj := kidsF_wt (ks.take j) (fun k _ => nodeF_wt k) s6
                have hwj2 := kidsW_take_succ ks j hlt
                obtain ⟨q, hq⟩ : ∃ q, ks[j] = q := ⟨_, rfl⟩
                have hqm : q ∈ ks := by rw [← hq]; exact List.getElem_mem hlt
                rw [hq] at hjk hwj2
                have htake : kidsF (ks.take (j + 1)) s6 = nodeF q (kidsF (ks.take j) s6) := by rw [List.take_succ_eq_append_getElem hlt, hq, kidsF_append]; rfl
                obtain ⟨s7, hs7⟩ : ∃ s7, kidsF (ks.take j) s6 = s7 := ⟨_, rfl⟩
                rw [hs7] at hw7 hwj htake
                have HT := Lib.hid htake
                clear htake hs7 hq
                obtain ⟨b, o, rfl, hbB, hq0, hq1, hq2⟩ := hcs j hlt
                have htq := (hks j q hjk).chg hch7 HBS.out
                replace hq0 := cell_chg hq0 hbB hch7 HBS.out
                replace hq1 := cell_chg hq1 hbB hch7 HBS.out
                replace hq2 := cell_chg hq2 hbB hch7 HBS.out
                obtain ⟨Aq, Aq2, cq, cq2, e0, e1, e2, hqs⟩ := htq.shape
                rw [e0] at hq0 htq
                rw [e1] at hq1 htq
                rw [e2] at hq2 htq
                clear e0 e1 e2
                have htq2 := Lib.hid (htq.new_ ((Chg.refl (fun _ => False) wr).alloc (.cells #[.string q.name, .slice Aq q.props.length cq, .slice Aq2 q.kids.length cq2] 25)))
                have HW7 := Lib.hid (hw7.new_ ((Chg.refl (fun _ => False) wr).alloc (.cells #[.string q.name, .slice Aq q.props.length cq, .slice Aq2 q.kids.length cq2] 25)))
                have HB7 := Lib.hid (he7.off HBS.out hBw)
                clear htq
                go_wp2_with (go_at_call 32; refine (ih q hqm S7 g B s7 _ _ _ _ HW7.out htq2.out HB7.out (by simp; omega) (by omega)).mono ?_; rintro e w8 ⟨rfl, S8, he8, hw8, hch8⟩)
                go_roundw
                case rel =>
                  have hc8 : Chg S7 wr w8 := ((Chg.refl _ _).alloc _).trans hch8 (fun i hi _ => hi)
                  have he78 : Ext S7 S8 wr := he8.of_le (by simp)
                  refine ⟨j + 1, by omega, by go_num, S8, he7.trans he78 hch7.size, by rw [HT.out]; exact hw8, hch7.ext he7 hc8, hb7.chg hc8 hn7, fun h => ?_⟩
                  rcases he78 _ h with h1 | h1
                  · exact hn7 h1
                  · omega
                case measure => simp [intOf]; omega
              · obtain rfl : j = ks.length := by omega
                rw [List.take_of_length_le (Nat.le_refl _)] at hw7
                have hwt7 := kidsF_wt ks (fun k _ => nodeF_wt k) s6
                have b7 := wt_b (kidsF ks s6)
                have HW7 := Lib.hid (hw7.new_ ((Chg.refl _ _).alloc (.cells #[.int .u32 2] 34)))
                have hr7 := Lib.hid (Rd.made' wr 34 ([2].map wv32) (k := wr.heap.size) (n := 1) rfl rfl)
                go_wp2_with (go_at_call 33; refine (wr_four S7 g _ _ HW7.out _ 1 1 [2] hr7.out (by omega) (by omega)).mono ?_; rintro e w8 ⟨rfl, S8, he8, hw8, hch8⟩)
                go_end0
                have hc8 : Chg S7 wr w8 := ((Chg.refl _ _).alloc _).trans hch8 (fun i hi _ => hi)
                have he78 : Ext S7 S8 wr := he8.of_le (by simp)
                refine ⟨rfl, S8, he7.trans he78 hch7.size, ?_, hch7.ext he7 hc8⟩
                rw [nodeF, HS5.out, HS6.out]
                exact hw8
end Go.Proofs.Ytfmmcjiehpdogaa
