/-
  The program's may answers as mayF does. No condition but that memory bears the tree.
-/
import Derived.Test.YtfmmcjiehpdogaaCheckF
import Derived.Deep.RegionHeld3
import Derived.Deep.DeepCutAuto
set_option linter.unusedVariables false
set_option linter.unusedSimpArgs false
namespace Go.Proofs.Ytfmmcjiehpdogaa
open Go.RowKit

theorem infoStr : (Try.prog.info? 9).map (fun i => (i.zero, i.size, i.bytes)) = some (some (.string .empty), 1, 16) := by kernel_rfl
/-- what a call of 'may' leaves -/
def MayPost (t : TreeD) (at_ n p g : Nat) (w : World) (e : Ending) (w' : World) : Prop :=
  e = .returned (.bool (mayF t at_ n p).isSome) ∧ Chg (fun k => k = g) w w' ∧ ∃ n' p' : Nat, Blk w' g 80 #[.int .i64 n', .int .i64 p'] ∧ ∀ x, mayF t at_ n p = some x → x = (n', p')
/-- what 'may' gives, for one tree -/
def MayOk (t : TreeD) : Prop := ∀ (at_ n p g B : Nat) (v0 v1 v2 : Value) (w : World), TreeIs w B v0 v1 v2 t → B ≤ g → Blk w g 80 #[.int .i64 n, .int .i64 p] → 1 ≤ at_ → at_ ≤ 9 → n ≤ 200 → p ≤ 1000 →
  Calls Try.prog 37 #[.pointer (some ⟨g, 0, none⟩), .agg #[v0, v1, v2], .int .i64 at_] w (MayPost t at_ n p g w)
theorem may_none {t : TreeD} {at_ n p g n' p' : Nat} {w w' : World} (h : mayF t at_ n p = none) (hc : Chg (fun k => k = g) w w') (hg : Blk w' g 80 #[.int .i64 n', .int .i64 p']) : MayPost t at_ n p g w (.returned (.bool false)) w' :=
  ⟨by rw [h]; rfl, hc, n', p', hg, fun x hx => by rw [h] at hx; cases hx⟩

set_option maxRecDepth 100000 in
set_option maxHeartbeats 1000000 in
theorem may_any (t : TreeD) : MayOk t := by
  induction t using TreeD.ind with
  | h nm ps ks ih =>
    intro at_ n p g B v0 v1 v2 w ht hBg hg h1 h9 hn hp
    obtain ⟨iS, hiS, hS0, hS1, hS2⟩ := info_parts infoStr
    have hlt := hg.lt
    obtain ⟨hgc0, hgc1, hgf0, hgf1⟩ := hg.c2
    have ht' := ht
    cases ht with
    | mk _ _ _ Ap Ak cp ck c0 c1 c2 hnm hp1 hp2 hk1 hk2 hps hcs hks =>
      go_enter Try.func37, Try.ntmps37
      go_wp2_with fail
      go_region
      go_wp2_with (with_reducible refine stopAt 31 rfl ?_)
      refine stop_forget (fun w2 => Blk w2 g 80 #[.int .i64 ((n + 1 : Nat) : Int), .int .i64 ((p + ps.length : Nat) : Int)] ∧
        Blk w2 w.heap.size 25 #[.string nm, .slice Ap ps.length cp, .slice Ak ks.length ck] ∧ Chg (fun k => k = g) w w2) ?_ ?_
      · refine ⟨?_, ?_, ?_⟩
        · have := ((((hg.set_ 0 (.int .i64 (n + 1))).set_ 1 (.int .i64 (p + ps.length))).alloc (.cells #[.string nm, .slice Ap ps.length cp, .slice Ak ks.length ck] 25)).drew)
          simpa using this
        · have := Blk.made ((w.setCell ⟨g, 0, none⟩ (.int .i64 (n + 1))).setCell ⟨g, 1, none⟩ (.int .i64 (p + ps.length))) 25 #[.string nm, .slice Ap ps.length cp, .slice Ak ks.length ck]
          simpa using this.drew
        · exact ((((Chg.refl (fun k => k = g) _).setCell (fun _ => rfl) _).setCell (fun _ => rfl) _).alloc _).drew
      intro w2 ⟨hg2, hb2, hch2⟩
      obtain ⟨hgc0', hgc1', hgf0', hgf1'⟩ := hg2.c2
      obtain ⟨hbc0, hbc1, hbc2, hbf0, hbf1, hbf2⟩ := hb2.c3
      have hBS : ∀ k, k < B → ¬ k = g := fun k hk e => by omega
      have ht2 := ht'.chg hch2 hBS
      have hps2 := hps.chg hch2 hBS
      clear hgc0 hgc1 hgf0 hgf1 hg
      have HBS := Lib.hid hBS
      clear hBS
      by_cases hc : 8 < at_ ∨ 200 < n + 1 ∨ 1000 < p + ps.length
      · have hm : mayF (.mk nm ps ks) at_ n p = none := by simp only [mayF, if_pos hc]
        have HM := Lib.hid hm
        clear hm
        go_wp2_with fail
        all_goals
          go_ret
          exact may_none HM.out hch2 hg2
      · have hm1 : mayF (.mk nm ps ks) at_ n p = if nmOk at_ nm.data.toList = false then none
            else if ps.all propOk = false then none
            else if dupB (pnames ps) = true then none
            else if dupB (knames ks) = true then none
            else mayL ks (at_ + 1) (n + 1) (p + ps.length) := by simp only [mayF, if_neg hc]
        have HM1 := Lib.hid hm1
        clear hm1
        have hc1 : at_ ≤ 8 := by omega
        have hc2 : n + 1 ≤ 200 := by omega
        have hc3 : p + ps.length ≤ 1000 := by omega
        clear hc
        go_upto_region 5 with fail
        go_cut [62] (fun s62 wx => s62 = .bool (!nmOk at_ nm.data.toList) ∧ Chg (fun k => k = g) w wx ∧ Blk wx g 80 #[.int .i64 ((n + 1 : Nat) : Int), .int .i64 ((p + ps.length : Nat) : Int)] ∧
          Blk wx w.heap.size 25 #[.string nm, .slice Ap ps.length cp, .slice Ak ks.length ck])
        case first =>
          by_cases h1e : at_ = 1
          · subst h1e
            by_cases hem : nm.toList = []
            · have HE := Lib.hid hem
              go_wp2_with fail
              go_meet
              refine ⟨?_, hch2, hg2, hb2⟩
              simp [nmOk, ← Lib.toList_data, HE.out]
            · have HE := Lib.hid hem
              go_wp2_with fail
              go_meet
              refine ⟨?_, hch2, hg2, hb2⟩
              simp [nmOk, ← Lib.toList_data, HE.out]
          · by_cases hnm2 : nameB ofNodes nm.data.toList = true
            · have HN := Lib.hid hnm2
              clear hnm2
              go_wp2_with (go_at_call 82; refine (named_any _ _ _ (by omega)).mono ?_; rintro e w3 ⟨he, hnew⟩; rw [show (ByteArray.mk #[44, 46, 95, 43, 45, 64]).data.toList = ofNodes from rfl, HN.out] at he; subst he)
              go_meet
              refine ⟨?_, hch2.new_ hnew, hg2.chg hnew (fun h => h), hb2.chg hnew (fun h => h)⟩
              rw [nmOk, if_neg h1e, HN.out]; rfl
            · have HN := Lib.hid (Bool.eq_false_iff.2 hnm2)
              clear hnm2
              go_wp2_with (go_at_call 82; refine (named_any _ _ _ (by omega)).mono ?_; rintro e w3 ⟨he, hnew⟩; rw [show (ByteArray.mk #[44, 46, 95, 43, 45, 64]).data.toList = ofNodes from rfl, HN.out] at he; subst he)
              go_meet
              refine ⟨?_, hch2.new_ hnew, hg2.chg hnew (fun h => h), hb2.chg hnew (fun h => h)⟩
              rw [nmOk, if_neg h1e, HN.out]; rfl
        case rest =>
          obtain ⟨hs62, hch3, hg3, hb3⟩ := hcut
          clear hgc0' hgc1' hgf0' hgf1' hbc0 hbc1 hbc2 hbf0 hbf1 hbf2 ht2 hps2 hg2 hb2 hch2
          by_cases hno : nmOk at_ nm.data.toList = false
          · have HN := Lib.hid hno
            rw [hno] at hs62
            obtain rfl : _ = Value.bool true := hs62
            clear hno
            go_wp2_with fail
            go_ret
            exact may_none (by rw [HM1.out, if_pos HN.out]) hch3 hg3
          · have hno : nmOk at_ nm.data.toList = true := by simpa using hno
            rw [hno] at hs62
            obtain rfl : _ = Value.bool false := hs62
            have hm2 : mayF (.mk nm ps ks) at_ n p = if ps.all propOk = false then none
              else if dupB (pnames ps) = true then none
              else if dupB (knames ks) = true then none
              else mayL ks (at_ + 1) (n + 1) (p + ps.length) := by rw [HM1.out, if_neg (by rw [hno]; simp)]
            have HM2 := Lib.hid hm2
            clear hm2 HM1 hno
            obtain ⟨hbc0, hbc1, hbc2, hbf0, hbf1, hbf2⟩ := hb3.c3
            have hsz3 : w.heap.size < wc.heap.size := hb3.lt
            go_wp2_with fail
            go_loopw [7, 66] (fun v i wr => ∃ (j : Nat) (A : Option Addr) (c : Nat), j ≤ ps.length ∧ i = .int .i64 j ∧ v = .slice A j c ∧ Own wr w.heap.size 9 1 A j c ((ps.take j).map fun p => Value.string p.1) ∧
              (ps.take j).all propOk = true ∧ Chg (fun k => k = g) w wr ∧ Blk wr g 80 #[.int .i64 ((n + 1 : Nat) : Int), .int .i64 ((p + ps.length : Nat) : Int)] ∧
              Blk wr w.heap.size 25 #[.string nm, .slice Ap ps.length cp, .slice Ak ks.length ck]) (fun _ i _ => ps.length - (intOf i).toNat)
            case atStart => exact ⟨0, none, 0, Nat.zero_le _, rfl, rfl, Own.nil_ _ _ _ _, rfl, hch3, hg3, hb3⟩
            case round =>
              clear hg3 hb3 hch3 hsz3 hbc0 hbc1 hbc2 hbf0 hbf1 hbf2
              obtain ⟨j, A, c, hj, rfl, rfl, hown, hall, hch, hgr, hbr⟩ := hrel
              have HA := Lib.hid hall
              clear hall
              obtain ⟨hbc0, hbc1, hbc2, hbf0, hbf1, hbf2⟩ := hbr.c3
              have hszr : w.heap.size < wr.heap.size := hbr.lt
              by_cases hlt2 : j < ps.length
              · have hjp : ps[j]? = some ps[j] := List.getElem?_eq_getElem hlt2
                obtain ⟨q, hq⟩ : ∃ q, ps[j] = q := ⟨_, rfl⟩
                rw [hq] at hjp
                obtain ⟨b, o, Aq, cq, rfl, hbB, hq1, hq2, hq3, hq4, hq5, hq6, hq7⟩ := (hps.chg hch HBS.out) j q hjp
                have htake : ps.take (j + 1) = ps.take j ++ [q] := by rw [List.take_succ_eq_append_getElem hlt2, hq]
                have HT := Lib.hid htake
                clear htake hjp
                have HQ := Lib.hid hq
                clear hq
                by_cases hnq : nameB ofProps q.1.data.toList = true
                · have HN := Lib.hid hnq
                  clear hnq
                  by_cases hlq : q.2.length ≤ 4096
                  · go_wp2_with (first
                      | (go_at_call 82; refine (named_any _ _ _ (by omega)).mono ?_; rintro e w4 ⟨he, hnew⟩; rw [show (ByteArray.mk #[44, 46, 95, 43, 63, 35, 45]).data.toList = ofProps from rfl, HN.out] at he; subst he; obtain ⟨hcl, hfr⟩ := New.cells hnew)
                      | (with_reducible refine stopAt 84 rfl ?_))
                    refine unstop ?_
                    have hnew2 : New wr w4 := ((Chg.refl _ _).alloc _).new_ hnew
                    refine wpList_append_x _ rfl _ _ 155 rfl w.heap.size 9 iS _ 1 16 Try.underlying155 hiS hS0 hS1 hS2 rfl (by omega) A j c _ rfl ((hown.new_ hnew2).alloc _) _ 1 _ _ rfl (Rd.made _ _ _) (by simp [Value.oneCell']) (j + 1) rfl (by simp only [maxLen]; omega) (by omega) (by have := hnew2.size; simp; omega) ?_
                    intro A5 c5 w5 hown5 hg5 hat5
                    have hne : ∀ k, blkOf A = some k → k ≠ g ∧ k ≠ w.heap.size := fun k hk => ⟨hown.ne_ hgr (by decide) k hk, hown.ne_ hbr (by decide) k hk⟩
                    have hch5 : Chg (fun k => blkOf A = some k) wr w5 := ((hnew2.mono (fun _ h _ => h.elim)).alloc _).grown hg5 (fun k hk _ => hk)
                    go_wp2_with fail
                    go_roundw
                    case rel =>
                      refine ⟨j + 1, A5, c5, by omega, by go_num, rfl, ?_, ?_, hch.trans hch5 (fun k hk hlt => absurd (hown.lt k hk).1 (by omega)), hgr.chg hch5 (fun h => (hne _ h).1 rfl), hbr.chg hch5 (fun h => (hne _ h).2 rfl)⟩
                      · rw [HT.out, List.map_append]; exact hown5
                      · rw [HT.out, List.all_append, HA.out]
                        simp [propOk, HN.out, hlq]
                    case measure => simp [intOf]; omega
                  · have hbad : ps.all propOk = false := by
                      rw [List.all_eq_false]
                      exact ⟨q, by rw [← HQ.out]; exact List.getElem_mem hlt2, by simp [propOk, hlq]⟩
                    have HB := Lib.hid hbad
                    clear hbad
                    go_wp2_with (go_at_call 82; refine (named_any _ _ _ (by omega)).mono ?_; rintro e w4 ⟨he, hnew⟩; rw [show (ByteArray.mk #[44, 46, 95, 43, 63, 35, 45]).data.toList = ofProps from rfl, HN.out] at he; subst he; obtain ⟨hcl, hfr⟩ := New.cells hnew)
                    have hnew2 : New wr w4 := ((Chg.refl _ _).alloc _).new_ hnew
                    go_ret
                    exact may_none (by rw [HM2.out, if_pos HB.out]) (hch.new_ hnew2) (hgr.chg hnew2 (fun h => h))
                · have HN := Lib.hid (Bool.eq_false_iff.2 hnq)
                  clear hnq
                  have hbad : ps.all propOk = false := by
                    rw [List.all_eq_false]
                    exact ⟨q, by rw [← HQ.out]; exact List.getElem_mem hlt2, by simp [propOk, HN.out]⟩
                  have HB := Lib.hid hbad
                  clear hbad
                  go_wp2_with (go_at_call 82; refine (named_any _ _ _ (by omega)).mono ?_; rintro e w4 ⟨he, hnew⟩; rw [show (ByteArray.mk #[44, 46, 95, 43, 63, 35, 45]).data.toList = ofProps from rfl, HN.out] at he; subst he; obtain ⟨hcl, hfr⟩ := New.cells hnew)
                  have hnew2 : New wr w4 := ((Chg.refl _ _).alloc _).new_ hnew
                  go_ret
                  exact may_none (by rw [HM2.out, if_pos HB.out]) (hch.new_ hnew2) (hgr.chg hnew2 (fun h => h))
              · obtain rfl : j = ps.length := by omega
                rw [List.take_of_length_le (Nat.le_refl _)] at hown HA
                have hm3 : mayF (.mk nm ps ks) at_ n p = if dupB (pnames ps) = true then none
                  else if dupB (knames ks) = true then none
                  else mayL ks (at_ + 1) (n + 1) (p + ps.length) := by rw [HM2.out, if_neg (by rw [HA.out]; simp)]
                have HM3 := Lib.hid hm3
                clear hm3 HM2
                have hrS : Rd wr 1 A ps.length ((ps.map (·.1)).map Value.string) := by rw [List.map_map]; exact hown.rd
                have hszS : ∀ s ∈ ps.map (·.1), s.size ≤ maxLen := by
                  intro s hs
                  obtain ⟨q, hq, rfl⟩ := List.mem_map.1 hs
                  obtain ⟨i, hi, rfl⟩ := List.getElem_of_mem hq
                  obtain ⟨_, _, _, _, _, _, _, _, _, _, h5, _⟩ := hps i _ (List.getElem?_eq_getElem hi)
                  simp only [maxLen]; omega
                have hnames : (ps.map (·.1)).map (·.data.toList) = pnames ps := by simp [pnames, List.map_map, Function.comp_def]
                have HNM := Lib.hid hnames
                clear hnames
                have HRS := Lib.hid hrS
                clear hrS
                by_cases hd : dupB (pnames ps) = true
                · have HD := Lib.hid hd
                  clear hd
                  go_wp2_with (go_at_call 83; refine (twice_any _ _ _ (ps.map (·.1)) _ HRS.out hszS (by omega)).mono ?_; rintro e w4 ⟨he, hnew⟩; rw [HNM.out, HD.out] at he; subst he; obtain ⟨hcl, hfr⟩ := New.cells hnew)
                  go_ret
                  exact may_none (by rw [HM3.out, if_pos HD.out]) (hch.new_ hnew) (hgr.chg hnew (fun h => h))
                · have HD := Lib.hid (Bool.eq_false_iff.2 hd)
                  clear hd
                  by_cases hmany : 200 < ks.length
                  · have hmn : mayF (.mk nm ps ks) at_ n p = none := by
                      rw [HM3.out, if_neg (by rw [HD.out]; simp), mayL_many ks _ _ _ (by omega) (by omega) (by omega)]
                      simp
                    have HMN := Lib.hid hmn
                    clear hmn
                    go_wp2_with (go_at_call 83; refine (twice_any _ _ _ (ps.map (·.1)) _ HRS.out hszS (by omega)).mono ?_; rintro e w4 ⟨he, hnew⟩; rw [HNM.out, HD.out] at he; subst he; obtain ⟨hcl, hfr⟩ := New.cells hnew)
                    go_ret
                    exact may_none HMN.out (hch.new_ hnew) (hgr.chg hnew (fun h => h))
                  · go_wp2_with (go_at_call 83; refine (twice_any _ _ _ (ps.map (·.1)) _ HRS.out hszS (by omega)).mono ?_; rintro e w4 ⟨he, hnew⟩; rw [HNM.out, HD.out] at he; subst he; obtain ⟨hcl, hfr⟩ := New.cells hnew)
                    have hch4 : Chg (fun k => k = g) w w4 := hch.new_ hnew
                    have hg4 := hgr.chg hnew (fun h => h)
                    have hb4 := hbr.chg hnew (fun h => h)
                    have hm4 : mayF (.mk nm ps ks) at_ n p = if dupB (knames ks) = true then none
                      else mayL ks (at_ + 1) (n + 1) (p + ps.length) := by rw [HM3.out, if_neg (by rw [HD.out]; simp)]
                    have HM4 := Lib.hid hm4
                    clear hm4 HM3 HNM HRS HD HA hszS hown hgr hbr hch hcl hfr hbc0 hbc1 hbc2 hbf0 hbf1 hbf2
                    go_loopw [8, 97] (fun v i wr => ∃ (j : Nat) (A : Option Addr) (c n1 p1 : Nat), j ≤ ks.length ∧ i = .int .i64 j ∧ v = .slice A j c ∧ Own wr w.heap.size 9 1 A j c ((ks.take j).map fun k => Value.string k.name) ∧
                      mayL (ks.take j) (at_ + 1) (n + 1) (p + ps.length) = some (n1, p1) ∧ n1 ≤ 200 ∧ p1 ≤ 1000 ∧ Chg (fun k => k = g) w wr ∧ Blk wr g 80 #[.int .i64 (n1 : Int), .int .i64 (p1 : Int)] ∧
                      Blk wr w.heap.size 25 #[.string nm, .slice Ap ps.length cp, .slice Ak ks.length ck]) (fun _ i _ => ks.length - (intOf i).toNat)
                    case atStart => exact ⟨0, none, 0, n + 1, p + ps.length, Nat.zero_le _, rfl, rfl, Own.nil_ _ _ _ _, rfl, by omega, by omega, hch4, hg4, hb4⟩
                    case round =>
                      clear hg4 hb4 hch4 hj
                      obtain ⟨j, A, c, n1, p1, hj, rfl, rfl, hown, hmay, hn1, hp1', hch, hgr, hbr⟩ := hrel
                      have HMAY := Lib.hid hmay
                      clear hmay
                      obtain ⟨hbc0, hbc1, hbc2, hbf0, hbf1, hbf2⟩ := hbr.c3
                      have hszr2 : w.heap.size < wr.heap.size := hbr.lt
                      by_cases hlt3 : j < ks.length
                      · have hjk : ks[j]? = some ks[j] := List.getElem?_eq_getElem hlt3
                        obtain ⟨q, hq⟩ : ∃ q, ks[j] = q := ⟨_, rfl⟩
                        rw [hq] at hjk
                        have hqm : q ∈ ks := by rw [← hq]; exact List.getElem_mem hlt3
                        obtain ⟨b, o, rfl, hbB, hq0, hq1, hq2⟩ := hcs j hlt3
                        have htq := (hks j q hjk).chg hch HBS.out
                        replace hq0 := cell_chg hq0 hbB hch HBS.out
                        replace hq1 := cell_chg hq1 hbB hch HBS.out
                        replace hq2 := cell_chg hq2 hbB hch HBS.out
                        obtain ⟨Aq, Aq2, cq, cq2, e0, e1, e2, hqs⟩ := htq.shape
                        rw [e0] at hq0 htq
                        rw [e1] at hq1 htq
                        rw [e2] at hq2 htq
                        clear e0 e1 e2
                        have htake : ks.take (j + 1) = ks.take j ++ [q] := by rw [List.take_succ_eq_append_getElem hlt3, hq]
                        have HT := Lib.hid htake
                        clear htake hjk
                        have HQ := Lib.hid hq
                        clear hq
                        have hnx : mayL (ks.take (j + 1)) (at_ + 1) (n + 1) (p + ps.length) = mayF q (at_ + 1) n1 p1 := by
                          rw [HT.out, mayL_append, HMAY.out]
                          simp only [Option.bind_some, mayL]
                          cases mayF q (at_ + 1) n1 p1 <;> rfl
                        have HNX := Lib.hid hnx
                        clear hnx
                        have htq2 := Lib.hid (htq.new_ ((Chg.refl (fun _ => False) wr).alloc (.cells #[.string q.name, .slice Aq q.props.length cq, .slice Aq2 q.kids.length cq2] 25)))
                        have hgr2 := Lib.hid (hgr.alloc (.cells #[.string q.name, .slice Aq q.props.length cq, .slice Aq2 q.kids.length cq2] 25))
                        clear htq
                        cases hf : mayF q (at_ + 1) n1 p1 with
                        | none =>
                          have HF := Lib.hid hf
                          clear hf
                          go_wp2_with (go_at_call 37; refine (ih q hqm (at_ + 1) n1 p1 g B _ _ _ _ htq2.out hBg hgr2.out (by omega) (by omega) hn1 hp1').mono ?_; rintro e w5 ⟨he, hch5, n2, p2, hg5, hx5⟩; rw [HF.out] at he; subst he)
                          go_ret
                          refine may_none ?_ (hch.trans (((Chg.refl _ _).alloc _).trans hch5 (fun i hi _ => hi)) (fun i hi _ => hi)) hg5
                          rw [HM4.out, mayL_none_take ks (j + 1) _ _ _ (by rw [HNX.out, HF.out])]
                          simp
                        | some x =>
                          have HF := Lib.hid hf
                          have hle := mayF_le _ _ _ _ _ _ hf
                          clear hf
                          go_wp2_with (first
                            | (go_at_call 37; refine (ih q hqm (at_ + 1) n1 p1 g B _ _ _ _ htq2.out hBg hgr2.out (by omega) (by omega) hn1 hp1').mono ?_; rintro e w5 ⟨he, hch5, n2, p2, hg5, hx5⟩; rw [HF.out] at he; subst he
                               have hbx := (Blk.made wr 25 #[.string q.name, .slice Aq q.props.length cq, .slice Aq2 q.kids.length cq2]).chg hch5 (by omega)
                               obtain ⟨hx0, hx1, hx2, _, _, _⟩ := hbx.c3)
                            | (with_reducible refine stopAt 111 rfl ?_))
                          have hxx := hx5 x HF.out
                          subst hxx
                          refine unstop ?_
                          have hch6 : Chg (fun k => k = g) wr w5 := ((Chg.refl _ _).alloc _).trans hch5 (fun i hi _ => hi)
                          have hne : ∀ k, blkOf A = some k → k ≠ g ∧ k ≠ w.heap.size := fun k hk => ⟨hown.ne_ hgr (by decide) k hk, hown.ne_ hbr (by decide) k hk⟩
                          have hown6 := hown.chg hch6 (fun k hk => (hne k hk).1)
                          refine wpList_append_x _ rfl _ _ 155 rfl w.heap.size 9 iS _ 1 16 Try.underlying155 hiS hS0 hS1 hS2 rfl (by omega) A j c _ rfl (hown6.alloc _) _ 1 _ _ rfl (Rd.made _ _ _) (by simp [Value.oneCell']) (j + 1) rfl (by simp only [maxLen]; omega) (by omega) (by have := hch6.size; simp; omega) ?_
                          intro A7 c7 w7 hown7 hg7 hat7
                          have hch7 : Chg (fun k => blkOf A = some k) w5 w7 := ((Chg.refl _ _).alloc _).grown hg7 (fun k hk _ => hk)
                          go_wp2_with fail
                          go_roundw
                          case rel =>
                            refine ⟨j + 1, A7, c7, n2, p2, by omega, by go_num, rfl, ?_, by rw [HNX.out, HF.out], hle.2.1, hle.2.2.2, (hch.trans hch6 (fun i hi _ => hi)).trans hch7 (fun k hk hlt => absurd (hown.lt k hk).1 (by omega)),
                              hg5.chg hch7 (fun h => (hne _ h).1 rfl), (hbr.chg hch6 (by omega)).chg hch7 (fun h => (hne _ h).2 rfl)⟩
                            rw [HT.out, List.map_append]; exact hown7
                          case measure => simp [intOf]; omega
                      · obtain rfl : j = ks.length := by omega
                        rw [List.take_of_length_le (Nat.le_refl _)] at hown HMAY
                        have hrS : Rd wr 1 A ks.length ((ks.map (·.name)).map Value.string) := by rw [List.map_map]; exact hown.rd
                        have hszS : ∀ s ∈ ks.map (·.name), s.size ≤ maxLen := by
                          intro s hs
                          obtain ⟨q, hq, rfl⟩ := List.mem_map.1 hs
                          obtain ⟨i, hi, rfl⟩ := List.getElem_of_mem hq
                          obtain ⟨_, _, _, _, _, _, _, h5⟩ := (hks i _ (List.getElem?_eq_getElem hi)).shape
                          simp only [maxLen]; omega
                        have hnames : (ks.map (·.name)).map (·.data.toList) = knames ks := by simp [knames, List.map_map, Function.comp_def]
                        have HNM := Lib.hid hnames
                        clear hnames
                        have HRS := Lib.hid hrS
                        clear hrS
                        cases hd : dupB (knames ks) with
                        | true =>
                          have HD := Lib.hid hd
                          clear hd
                          go_wp2_with (go_at_call 83; refine (twice_any _ _ _ (ks.map (·.name)) _ HRS.out hszS (by omega)).mono ?_; rintro e w8 ⟨he, hnew8⟩; rw [HNM.out, HD.out] at he; subst he)
                          go_ret
                          exact may_none (by rw [HM4.out, if_pos HD.out]) (hch.new_ hnew8) (hgr.chg hnew8 (fun h => h))
                        | false =>
                          have HD := Lib.hid hd
                          clear hd
                          go_wp2_with (go_at_call 83; refine (twice_any _ _ _ (ks.map (·.name)) _ HRS.out hszS (by omega)).mono ?_; rintro e w8 ⟨he, hnew8⟩; rw [HNM.out, HD.out] at he; subst he)
                          go_ret
                          have hfin : mayF (.mk nm ps ks) at_ n p = some (n1, p1) := by rw [HM4.out, if_neg (by rw [HD.out]; simp), HMAY.out]
                          exact ⟨by rw [hfin]; rfl, hch.new_ hnew8, n1, p1, hgr.chg hnew8 (fun h => h), fun x hx => by rw [hfin] at hx; exact (Option.some.inj hx).symm⟩
end Go.Proofs.Ytfmmcjiehpdogaa
