/-
  The reference's Check answers as checkF does. No condition but that memory bears the tree.
-/
import Derived.Test.YtfmmcjiehpdogaaCheckF
import Derived.Test.YtfmmcjiehpdogaaRefName
import Derived.Deep.RegionHeld3
import Derived.Deep.DeepCutAuto
set_option linter.unusedVariables false
set_option linter.unusedSimpArgs false
namespace Go.Proofs.Ytfmmcjiehpdogaa
open Go.RowKit

theorem infoStr2 : (Try.prog.info? 9).map (fun i => (i.zero, i.size, i.bytes)) = some (some (.string .empty), 1, 16) := by kernel_rfl
/-- what a call of 'may' leaves -/
def RefPost (t : TreeD) (at_ n p g : Nat) (w : World) (e : Ending) (w' : World) : Prop :=
  e = .returned (.bool (mayF t at_ n p).isSome) ∧ Chg (fun k => k = g) w w' ∧ ∃ n' p' : Nat, Blk w' g 84 #[.int .i64 n', .int .i64 p'] ∧ ∀ x, mayF t at_ n p = some x → x = (n', p')
/-- what 'may' gives, for one tree -/
def RefOk (t : TreeD) : Prop := ∀ (at_ n p g B : Nat) (v0 v1 v2 : Value) (w : World), TreeIs w B v0 v1 v2 t → B ≤ g → Blk w g 84 #[.int .i64 n, .int .i64 p] → 1 ≤ at_ → at_ ≤ 9 → n ≤ 200 → p ≤ 1000 →
  Calls Try.prog 38 #[.pointer (some ⟨g, 0, none⟩), .agg #[v0, v1, v2], .int .i64 at_] w (RefPost t at_ n p g w)
theorem ref_none {t : TreeD} {at_ n p g n' p' : Nat} {w w' : World} (h : mayF t at_ n p = none) (hc : Chg (fun k => k = g) w w') (hg : Blk w' g 84 #[.int .i64 n', .int .i64 p']) : RefPost t at_ n p g w (.returned (.bool false)) w' :=
  ⟨by rw [h]; rfl, hc, n', p', hg, fun x hx => by rw [h] at hx; cases hx⟩

set_option maxRecDepth 100000 in
set_option maxHeartbeats 1000000 in
theorem refCheck_go (t : TreeD) : RefOk t := by
  induction t using TreeD.ind with
  | h nm ps ks ih =>
    intro at_ n p g B v0 v1 v2 w ht hBg hg h1 h9 hn hp
    obtain ⟨iS, hiS, hS0, hS1, hS2⟩ := info_parts infoStr2
    have hlt := hg.lt
    obtain ⟨hgc0, hgc1, hgf0, hgf1⟩ := hg.c2
    have ht' := ht
    cases ht with
    | mk _ _ _ Ap Ak cp ck c0 c1 c2 hnm hp1 hp2 hk1 hk2 hps hcs hks =>
      go_enter Try.func38, Try.ntmps38
      go_wp2_with fail
      go_region
      go_wp2_with (with_reducible refine stopAt 33 rfl ?_)
      refine stop_forget (fun w2 => Blk w2 g 84 #[.int .i64 ((n + 1 : Nat) : Int), .int .i64 ((p + ps.length : Nat) : Int)] ∧
        Blk w2 w.heap.size 25 #[.string nm, .slice Ap ps.length cp, .slice Ak ks.length ck] ∧ Chg (fun k => k = g) w w2) ?_ ?_
      · refine ⟨?_, ?_, ?_⟩
        · have := ((((hg.set_ 0 (.int .i64 (n + 1))).set_ 1 (.int .i64 (p + ps.length))).alloc (.cells #[.string nm, .slice Ap ps.length cp, .slice Ak ks.length ck] 25)).drew)
          simpa using this
        · have := Blk.made ((w.setCell ⟨g, 0, none⟩ (.int .i64 (n + 1))).setCell ⟨g, 1, none⟩ (.int .i64 (p + ps.length))) 25 #[.string nm, .slice Ap ps.length cp, .slice Ak ks.length ck]
          simpa using this.drew
        · exact ((((Chg.refl (fun k => k = g) _).setCell (fun _ => rfl) _).setCell (fun _ => rfl) _).alloc _).drew
      intro w2 ⟨hg2, hb2, hch2⟩
      obtain ⟨hgc0', hgc1', hgf0', hgf1'⟩ := hg2.c2
      obtain ⟨hbc0, hbc1, hbc2, hbf0, hbf1, hbf2⟩ := hb2.c3
      have hBS : ∀ k, k < B → ¬ k = g := fun k hk e => by omega
      have ht2 := ht'.chg hch2 hBS
      have hps2 := hps.chg hch2 hBS
      clear hgc0 hgc1 hgf0 hgf1 hg
      have HBS := Lib.hid hBS
      clear hBS
      by_cases hc : 8 < at_ ∨ 200 < n + 1 ∨ 1000 < p + ps.length
      · have hm : mayF (.mk nm ps ks) at_ n p = none := by simp only [mayF, if_pos hc]
        have HM := Lib.hid hm
        clear hm
        go_wp2_with fail
        all_goals
          go_ret
          exact ref_none HM.out hch2 hg2
      · have hm1 : mayF (.mk nm ps ks) at_ n p = if nmOk at_ nm.data.toList = false then none
            else if ps.all propOk = false then none
            else if dupB (pnames ps) = true then none
            else if dupB (knames ks) = true then none
            else mayL ks (at_ + 1) (n + 1) (p + ps.length) := by simp only [mayF, if_neg hc]
        have HM1 := Lib.hid hm1
        clear hm1
        have hc1 : at_ ≤ 8 := by omega
        have hc2 : n + 1 ≤ 200 := by omega
        have hc3 : p + ps.length ≤ 1000 := by omega
        clear hc
        go_upto_region 5 with fail
        go_cut [64] (fun s62 wx => s62 = .bool (!nmOk at_ nm.data.toList) ∧ Chg (fun k => k = g) w wx ∧ Blk wx g 84 #[.int .i64 ((n + 1 : Nat) : Int), .int .i64 ((p + ps.length : Nat) : Int)] ∧
          Blk wx w.heap.size 25 #[.string nm, .slice Ap ps.length cp, .slice Ak ks.length ck])
        case first =>
          by_cases h1e : at_ = 1
          · subst h1e
            by_cases hem : nm.toList = []
            · have HE := Lib.hid hem
              go_wp2_with fail
              go_meet
              refine ⟨?_, hch2, hg2, hb2⟩
              simp [nmOk, ← Lib.toList_data, HE.out]
            · have HE := Lib.hid hem
              go_wp2_with fail
              go_meet
              refine ⟨?_, hch2, hg2, hb2⟩
              simp [nmOk, ← Lib.toList_data, HE.out]
          · by_cases hnm2 : nameB ofNodes nm.data.toList = true
            · have HN := Lib.hid hnm2
              clear hnm2
              go_wp2_with (go_at_call 84; refine (refName_any _ _ _ (by omega) (by decide)).mono ?_; rintro e w3 ⟨he, hnew⟩; subst hnew; rw [show (ByteArray.mk #[44, 46, 95, 43, 45, 64]).data.toList = ofNodes from rfl, HN.out] at he; subst he)
              go_meet
              refine ⟨?_, hch2, hg2, hb2⟩
              rw [nmOk, if_neg h1e, HN.out]; rfl
            · have HN := Lib.hid (Bool.eq_false_iff.2 hnm2)
              clear hnm2
              go_wp2_with (go_at_call 84; refine (refName_any _ _ _ (by omega) (by decide)).mono ?_; rintro e w3 ⟨he, hnew⟩; subst hnew; rw [show (ByteArray.mk #[44, 46, 95, 43, 45, 64]).data.toList = ofNodes from rfl, HN.out] at he; subst he)
              go_meet
              refine ⟨?_, hch2, hg2, hb2⟩
              rw [nmOk, if_neg h1e, HN.out]; rfl
        case rest =>
          obtain ⟨hs62, hch3, hg3, hb3⟩ := hcut
          clear hgc0' hgc1' hgf0' hgf1' hbc0 hbc1 hbc2 hbf0 hbf1 hbf2 ht2 hps2 hg2 hb2 hch2
          by_cases hno : nmOk at_ nm.data.toList = false
          · have HN := Lib.hid hno
            rw [hno] at hs62
            obtain rfl : _ = Value.bool true := hs62
            clear hno
            go_wp2_with fail
            go_ret
            exact ref_none (by rw [HM1.out, if_pos HN.out]) hch3 hg3
          · have hno : nmOk at_ nm.data.toList = true := by simpa using hno
            rw [hno] at hs62
            obtain rfl : _ = Value.bool false := hs62
            have hm2 : mayF (.mk nm ps ks) at_ n p = if ps.all propOk = false then none
              else if dupB (pnames ps) = true then none
              else if dupB (knames ks) = true then none
              else mayL ks (at_ + 1) (n + 1) (p + ps.length) := by rw [HM1.out, if_neg (by rw [hno]; simp)]
            have HM2 := Lib.hid hm2
            clear hm2 HM1 hno
            obtain ⟨hbc0, hbc1, hbc2, hbf0, hbf1, hbf2⟩ := hb3.c3
            have hsz3 : w.heap.size < wc.heap.size := hb3.lt
            go_wp2_with fail
            go_loopw [68] (fun i wr => ∃ (j : Nat), j ≤ ps.length ∧ i = .int .i64 j ∧ (ps.take j).all propOk = true ∧ (pnames (ps.take j)).Nodup ∧ Chg (fun k => k = g) w wr ∧
              Blk wr g 84 #[.int .i64 ((n + 1 : Nat) : Int), .int .i64 ((p + ps.length : Nat) : Int)] ∧
              Blk wr w.heap.size 25 #[.string nm, .slice Ap ps.length cp, .slice Ak ks.length ck]) (fun i _ => ps.length - (intOf i).toNat)
            case atStart => exact ⟨0, Nat.zero_le _, rfl, rfl, by simp [pnames], hch3, hg3, hb3⟩
            case round =>
              clear hg3 hb3 hch3 hsz3 hbc0 hbc1 hbc2 hbf0 hbf1 hbf2
              obtain ⟨j, hj, rfl, hall, hnd, hch, hgr, hbr⟩ := hrel
              have HA := Lib.hid hall
              have HND := Lib.hid hnd
              clear hall hnd
              obtain ⟨hbc0, hbc1, hbc2, hbf0, hbf1, hbf2⟩ := hbr.c3
              have hszr : w.heap.size < wr.heap.size := hbr.lt
              obtain ⟨wo, rfl⟩ : ∃ wo : World, wo = wr := ⟨_, rfl⟩
              by_cases hlt2 : j < ps.length
              · have hjp : ps[j]? = some ps[j] := List.getElem?_eq_getElem hlt2
                obtain ⟨q, hq⟩ : ∃ q, ps[j] = q := ⟨_, rfl⟩
                rw [hq] at hjp
                have hpsr := hps.chg hch HBS.out
                obtain ⟨b, o, Aq, cq, rfl, hbB, hq1, hq2, hq3, hq4, hq5, hq6, hq7⟩ := hpsr j q hjp
                have htake : ps.take (j + 1) = ps.take j ++ [q] := by rw [List.take_succ_eq_append_getElem hlt2, hq]
                have HT := Lib.hid htake
                clear htake hjp
                have HQ := Lib.hid hq
                clear hq
                cases hok : propOk q with
                | false =>
                  have hbad : ps.all propOk = false := by
                    rw [List.all_eq_false]
                    exact ⟨q, by rw [← HQ.out]; exact List.getElem_mem hlt2, by rw [hok]; simp⟩
                  have HB := Lib.hid hbad
                  clear hbad
                  by_cases hnq : nameB ofProps q.1.data.toList = true
                  · have HN := Lib.hid hnq
                    have hlq : ¬ q.2.length ≤ 4096 := by
                      intro hl
                      rw [propOk, hnq] at hok
                      simp [hl] at hok
                    clear hnq hok
                    go_wp2_with (go_at_call 84; refine (refName_any _ _ _ (by omega) (by decide)).mono ?_; rintro e w4 ⟨he, hnew⟩; subst hnew; rw [show (ByteArray.mk #[44, 46, 95, 43, 63, 35, 45]).data.toList = ofProps from rfl, HN.out] at he; subst he)
                    go_ret
                    exact ref_none (by rw [HM2.out, if_pos HB.out]) (hch.alloc _) (hgr.alloc _)
                  · have HN := Lib.hid (Bool.eq_false_iff.2 hnq)
                    clear hnq hok
                    go_wp2_with (go_at_call 84; refine (refName_any _ _ _ (by omega) (by decide)).mono ?_; rintro e w4 ⟨he, hnew⟩; subst hnew; rw [show (ByteArray.mk #[44, 46, 95, 43, 63, 35, 45]).data.toList = ofProps from rfl, HN.out] at he; subst he)
                    go_ret
                    exact ref_none (by rw [HM2.out, if_pos HB.out]) (hch.alloc _) (hgr.alloc _)
                | true =>
                  have hnq : nameB ofProps q.1.data.toList = true := by simp only [propOk, Bool.and_eq_true] at hok; exact hok.1
                  have hlq : q.2.length ≤ 4096 := by simp only [propOk, Bool.and_eq_true, decide_eq_true_eq] at hok; exact hok.2
                  have HN := Lib.hid hnq
                  have HOK := Lib.hid hok
                  clear hnq hok
                  go_wp2_with (go_at_call 84; refine (refName_any _ _ _ (by omega) (by decide)).mono ?_; rintro e w4 ⟨he, hnew⟩; subst hnew; rw [show (ByteArray.mk #[44, 46, 95, 43, 63, 35, 45]).data.toList = ofProps from rfl, HN.out] at he; subst he)
                  have hbx : Blk (wo.alloc (.cells #[.string q.1, .slice Aq q.2.length cq] 96)) wo.heap.size 96 #[.string q.1, .slice Aq q.2.length cq] := Blk.made wo _ _
                  have hpx := hpsr.new_ ((Chg.refl (fun _ => False) wo).alloc (.cells #[.string q.1, .slice Aq q.2.length cq] 96))
                  go_loopw [88] (fun i wi => ∃ (k : Nat), k ≤ j ∧ i = .int .i64 k ∧ q.1.data.toList ∉ (pnames ps).take k ∧ New (wo.alloc (.cells #[.string q.1, .slice Aq q.2.length cq] 96)) wi) (fun i _ => j - (intOf i).toNat)
                  case atStart => exact ⟨0, Nat.zero_le _, rfl, by simp, Chg.refl _ _⟩
                  case round =>
                    obtain ⟨k, hk, rfl, hnot, hnewi⟩ := hrel
                    obtain ⟨hx0, hx1, _, _⟩ := (hbx.chg hnewi (fun h => h)).c2
                    have hszx : wo.heap.size < wr.heap.size := by have := hnewi.size; simp at this; omega
                    have HNOT := Lib.hid hnot
                    clear hnot
                    by_cases hlt4 : k < j
                    · have hkl : k < ps.length := by omega
                      have hkp : ps[k]? = some ps[k] := List.getElem?_eq_getElem hkl
                      obtain ⟨q2, hq2'⟩ : ∃ q2, ps[k] = q2 := ⟨_, rfl⟩
                      rw [hq2'] at hkp
                      obtain ⟨b2, o2, Aq2, cq2, hAe, hb2B, hr1, hr2, hr3, hr4, hr5, hr6, hr7⟩ := (hpx.new_ hnewi) k q2 hkp
                      injection hAe with hAe
                      injection hAe with hA1 hA2
                      subst hA1; subst hA2
                      clear hkp
                      have hkl' : k < (pnames ps).length := by simpa [pnames] using hkl
                      have HQ2 : Hid ((pnames ps)[k]'hkl' = q2.1.data.toList) := by show _ = _; simp [pnames, hq2']
                      clear hq2'
                      by_cases heq : q2.1.data.toList = q.1.data.toList
                      · have hbe : (q2.1.toList == q.1.toList) = true := by rw [Lib.toList_data, Lib.toList_data, heq]; simp
                        have hpe : q2.1.toList = q.1.toList := by rw [Lib.toList_data, Lib.toList_data, heq]
                        have HE := Lib.hid heq
                        have HPE := Lib.hid hpe
                        clear heq hpe
                        go_wp2_with fail
                        go_ret
                        have hch9 : Chg (fun k => k = g) w wr := (hch.alloc _).new_ hnewi
                        have hgr9 := (hgr.alloc (.cells #[.string q.1, .slice Aq q.2.length cq] 96)).chg hnewi (fun h => h)
                        refine ref_none ?_ (hch9.alloc _) (hgr9.alloc _)
                        have hjl' : j < (pnames ps).length := by simpa [pnames] using hlt2
                        have hd : dupB (pnames ps) = true := by
                          refine dupB_yes _ j hjl' ?_
                          have e1 : (pnames ps)[j] = q.1.data.toList := by simp [pnames, HQ.out]
                          rw [e1, ← HE.out, ← HQ2.out]
                          exact List.mem_take_iff_getElem.2 ⟨k, by omega, rfl⟩
                        rw [HM2.out, if_pos hd]
                        simp
                      · have hbe : (q2.1.toList == q.1.toList) = false := by rw [Lib.toList_data, Lib.toList_data]; simpa using heq
                        have HE := Lib.hid heq
                        clear heq
                        go_wp2_with fail
                        go_roundw
                        case rel =>
                          refine ⟨k + 1, by omega, by go_num, ?_, hnewi.alloc _⟩
                          rw [List.take_succ_eq_append_getElem hkl', List.mem_append, HQ2.out]
                          rintro (h | h)
                          · exact HNOT.out h
                          · rw [List.mem_singleton] at h
                            exact HE.out h.symm
                        case measure => simp [intOf]; omega
                    · obtain rfl : k = j := by omega
                      go_wp2_with fail
                      have hch9 : Chg (fun k => k = g) w wr := (hch.alloc _).new_ hnewi
                      have hgr9 := (hgr.alloc (.cells #[.string q.1, .slice Aq q.2.length cq] 96)).chg hnewi (fun h => h)
                      have hbr9 := (hbr.alloc (.cells #[.string q.1, .slice Aq q.2.length cq] 96)).chg hnewi (fun h => h)
                      go_roundw
                      case rel =>
                        refine ⟨k + 1, by omega, by go_num, ?_, ?_, hch9, hgr9, hbr9⟩
                        · rw [HT.out, List.all_append, HA.out]
                          simp [HOK.out]
                        · have hkl' : k < (pnames ps).length := by simpa [pnames] using hlt2
                          have e0 : pnames (ps.take (k + 1)) = (pnames ps).take (k + 1) := by simp [pnames, List.map_take]
                          have e2 : pnames (ps.take k) = (pnames ps).take k := by simp [pnames, List.map_take]
                          have e1 : (pnames ps)[k] = q.1.data.toList := by simp [pnames, HQ.out]
                          rw [e0]
                          have h0 := HND.out
                          rw [e2] at h0
                          exact nodup_take _ k hkl' h0 (by rw [e1]; exact HNOT.out)
                      case measure => simp [intOf]; omega
              · obtain rfl : j = ps.length := by omega
                rw [List.take_of_length_le (Nat.le_refl _)] at HA HND
                have hm4 : mayF (.mk nm ps ks) at_ n p = if dupB (knames ks) = true then none
                  else mayL ks (at_ + 1) (n + 1) (p + ps.length) := by rw [HM2.out, if_neg (by rw [HA.out]; simp), if_neg (by simp [dupB, HND.out])]
                have HM4 := Lib.hid hm4
                clear hm4 HM2 HA HND
                go_wp2_with fail
                clear hbc0 hbc1 hbc2 hbf0 hbf1 hbf2
                go_loopw [102] (fun i wr => ∃ (j : Nat) (n1 p1 : Nat), j ≤ ks.length ∧ i = .int .i64 j ∧ (knames (ks.take j)).Nodup ∧
                  mayL (ks.take j) (at_ + 1) (n + 1) (p + ps.length) = some (n1, p1) ∧ n1 ≤ 200 ∧ p1 ≤ 1000 ∧ Chg (fun k => k = g) w wr ∧ Blk wr g 84 #[.int .i64 (n1 : Int), .int .i64 (p1 : Int)] ∧
                  Blk wr w.heap.size 25 #[.string nm, .slice Ap ps.length cp, .slice Ak ks.length ck]) (fun i _ => ks.length - (intOf i).toNat)
                case atStart => exact ⟨0, n + 1, p + ps.length, Nat.zero_le _, rfl, by simp [knames], rfl, by omega, by omega, hch, hgr, hbr⟩
                case round =>
                  clear hgr hbr hch hj hszr
                  obtain ⟨j, n1, p1, hj, rfl, hnd, hmay, hn1, hp1', hch, hgr, hbr⟩ := hrel
                  have HMAY := Lib.hid hmay
                  have HND := Lib.hid hnd
                  clear hmay hnd
                  obtain ⟨hbc0, hbc1, hbc2, hbf0, hbf1, hbf2⟩ := hbr.c3
                  have hszr2 : w.heap.size < wr.heap.size := hbr.lt
                  obtain ⟨wp, rfl⟩ : ∃ wp : World, wp = wr := ⟨_, rfl⟩
                  by_cases hlt3 : j < ks.length
                  · have hjk : ks[j]? = some ks[j] := List.getElem?_eq_getElem hlt3
                    obtain ⟨q, hq⟩ : ∃ q, ks[j] = q := ⟨_, rfl⟩
                    rw [hq] at hjk
                    have hqm : q ∈ ks := by rw [← hq]; exact List.getElem_mem hlt3
                    obtain ⟨b, o, rfl, hbB, hq0, hq1, hq2⟩ := hcs j hlt3
                    have htq := (hks j q hjk).chg hch HBS.out
                    replace hq0 := cell_chg hq0 hbB hch HBS.out
                    replace hq1 := cell_chg hq1 hbB hch HBS.out
                    replace hq2 := cell_chg hq2 hbB hch HBS.out
                    obtain ⟨Aq, Aq2, cq, cq2, e0, e1, e2, hqs⟩ := htq.shape
                    rw [e0] at hq0 htq
                    rw [e1] at hq1 htq
                    rw [e2] at hq2 htq
                    clear e0 e1 e2
                    have htake : ks.take (j + 1) = ks.take j ++ [q] := by rw [List.take_succ_eq_append_getElem hlt3, hq]
                    have HT := Lib.hid htake
                    clear htake hjk
                    have HQ := Lib.hid hq
                    clear hq
                    have hnx : mayL (ks.take (j + 1)) (at_ + 1) (n + 1) (p + ps.length) = mayF q (at_ + 1) n1 p1 := by
                      rw [HT.out, mayL_append, HMAY.out]
                      simp only [Option.bind_some, mayL]
                      cases mayF q (at_ + 1) n1 p1 <;> rfl
                    have HNX := Lib.hid hnx
                    clear hnx
                    have hbx : Blk (wp.alloc (.cells #[.string q.name, .slice Aq q.props.length cq, .slice Aq2 q.kids.length cq2] 25)) wp.heap.size 25 #[.string q.name, .slice Aq q.props.length cq, .slice Aq2 q.kids.length cq2] := Blk.made wp _ _
                    go_wp2_with fail
                    go_loopw [112] (fun i wi => ∃ (k : Nat), k ≤ j ∧ i = .int .i64 k ∧ q.name.data.toList ∉ (knames ks).take k ∧ New (wp.alloc (.cells #[.string q.name, .slice Aq q.props.length cq, .slice Aq2 q.kids.length cq2] 25)) wi) (fun i _ => j - (intOf i).toNat)
                    case atStart => exact ⟨0, Nat.zero_le _, rfl, by simp, Chg.refl _ _⟩
                    case round =>
                      obtain ⟨k, hk, rfl, hnot, hnewi⟩ := hrel
                      have hbx2 := hbx.chg hnewi (fun h => h)
                      obtain ⟨hx0, hx1, hx2, _, _, _⟩ := hbx2.c3
                      have hszx : wp.heap.size < wr.heap.size := by have := hnewi.size; simp at this; omega
                      have hch9 : Chg (fun k => k = g) w wr := (hch.alloc _).new_ hnewi
                      have hgr9 := (hgr.alloc (.cells #[.string q.name, .slice Aq q.props.length cq, .slice Aq2 q.kids.length cq2] 25)).chg hnewi (fun h => h)
                      have hbr9 := (hbr.alloc (.cells #[.string q.name, .slice Aq q.props.length cq, .slice Aq2 q.kids.length cq2] 25)).chg hnewi (fun h => h)
                      have HNOT := Lib.hid hnot
                      clear hnot
                      by_cases hlt4 : k < j
                      · have hkl : k < ks.length := by omega
                        obtain ⟨q2, hq2'⟩ : ∃ q2, ks[k] = q2 := ⟨_, rfl⟩
                        have hkp : ks[k]? = some q2 := by rw [List.getElem?_eq_getElem hkl, hq2']
                        obtain ⟨b2, o2, hAe, hb2B, hr0, hr1, hr2⟩ := hcs k hkl
                        have htq2 := (hks k q2 hkp)
                        replace hr0 := cell_chg hr0 hb2B hch9 HBS.out
                        replace hr1 := cell_chg hr1 hb2B hch9 HBS.out
                        replace hr2 := cell_chg hr2 hb2B hch9 HBS.out
                        obtain ⟨Aq3, Aq4, cq3, cq4, e0, e1, e2, hqs2⟩ := htq2.shape
                        rw [e0] at hr0
                        rw [e1] at hr1
                        rw [e2] at hr2
                        clear e0 e1 e2 htq2 hkp
                        injection hAe with hAe
                        injection hAe with hA1 hA2
                        subst hA1; subst hA2
                        have hkl' : k < (knames ks).length := by simpa [knames] using hkl
                        have HQ2 : Hid ((knames ks)[k]'hkl' = q2.name.data.toList) := by show _ = _; simp [knames, hq2']
                        clear hq2'
                        by_cases heq : q2.name.data.toList = q.name.data.toList
                        · have hbe : (q2.name.toList == q.name.toList) = true := by rw [Lib.toList_data, Lib.toList_data, heq]; simp
                          have hpe : q2.name.toList = q.name.toList := by rw [Lib.toList_data, Lib.toList_data, heq]
                          have HE := Lib.hid heq
                          have HPE := Lib.hid hpe
                          clear heq hpe
                          go_wp2_with fail
                          go_ret
                          refine ref_none ?_ (hch9.alloc _) (hgr9.alloc _)
                          have hjl' : j < (knames ks).length := by simpa [knames] using hlt3
                          have hd : dupB (knames ks) = true := by
                            refine dupB_yes _ j hjl' ?_
                            have e1 : (knames ks)[j] = q.name.data.toList := by simp [knames, HQ.out]
                            rw [e1, ← HE.out, ← HQ2.out]
                            exact List.mem_take_iff_getElem.2 ⟨k, by omega, rfl⟩
                          rw [HM4.out, if_pos hd]
                        · have hbe : (q2.name.toList == q.name.toList) = false := by rw [Lib.toList_data, Lib.toList_data]; simpa using heq
                          have HE := Lib.hid heq
                          clear heq
                          go_wp2_with fail
                          go_roundw
                          case rel =>
                            refine ⟨k + 1, by omega, by go_num, ?_, hnewi.alloc _⟩
                            rw [List.take_succ_eq_append_getElem hkl', List.mem_append, HQ2.out]
                            rintro (h | h)
                            · exact HNOT.out h
                            · rw [List.mem_singleton] at h
                              exact HE.out h.symm
                          case measure => simp [intOf]; omega
                      · obtain rfl : k = j := by omega
                        have hn1' : ¬ 200 < n1 := by omega
                        obtain ⟨hgc0', hgc1', hgf0', hgf1'⟩ := hgr9.c2
                        have htq2 := Lib.hid ((htq.new_ ((Chg.refl (fun _ => False) wp).alloc (.cells #[.string q.name, .slice Aq q.props.length cq, .slice Aq2 q.kids.length cq2] 25))).new_ hnewi)
                        clear htq
                        cases hf : mayF q (at_ + 1) n1 p1 with
                        | none =>
                          have HF := Lib.hid hf
                          clear hf
                          go_wp2_with (go_at_call 38; refine (ih q hqm (at_ + 1) n1 p1 g B _ _ _ _ htq2.out hBg hgr9 (by omega) (by omega) hn1 hp1').mono ?_; rintro e w5 ⟨he, hch5, n2, p2, hg5, hx5⟩; rw [HF.out] at he; subst he)
                          go_ret
                          refine ref_none ?_ (hch9.trans hch5 (fun i hi _ => hi)) hg5
                          rw [HM4.out, mayL_none_take ks (k + 1) _ _ _ (by rw [HNX.out, HF.out])]
                          simp
                        | some x =>
                          have HF := Lib.hid hf
                          have hle := mayF_le _ _ _ _ _ _ hf
                          clear hf
                          go_wp2_with (go_at_call 38; refine (ih q hqm (at_ + 1) n1 p1 g B _ _ _ _ htq2.out hBg hgr9 (by omega) (by omega) hn1 hp1').mono ?_; rintro e w5 ⟨he, hch5, n2, p2, hg5, hx5⟩; rw [HF.out] at he; subst he)
                          have hxx := hx5 x HF.out
                          subst hxx
                          go_roundw
                          case rel =>
                            refine ⟨k + 1, n2, p2, by omega, by go_num, ?_, by rw [HNX.out, HF.out], hle.2.1, hle.2.2.2, hch9.trans hch5 (fun i hi _ => hi), hg5, hbr9.chg hch5 (by omega)⟩
                            have hkl' : k < (knames ks).length := by simpa [knames] using hlt3
                            have e0 : knames (ks.take (k + 1)) = (knames ks).take (k + 1) := by simp [knames, List.map_take]
                            have e2 : knames (ks.take k) = (knames ks).take k := by simp [knames, List.map_take]
                            have e1 : (knames ks)[k] = q.name.data.toList := by simp [knames, HQ.out]
                            rw [e0]
                            have h0 := HND.out
                            rw [e2] at h0
                            exact nodup_take _ k hkl' h0 (by rw [e1]; exact HNOT.out)
                          case measure => simp [intOf]; omega
                  · obtain rfl : j = ks.length := by omega
                    rw [List.take_of_length_le (Nat.le_refl _)] at HND HMAY
                    go_wp2_with fail
                    go_ret
                    have hfin : mayF (.mk nm ps ks) at_ n p = some (n1, p1) := by rw [HM4.out, if_neg (by simp [dupB, HND.out]), HMAY.out]
                    exact ⟨by rw [hfin]; rfl, hch, n1, p1, hgr, fun x hx => by rw [hfin] at hx; exact (Option.some.inj hx).symm⟩

set_option maxRecDepth 100000 in
set_option maxHeartbeats 1000000 in
theorem refCheck_any (t : TreeD) (v0 v1 v2 : Value) (w : World) (ht : TreeIs w w.heap.size v0 v1 v2 t) :
    Calls Try.prog 16 #[.agg #[v0, v1, v2]] w fun e w' => e = .returned (.bool (checkF t)) ∧ New w w' := by
  obtain ⟨Aq, Aq2, cq, cq2, rfl, rfl, rfl, hqs⟩ := ht.shape
  have ht2 := Lib.hid ((ht.new_ ((Chg.refl (fun _ => False) w).alloc (.cells #[.string t.name, .slice Aq t.props.length cq, .slice Aq2 t.kids.length cq2] 25))).new_ ((Chg.refl (fun _ => False) _).alloc (.cells #[.int .i64 0, .int .i64 0] 84)))
  have hg2 := Lib.hid (Blk.made (w.alloc (.cells #[.string t.name, .slice Aq t.props.length cq, .slice Aq2 t.kids.length cq2] 25)) 84 #[.int .i64 0, .int .i64 0])
  go_enter Try.func16, Try.ntmps16
  go_wp2_with fail
  refine ((refCheck_go t) 1 0 0 (w.heap.size + 1) w.heap.size _ _ _ _ ht2.out (by omega) (by simpa using hg2.out) (by omega) (by omega) (by omega) (by omega)).mono ?_
  rintro e w3 ⟨he, hch, -, -, -, -⟩
  subst he
  go_wp2_with fail
  go_ret
  exact ⟨rfl, (((Chg.refl _ _).alloc _).alloc _).trans hch (fun i hi hlt => by omega)⟩
end Go.Proofs.Ytfmmcjiehpdogaa
