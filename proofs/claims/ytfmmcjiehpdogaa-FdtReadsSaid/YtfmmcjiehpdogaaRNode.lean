/-
  The program's reader reads a node as nodeP does, or throws. No condition but the lengths.
-/
import Derived.Test.YtfmmcjiehpdogaaRMem
import Derived.Deep.LoopGhost
set_option linter.unusedVariables false
set_option linter.unusedSimpArgs false
namespace Go.Proofs.Ytfmmcjiehpdogaa
open Go.RowKit
attribute [local go_sem ↓] Go.wp_at_zero Go.wp_at_succ

/-- what stands at the head of the loop of 'node': so much fuel k is left; the node in block bt -/
def LoopIs (b tx : List UInt8) (g bt : Nat) (nm : ByteArray) (r : Option (TreeD × Nat × Nat)) (d f : Nat) (w : World) (k : Nat) (wr : World) : Prop :=
  ∃ (ps : List PropD) (ks : List TreeD) (Ap Ak : Option Addr) (cp ck p l : Nat), k < f ∧ r = loopP b tx k d nm ps ks p l ∧ b.length + 8 ≤ p + 4 * k ∧ p ≤ b.length + 8 ∧ l ≤ 200 ∧
    ps.length ≤ p ∧ ks.length ≤ p ∧ ReaderIs wr g b tx p (l : Int) ∧ NodeM 0 g bt nm w wr ps ks Ap Ak cp ck

/-- what the reader's 'node' leaves -/
def RNodePost (g : Nat) (b tx : List UInt8) (r : Option (TreeD × Nat × Nat)) (w : World) (e : Ending) (w' : World) : Prop :=
  Chg (fun k => k = g) w w' ∧ match r with
    | some (t, p', l') => ∃ v0 v1 v2, e = .returned (.agg #[v0, v1, v2]) ∧ TreeZ w' (ZT 0 w.heap.size w'.heap.size) v0 v1 v2 t ∧ ReaderIs w' g b tx p' (l' : Int)
    | none => e = .panicked wrongCh
def RNodeOk (b tx : List UInt8) (f : Nat) : Prop := ∀ (d p l g : Nat) (w : World), ReaderIs w g b tx p (l : Int) → b.length + 8 ≤ p + 4 * f → p ≤ b.length + 8 → d ≤ 200 → l ≤ 200 →
  Calls Try.prog 56 #[.pointer (some ⟨g, 0, none⟩), .int .i64 d] w (RNodePost g b tx (nodeP b tx f d p l) w)
theorem nodeP_bad (b tx : List UInt8) (f d p l : Nat) (h : 8 < d ∨ l = 0) : nodeP b tx f d p l = none := by
  cases f with
  | zero => simp only [nodeP]
  | succ f => simp only [nodeP]; split <;> simp [h]
theorem nodeP_notext (b tx : List UInt8) (f d p l : Nat) (h : textP b p = none) : nodeP b tx f d p l = none := by
  cases f with
  | zero => simp only [nodeP]
  | succ f => simp only [nodeP, h]
theorem rnode_none {g : Nat} {b tx : List UInt8} {r : Option (TreeD × Nat × Nat)} {w w' : World} (hr : r = none) (hc : Chg (fun k => k = g) w w') : RNodePost g b tx r w (.panicked wrongCh) w' := by
  subst hr
  exact ⟨hc, rfl⟩

set_option maxRecDepth 100000 in
set_option maxHeartbeats 4000000 in
theorem rnode_walk (b tx : List UInt8) (hb : b.length ≤ 1099511620000) (htx : tx.length ≤ 1099511627776) (f : Nat) : RNodeOk b tx f := by
  induction f using Nat.strongRecOn with
  | _ f ih =>
  intro d p l g w h hfu hpb hd hl
  have hR := h
  obtain ⟨Ab, cb, At, ct, h1, h2, h3, h4, h5, h6, h7⟩ := h
  obtain hc3 : w.cell? ⟨g, 3, none⟩ = some (.int .i64 (l : Int)) := h1.cell 3
  have hf3 := h1.frozen 3
  have hgl := h1.lt
  have HR := Lib.hid hR
  clear hR
  have hw0 : Chg (fun k => k = g) w ((w.alloc (.cells #[.string ⟨#[]⟩, .slice none 0 0, .slice none 0 0] 25)).setCell ⟨g, 3, none⟩ (.int .i64 ((l : Int) - 1))) := Chg.setCell (S := fun k => k = g) (p := ⟨g, 3, none⟩) ((Chg.refl _ _).alloc _) (fun _ => rfl) _
  by_cases hd8 : 8 < d
  · have HN := Lib.hid (nodeP_bad b tx f d p l (.inl hd8))
    go_enter Try.func56, Try.ntmps56
    go_wp2_with (go_at_call 54; (with_reducible refine (must_false _).mono ?_); rintro e w' ⟨rfl, rfl⟩)
    exact ⟨rfl, rnode_none HN.out (by first | exact hw0 | exact ((Chg.setCell (S := fun k => k = g) (p := ⟨g, 3, none⟩) (Chg.refl _ w) (fun _ => rfl) _).alloc _))⟩
  · have hd9 : d ≤ 8 := by omega
    rcases Nat.eq_zero_or_pos l with hl0 | hl1
    · subst hl0
      have HN := Lib.hid (nodeP_bad b tx f d p 0 (.inr rfl))
      clear hd8
      go_enter Try.func56, Try.ntmps56
      go_wp2_with (go_at_call 54; (with_reducible refine (must_false _).mono ?_); rintro e w' ⟨rfl, rfl⟩)
      exact ⟨rfl, rnode_none HN.out (by first | exact hw0 | exact ((Chg.setCell (S := fun k => k = g) (p := ⟨g, 3, none⟩) (Chg.refl _ w) (fun _ => rfl) _).alloc _))⟩
    · clear hd8
      have hl2 : (1 : Int) ≤ (l : Int) := by omega
      go_enter Try.func56, Try.ntmps56
      go_wp2_with (go_at_call 54; (with_reducible refine (must_true _).mono ?_); rintro e w' ⟨rfl, rfl⟩)
      have hch1 : Chg (fun k => k = g) w ((w.setCell ⟨g, 3, none⟩ (.int .i64 ((l : Int) - 1))).alloc (.cells #[.string ⟨#[]⟩, .slice none 0 0, .slice none 0 0] 25)) := (Chg.setCell (S := fun k => k = g) (p := ⟨g, 3, none⟩) (Chg.refl _ w) (fun _ => rfl) _).alloc _
      have hR1 : ReaderIs ((w.setCell ⟨g, 3, none⟩ (.int .i64 ((l : Int) - 1))).alloc (.cells #[.string ⟨#[]⟩, .slice none 0 0, .slice none 0 0] 25)) g b tx p ((l - 1 : Nat) : Int) :=
        HR.out.go_ hch1 (fun Ab cb At ct hb => by
          have := (hb.set_ 3 (.int .i64 ((l : Int) - 1))).alloc (.cells #[.string ⟨#[]⟩, .slice none 0 0, .slice none 0 0] 25)
          rw [show ((l - 1 : Nat) : Int) = (l : Int) - 1 by omega]
          simpa using this)
      have hb1 : Blk ((w.setCell ⟨g, 3, none⟩ (.int .i64 ((l : Int) - 1))).alloc (.cells #[.string ⟨#[]⟩, .slice none 0 0, .slice none 0 0] 25)) w.heap.size 25 #[.string ⟨#[]⟩, .slice none 0 0, .slice none 0 0] := by
        have := Blk.made (w.setCell ⟨g, 3, none⟩ (.int .i64 ((l : Int) - 1))) 25 #[.string ⟨#[]⟩, .slice none 0 0, .slice none 0 0]
        simpa using this
      obtain ⟨w1, hw1⟩ : ∃ w1, (w.setCell ⟨g, 3, none⟩ (.int .i64 ((l : Int) - 1))).alloc (.cells #[.string ⟨#[]⟩, .slice none 0 0, .slice none 0 0] 25) = w1 := ⟨_, rfl⟩
      rw [hw1] at hch1 hR1 hb1 ⊢
      clear hw1 hc3 hf3 h1 h2 h3 h4 h5 h6 h7 hw0 HR hl2
      have hsz1 : w.heap.size < w1.heap.size := hb1.lt
      have hR1' := Lib.hid hR1
      obtain ⟨Ab, cb, At, ct, h1, h2, h3, h4, h5, h6, h7⟩ := hR1
      have hc0 : w1.cell? ⟨g, 0, none⟩ = some (.slice Ab b.length cb) := h1.cell 0
      have hc2 : w1.cell? ⟨g, 2, none⟩ = some (.int .i64 (p : Int)) := h1.cell 2
      have hgl1 : g < w1.heap.size := h1.lt
      have F := Lib.hid (text_any Ab b.length cb b p w1.drew h2.drew (by omega) h4)
      cases ht : textP b p with
      | none =>
        have HN := Lib.hid (nodeP_notext b tx f d p l ht)
        rw [ht] at F
        have htn := ht
        clear ht
        go_wp2_with fail
        refine wp_region_held_drew (S := fun wx => wx.cell? ⟨g, 0, none⟩ = some (.slice Ab b.length cb) ∧ wx.cell? ⟨g, 2, none⟩ = some (.int .i64 (p : Int))) (by kernel_rfl) ⟨hc0, hc2⟩ (fun hHeld => ?_)
        refine wpAnyH_take (i := 0) (v := ?_) rfl (by kernel_rfl) (by kernel_rfl) (by kernel_rfl) (fun _ _ _ h => h) (Or.inl ⟨by rfl, ?_⟩) (by assumption) ?_
        rotate_left
        · intro w hSw; (try dsimp only at hSw); go_simp
          try with_reducible rfl
        try simp only [Act.put, List.setIfInBounds_toArray, List.set_cons_zero, List.set_cons_succ]
        refine wpAnyH_take (i := 1) (v := ?_) rfl (by kernel_rfl) (by kernel_rfl) (by kernel_rfl) (fun _ _ _ h => h) (Or.inl ⟨by rfl, ?_⟩) (by assumption) ?_
        rotate_left
        · intro w hSw; (try dsimp only at hSw); go_simp
          try with_reducible rfl
        try simp only [Act.put, List.setIfInBounds_toArray, List.set_cons_zero, List.set_cons_succ]
        refine wpAnyH_take (i := 2) (v := ?_) rfl (by kernel_rfl) (by kernel_rfl) (by kernel_rfl) (fun _ _ _ h => h) (Or.inl ⟨by rfl, ?_⟩) (by assumption) ?_
        rotate_left
        · intro w hSw; (try dsimp only at hSw); go_simp
          try with_reducible rfl
        try simp only [Act.put, List.setIfInBounds_toArray, List.set_cons_zero, List.set_cons_succ]
        refine wpAnyH_take (i := 3) (v := ?_) rfl (by kernel_rfl) (by kernel_rfl) (by kernel_rfl) (fun _ _ _ h => h) (Or.inl ⟨by rfl, ?_⟩) (by assumption) ?_
        rotate_left
        · intro w hSw; (try dsimp only at hSw); go_simp
          try with_reducible rfl
        try simp only [Act.put, List.setIfInBounds_toArray, List.set_cons_zero, List.set_cons_succ]
        refine wpAnyH_take (i := 4) (v := ?_) rfl (by kernel_rfl) (by kernel_rfl) (by kernel_rfl) (fun _ _ _ h => h) (Or.inl ⟨by rfl, ?_⟩) (by assumption) ?_
        rotate_left
        · intro w hSw; (try dsimp only at hSw); go_simp
          try with_reducible rfl
        try simp only [Act.put, List.setIfInBounds_toArray, List.set_cons_zero, List.set_cons_succ]
        refine wpAnyH_take (i := 5) (v := ?_) rfl (by kernel_rfl) (by kernel_rfl) (by kernel_rfl) (fun _ _ _ h => h) (Or.inl ⟨by rfl, ?_⟩) (by assumption) ?_
        rotate_left
        · intro w hSw; (try dsimp only at hSw); go_simp
          try with_reducible rfl
        try simp only [Act.put, List.setIfInBounds_toArray, List.set_cons_zero, List.set_cons_succ]
        refine wpAnyH_take (i := 6) (v := ?_) rfl (by kernel_rfl) (by kernel_rfl) (by kernel_rfl) (fun _ _ _ h => h) (Or.inl ⟨by rfl, ?_⟩) (by assumption) ?_
        rotate_left
        · intro w hSw; (try dsimp only at hSw); go_simp
          try with_reducible rfl
        try simp only [Act.put, List.setIfInBounds_toArray, List.set_cons_zero, List.set_cons_succ]
        refine wpAnyH_take (i := 7) (v := ?_) rfl (by kernel_rfl) (by kernel_rfl) (by kernel_rfl) (fun _ _ _ h => h) (Or.inl ⟨by rfl, ?_⟩) (by assumption) ?_
        rotate_left
        · intro w hSw; (try dsimp only at hSw); go_simp
          try with_reducible rfl
        try simp only [Act.put, List.setIfInBounds_toArray, List.set_cons_zero, List.set_cons_succ]
        have hT : New w1 (w1.alloc (.cells #[.string ⟨#[]⟩, .slice none 0 0, .slice none 0 0] 25)) := (Chg.refl _ _).alloc _
        have F2 := Lib.hid (text_any Ab b.length cb b p (w1.alloc (.cells #[.string ⟨#[]⟩, .slice none 0 0, .slice none 0 0] 25)).drew ((h2.alloc _).drew) (by omega) h4)
        have HTN := Lib.hid htn
        rw [htn] at F2
        refine wpAnyH_ready (rs := [8, 10]) (by kernel_rfl) (by simp) ?_
        refine AllReadyH.cons rfl (fun K hK => ?_) (AllReadyH.cons rfl (fun K hK => ?_) AllReadyH.nil)
        · go_simp
          refine F.out.mono ?_
          rintro e w' ⟨rfl, rfl⟩
          exact ⟨rfl, rnode_none HN.out hch1.drew⟩
        · go_simp
          refine hK.out _ _ ?_ (fun hHeld2 => ?_)
          · go_keep
          · try simp only [Act.put, List.setIfInBounds_toArray, List.set_cons_zero, List.set_cons_succ]
            refine wpAnyH_ready (rs := [8]) (by kernel_rfl) (by simp) ?_
            refine AllReadyH.cons rfl (fun K hK => ?_) AllReadyH.nil
            go_simp
            refine F2.out.mono ?_
            rintro e w' ⟨rfl, rfl⟩
            exact ⟨rfl, rnode_none HN.out (hch1.alloc _).drew⟩
      | some nm =>
        obtain ⟨t1, t2, t3, t4⟩ := textP_some ht
        have HT := Lib.hid ht
        rw [ht] at F
        obtain ⟨L, hL⟩ : ∃ L, nm.length = L := ⟨_, rfl⟩
        have HL := Lib.hid hL
        rw [hL] at t1
        have hsz : (⟨nm.toArray⟩ : ByteArray).size = L := by rw [← hL]; rfl
        obtain ⟨nms, hnms⟩ : ∃ s : ByteArray, ⟨nm.toArray⟩ = s := ⟨_, rfl⟩
        rw [hnms] at hsz
        have HNMS := Lib.hid hnms
        have HSZ := Lib.hid hsz
        clear ht t2 t3 t4 hL hnms hsz
        go_wp2_with fail
        go_cut [5] (fun s5 wx => s5 = .pointer (some ⟨w1.heap.size, 0, none⟩) ∧ Blk wx w1.heap.size 25 #[.string nms, .slice none 0 0, .slice none 0 0] ∧ New w1 wx)
        case first =>
          go_region_held3 (fun wx => wx.cell? ⟨g, 0, none⟩ = some (.slice Ab b.length cb) ∧ wx.cell? ⟨g, 2, none⟩ = some (.int .i64 (p : Int))) (first | exact ⟨‹_›, ‹_›⟩ | go_keep) (first
            | (go_at_call 89; (with_reducible refine F.out.mono ?_); rintro e w' ⟨rfl, rfl⟩)
            | (go_at_call 89; (refine (text_any Ab b.length cb b p (w1.alloc (.cells #[.string ⟨#[]⟩, .slice none 0 0, .slice none 0 0] 25)).drew ((h2.alloc _).drew) (by omega) h4).mono ?_); rintro e w' ⟨rfl, he⟩; rw [HT.out] at he; obtain rfl : _ = _ := he))
          all_goals go_wp2_with fail
          all_goals go_meet
          all_goals refine ⟨rfl, ?_, ((Chg.refl _ _).alloc _).drew⟩
          all_goals rw [← HNMS.out]
          all_goals exact (Blk.made _ _ _).drew
        case rest =>
          obtain ⟨rfl, hb2, hn2⟩ := hcut
          obtain ⟨hx0, hx1, hx2, hy0, hy1, hy2⟩ := hb2.c3
          have hsz := HSZ.out
          have F3 := Lib.hid (rd_up g b tx p _ (L + 1) wc (hR1'.out.new_ hn2) (by omega) (by omega))
          have HSZ2 := Lib.hid hsz
          go_wp2_with (go_at_call 90; (refine F3.out.mono ?_); rintro e w3 ⟨rfl, hR3, hch3⟩)
          obtain ⟨f1, rfl⟩ : ∃ f1, f = f1 + 1 := ⟨f - 1, by have := t1; omega⟩
          have hstart : nodeP b tx (f1 + 1) d p l = loopP b tx f1 d nms [] [] (p + (L + 4) / 4 * 4) (l - 1) := by
            simp only [nodeP, HT.out]
            rw [if_neg (by omega), HNMS.out, HL.out]
          have HST := Lib.hid hstart
          clear hstart
          have hnm : nms.size ≤ 140737488351232 := by have := HSZ.out; omega
          have hN0 : NodeM 0 g w1.heap.size nms w w3 [] [] none none 0 0 := by
            have hc03 : Chg (fun k => k = g) w w3 := (hch1.new_ hn2).trans hch3 (fun i hi _ => hi)
            exact NodeM.start hc03 (((hb1.chg hn2 (fun h => h)).chg hch3 (by omega))) (hb2.chg hch3 (by omega)) (Nat.zero_le _) hgl hsz1
          have HN0 := Lib.hid hN0
          have HR3 := Lib.hid hR3
          clear hN0 hR3 hch3 hb2 hn2 hx0 hx1 hx2 hy0 hy1 hy2 hch1 hb1 h1 h2 h3 h4 h5 h6 h7 hc0 hc2 F F3 hsz hR1'
          go_loopg [] f1 (fun k wr => LoopIs b tx g w1.heap.size nms (nodeP b tx (f1 + 1) d p l) d (f1 + 1) w k wr)
          case atStart =>
            refine ⟨[], [], none, none, 0, 0, p + (L + 4) / 4 * 4, l - 1, by omega, HST.out, by omega, by omega, by omega, by simp, by simp, by have := HR3.out; simpa [Nat.add_assoc] using this, HN0.out⟩
          case round =>
            obtain ⟨ps, ks, Ap, Ak, cp, ck, q, m, hk, hr, hfu2, hqb, hm, hps, hks, hR, hN⟩ := hrel
            have HRr := Lib.hid hr
            have F1 := Lib.hid (rd_four g b tx q m wr hR (by omega) (by omega))
            clear hr
            cases hb1 : be32F b q with
            | none =>
              have HN := Lib.hid (show nodeP b tx (f1 + 1) d p l = none by rw [HRr.out]; cases gk <;> simp [loopP, hb1])
              rw [hb1] at F1
              clear hb1
              go_wp2_with (go_at_call 55; (with_reducible refine F1.out.mono ?_); rintro e w2 ⟨hc2, rfl⟩)
              exact ⟨rfl, rnode_none HN.out (hN.chg.trans hc2 (fun i hi _ => hi))⟩
            | some v =>
              obtain ⟨hv, hvp⟩ := be32F_lt hb1
              obtain ⟨k1, rfl⟩ : ∃ k1, gk = k1 + 1 := ⟨gk - 1, by omega⟩
              have HRs := HRr.out
              simp only [loopP, hb1] at HRs
              rw [hb1] at F1
              clear hb1 HRr
              by_cases h3 : v = 3
              · subst h3
                rw [if_pos rfl] at HRs
                have HR1 := Lib.hid HRs
                clear HRs hv
                go_wp2_with (go_at_call 55; (with_reducible refine F1.out.mono ?_); rintro e w2 ⟨hc2, rfl, hR2, hk2⟩)
                have F2 := Lib.hid (rd_four g b tx (q + 4) m w2 hR2 (by omega) (by omega))
                have hN2 := hN.go_ hc2
                clear hk2 F1 hN hR hc2 hR2
                cases hb2 : be32F b (q + 4) with
                | none =>
                  have HN := Lib.hid (show nodeP b tx (f1 + 1) d p l = none by rw [HR1.out, hb2])
                  rw [hb2] at F2
                  clear hb2 HR1
                  go_wp2_with (go_at_call 55; (with_reducible refine F2.out.mono ?_); rintro e w3 ⟨hc3, rfl⟩)
                  exact ⟨rfl, rnode_none HN.out (hN2.chg.trans hc3 (fun i hi _ => hi))⟩
                | some n =>
                  obtain ⟨hn, hnp⟩ := be32F_lt hb2
                  have HRs := HR1.out
                  simp only [hb2] at HRs
                  have HR2 := Lib.hid HRs
                  rw [hb2] at F2
                  clear HRs hb2 HR1
                  go_wp2_with (go_at_call 55; (with_reducible refine F2.out.mono ?_); rintro e w4 ⟨hc4, rfl, hR4, hk4⟩)
                  have hN4 := (hN2.go_ hc4).new_ ((Chg.refl _ _).drew)
                  have hR4' : ReaderIs w4 g b tx (q + 8) m := hR4
                  have F3 := Lib.hid (rd_four g b tx (q + 8) m w4.drew (hR4'.new_ (Chg.drew (Chg.refl _ _))) (by omega) (by omega))
                  obtain ⟨Ab4, cb4, At4, ct4, r1, r2, r3, r4, r5, r6, r7⟩ := hR4
                  have ht0 : w4.cell? ⟨g, 1, none⟩ = some (.slice At4 tx.length ct4) := r1.cell 1
                  have hgl4 : g < w4.heap.size := r1.lt
                  have hrx : Rd w4.drew 1 At4 tx.length (tx.map bv) := r3.drew
                  clear hN2 hk4 F2 hc4 hR4' r1 r2 r3 r4 r6
                  refine wp_region_held_drew (S := fun wx => wx.cell? ⟨g, 1, none⟩ = some (.slice At4 tx.length ct4)) (by kernel_rfl) ht0 (fun hHeld => ?_)
                  refine wpAnyH_take (i := 0) (v := ?_) rfl (by kernel_rfl) (by kernel_rfl) (by kernel_rfl) (fun _ _ _ h => h) (Or.inl ⟨by rfl, ?_⟩) (by assumption) ?_
                  rotate_left
                  · intro w hSw; (try dsimp only at hSw); go_simp
                    try with_reducible rfl
                  try simp only [Act.put, List.getElem_toArray, List.getElem_cons_zero, List.getElem_cons_succ, List.setIfInBounds_toArray, List.set_cons_zero, List.set_cons_succ]
                  refine wpAnyH_take (i := 1) (v := ?_) rfl (by kernel_rfl) (by kernel_rfl) (by kernel_rfl) (fun _ _ _ h => h) (Or.inl ⟨by rfl, ?_⟩) (by assumption) ?_
                  rotate_left
                  · intro w hSw; (try dsimp only at hSw); go_simp
                    try with_reducible rfl
                  try simp only [Act.put, List.getElem_toArray, List.getElem_cons_zero, List.getElem_cons_succ, List.setIfInBounds_toArray, List.set_cons_zero, List.set_cons_succ]
                  refine wpAnyH_take (i := 2) (v := ?_) rfl (by kernel_rfl) (by kernel_rfl) (by kernel_rfl) (fun _ _ _ h => h) (Or.inl ⟨by rfl, ?_⟩) (by assumption) ?_
                  rotate_left
                  · intro w hSw; (try dsimp only at hSw); go_simp
                    try with_reducible rfl
                  try simp only [Act.put, List.getElem_toArray, List.getElem_cons_zero, List.getElem_cons_succ, List.setIfInBounds_toArray, List.set_cons_zero, List.set_cons_succ]
                  refine wpAnyH_take (i := 3) (v := ?_) rfl (by kernel_rfl) (by kernel_rfl) (by kernel_rfl) (fun _ _ _ h => h) (Or.inl ⟨by rfl, ?_⟩) (by assumption) ?_
                  rotate_left
                  · intro w hSw; (try dsimp only at hSw); go_simp
                    try with_reducible rfl
                  try simp only [Act.put, List.getElem_toArray, List.getElem_cons_zero, List.getElem_cons_succ, List.setIfInBounds_toArray, List.set_cons_zero, List.set_cons_succ]
                  refine wpAnyH_take (i := 4) (v := ?_) rfl (by kernel_rfl) (by kernel_rfl) (by kernel_rfl) (fun _ _ _ h => h) (Or.inl ⟨by rfl, ?_⟩) (by assumption) ?_
                  rotate_left
                  · intro w hSw; (try dsimp only at hSw); go_simp
                    try with_reducible rfl
                  try simp only [Act.put, List.getElem_toArray, List.getElem_cons_zero, List.getElem_cons_succ, List.setIfInBounds_toArray, List.set_cons_zero, List.set_cons_succ]
                  refine wpAnyH_ready (rs := [5]) (by kernel_rfl) (by simp) ?_
                  refine AllReadyH.cons rfl (fun K hK => ?_) AllReadyH.nil
                  go_simp
                  (with_reducible refine F3.out.mono ?_)
                  rintro e w5 ⟨hc5, h5⟩
                  cases hb3 : be32F b (q + 8) with
                  | none =>
                    rw [hb3] at h5
                    obtain rfl := h5
                    exact ⟨rfl, rnode_none (by rw [HR2.out, hb3]) (hN4.chg.trans hc5 (fun i hi _ => hi))⟩
                  | some pl =>
                    obtain ⟨hpl, hpp⟩ := be32F_lt hb3
                    rw [hb3] at h5
                    obtain ⟨rfl, hR5, hk5⟩ := h5
                    have HRs := HR2.out
                    simp only [hb3] at HRs
                    have HR3 := Lib.hid HRs
                    have ht5 : w5.cell? ⟨g, 1, none⟩ = some (.slice At4 tx.length ct4) := by rw [hk5 1 (by omega)]; exact ht0
                    have hN5 := hN4.go_ hc5
                    have hrx5 : Rd w5 1 At4 tx.length (tx.map bv) := hrx.chg hc5 (fun ad e hh => by have := r7 ad e; omega)
                    obtain ⟨q3, hq3⟩ : ∃ q3, q + 12 = q3 := ⟨_, rfl⟩
                    have hR5' : ReaderIs w5 g b tx q3 m := by rw [← hq3]; exact hR5
                    have hq3a : q + 12 ≤ q3 := by omega
                    have hq3b : q3 ≤ q + 12 := by omega
                    have HQ3 := Lib.hid hq3
                    have F6 := Lib.hid (text_any At4 tx.length ct4 tx pl w5 hrx5 (by omega) r5)
                    have HN5 := Lib.hid (And.intro hN5 hR5')
                    clear HRs hb3 HR2 hk5 hc5 hN4 hR5 hR5' hN5 hq3 hrx hrx5 F3
                    go_simp
                    refine hK.out _ _ (ht5) (fun hHeld => ?_)
                    clear hK K
                    try simp only [Act.put, List.getElem_toArray, List.getElem_cons_zero, List.getElem_cons_succ, List.setIfInBounds_toArray, List.set_cons_zero, List.set_cons_succ]
                    refine wpAnyH_ready (rs := [6]) (by kernel_rfl) (by simp) ?_
                    refine AllReadyH.cons rfl (fun K hK => ?_) AllReadyH.nil
                    go_simp
                    (with_reducible refine F6.out.mono ?_)
                    rintro e w6 ⟨rfl, h6⟩
                    cases ht : textP tx pl with
                    | none =>
                      rw [ht] at h6
                      obtain rfl := h6
                      exact ⟨rfl, rnode_none (by rw [HR3.out, ht]) HN5.out.1.chg⟩
                    | some s =>
                      rw [ht] at h6
                      obtain rfl := h6
                      have HRs := HR3.out
                      simp only [ht] at HRs
                      have HR4 := Lib.hid HRs
                      obtain ⟨t2, _⟩ := textP_some ht
                      obtain ⟨S, hS⟩ : ∃ S : ByteArray, ⟨s.toArray⟩ = S := ⟨_, rfl⟩
                      have HS := Lib.hid hS
                      have hSz : S.size ≤ 140737488351232 := by rw [← hS]; show s.toArray.size ≤ _; simp; omega
                      rw [hS]
                      clear HRs ht HR3 F6 hS t2
                      go_simp
                      refine hK.out _ _ (ht5) (fun hHeld => ?_)
                      clear hK K
                      try simp only [Act.put, List.getElem_toArray, List.getElem_cons_zero, List.getElem_cons_succ, List.setIfInBounds_toArray, List.set_cons_zero, List.set_cons_succ]
                      refine wpAnyH_ready (rs := [7]) (by kernel_rfl) (by simp) ?_
                      refine AllReadyH.cons rfl (fun K hK => ?_) AllReadyH.nil
                      go_simp
                      refine hK.out _ _ (ht5) (fun hHeld => ?_)
                      clear hK K
                      try simp only [Act.put, List.getElem_toArray, List.getElem_cons_zero, List.getElem_cons_succ, List.setIfInBounds_toArray, List.set_cons_zero, List.set_cons_succ]
                      refine wpAnyH_done (by kernel_rfl) ?_ _
                      go_wp2_with fail
                      obtain ⟨hN5, hR5⟩ := HN5.out
                      obtain ⟨Ab5, cb5, At5, ct5, z1, z2, z3, z4, z5, z6, z7⟩ := hR5
                      obtain ⟨bb, o5, rfl, hbb, _⟩ := z2.addr (by omega) (by omega)
                      have hc0 : w5.cell? ⟨g, 0, none⟩ = some (.slice (some ⟨bb, o5, none⟩) b.length cb5) := z1.cell 0
                      have hc2 : w5.cell? ⟨g, 2, none⟩ = some (.int .i64 (q3 : Int)) := z1.cell 2
                      have hgl5 : g < w5.heap.size := z1.lt
                      have Z2 := Lib.hid z2
                      have HNN := Lib.hid hN5
                      have z8 := z6 _ rfl
                      clear ht0 ht5 z1 z2 z3 z5 z6 z7 r7 hN5 hbb r5
                      by_cases hfit : b.length < q3 + n
                      · have e2 : decide ((n : Int) ≤ (b.length : Int) - (q3 : Int)) = false := decide_eq_false (by omega)
                        have e1 : IntKind.i64.wrap ((b.length : Int) - (q3 : Int)) = (b.length : Int) - (q3 : Int) := IntWalk.i64_in _ (by omega)
                        refine wp_region_held_drew (S := fun wx => wx.cell? ⟨g, 0, none⟩ = some (.slice (some ⟨bb, o5, none⟩) b.length cb5) ∧ wx.cell? ⟨g, 2, none⟩ = some (.int .i64 (q3 : Int))) (by kernel_rfl) ⟨hc0, hc2⟩ (fun hHeld => ?_)
                        refine wpAnyH_take (i := 0) (v := ?_) rfl (by kernel_rfl) (by kernel_rfl) (by kernel_rfl) (fun _ _ _ h => h) (Or.inl ⟨by rfl, ?_⟩) (by assumption) ?_
                        rotate_left
                        · intro w hSw; (try dsimp only at hSw); go_simp
                          try with_reducible rfl
                        try simp only [Act.put, List.getElem_toArray, List.getElem_cons_zero, List.getElem_cons_succ, List.setIfInBounds_toArray, List.set_cons_zero, List.set_cons_succ]
                        refine wpAnyH_take (i := 1) (v := ?_) rfl (by kernel_rfl) (by kernel_rfl) (by kernel_rfl) (fun _ _ _ h => h) (Or.inl ⟨by rfl, ?_⟩) (by assumption) ?_
                        rotate_left
                        · intro w hSw; (try dsimp only at hSw); go_simp
                          try with_reducible rfl
                        try simp only [Act.put, List.getElem_toArray, List.getElem_cons_zero, List.getElem_cons_succ, List.setIfInBounds_toArray, List.set_cons_zero, List.set_cons_succ]
                        refine wpAnyH_take (i := 2) (v := ?_) rfl (by kernel_rfl) (by kernel_rfl) (by kernel_rfl) (fun _ _ _ h => h) (Or.inl ⟨by rfl, ?_⟩) (by assumption) ?_
                        rotate_left
                        · intro w hSw; (try dsimp only at hSw); go_simp
                          try with_reducible rfl
                        try simp only [Act.put, List.getElem_toArray, List.getElem_cons_zero, List.getElem_cons_succ, List.setIfInBounds_toArray, List.set_cons_zero, List.set_cons_succ]
                        refine wpAnyH_take (i := 3) (v := ?_) rfl (by kernel_rfl) (by kernel_rfl) (by kernel_rfl) (fun _ _ _ h => h) (Or.inl ⟨by rfl, ?_⟩) (by assumption) ?_
                        rotate_left
                        · intro w hSw; (try dsimp only at hSw); go_simp
                          try with_reducible rfl
                        try simp only [Act.put, List.getElem_toArray, List.getElem_cons_zero, List.getElem_cons_succ, List.setIfInBounds_toArray, List.set_cons_zero, List.set_cons_succ]
                        refine wpAnyH_take (i := 4) (v := ?_) rfl (by kernel_rfl) (by kernel_rfl) (by kernel_rfl) (fun _ _ _ h => h) (Or.inl ⟨by rfl, ?_⟩) (by assumption) ?_
                        rotate_left
                        · intro w hSw; (try dsimp only at hSw); go_simp
                          try with_reducible rfl
                        try simp only [Act.put, List.getElem_toArray, List.getElem_cons_zero, List.getElem_cons_succ, List.setIfInBounds_toArray, List.set_cons_zero, List.set_cons_succ]
                        refine wpAnyH_take (i := 5) (v := ?_) rfl (by kernel_rfl) (by kernel_rfl) (by kernel_rfl) (fun _ _ _ h => h) (Or.inl ⟨by rfl, ?_⟩) (by assumption) ?_
                        rotate_left
                        · intro w hSw; (try dsimp only at hSw); go_simp
                          try with_reducible rfl
                        try simp only [Act.put, List.getElem_toArray, List.getElem_cons_zero, List.getElem_cons_succ, List.setIfInBounds_toArray, List.set_cons_zero, List.set_cons_succ]
                        refine wpAnyH_take (i := 6) (v := ?_) rfl (by kernel_rfl) (by kernel_rfl) (by kernel_rfl) (fun _ _ _ h => h) (Or.inl ⟨by rfl, ?_⟩) (by assumption) ?_
                        rotate_left
                        · intro w hSw; (try dsimp only at hSw); go_simp
                          try with_reducible rfl
                        try simp only [Act.put, List.getElem_toArray, List.getElem_cons_zero, List.getElem_cons_succ, List.setIfInBounds_toArray, List.set_cons_zero, List.set_cons_succ]
                        refine wpAnyH_take (i := 7) (v := ?_) rfl (by kernel_rfl) (by kernel_rfl) (by kernel_rfl) (fun _ _ _ h => h) (Or.inl ⟨by rfl, ?_⟩) (by assumption) ?_
                        rotate_left
                        · intro w hSw; (try dsimp only at hSw); go_simp
                          try with_reducible rfl
                        try simp only [Act.put, List.getElem_toArray, List.getElem_cons_zero, List.getElem_cons_succ, List.setIfInBounds_toArray, List.set_cons_zero, List.set_cons_succ]
                        refine wpAnyH_take (i := 8) (v := ?_) rfl (by kernel_rfl) (by kernel_rfl) (by kernel_rfl) (fun _ _ _ h => h) (Or.inl ⟨by rfl, ?_⟩) (by assumption) ?_
                        rotate_left
                        · intro w hSw; (try dsimp only at hSw); go_simp
                          try with_reducible rfl
                        try simp only [Act.put, List.getElem_toArray, List.getElem_cons_zero, List.getElem_cons_succ, List.setIfInBounds_toArray, List.set_cons_zero, List.set_cons_succ]
                        refine wpAnyH_take (i := 9) (v := ?_) rfl (by kernel_rfl) (by kernel_rfl) (by kernel_rfl) (fun _ _ _ h => h) (Or.inl ⟨by rfl, ?_⟩) (by assumption) ?_
                        rotate_left
                        · intro w hSw; (try dsimp only at hSw); go_simp
                          try with_reducible rfl
                        try simp only [Act.put, List.getElem_toArray, List.getElem_cons_zero, List.getElem_cons_succ, List.setIfInBounds_toArray, List.set_cons_zero, List.set_cons_succ]
                        refine wpAnyH_take (i := 10) (v := ?_) rfl (by kernel_rfl) (by kernel_rfl) (by kernel_rfl) (fun _ _ _ h => h) (Or.inl ⟨by rfl, ?_⟩) (by assumption) ?_
                        rotate_left
                        · intro w hSw; (try dsimp only at hSw); go_simp
                          try with_reducible rfl
                        try simp only [Act.put, List.getElem_toArray, List.getElem_cons_zero, List.getElem_cons_succ, List.setIfInBounds_toArray, List.set_cons_zero, List.set_cons_succ]
                        refine wpAnyH_take (i := 11) (v := ?_) rfl (by kernel_rfl) (by kernel_rfl) (by kernel_rfl) (fun _ _ _ h => h) (Or.inl ⟨by rfl, ?_⟩) (by assumption) ?_
                        rotate_left
                        · intro w hSw; (try dsimp only at hSw); go_simp
                          try with_reducible rfl
                        try simp only [Act.put, List.getElem_toArray, List.getElem_cons_zero, List.getElem_cons_succ, List.setIfInBounds_toArray, List.set_cons_zero, List.set_cons_succ]
                        refine wpAnyH_ready (rs := [12]) (by kernel_rfl) (by simp) ?_
                        refine AllReadyH.cons rfl (fun K hK => ?_) AllReadyH.nil
                        go_simp
                        (with_reducible refine (must_false _).mono ?_)
                        rintro e w6 ⟨rfl, rfl⟩
                        clear e1 e2
                        exact ⟨rfl, rnode_none (by rw [HR4.out, if_pos (by omega)]) HN5.out.1.chg.drew⟩
                      · have e2 : decide ((n : Int) ≤ (b.length : Int) - (q3 : Int)) = true := decide_eq_true (by omega)
                        have e1 : IntKind.i64.wrap ((b.length : Int) - (q3 : Int)) = (b.length : Int) - (q3 : Int) := IntWalk.i64_in _ (by omega)
                        go_region_held3 (fun wx => wx.cell? ⟨g, 0, none⟩ = some (.slice (some ⟨bb, o5, none⟩) b.length cb5) ∧ wx.cell? ⟨g, 2, none⟩ = some (.int .i64 (q3 : Int))) (first | exact ⟨‹_›, ‹_›⟩ | go_keep) (first
                          | (go_at_call 54; (with_reducible refine (must_true _).mono ?_); rintro e w' ⟨rfl, rfl⟩))
                        go_wp2_with fail
                        clear e1 e2
                        obtain ⟨iP, hiP, hP0, hP1, hP2⟩ := info_parts infoProp
                        obtain ⟨bs, hbs⟩ : ∃ bs, (b.drop q3).take n = bs := ⟨_, rfl⟩
                        have hbl : n = bs.length := by rw [← hbs, List.length_take, List.length_drop]; omega
                        have hrd : Rd w5.drew.drew 1 (if cb5 = q3 then some ⟨bb, o5, none⟩ else some ⟨bb, o5 + q3, none⟩) n (bs.map bv) := by
                          have h1 := (Z2.out.cut (k := q3) (cap := cb5) (by omega) z4).take_ (k := n) (by omega)
                          rw [Nat.mul_one, Nat.mul_one, ← List.map_drop, ← List.map_take, hbs] at h1
                          simp only [Option.map_some, Addr.add_lit] at h1
                          exact h1
                        have F7 := Lib.hid (clone_any _ n (cb5 - q3) bs w5.drew.drew hrd (by omega) (by intro h; split at h <;> cases h))
                        have hN6 : NodeM 0 g w1.heap.size nms w w5.drew.drew ps ks Ap Ak cp ck := HNN.out.new_ ((Chg.refl _ _).drew.drew)
                        have HN6 := Lib.hid hN6
                        have hbx1 : w5.cell? ⟨w1.heap.size, 1, none⟩ = some (.slice Ap ps.length cp) := hN6.box.cell 1
                        obtain ⟨qs, hqs, hown⟩ := hN6.props.open_
                        have HQS := Lib.hid (And.intro hqs hown)
                        have hbt5 : w1.heap.size < w5.heap.size := hN6.box.lt
                        have HR6 : Hid (ReaderIs w5.drew.drew g b tx q3 m) := Lib.hid (HN5.out.2.new_ ((Chg.refl _ _).drew.drew))
                        have HBS := Lib.hid (And.intro hbs hbl)
                        clear hrd hN6 hqs hown hbs hbl
                        have e4 : (0 : Int) ≤ (q3 : Int) := by omega
                        have e5 : (q3 : Int) ≤ (q3 : Int) + (n : Int) := by omega
                        have e6 : (q3 : Int) + (n : Int) ≤ (cb5 : Int) := by omega
                        have e7 : ((q3 : Int) + (n : Int)).toNat = q3 + n := by omega
                        have e8 : q3 + n - q3 = n := by omega
                        have e3 : IntKind.i64.wrap ((q3 : Int) + (n : Int)) = (q3 : Int) + (n : Int) := IntWalk.i64_in _ (by omega)
                        refine wp_region_held_drew (S := fun wx => wx.cell? ⟨g, 0, none⟩ = some (.slice (some ⟨bb, o5, none⟩) b.length cb5) ∧ wx.cell? ⟨g, 2, none⟩ = some (.int .i64 (q3 : Int))) (by kernel_rfl) ⟨hc0, hc2⟩ (fun hHeld => ?_)
                        refine wpAnyH_take (i := 0) (v := ?_) rfl (by kernel_rfl) (by kernel_rfl) (by kernel_rfl) (fun _ _ _ h => h) (Or.inl ⟨by rfl, ?_⟩) (by assumption) ?_
                        rotate_left
                        · intro w hSw; (try dsimp only at hSw); go_simp
                          try with_reducible rfl
                        try simp only [Act.put, List.getElem_toArray, List.getElem_cons_zero, List.getElem_cons_succ, List.setIfInBounds_toArray, List.set_cons_zero, List.set_cons_succ]
                        refine wpAnyH_take (i := 2) (v := ?_) rfl (by kernel_rfl) (by kernel_rfl) (by kernel_rfl) (fun _ _ _ h => h) (Or.inl ⟨by rfl, ?_⟩) (by assumption) ?_
                        rotate_left
                        · intro w hSw; (try dsimp only at hSw); go_simp
                          try with_reducible rfl
                        try simp only [Act.put, List.getElem_toArray, List.getElem_cons_zero, List.getElem_cons_succ, List.setIfInBounds_toArray, List.set_cons_zero, List.set_cons_succ]
                        refine wpAnyH_take (i := 3) (v := ?_) rfl (by kernel_rfl) (by kernel_rfl) (by kernel_rfl) (fun _ _ _ h => h) (Or.inl ⟨by rfl, ?_⟩) (by assumption) ?_
                        rotate_left
                        · intro w hSw; (try dsimp only at hSw); go_simp
                          try with_reducible rfl
                        try simp only [Act.put, List.getElem_toArray, List.getElem_cons_zero, List.getElem_cons_succ, List.setIfInBounds_toArray, List.set_cons_zero, List.set_cons_succ]
                        refine wpAnyH_take (i := 4) (v := ?_) rfl (by kernel_rfl) (by kernel_rfl) (by kernel_rfl) (fun _ _ _ h => h) (Or.inl ⟨by rfl, ?_⟩) (by assumption) ?_
                        rotate_left
                        · intro w hSw; (try dsimp only at hSw); go_simp
                          try with_reducible rfl
                        try simp only [Act.put, List.getElem_toArray, List.getElem_cons_zero, List.getElem_cons_succ, List.setIfInBounds_toArray, List.set_cons_zero, List.set_cons_succ]
                        refine wpAnyH_take (i := 5) (v := ?_) rfl (by kernel_rfl) (by kernel_rfl) (by kernel_rfl) (fun _ _ _ h => h) (Or.inl ⟨by rfl, ?_⟩) (by assumption) ?_
                        rotate_left
                        · intro w hSw; (try dsimp only at hSw); go_simp
                          try with_reducible rfl
                        try simp only [Act.put, List.getElem_toArray, List.getElem_cons_zero, List.getElem_cons_succ, List.setIfInBounds_toArray, List.set_cons_zero, List.set_cons_succ]
                        refine wpAnyH_take (i := 6) (v := ?_) rfl (by kernel_rfl) (by kernel_rfl) (by kernel_rfl) (fun _ _ _ h => h) (Or.inl ⟨by rfl, ?_⟩) (by assumption) ?_
                        rotate_left
                        · intro w hSw; (try dsimp only at hSw); go_simp
                          try with_reducible rfl
                        try simp only [Act.put, List.getElem_toArray, List.getElem_cons_zero, List.getElem_cons_succ, List.setIfInBounds_toArray, List.set_cons_zero, List.set_cons_succ]
                        refine wpAnyH_take (i := 7) (v := ?_) rfl (by kernel_rfl) (by kernel_rfl) (by kernel_rfl) (fun _ _ _ h => h) (Or.inl ⟨by rfl, ?_⟩) (by assumption) ?_
                        rotate_left
                        · intro w hSw; (try dsimp only at hSw); go_simp
                          try with_reducible rfl
                        try simp only [Act.put, List.getElem_toArray, List.getElem_cons_zero, List.getElem_cons_succ, List.setIfInBounds_toArray, List.set_cons_zero, List.set_cons_succ]
                        refine wpAnyH_take (i := 8) (v := ?_) rfl (by kernel_rfl) (by kernel_rfl) (by kernel_rfl) (fun _ _ _ h => h) (Or.inl ⟨by rfl, ?_⟩) (by assumption) ?_
                        rotate_left
                        · intro w hSw; (try dsimp only at hSw); go_simp
                          try with_reducible rfl
                        try simp only [Act.put, List.getElem_toArray, List.getElem_cons_zero, List.getElem_cons_succ, List.setIfInBounds_toArray, List.set_cons_zero, List.set_cons_succ]
                        refine wpAnyH_take (i := 9) (v := ?_) rfl (by kernel_rfl) (by kernel_rfl) (by kernel_rfl) (fun _ _ _ h => h) (Or.inl ⟨by rfl, ?_⟩) (by assumption) ?_
                        rotate_left
                        · intro w hSw; (try dsimp only at hSw); go_simp
                          try with_reducible rfl
                        try simp only [Act.put, List.getElem_toArray, List.getElem_cons_zero, List.getElem_cons_succ, List.setIfInBounds_toArray, List.set_cons_zero, List.set_cons_succ]
                        refine wpAnyH_take (i := 10) (v := ?_) rfl (by kernel_rfl) (by kernel_rfl) (by kernel_rfl) (fun _ _ _ h => h) (Or.inl ⟨by rfl, ?_⟩) (by assumption) ?_
                        rotate_left
                        · intro w hSw; (try dsimp only at hSw); go_simp
                          try with_reducible rfl
                        try simp only [Act.put, List.getElem_toArray, List.getElem_cons_zero, List.getElem_cons_succ, List.setIfInBounds_toArray, List.set_cons_zero, List.set_cons_succ]
                        refine wpAnyH_take (i := 11) (v := ?_) rfl (by kernel_rfl) (by kernel_rfl) (by kernel_rfl) (fun _ _ _ h => h) (Or.inl ⟨by rfl, ?_⟩) (by assumption) ?_
                        rotate_left
                        · intro w hSw; (try dsimp only at hSw); go_simp
                          try with_reducible rfl
                        try simp only [Act.put, List.getElem_toArray, List.getElem_cons_zero, List.getElem_cons_succ, List.setIfInBounds_toArray, List.set_cons_zero, List.set_cons_succ]
                        refine wpAnyH_take (i := 12) (v := ?_) rfl (by kernel_rfl) (by kernel_rfl) (by kernel_rfl) (fun _ _ _ h => h) (Or.inl ⟨by rfl, ?_⟩) (by assumption) ?_
                        rotate_left
                        · intro w hSw; (try dsimp only at hSw); go_simp
                          try with_reducible rfl
                        try simp only [Act.put, List.getElem_toArray, List.getElem_cons_zero, List.getElem_cons_succ, List.setIfInBounds_toArray, List.set_cons_zero, List.set_cons_succ]
                        refine wpAnyH_take (i := 13) (v := ?_) rfl (by kernel_rfl) (by kernel_rfl) (by kernel_rfl) (fun _ _ _ h => h) (Or.inl ⟨by rfl, ?_⟩) (by assumption) ?_
                        rotate_left
                        · intro w hSw; (try dsimp only at hSw); go_simp
                          try with_reducible rfl
                        try simp only [Act.put, List.getElem_toArray, List.getElem_cons_zero, List.getElem_cons_succ, List.setIfInBounds_toArray, List.set_cons_zero, List.set_cons_succ]
                        refine wpAnyH_take (i := 14) (v := ?_) rfl (by kernel_rfl) (by kernel_rfl) (by kernel_rfl) (fun _ _ _ h => h) (Or.inl ⟨by rfl, ?_⟩) (by assumption) ?_
                        rotate_left
                        · intro w hSw; (try dsimp only at hSw); go_simp
                          try with_reducible rfl
                        try simp only [Act.put, List.getElem_toArray, List.getElem_cons_zero, List.getElem_cons_succ, List.setIfInBounds_toArray, List.set_cons_zero, List.set_cons_succ]
                        refine wpAnyH_take (i := 15) (v := ?_) rfl (by kernel_rfl) (by kernel_rfl) (by kernel_rfl) (fun _ _ _ h => h) (Or.inl ⟨by rfl, ?_⟩) (by assumption) ?_
                        rotate_left
                        · intro w hSw; (try dsimp only at hSw); go_simp
                          try with_reducible rfl
                        try simp only [Act.put, List.getElem_toArray, List.getElem_cons_zero, List.getElem_cons_succ, List.setIfInBounds_toArray, List.set_cons_zero, List.set_cons_succ]
                        refine wpAnyH_take (i := 16) (v := ?_) rfl (by kernel_rfl) (by kernel_rfl) (by kernel_rfl) (fun _ _ _ h => h) (Or.inl ⟨by rfl, ?_⟩) (by assumption) ?_
                        rotate_left
                        · intro w hSw; (try dsimp only at hSw); go_simp
                          try with_reducible rfl
                        try simp only [Act.put, List.getElem_toArray, List.getElem_cons_zero, List.getElem_cons_succ, List.setIfInBounds_toArray, List.set_cons_zero, List.set_cons_succ]
                        refine wpAnyH_take (i := 17) (v := ?_) rfl (by kernel_rfl) (by kernel_rfl) (by kernel_rfl) (fun _ _ _ h => h) (Or.inl ⟨by rfl, ?_⟩) (by assumption) ?_
                        rotate_left
                        · intro w hSw; (try dsimp only at hSw); go_simp
                          try with_reducible rfl
                        try simp only [Act.put, List.getElem_toArray, List.getElem_cons_zero, List.getElem_cons_succ, List.setIfInBounds_toArray, List.set_cons_zero, List.set_cons_succ]
                        clear e3 e4 e5 e6 e7 e8
                        refine wpAnyH_ready (rs := [1, 18]) (by kernel_rfl) (by simp) ?_
                        refine AllReadyH.cons rfl (fun K hK => ?_) (AllReadyH.cons rfl (fun K hK => ?_) AllReadyH.nil)
                        · go_simp
                          refine hK.out _ _ (⟨hc0, hc2⟩) (fun hHeld => ?_)
                          clear hK K
                          try simp only [Act.put, List.getElem_toArray, List.getElem_cons_zero, List.getElem_cons_succ, List.setIfInBounds_toArray, List.set_cons_zero, List.set_cons_succ]
                          refine wpAnyH_ready (rs := [18]) (by kernel_rfl) (by simp) ?_
                          refine AllReadyH.cons rfl (fun K hK => ?_) AllReadyH.nil
                          go_simp
                          (with_reducible refine F7.out.mono ?_)
                          rintro e w6 ⟨A6, c6, rfl, hown6, hn6⟩
                          generalize (if cb5 = q3 then some (⟨bb, o5, none⟩ : Addr) else some ⟨bb, o5 + q3, none⟩) = X5
                          have hS6 : w6.cell? ⟨g, 0, none⟩ = some (.slice (some ⟨bb, o5, none⟩) b.length cb5) ∧ w6.cell? ⟨g, 2, none⟩ = some (.int .i64 (q3 : Int)) := ⟨(hn6.cell (p := ⟨g, 0, none⟩) hgl5 (fun h => h)).trans hc0, (hn6.cell (p := ⟨g, 2, none⟩) hgl5 (fun h => h)).trans hc2⟩
                          have hz6 : w5.heap.size ≤ w6.heap.size := hn6.size
                          have hbx6 : w6.cell? ⟨w1.heap.size, 1, none⟩ = some (.slice Ap ps.length cp) := (hn6.cell (p := ⟨w1.heap.size, 1, none⟩) hbt5 (fun h => h)).trans hbx1
                          have hn6a : New w6 (w6.alloc (.cells #[.string S, .slice A6 n c6] 96)) := (Chg.refl _ _).alloc _
                          have hS6a : (w6.alloc (.cells #[.string S, .slice A6 n c6] 96)).cell? ⟨g, 0, none⟩ = some (.slice (some ⟨bb, o5, none⟩) b.length cb5) ∧ (w6.alloc (.cells #[.string S, .slice A6 n c6] 96)).cell? ⟨g, 2, none⟩ = some (.int .i64 (q3 : Int)) := ⟨(hn6a.cell (p := ⟨g, 0, none⟩) (by show g < _; omega) (fun h => h)).trans hS6.1, (hn6a.cell (p := ⟨g, 2, none⟩) (by show g < _; omega) (fun h => h)).trans hS6.2⟩
                          have hbx6a : (w6.alloc (.cells #[.string S, .slice A6 n c6] 96)).cell? ⟨w1.heap.size, 1, none⟩ = some (.slice Ap ps.length cp) := (hn6a.cell (p := ⟨w1.heap.size, 1, none⟩) (by show w1.heap.size < _; omega) (fun h => h)).trans hbx6
                          have HO6 := Lib.hid (And.intro hown6 hn6)
                          clear hown6 hn6 hn6a
                          go_simp
                          refine hK.out _ _ (hS6) (fun hHeld => ?_)
                          clear hK K
                          try simp only [Act.put, List.getElem_toArray, List.getElem_cons_zero, List.getElem_cons_succ, List.setIfInBounds_toArray, List.set_cons_zero, List.set_cons_succ]
                          refine wpAnyH_take (i := 19) (v := ?_) rfl (by kernel_rfl) (by kernel_rfl) (by kernel_rfl) (fun _ _ _ h => h) (Or.inl ⟨by rfl, ?_⟩) (by assumption) ?_
                          rotate_left
                          · intro w hSw; (try dsimp only at hSw); go_simp
                            try with_reducible rfl
                          try simp only [Act.put, List.getElem_toArray, List.getElem_cons_zero, List.getElem_cons_succ, List.setIfInBounds_toArray, List.set_cons_zero, List.set_cons_succ]
                          refine wpAnyH_ready (rs := [20]) (by kernel_rfl) (by simp) ?_
                          refine AllReadyH.cons rfl (fun K hK => ?_) AllReadyH.nil
                          go_simp
                          refine hK.out _ _ (hS6a) (fun hHeld => ?_)
                          clear hK K
                          try simp only [Act.put, List.getElem_toArray, List.getElem_cons_zero, List.getElem_cons_succ, List.setIfInBounds_toArray, List.set_cons_zero, List.set_cons_succ]
                          refine wpAnyH_ready (rs := [21]) (by kernel_rfl) (by simp) ?_
                          refine AllReadyH.cons rfl (fun K hK => ?_) AllReadyH.nil
                          refine step_of_wp rfl (wp_append_x _ _ _ 22 rfl (w1.heap.size + 1) 96 iP _ 2 40 Try.underlying22 hiP hP0 hP1 hP2 rfl (by omega) Ap ps.length cp _ rfl ((HQS.out.2.new_ HO6.out.2).alloc _) (some ⟨w6.heap.size, 0, none⟩) 1 _ [.string S, .slice A6 n c6] rfl (Rd.box (Blk.made w6 _ _) rfl) (by simp; exact ⟨rfl, rfl⟩) (ps.length + 1) rfl (by simp only [maxLen]; omega) (by omega) (by simp; omega) ?_)
                          intro A7 c7 w7 hown7 hg7 hat7
                          have hB6 := HN6.out.box.chg HO6.out.2 (fun h => h)
                          have hc67 := ((Chg.refl _ w6).alloc _).grown hg7 (fun k hk _ => hk)
                          have hlp := HN6.out.props.lt
                          have hB7 := hB6.chg hc67 (fun e => by have := (hlp _ e).1; omega)
                          have hS7 : w7.cell? ⟨g, 0, none⟩ = some (.slice (some ⟨bb, o5, none⟩) b.length cb5) ∧ w7.cell? ⟨g, 2, none⟩ = some (.int .i64 (q3 : Int)) :=
                            ⟨(hc67.cell (p := ⟨g, 0, none⟩) (by show g < _; omega) (fun e => by have := (hlp g e).1; omega)).trans hS6.1, (hc67.cell (p := ⟨g, 2, none⟩) (by show g < _; omega) (fun e => by have := (hlp g e).1; omega)).trans hS6.2⟩
                          refine hK.out _ _ (hS7) (fun hHeld => ?_)
                          clear hK K
                          try simp only [Act.put, List.getElem_toArray, List.getElem_cons_zero, List.getElem_cons_succ, List.setIfInBounds_toArray, List.set_cons_zero, List.set_cons_succ]
                          refine wpAnyH_take (i := 22) (v := ?_) rfl (by kernel_rfl) (by kernel_rfl) (by kernel_rfl) (fun _ _ _ h => h) (Or.inl ⟨by rfl, ?_⟩) (by assumption) ?_
                          rotate_left
                          · intro w hSw; (try dsimp only at hSw); go_simp
                            try with_reducible rfl
                          try simp only [Act.put, List.getElem_toArray, List.getElem_cons_zero, List.getElem_cons_succ, List.setIfInBounds_toArray, List.set_cons_zero, List.set_cons_succ]
                          have hb7 := hB7.cell 1
                          have hf7 := hB7.frozen 1
                          have HH7 := Lib.hid (And.intro hown7 (And.intro hg7 hat7))
                          have hS8 : ∀ v, (w7.setCell ⟨w1.heap.size, 1, none⟩ v).cell? ⟨g, 0, none⟩ = some (.slice (some ⟨bb, o5, none⟩) b.length cb5) ∧ (w7.setCell ⟨w1.heap.size, 1, none⟩ v).cell? ⟨g, 2, none⟩ = some (.int .i64 (q3 : Int)) := fun v =>
                            ⟨(World.cell?_setCell_far w7 _ _ v (by show w1.heap.size ≠ g; omega)).trans hS7.1, (World.cell?_setCell_far w7 _ _ v (by show w1.heap.size ≠ g; omega)).trans hS7.2⟩
                          have HS8 := Lib.hid hS8
                          clear hB6 hB7 hown7 hg7 hat7 hc67 hlp hS8
                          refine wpAnyH_ready (rs := [23]) (by kernel_rfl) (by simp) ?_
                          refine AllReadyH.cons rfl (fun K hK => ?_) AllReadyH.nil
                          go_simp
                          refine hK.out _ _ (HS8.out _) (fun hHeld => ?_)
                          clear hK K
                          try simp only [Act.put, List.getElem_toArray, List.getElem_cons_zero, List.getElem_cons_succ, List.setIfInBounds_toArray, List.set_cons_zero, List.set_cons_succ]
                          refine wpAnyH_done (by kernel_rfl) ?_ _
                          go_wp2_with fail
                          obtain ⟨hown7, hg7, hat7⟩ := HH7.out
                          obtain ⟨hbs, hbl⟩ := HBS.out
                          obtain ⟨hown6, hn6⟩ := HO6.out
                          obtain ⟨hN8, hc8⟩ := HN6.out.prop hbl hn6 hown6.rd (by rw [← hbl]; exact hown6.le.1) (fun _ ad e => .inr (hown6.lt ad.block (by rw [e]; rfl))) (by omega) hSz HQS.out.1 rfl hown7 hg7 hat7
                          have hR8 := HR6.out.chg hc8 (fun k hk e => by omega)
                          have F9 := Lib.hid (rd_up g b tx q3 m n _ hR8 (by omega) (by omega))
                          have HN8 := Lib.hid hN8
                          clear hN8 hc8 hR8 hown6 hn6 hown7 hg7 hat7 hbs hbl
                          go_wp2_with (go_at_call 90; (with_reducible refine F9.out.mono ?_); rintro e w9 ⟨rfl, hR9, hc9⟩)
                          obtain ⟨hbs, hbl⟩ := HBS.out
                          go_roundg k1
                          case measure => omega
                          case rel => exact ⟨ps ++ [(S, bs)], ks, A7, Ak, c7, ck, q3 + (n + 3) / 4 * 4, m, by omega, by rw [HR4.out, if_neg (by omega), HQ3.out, HS.out, hbs], by omega, by omega, by omega, by simp; omega, by omega, hR9, HN8.out.go_ hc9⟩
                        · go_simp
                          (with_reducible refine F7.out.mono ?_)
                          rintro e w6 ⟨A6, c6, rfl, hown6, hn6⟩
                          generalize (if cb5 = q3 then some (⟨bb, o5, none⟩ : Addr) else some ⟨bb, o5 + q3, none⟩) = X5
                          have hS6 : w6.cell? ⟨g, 0, none⟩ = some (.slice (some ⟨bb, o5, none⟩) b.length cb5) ∧ w6.cell? ⟨g, 2, none⟩ = some (.int .i64 (q3 : Int)) := ⟨(hn6.cell (p := ⟨g, 0, none⟩) hgl5 (fun h => h)).trans hc0, (hn6.cell (p := ⟨g, 2, none⟩) hgl5 (fun h => h)).trans hc2⟩
                          have hz6 : w5.heap.size ≤ w6.heap.size := hn6.size
                          have hbx6 : w6.cell? ⟨w1.heap.size, 1, none⟩ = some (.slice Ap ps.length cp) := (hn6.cell (p := ⟨w1.heap.size, 1, none⟩) hbt5 (fun h => h)).trans hbx1
                          have hn6a : New w6 (w6.alloc (.cells #[.string S, .slice A6 n c6] 96)) := (Chg.refl _ _).alloc _
                          have hS6a : (w6.alloc (.cells #[.string S, .slice A6 n c6] 96)).cell? ⟨g, 0, none⟩ = some (.slice (some ⟨bb, o5, none⟩) b.length cb5) ∧ (w6.alloc (.cells #[.string S, .slice A6 n c6] 96)).cell? ⟨g, 2, none⟩ = some (.int .i64 (q3 : Int)) := ⟨(hn6a.cell (p := ⟨g, 0, none⟩) (by show g < _; omega) (fun h => h)).trans hS6.1, (hn6a.cell (p := ⟨g, 2, none⟩) (by show g < _; omega) (fun h => h)).trans hS6.2⟩
                          have hbx6a : (w6.alloc (.cells #[.string S, .slice A6 n c6] 96)).cell? ⟨w1.heap.size, 1, none⟩ = some (.slice Ap ps.length cp) := (hn6a.cell (p := ⟨w1.heap.size, 1, none⟩) (by show w1.heap.size < _; omega) (fun h => h)).trans hbx6
                          have HO6 := Lib.hid (And.intro hown6 hn6)
                          clear hown6 hn6 hn6a
                          go_simp
                          refine hK.out _ _ (hS6) (fun hHeld => ?_)
                          clear hK K
                          try simp only [Act.put, List.getElem_toArray, List.getElem_cons_zero, List.getElem_cons_succ, List.setIfInBounds_toArray, List.set_cons_zero, List.set_cons_succ]
                          refine wpAnyH_take (i := 19) (v := ?_) rfl (by kernel_rfl) (by kernel_rfl) (by kernel_rfl) (fun _ _ _ h => h) (Or.inl ⟨by rfl, ?_⟩) (by assumption) ?_
                          rotate_left
                          · intro w hSw; (try dsimp only at hSw); go_simp
                            try with_reducible rfl
                          try simp only [Act.put, List.getElem_toArray, List.getElem_cons_zero, List.getElem_cons_succ, List.setIfInBounds_toArray, List.set_cons_zero, List.set_cons_succ]
                          refine wpAnyH_ready (rs := [1, 20]) (by kernel_rfl) (by simp) ?_
                          refine AllReadyH.cons rfl (fun K hK => ?_) (AllReadyH.cons rfl (fun K hK => ?_) AllReadyH.nil)
                          · go_simp
                            refine hK.out _ _ (hS6) (fun hHeld => ?_)
                            clear hK K
                            try simp only [Act.put, List.getElem_toArray, List.getElem_cons_zero, List.getElem_cons_succ, List.setIfInBounds_toArray, List.set_cons_zero, List.set_cons_succ]
                            refine wpAnyH_ready (rs := [20]) (by kernel_rfl) (by simp) ?_
                            refine AllReadyH.cons rfl (fun K hK => ?_) AllReadyH.nil
                            go_simp
                            refine hK.out _ _ (hS6a) (fun hHeld => ?_)
                            clear hK K
                            try simp only [Act.put, List.getElem_toArray, List.getElem_cons_zero, List.getElem_cons_succ, List.setIfInBounds_toArray, List.set_cons_zero, List.set_cons_succ]
                            refine wpAnyH_ready (rs := [21]) (by kernel_rfl) (by simp) ?_
                            refine AllReadyH.cons rfl (fun K hK => ?_) AllReadyH.nil
                            refine step_of_wp rfl (wp_append_x _ _ _ 22 rfl (w1.heap.size + 1) 96 iP _ 2 40 Try.underlying22 hiP hP0 hP1 hP2 rfl (by omega) Ap ps.length cp _ rfl ((HQS.out.2.new_ HO6.out.2).alloc _) (some ⟨w6.heap.size, 0, none⟩) 1 _ [.string S, .slice A6 n c6] rfl (Rd.box (Blk.made w6 _ _) rfl) (by simp; exact ⟨rfl, rfl⟩) (ps.length + 1) rfl (by simp only [maxLen]; omega) (by omega) (by simp; omega) ?_)
                            intro A7 c7 w7 hown7 hg7 hat7
                            have hB6 := HN6.out.box.chg HO6.out.2 (fun h => h)
                            have hc67 := ((Chg.refl _ w6).alloc _).grown hg7 (fun k hk _ => hk)
                            have hlp := HN6.out.props.lt
                            have hB7 := hB6.chg hc67 (fun e => by have := (hlp _ e).1; omega)
                            have hS7 : w7.cell? ⟨g, 0, none⟩ = some (.slice (some ⟨bb, o5, none⟩) b.length cb5) ∧ w7.cell? ⟨g, 2, none⟩ = some (.int .i64 (q3 : Int)) :=
                              ⟨(hc67.cell (p := ⟨g, 0, none⟩) (by show g < _; omega) (fun e => by have := (hlp g e).1; omega)).trans hS6.1, (hc67.cell (p := ⟨g, 2, none⟩) (by show g < _; omega) (fun e => by have := (hlp g e).1; omega)).trans hS6.2⟩
                            refine hK.out _ _ (hS7) (fun hHeld => ?_)
                            clear hK K
                            try simp only [Act.put, List.getElem_toArray, List.getElem_cons_zero, List.getElem_cons_succ, List.setIfInBounds_toArray, List.set_cons_zero, List.set_cons_succ]
                            refine wpAnyH_take (i := 22) (v := ?_) rfl (by kernel_rfl) (by kernel_rfl) (by kernel_rfl) (fun _ _ _ h => h) (Or.inl ⟨by rfl, ?_⟩) (by assumption) ?_
                            rotate_left
                            · intro w hSw; (try dsimp only at hSw); go_simp
                              try with_reducible rfl
                            try simp only [Act.put, List.getElem_toArray, List.getElem_cons_zero, List.getElem_cons_succ, List.setIfInBounds_toArray, List.set_cons_zero, List.set_cons_succ]
                            have hb7 := hB7.cell 1
                            have hf7 := hB7.frozen 1
                            have HH7 := Lib.hid (And.intro hown7 (And.intro hg7 hat7))
                            have hS8 : ∀ v, (w7.setCell ⟨w1.heap.size, 1, none⟩ v).cell? ⟨g, 0, none⟩ = some (.slice (some ⟨bb, o5, none⟩) b.length cb5) ∧ (w7.setCell ⟨w1.heap.size, 1, none⟩ v).cell? ⟨g, 2, none⟩ = some (.int .i64 (q3 : Int)) := fun v =>
                              ⟨(World.cell?_setCell_far w7 _ _ v (by show w1.heap.size ≠ g; omega)).trans hS7.1, (World.cell?_setCell_far w7 _ _ v (by show w1.heap.size ≠ g; omega)).trans hS7.2⟩
                            have HS8 := Lib.hid hS8
                            clear hB6 hB7 hown7 hg7 hat7 hc67 hlp hS8
                            refine wpAnyH_ready (rs := [23]) (by kernel_rfl) (by simp) ?_
                            refine AllReadyH.cons rfl (fun K hK => ?_) AllReadyH.nil
                            go_simp
                            refine hK.out _ _ (HS8.out _) (fun hHeld => ?_)
                            clear hK K
                            try simp only [Act.put, List.getElem_toArray, List.getElem_cons_zero, List.getElem_cons_succ, List.setIfInBounds_toArray, List.set_cons_zero, List.set_cons_succ]
                            refine wpAnyH_done (by kernel_rfl) ?_ _
                            go_wp2_with fail
                            obtain ⟨hown7, hg7, hat7⟩ := HH7.out
                            obtain ⟨hbs, hbl⟩ := HBS.out
                            obtain ⟨hown6, hn6⟩ := HO6.out
                            obtain ⟨hN8, hc8⟩ := HN6.out.prop hbl hn6 hown6.rd (by rw [← hbl]; exact hown6.le.1) (fun _ ad e => .inr (hown6.lt ad.block (by rw [e]; rfl))) (by omega) hSz HQS.out.1 rfl hown7 hg7 hat7
                            have hR8 := HR6.out.chg hc8 (fun k hk e => by omega)
                            have F9 := Lib.hid (rd_up g b tx q3 m n _ hR8 (by omega) (by omega))
                            have HN8 := Lib.hid hN8
                            clear hN8 hc8 hR8 hown6 hn6 hown7 hg7 hat7 hbs hbl
                            go_wp2_with (go_at_call 90; (with_reducible refine F9.out.mono ?_); rintro e w9 ⟨rfl, hR9, hc9⟩)
                            obtain ⟨hbs, hbl⟩ := HBS.out
                            go_roundg k1
                            case measure => omega
                            case rel => exact ⟨ps ++ [(S, bs)], ks, A7, Ak, c7, ck, q3 + (n + 3) / 4 * 4, m, by omega, by rw [HR4.out, if_neg (by omega), HQ3.out, HS.out, hbs], by omega, by omega, by omega, by simp; omega, by omega, hR9, HN8.out.go_ hc9⟩
                          · go_simp
                            refine hK.out _ _ (hS6a) (fun hHeld => ?_)
                            clear hK K
                            try simp only [Act.put, List.getElem_toArray, List.getElem_cons_zero, List.getElem_cons_succ, List.setIfInBounds_toArray, List.set_cons_zero, List.set_cons_succ]
                            refine wpAnyH_ready (rs := [1]) (by kernel_rfl) (by simp) ?_
                            refine AllReadyH.cons rfl (fun K hK => ?_) AllReadyH.nil
                            go_simp
                            refine hK.out _ _ (hS6a) (fun hHeld => ?_)
                            clear hK K
                            try simp only [Act.put, List.getElem_toArray, List.getElem_cons_zero, List.getElem_cons_succ, List.setIfInBounds_toArray, List.set_cons_zero, List.set_cons_succ]
                            refine wpAnyH_ready (rs := [21]) (by kernel_rfl) (by simp) ?_
                            refine AllReadyH.cons rfl (fun K hK => ?_) AllReadyH.nil
                            refine step_of_wp rfl (wp_append_x _ _ _ 22 rfl (w1.heap.size + 1) 96 iP _ 2 40 Try.underlying22 hiP hP0 hP1 hP2 rfl (by omega) Ap ps.length cp _ rfl ((HQS.out.2.new_ HO6.out.2).alloc _) (some ⟨w6.heap.size, 0, none⟩) 1 _ [.string S, .slice A6 n c6] rfl (Rd.box (Blk.made w6 _ _) rfl) (by simp; exact ⟨rfl, rfl⟩) (ps.length + 1) rfl (by simp only [maxLen]; omega) (by omega) (by simp; omega) ?_)
                            intro A7 c7 w7 hown7 hg7 hat7
                            have hB6 := HN6.out.box.chg HO6.out.2 (fun h => h)
                            have hc67 := ((Chg.refl _ w6).alloc _).grown hg7 (fun k hk _ => hk)
                            have hlp := HN6.out.props.lt
                            have hB7 := hB6.chg hc67 (fun e => by have := (hlp _ e).1; omega)
                            have hS7 : w7.cell? ⟨g, 0, none⟩ = some (.slice (some ⟨bb, o5, none⟩) b.length cb5) ∧ w7.cell? ⟨g, 2, none⟩ = some (.int .i64 (q3 : Int)) :=
                              ⟨(hc67.cell (p := ⟨g, 0, none⟩) (by show g < _; omega) (fun e => by have := (hlp g e).1; omega)).trans hS6.1, (hc67.cell (p := ⟨g, 2, none⟩) (by show g < _; omega) (fun e => by have := (hlp g e).1; omega)).trans hS6.2⟩
                            refine hK.out _ _ (hS7) (fun hHeld => ?_)
                            clear hK K
                            try simp only [Act.put, List.getElem_toArray, List.getElem_cons_zero, List.getElem_cons_succ, List.setIfInBounds_toArray, List.set_cons_zero, List.set_cons_succ]
                            refine wpAnyH_take (i := 22) (v := ?_) rfl (by kernel_rfl) (by kernel_rfl) (by kernel_rfl) (fun _ _ _ h => h) (Or.inl ⟨by rfl, ?_⟩) (by assumption) ?_
                            rotate_left
                            · intro w hSw; (try dsimp only at hSw); go_simp
                              try with_reducible rfl
                            try simp only [Act.put, List.getElem_toArray, List.getElem_cons_zero, List.getElem_cons_succ, List.setIfInBounds_toArray, List.set_cons_zero, List.set_cons_succ]
                            have hb7 := hB7.cell 1
                            have hf7 := hB7.frozen 1
                            have HH7 := Lib.hid (And.intro hown7 (And.intro hg7 hat7))
                            have hS8 : ∀ v, (w7.setCell ⟨w1.heap.size, 1, none⟩ v).cell? ⟨g, 0, none⟩ = some (.slice (some ⟨bb, o5, none⟩) b.length cb5) ∧ (w7.setCell ⟨w1.heap.size, 1, none⟩ v).cell? ⟨g, 2, none⟩ = some (.int .i64 (q3 : Int)) := fun v =>
                              ⟨(World.cell?_setCell_far w7 _ _ v (by show w1.heap.size ≠ g; omega)).trans hS7.1, (World.cell?_setCell_far w7 _ _ v (by show w1.heap.size ≠ g; omega)).trans hS7.2⟩
                            have HS8 := Lib.hid hS8
                            clear hB6 hB7 hown7 hg7 hat7 hc67 hlp hS8
                            refine wpAnyH_ready (rs := [23]) (by kernel_rfl) (by simp) ?_
                            refine AllReadyH.cons rfl (fun K hK => ?_) AllReadyH.nil
                            go_simp
                            refine hK.out _ _ (HS8.out _) (fun hHeld => ?_)
                            clear hK K
                            try simp only [Act.put, List.getElem_toArray, List.getElem_cons_zero, List.getElem_cons_succ, List.setIfInBounds_toArray, List.set_cons_zero, List.set_cons_succ]
                            refine wpAnyH_done (by kernel_rfl) ?_ _
                            go_wp2_with fail
                            obtain ⟨hown7, hg7, hat7⟩ := HH7.out
                            obtain ⟨hbs, hbl⟩ := HBS.out
                            obtain ⟨hown6, hn6⟩ := HO6.out
                            obtain ⟨hN8, hc8⟩ := HN6.out.prop hbl hn6 hown6.rd (by rw [← hbl]; exact hown6.le.1) (fun _ ad e => .inr (hown6.lt ad.block (by rw [e]; rfl))) (by omega) hSz HQS.out.1 rfl hown7 hg7 hat7
                            have hR8 := HR6.out.chg hc8 (fun k hk e => by omega)
                            have F9 := Lib.hid (rd_up g b tx q3 m n _ hR8 (by omega) (by omega))
                            have HN8 := Lib.hid hN8
                            clear hN8 hc8 hR8 hown6 hn6 hown7 hg7 hat7 hbs hbl
                            go_wp2_with (go_at_call 90; (with_reducible refine F9.out.mono ?_); rintro e w9 ⟨rfl, hR9, hc9⟩)
                            obtain ⟨hbs, hbl⟩ := HBS.out
                            go_roundg k1
                            case measure => omega
                            case rel => exact ⟨ps ++ [(S, bs)], ks, A7, Ak, c7, ck, q3 + (n + 3) / 4 * 4, m, by omega, by rw [HR4.out, if_neg (by omega), HQ3.out, HS.out, hbs], by omega, by omega, by omega, by simp; omega, by omega, hR9, HN8.out.go_ hc9⟩
              · by_cases h1 : v = 1
                · subst h1
                  rw [if_neg (by omega), if_pos rfl] at HRs
                  have HR1 := Lib.hid HRs
                  clear HRs hv
                  have e3 : ((1 : Int) == 3) = false := rfl
                  go_wp2_with (go_at_call 55; (with_reducible refine F1.out.mono ?_); rintro e w2 ⟨hc2, rfl, hR2, hk2⟩)
                  have hN2 := (hN.go_ hc2).new_ ((Chg.refl _ _).drew)
                  have F4 := Lib.hid (show Calls Try.prog 56 #[.pointer (some ⟨g, 0, none⟩), .int .i64 ((d : Int) + 1)] w2.drew (RNodePost g b tx (nodeP b tx k1 (d + 1) (q + 4) m) w2.drew) from by
                    have := ih k1 (by omega) (d + 1) (q + 4) m g w2.drew (hR2.new_ (Chg.drew (Chg.refl _ _))) (by omega) (by omega) (by omega) (by omega)
                    rw [show ((d + 1 : Nat) : Int) = (d : Int) + 1 from by omega] at this
                    exact this)
                  have hbx2 : w2.cell? ⟨w1.heap.size, 2, none⟩ = some (.slice Ak ks.length ck) := hN2.box.cell 2
                  clear hk2 F1 hN hR hc2 hR2 e3
                  obtain ⟨iT, hiT, hT0, hT1, hT2⟩ := info_parts infoTree
                  have hd1 : IntKind.i64.wrap ((d : Int) + 1) = (d : Int) + 1 := IntWalk.i64_in _ (by omega)
                  refine wp_region_held_drew (S := fun _ => True) (by kernel_rfl) trivial (fun hHeld => ?_)
                  refine wpAnyH_take (i := 0) (v := ?_) rfl (by kernel_rfl) (by kernel_rfl) (by kernel_rfl) (fun _ _ _ h => h) (Or.inl ⟨by rfl, ?_⟩) (by assumption) ?_
                  rotate_left
                  · intro w hSw; (try dsimp only at hSw); go_simp
                    try with_reducible rfl
                  try simp only [Act.put, List.getElem_toArray, List.getElem_cons_zero, List.getElem_cons_succ, List.setIfInBounds_toArray, List.set_cons_zero, List.set_cons_succ]
                  refine wpAnyH_take (i := 2) (v := ?_) rfl (by kernel_rfl) (by kernel_rfl) (by kernel_rfl) (fun _ _ _ h => h) (Or.inl ⟨by rfl, ?_⟩) (by assumption) ?_
                  rotate_left
                  · intro w hSw; (try dsimp only at hSw); go_simp
                    try with_reducible rfl
                  try simp only [Act.put, List.getElem_toArray, List.getElem_cons_zero, List.getElem_cons_succ, List.setIfInBounds_toArray, List.set_cons_zero, List.set_cons_succ]
                  refine wpAnyH_take (i := 3) (v := ?_) rfl (by kernel_rfl) (by kernel_rfl) (by kernel_rfl) (fun _ _ _ h => h) (Or.inl ⟨by rfl, ?_⟩) (by assumption) ?_
                  rotate_left
                  · intro w hSw; (try dsimp only at hSw); go_simp
                    try with_reducible rfl
                  try simp only [Act.put, List.getElem_toArray, List.getElem_cons_zero, List.getElem_cons_succ, List.setIfInBounds_toArray, List.set_cons_zero, List.set_cons_succ]
                  refine wpAnyH_take (i := 4) (v := ?_) rfl (by kernel_rfl) (by kernel_rfl) (by kernel_rfl) (fun _ _ _ h => h) (Or.inl ⟨by rfl, ?_⟩) (by assumption) ?_
                  rotate_left
                  · intro w hSw; (try dsimp only at hSw); go_simp
                    try with_reducible rfl
                  try simp only [Act.put, List.getElem_toArray, List.getElem_cons_zero, List.getElem_cons_succ, List.setIfInBounds_toArray, List.set_cons_zero, List.set_cons_succ]
                  refine wpAnyH_ready (rs := [1, 5]) (by kernel_rfl) (by simp) ?_
                  refine AllReadyH.cons rfl (fun K hK => ?_) (AllReadyH.cons rfl (fun K hK => ?_) AllReadyH.nil)
                  · go_simp
                    refine hK.out _ _ (trivial) (fun hHeld => ?_)
                    clear hK K
                    try simp only [Act.put, List.getElem_toArray, List.getElem_cons_zero, List.getElem_cons_succ, List.setIfInBounds_toArray, List.set_cons_zero, List.set_cons_succ]
                    refine wpAnyH_ready (rs := [5]) (by kernel_rfl) (by simp) ?_
                    refine AllReadyH.cons rfl (fun K hK => ?_) AllReadyH.nil
                    go_simp
                    (with_reducible refine F4.out.mono ?_)
                    rintro e w4 ⟨hc4, h4⟩
                    cases hnp : nodeP b tx k1 (d + 1) (q + 4) m with
                    | none =>
                      rw [hnp] at h4
                      obtain rfl := h4
                      exact ⟨rfl, rnode_none (by rw [HR1.out, hnp]) (hN2.chg.trans hc4 (fun i hi _ => hi))⟩
                    | some x =>
                      obtain ⟨t, q', m'⟩ := x
                      rw [hnp] at h4
                      obtain ⟨v0, v1, v2, rfl, hT, hR4⟩ := h4
                      have hN4 := hN2.go_ hc4
                      have hT4 := hN2.zt hT
                      obtain ⟨Aa, Ab2, ca, cb2, rfl, rfl, rfl⟩ := hT.shape
                      obtain ⟨qs, hqs, hown⟩ := hN4.kids.open_
                      have hbx4 : w4.cell? ⟨w1.heap.size, 2, none⟩ = some (.slice Ak ks.length ck) := hN4.box.cell 2
                      have hlt4 := hN4.box.lt
                      have HNP := Lib.hid hnp
                      have HHQ := Lib.hid (And.intro hqs hown)
                      have HN4 := Lib.hid (And.intro hN4 (And.intro hT4 hR4))
                      clear hT hN2 hc4 hnp hqs hown hT4 hR4 hN4
                      go_simp
                      refine hK.out _ _ (trivial) (fun hHeld => ?_)
                      clear hK K
                      try simp only [Act.put, List.getElem_toArray, List.getElem_cons_zero, List.getElem_cons_succ, List.setIfInBounds_toArray, List.set_cons_zero, List.set_cons_succ]
                      refine wpAnyH_ready (rs := [6]) (by kernel_rfl) (by simp) ?_
                      refine AllReadyH.cons rfl (fun K hK => ?_) AllReadyH.nil
                      go_simp
                      refine hK.out _ _ (trivial) (fun hHeld => ?_)
                      clear hK K
                      try simp only [Act.put, List.getElem_toArray, List.getElem_cons_zero, List.getElem_cons_succ, List.setIfInBounds_toArray, List.set_cons_zero, List.set_cons_succ]
                      refine wpAnyH_ready (rs := [7]) (by kernel_rfl) (by simp) ?_
                      refine AllReadyH.cons rfl (fun K hK => ?_) AllReadyH.nil
                      refine step_of_wp rfl (wp_append_x _ _ _ 23 rfl (w1.heap.size + 1) 25 iT _ 3 64 Try.underlying23 hiT hT0 hT1 hT2 rfl (by omega) Ak ks.length ck _ rfl (HHQ.out.2.alloc _) (some ⟨w4.heap.size, 0, none⟩) 1 _ [.string t.name, .slice Aa t.props.length ca, .slice Ab2 t.kids.length cb2] rfl (Rd.box (Blk.made w4 _ _) rfl) (by simp; exact ⟨rfl, rfl, rfl⟩) (ks.length + 1) rfl (by simp only [maxLen]; omega) (by omega) (by simp; omega) ?_)
                      intro A7 c7 w7 hown7 hg7 hat7
                      refine hK.out _ _ (trivial) (fun hHeld => ?_)
                      clear hK K
                      try simp only [Act.put, List.getElem_toArray, List.getElem_cons_zero, List.getElem_cons_succ, List.setIfInBounds_toArray, List.set_cons_zero, List.set_cons_succ]
                      refine wpAnyH_take (i := 8) (v := ?_) rfl (by kernel_rfl) (by kernel_rfl) (by kernel_rfl) (fun _ _ _ h => h) (Or.inl ⟨by rfl, ?_⟩) (by assumption) ?_
                      rotate_left
                      · intro w hSw; (try dsimp only at hSw); go_simp
                        try with_reducible rfl
                      try simp only [Act.put, List.getElem_toArray, List.getElem_cons_zero, List.getElem_cons_succ, List.setIfInBounds_toArray, List.set_cons_zero, List.set_cons_succ]
                      have hB7 := HN4.out.1.box.chg (((Chg.refl _ w4).alloc _).grown hg7 (fun k hk _ => hk)) (fun e => by have := (HN4.out.1.kids.lt _ e).1; omega)
                      have hb7 := hB7.cell 2
                      have hf7 := hB7.frozen 2
                      have HH7 := Lib.hid (And.intro hown7 (And.intro hg7 hat7))
                      clear hB7 hown7 hg7 hat7
                      refine wpAnyH_ready (rs := [9]) (by kernel_rfl) (by simp) ?_
                      refine AllReadyH.cons rfl (fun K hK => ?_) AllReadyH.nil
                      go_simp
                      refine hK.out _ _ (trivial) (fun hHeld => ?_)
                      clear hK K
                      try simp only [Act.put, List.getElem_toArray, List.getElem_cons_zero, List.getElem_cons_succ, List.setIfInBounds_toArray, List.set_cons_zero, List.set_cons_succ]
                      refine wpAnyH_done (by kernel_rfl) ?_ _
                      go_wp2_with fail
                      obtain ⟨hN4, hT4, hR4⟩ := HN4.out
                      obtain ⟨hown7, hg7, hat7⟩ := HH7.out
                      obtain ⟨hN8, hc8⟩ := hN4.kid hT4 HHQ.out.1 rfl hown7 hg7 hat7
                      obtain ⟨hq1, hm1⟩ := nodeP_le b tx _ _ _ _ _ _ _ HNP.out
                      have hq2 := nodeP_in b tx _ _ _ _ _ _ _ HNP.out
                      go_roundg k1
                      case measure => omega
                      case rel => exact ⟨ps, ks ++ [t], Ap, A7, cp, c7, q', m', by omega, by rw [HR1.out, HNP.out], by omega, by omega, by omega, by omega, by simp; omega, hR4.chg hc8 (fun k hk e => by omega), hN8⟩
                  · go_simp
                    (with_reducible refine F4.out.mono ?_)
                    rintro e w4 ⟨hc4, h4⟩
                    cases hnp : nodeP b tx k1 (d + 1) (q + 4) m with
                    | none =>
                      rw [hnp] at h4
                      obtain rfl := h4
                      exact ⟨rfl, rnode_none (by rw [HR1.out, hnp]) (hN2.chg.trans hc4 (fun i hi _ => hi))⟩
                    | some x =>
                      obtain ⟨t, q', m'⟩ := x
                      rw [hnp] at h4
                      obtain ⟨v0, v1, v2, rfl, hT, hR4⟩ := h4
                      have hN4 := hN2.go_ hc4
                      have hT4 := hN2.zt hT
                      obtain ⟨Aa, Ab2, ca, cb2, rfl, rfl, rfl⟩ := hT.shape
                      obtain ⟨qs, hqs, hown⟩ := hN4.kids.open_
                      have hbx4 : w4.cell? ⟨w1.heap.size, 2, none⟩ = some (.slice Ak ks.length ck) := hN4.box.cell 2
                      have hlt4 := hN4.box.lt
                      have HNP := Lib.hid hnp
                      have HHQ := Lib.hid (And.intro hqs hown)
                      have HN4 := Lib.hid (And.intro hN4 (And.intro hT4 hR4))
                      clear hT hN2 hc4 hnp hqs hown hT4 hR4 hN4
                      go_simp
                      refine hK.out _ _ (trivial) (fun hHeld => ?_)
                      clear hK K
                      try simp only [Act.put, List.getElem_toArray, List.getElem_cons_zero, List.getElem_cons_succ, List.setIfInBounds_toArray, List.set_cons_zero, List.set_cons_succ]
                      refine wpAnyH_ready (rs := [1, 6]) (by kernel_rfl) (by simp) ?_
                      refine AllReadyH.cons rfl (fun K hK => ?_) (AllReadyH.cons rfl (fun K hK => ?_) AllReadyH.nil)
                      · go_simp
                        refine hK.out _ _ (trivial) (fun hHeld => ?_)
                        clear hK K
                        try simp only [Act.put, List.getElem_toArray, List.getElem_cons_zero, List.getElem_cons_succ, List.setIfInBounds_toArray, List.set_cons_zero, List.set_cons_succ]
                        refine wpAnyH_ready (rs := [6]) (by kernel_rfl) (by simp) ?_
                        refine AllReadyH.cons rfl (fun K hK => ?_) AllReadyH.nil
                        go_simp
                        refine hK.out _ _ (trivial) (fun hHeld => ?_)
                        clear hK K
                        try simp only [Act.put, List.getElem_toArray, List.getElem_cons_zero, List.getElem_cons_succ, List.setIfInBounds_toArray, List.set_cons_zero, List.set_cons_succ]
                        refine wpAnyH_ready (rs := [7]) (by kernel_rfl) (by simp) ?_
                        refine AllReadyH.cons rfl (fun K hK => ?_) AllReadyH.nil
                        refine step_of_wp rfl (wp_append_x _ _ _ 23 rfl (w1.heap.size + 1) 25 iT _ 3 64 Try.underlying23 hiT hT0 hT1 hT2 rfl (by omega) Ak ks.length ck _ rfl (HHQ.out.2.alloc _) (some ⟨w4.heap.size, 0, none⟩) 1 _ [.string t.name, .slice Aa t.props.length ca, .slice Ab2 t.kids.length cb2] rfl (Rd.box (Blk.made w4 _ _) rfl) (by simp; exact ⟨rfl, rfl, rfl⟩) (ks.length + 1) rfl (by simp only [maxLen]; omega) (by omega) (by simp; omega) ?_)
                        intro A7 c7 w7 hown7 hg7 hat7
                        refine hK.out _ _ (trivial) (fun hHeld => ?_)
                        clear hK K
                        try simp only [Act.put, List.getElem_toArray, List.getElem_cons_zero, List.getElem_cons_succ, List.setIfInBounds_toArray, List.set_cons_zero, List.set_cons_succ]
                        refine wpAnyH_take (i := 8) (v := ?_) rfl (by kernel_rfl) (by kernel_rfl) (by kernel_rfl) (fun _ _ _ h => h) (Or.inl ⟨by rfl, ?_⟩) (by assumption) ?_
                        rotate_left
                        · intro w hSw; (try dsimp only at hSw); go_simp
                          try with_reducible rfl
                        try simp only [Act.put, List.getElem_toArray, List.getElem_cons_zero, List.getElem_cons_succ, List.setIfInBounds_toArray, List.set_cons_zero, List.set_cons_succ]
                        have hB7 := HN4.out.1.box.chg (((Chg.refl _ w4).alloc _).grown hg7 (fun k hk _ => hk)) (fun e => by have := (HN4.out.1.kids.lt _ e).1; omega)
                        have hb7 := hB7.cell 2
                        have hf7 := hB7.frozen 2
                        have HH7 := Lib.hid (And.intro hown7 (And.intro hg7 hat7))
                        clear hB7 hown7 hg7 hat7
                        refine wpAnyH_ready (rs := [9]) (by kernel_rfl) (by simp) ?_
                        refine AllReadyH.cons rfl (fun K hK => ?_) AllReadyH.nil
                        go_simp
                        refine hK.out _ _ (trivial) (fun hHeld => ?_)
                        clear hK K
                        try simp only [Act.put, List.getElem_toArray, List.getElem_cons_zero, List.getElem_cons_succ, List.setIfInBounds_toArray, List.set_cons_zero, List.set_cons_succ]
                        refine wpAnyH_done (by kernel_rfl) ?_ _
                        go_wp2_with fail
                        obtain ⟨hN4, hT4, hR4⟩ := HN4.out
                        obtain ⟨hown7, hg7, hat7⟩ := HH7.out
                        obtain ⟨hN8, hc8⟩ := hN4.kid hT4 HHQ.out.1 rfl hown7 hg7 hat7
                        obtain ⟨hq1, hm1⟩ := nodeP_le b tx _ _ _ _ _ _ _ HNP.out
                        have hq2 := nodeP_in b tx _ _ _ _ _ _ _ HNP.out
                        go_roundg k1
                        case measure => omega
                        case rel => exact ⟨ps, ks ++ [t], Ap, A7, cp, c7, q', m', by omega, by rw [HR1.out, HNP.out], by omega, by omega, by omega, by omega, by simp; omega, hR4.chg hc8 (fun k hk e => by omega), hN8⟩
                      · go_simp
                        refine hK.out _ _ (trivial) (fun hHeld => ?_)
                        clear hK K
                        try simp only [Act.put, List.getElem_toArray, List.getElem_cons_zero, List.getElem_cons_succ, List.setIfInBounds_toArray, List.set_cons_zero, List.set_cons_succ]
                        refine wpAnyH_ready (rs := [1]) (by kernel_rfl) (by simp) ?_
                        refine AllReadyH.cons rfl (fun K hK => ?_) AllReadyH.nil
                        go_simp
                        refine hK.out _ _ (trivial) (fun hHeld => ?_)
                        clear hK K
                        try simp only [Act.put, List.getElem_toArray, List.getElem_cons_zero, List.getElem_cons_succ, List.setIfInBounds_toArray, List.set_cons_zero, List.set_cons_succ]
                        refine wpAnyH_ready (rs := [7]) (by kernel_rfl) (by simp) ?_
                        refine AllReadyH.cons rfl (fun K hK => ?_) AllReadyH.nil
                        refine step_of_wp rfl (wp_append_x _ _ _ 23 rfl (w1.heap.size + 1) 25 iT _ 3 64 Try.underlying23 hiT hT0 hT1 hT2 rfl (by omega) Ak ks.length ck _ rfl (HHQ.out.2.alloc _) (some ⟨w4.heap.size, 0, none⟩) 1 _ [.string t.name, .slice Aa t.props.length ca, .slice Ab2 t.kids.length cb2] rfl (Rd.box (Blk.made w4 _ _) rfl) (by simp; exact ⟨rfl, rfl, rfl⟩) (ks.length + 1) rfl (by simp only [maxLen]; omega) (by omega) (by simp; omega) ?_)
                        intro A7 c7 w7 hown7 hg7 hat7
                        refine hK.out _ _ (trivial) (fun hHeld => ?_)
                        clear hK K
                        try simp only [Act.put, List.getElem_toArray, List.getElem_cons_zero, List.getElem_cons_succ, List.setIfInBounds_toArray, List.set_cons_zero, List.set_cons_succ]
                        refine wpAnyH_take (i := 8) (v := ?_) rfl (by kernel_rfl) (by kernel_rfl) (by kernel_rfl) (fun _ _ _ h => h) (Or.inl ⟨by rfl, ?_⟩) (by assumption) ?_
                        rotate_left
                        · intro w hSw; (try dsimp only at hSw); go_simp
                          try with_reducible rfl
                        try simp only [Act.put, List.getElem_toArray, List.getElem_cons_zero, List.getElem_cons_succ, List.setIfInBounds_toArray, List.set_cons_zero, List.set_cons_succ]
                        have hB7 := HN4.out.1.box.chg (((Chg.refl _ w4).alloc _).grown hg7 (fun k hk _ => hk)) (fun e => by have := (HN4.out.1.kids.lt _ e).1; omega)
                        have hb7 := hB7.cell 2
                        have hf7 := hB7.frozen 2
                        have HH7 := Lib.hid (And.intro hown7 (And.intro hg7 hat7))
                        clear hB7 hown7 hg7 hat7
                        refine wpAnyH_ready (rs := [9]) (by kernel_rfl) (by simp) ?_
                        refine AllReadyH.cons rfl (fun K hK => ?_) AllReadyH.nil
                        go_simp
                        refine hK.out _ _ (trivial) (fun hHeld => ?_)
                        clear hK K
                        try simp only [Act.put, List.getElem_toArray, List.getElem_cons_zero, List.getElem_cons_succ, List.setIfInBounds_toArray, List.set_cons_zero, List.set_cons_succ]
                        refine wpAnyH_done (by kernel_rfl) ?_ _
                        go_wp2_with fail
                        obtain ⟨hN4, hT4, hR4⟩ := HN4.out
                        obtain ⟨hown7, hg7, hat7⟩ := HH7.out
                        obtain ⟨hN8, hc8⟩ := hN4.kid hT4 HHQ.out.1 rfl hown7 hg7 hat7
                        obtain ⟨hq1, hm1⟩ := nodeP_le b tx _ _ _ _ _ _ _ HNP.out
                        have hq2 := nodeP_in b tx _ _ _ _ _ _ _ HNP.out
                        go_roundg k1
                        case measure => omega
                        case rel => exact ⟨ps, ks ++ [t], Ap, A7, cp, c7, q', m', by omega, by rw [HR1.out, HNP.out], by omega, by omega, by omega, by omega, by simp; omega, hR4.chg hc8 (fun k hk e => by omega), hN8⟩
                · by_cases h2 : v = 2
                  · subst h2
                    rw [if_neg (by omega), if_neg (by omega), if_pos rfl] at HRs
                    have HR1 := Lib.hid HRs
                    clear HRs hv h3 h1
                    go_wp2_with (go_at_call 55; (with_reducible refine F1.out.mono ?_); rintro e w2 ⟨hc2, rfl, hR2, hk2⟩
                                 have hN2 := hN.go_ hc2
                                 clear hk2
                                 obtain ⟨x0, x1, x2, x3, x4, x5⟩ := hN2.box.c3
                                 obtain ⟨y0, y1, y2, y3, y4, y5⟩ := hN2.res.c3)
                    obtain ⟨hB, hC⟩ := hN2.ret (v0 := .string nms) (v1 := .slice Ap ps.length cp) (v2 := .slice Ak ks.length ck)
                    obtain ⟨W, hW⟩ : ∃ W, ((w2.setCell ⟨w.heap.size, 0, none⟩ (.string nms)).setCell ⟨w.heap.size, 1, none⟩ (.slice Ap ps.length cp)).setCell ⟨w.heap.size, 2, none⟩ (.slice Ak ks.length ck) = W := ⟨_, rfl⟩
                    rw [hW] at hB hC ⊢
                    obtain ⟨z0, z1, z2, _⟩ := hB.c3
                    obtain ⟨ht, hch⟩ := hN2.tree_out hnm (by omega) (by omega) hC
                    refine bodyPost_ret (v := .agg #[.string nms, .slice Ap ps.length cp, .slice Ak ks.length ck]) (by simp [results, Try.results56, go_sem, z0, z1, z2]) rfl ?_
                    rw [HR1.out]
                    exact ⟨hch, _, _, _, rfl, ht, hR2.chg hC (fun k hk e => by omega)⟩
                  · rw [if_neg h3, if_neg h1, if_neg h2] at HRs
                    have HN := Lib.hid HRs
                    have e3 : ((v : Int) == 3) = false := by rw [beq_eq_false_iff_ne]; omega
                    have e1 : ((v : Int) == 1) = false := by rw [beq_eq_false_iff_ne]; omega
                    have e2 : ((v : Int) == 2) = false := by rw [beq_eq_false_iff_ne]; omega
                    clear HRs h1 h2 h3
                    go_wp2_with (first
                      | (go_at_call 55; (with_reducible refine F1.out.mono ?_); rintro e w2 ⟨hc2, rfl, hR2, hk2⟩; clear hk2)
                      | (go_at_call 54; (with_reducible refine (must_false _).mono ?_); rintro e w' ⟨rfl, rfl⟩))
                    exact ⟨rfl, rnode_none HN.out (hN.chg.trans hc2 (fun i hi _ => hi))⟩
end Go.Proofs.Ytfmmcjiehpdogaa
