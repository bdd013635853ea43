/-
  The reference's TreeOf, as a function of the bytes. No condition but the lengths.
-/
import Derived.Test.YtfmmcjiehpdogaaRefCNode
set_option linter.unusedVariables false
set_option linter.unusedSimpArgs false
namespace Go.Proofs.Ytfmmcjiehpdogaa
open Go.RowKit
attribute [local go_sem ↓] Go.wp_at_zero Go.wp_at_succ

theorem Blk.new2_ {w w1 : World} {g : Nat} {t : TypeId} {cs : Array Value} (h : Blk w g t cs) (hc : New w w1) : Blk w1 g t cs := h.chg hc (fun h => h)
theorem tof_end {b : List UInt8} {w W : World} {v0 v1 v2 : Value} {k : Int} {tmps : Array Value} (hp : OfPost b w (.returned (.tuple #[.agg #[v0, v1, v2], .int .i64 k])) W) (hB : Blk W w.heap.size 25 #[v0, v1, v2])
    (h2 : tmps[2]? = some (.pointer (some ⟨w.heap.size, 0, none⟩))) (h3 : tmps[3]? = some (.int .i64 k)) : bodyPost Try.prog Try.f22 (OfPost b w) .ret { tmps := tmps, defers := [] } W := by
  obtain ⟨z0, z1, z2, _⟩ := hB.c3
  exact bodyPost_ret (v := .tuple #[.agg #[v0, v1, v2], .int .i64 k]) (by simp [results, Try.results22, go_sem, h2, h3, z0, z1, z2]) rfl hp
theorem ofpost_none {b : List UInt8} {w W : World} (hn : ofF b = none) (hc : New w W) : OfPost b w (.returned (.tuple #[.agg #[zt0, zt1, zt1], .int .i64 240])) W := by
  refine ⟨hc, ?_⟩
  rw [hn]
/-- an error's end -/
theorem tof_bad {b : List UInt8} {w W : World} {x0 x1 x2 : Value} {tmps : Array Value} (hn : ofF b = none) (hc : New w W) (hB : Blk W w.heap.size 25 #[x0, x1, x2])
    (h2 : tmps[2]? = some (.pointer (some ⟨w.heap.size, 0, none⟩))) (h3 : tmps[3]? = some (.int .i64 240)) :
    bodyPost Try.prog Try.f22 (OfPost b w) .ret { tmps := tmps, defers := [] } (((W.setCell ⟨w.heap.size, 0, none⟩ zt0).setCell ⟨w.heap.size, 1, none⟩ zt1).setCell ⟨w.heap.size, 2, none⟩ zt1) := by
  have c0 : Chg (fun k => k = w.heap.size) W W := Chg.refl _ _
  have c1 := c0.setCell (p := ⟨w.heap.size, 0, none⟩) (fun _ => rfl) zt0
  have c2 := c1.setCell (p := ⟨w.heap.size, 1, none⟩) (fun _ => rfl) zt1
  have c3 := c2.setCell (p := ⟨w.heap.size, 2, none⟩) (fun _ => rfl) zt1
  have hB3 := ((hB.set_ 0 zt0).set_ 1 zt1).set_ 2 zt1
  simp only [List.setIfInBounds_toArray, List.set_cons_zero, List.set_cons_succ] at hB3
  exact tof_end (ofpost_none hn (hc.trans c3 (fun i hi hlt => by omega))) hB3 h2 h3
theorem tof_bad_al {b : List UInt8} {w W : World} {x0 x1 x2 : Value} {o : Obj} {tmps : Array Value} (hn : ofF b = none) (hc : New w W) (hB : Blk W w.heap.size 25 #[x0, x1, x2])
    (h2 : tmps[2]? = some (.pointer (some ⟨w.heap.size, 0, none⟩))) (h3 : tmps[3]? = some (.int .i64 240)) :
    bodyPost Try.prog Try.f22 (OfPost b w) .ret { tmps := tmps, defers := [] } ((((W.setCell ⟨w.heap.size, 0, none⟩ zt0).setCell ⟨w.heap.size, 1, none⟩ zt1).setCell ⟨w.heap.size, 2, none⟩ zt1).alloc o) := by
  have c0 : Chg (fun k => k = w.heap.size) W W := Chg.refl _ _
  have c1 := c0.setCell (p := ⟨w.heap.size, 0, none⟩) (fun _ => rfl) zt0
  have c2 := c1.setCell (p := ⟨w.heap.size, 1, none⟩) (fun _ => rfl) zt1
  have c3 := c2.setCell (p := ⟨w.heap.size, 2, none⟩) (fun _ => rfl) zt1
  have hB3 := (((hB.set_ 0 zt0).set_ 1 zt1).set_ 2 zt1).alloc o
  simp only [List.setIfInBounds_toArray, List.set_cons_zero, List.set_cons_succ] at hB3
  exact tof_end (ofpost_none hn (hc.trans (c3.alloc o) (fun i hi hlt => by omega))) hB3 h2 h3
/-- the end, where the bytes are a tree -/
theorem tof_good {b : List UInt8} {w W : World} {t : TreeD} {x0 x1 x2 v0 v1 v2 : Value} {tmps : Array Value} (hn : ofF b = some t) (hc : New w W) (hB : Blk W w.heap.size 25 #[x0, x1, x2])
    {Z : Nat → Prop} (hT : TreeZ W Z v0 v1 v2 t) (hz : ∀ k, Z k → k ≠ w.heap.size ∧ k < W.heap.size) (h2 : tmps[2]? = some (.pointer (some ⟨w.heap.size, 0, none⟩))) (h3 : tmps[3]? = some (.int .i64 0)) :
    bodyPost Try.prog Try.f22 (OfPost b w) .ret { tmps := tmps, defers := [] } (((W.setCell ⟨w.heap.size, 0, none⟩ v0).setCell ⟨w.heap.size, 1, none⟩ v1).setCell ⟨w.heap.size, 2, none⟩ v2) := by
  have c0 : Chg (fun k => k = w.heap.size) W W := Chg.refl _ _
  have c1 := c0.setCell (p := ⟨w.heap.size, 0, none⟩) (fun _ => rfl) v0
  have c2 := c1.setCell (p := ⟨w.heap.size, 1, none⟩) (fun _ => rfl) v1
  have c3 := c2.setCell (p := ⟨w.heap.size, 2, none⟩) (fun _ => rfl) v2
  have hB3 := ((hB.set_ 0 v0).set_ 1 v1).set_ 2 v2
  simp only [List.setIfInBounds_toArray, List.set_cons_zero, List.set_cons_succ] at hB3
  have hs := c3.size
  refine tof_end ⟨hc.trans c3 (fun i hi hlt => by omega), ?_⟩ hB3 h2 h3
  rw [hn]
  exact ⟨v0, v1, v2, rfl, (hT.chg c3 (fun k hk e => (hz k hk).1 e)).is (fun k hk => Nat.lt_of_lt_of_le (hz k hk).2 hs)⟩

set_option maxRecDepth 100000 in
set_option maxHeartbeats 4000000 in
theorem rof_any (A : Option Addr) (n c : Nat) (b : List UInt8) (w : World) (hr : Rd w 1 A n (b.map bv)) (hn : n ≤ 140737488351232) (hc : n ≤ c) :
    Calls Try.prog 22 #[.slice A n c] w (OfPost b w) := by
  have hlb : b.length = n := by simpa using hr.1
  have HLB := Lib.hid hlb
  have hs2 := Blk.made w 25 #[zt0, zt1, zt1]
  have hn2 : New w (w.alloc (.cells #[zt0, zt1, zt1] 25)) := (Chg.refl _ _).alloc _
  have F0 := number_any A n c b 12 4 (w.alloc (.cells #[zt0, zt1, zt1] 25)) (hr.new_ hn2) hn (by omega) (by omega)
  rw [show ((12 : Nat) : Int) = 12 from rfl, show ((4 : Nat) : Int) = 4 from rfl, beF_4] at F0
  have F1 := Lib.hid F0
  clear F0
  have H2 := Lib.hid (And.intro hs2 hn2)
  clear hs2 hn2 hlb
  cases hq : be32F b 12 with
  | none =>
    have HN := Lib.hid (show ofF b = none by simp only [ofF, hq])
    rw [hq] at F1
    simp only [Option.getD_none, Option.isSome_none] at F1
    clear hq
    go_enter Try.func22, Try.ntmps22
    go_wp2_with (go_at_call 57; (with_reducible refine F1.out.mono ?_); rintro e w' ⟨rfl, rfl⟩)
    exact tof_end (ofpost_none HN.out H2.out.2) H2.out.1 (by rfl) (by rfl)
  | some q =>
    obtain ⟨hq1, hq2⟩ := be32F_lt hq
    rw [hq] at F1
    simp only [Option.getD_some, Option.isSome_some] at F1
    by_cases hok : 16384 < b.length ∨ q < 56 ∨ b.length < q
    · have HN := Lib.hid (show ofF b = none by simp only [ofF, hq, if_pos hok])
      clear hq
      rw [HLB.out] at hok hq2
      have hk : 16384 < n ∨ (n ≤ 16384 ∧ q < 56) ∨ (n ≤ 16384 ∧ 56 ≤ q ∧ n < q) := by omega
      rcases hk with hk | ⟨hk, hk2⟩ | ⟨hk, hk2, hk3⟩
      all_goals
        try have hkd : decide (n < q) = true := decide_eq_true (by omega)
        go_enter Try.func22, Try.ntmps22
        go_wp2_with (go_at_call 57; (with_reducible refine F1.out.mono ?_); rintro e w' ⟨rfl, rfl⟩)
        all_goals exact tof_end (ofpost_none HN.out H2.out.2) H2.out.1 (by rfl) (by rfl)
    · have hof : ofF b = if be32F (b.take q) 56 = some 1 then
          match nodeP (b.take q) (b.drop q) (b.length + 8) 1 60 200 with
          | none => none
          | some (t, _, _) => if putF t = (b, 0) then some t else none
        else none := by
        simp only [ofF, hq, if_neg hok]
        rfl
      have HOF := Lib.hid hof
      clear hq hof
      rw [HLB.out] at hok hq2
      have hk1 : n ≤ 16384 := by omega
      have hk2 : 56 ≤ q := by omega
      have hk3 : q ≤ n := by omega
      have hkd : decide (n < q) = false := decide_eq_false (by omega)
      clear hok
      obtain ⟨bb, o, rfl, hbb, _⟩ := hr.addr (by omega) (by omega)
      have hc0 : ¬ c = 0 := by omega
      have hk4 : (q : Int) ≤ (c : Int) := by omega
      have hk5 : (q : Int) ≤ (n : Int) := by omega
      have hk6 : (0 : Int) ≤ (q : Int) := by omega
      have HR := Lib.hid hr
      have hsl := fun (w : World) => run_from (kl := .u64) bb o n c q hk3 w
      clear hr
      go_enter Try.func22, Try.ntmps22
      go_wp2_with (go_at_call 57; (with_reducible refine F1.out.mono ?_); rintro e w' ⟨rfl, rfl⟩)
      go_region_held3 (fun _ => True) (exact trivial) (fail)
      go_wp2_with fail
      obtain ⟨h2a, h2c⟩ := H2.out
      have hgB := Blk.made (w.alloc (.cells #[zt0, zt1, zt1] 25)) 132 #[.slice (some ⟨bb, o, none⟩) q c, .slice (cutA bb o c q) (n - q) (c - q), .int .i64 56, .bool false, .int .i64 200]
      have hgN : New w ((w.alloc (.cells #[zt0, zt1, zt1] 25)).alloc (.cells #[.slice (some ⟨bb, o, none⟩) q c, .slice (cutA bb o c q) (n - q) (c - q), .int .i64 56, .bool false, .int .i64 200] 132)).drew := (h2c.alloc _).drew
      have hgA : Blk ((w.alloc (.cells #[zt0, zt1, zt1] 25)).alloc (.cells #[.slice (some ⟨bb, o, none⟩) q c, .slice (cutA bb o c q) (n - q) (c - q), .int .i64 56, .bool false, .int .i64 200] 132)).drew w.heap.size 25 #[zt0, zt1, zt1] := (h2a.alloc _).drew
      have hg0 : (w.alloc (.cells #[zt0, zt1, zt1] 25)).heap.size = w.heap.size + 1 := by simp
      rw [hg0] at hgB
      obtain ⟨W, hW⟩ : ∃ W, ((w.alloc (.cells #[zt0, zt1, zt1] 25)).alloc (.cells #[.slice (some ⟨bb, o, none⟩) q c, .slice (cutA bb o c q) (n - q) (c - q), .int .i64 56, .bool false, .int .i64 200] 132)).drew = W := ⟨_, rfl⟩
      have hgB' : Blk W (w.heap.size + 1) 132 #[.slice (some ⟨bb, o, none⟩) q c, .slice (cutA bb o c q) (n - q) (c - q), .int .i64 56, .bool false, .int .i64 200] := by rw [← hW]; exact hgB.drew
      rw [hW] at hgN hgA ⊢
      clear hW hgB h2a h2c hg0 hsl F1 hc0 H2
      obtain ⟨tk, htk⟩ : ∃ tk, b.take q = tk := ⟨_, rfl⟩
      obtain ⟨tx, htx⟩ : ∃ tx, b.drop q = tx := ⟨_, rfl⟩
      have hltk : tk.length = q := by rw [← htk, List.length_take, HLB.out]; omega
      have hltx : tx.length = n - q := by rw [← htx, List.length_drop, HLB.out]
      have hrW := HR.out.new_ hgN
      have hCW : CurIs W w.heap.size (w.heap.size + 1) tk tx 56 false 200 := by
        refine ⟨some ⟨bb, o, none⟩, c, cutA bb o c q, c - q, ?_, ?_, ?_, by omega, by omega, ?_, ?_, by omega⟩
        · rw [hltk, hltx]; exact hgB'
        · have := hrW.take_ (k := q) (by omega)
          rw [Nat.mul_one, ← List.map_take, htk] at this
          rw [hltk]; exact this
        · have := hrW.cutA_ hk3 hc
          rw [htx] at this
          rw [hltx]; exact this
        · intro ad e; injection e with e; subst e; exact hbb
        · intro ad e
          have : ad.block = bb := by
            unfold cutA at e
            split at e <;> (injection e with e; subst e; rfl)
          omega
      have F2 := Lib.hid (cur_four w.heap.size (w.heap.size + 1) tk tx 56 false 200 W hCW (by omega) (by omega))
      have HOF' := HOF.out
      rw [htk, htx] at HOF'
      have HO := Lib.hid HOF'
      clear hgB' HOF HOF' hrW hCW htk htx
      cases hb4 : be32F tk 56 with
      | none =>
        have HN := Lib.hid (show ofF b = none by rw [HO.out, hb4, if_neg (by simp)])
        rw [hb4] at F2
        clear hb4
        go_wp2_with (go_at_call 58; (with_reducible refine F2.out.mono ?_); rintro e w2 ⟨hc2, hj, rfl, hC2⟩; clear hj
                     have hA2 := hgA.chg hc2 (by omega)
                     obtain ⟨y0, y1, y2, y3, y4, y5⟩ := hA2.c3)
        exact tof_bad HN.out (hgN.trans hc2 (fun i hi hlt => by omega)) hA2 (by rfl) (by rfl)
      | some v =>
        obtain ⟨hv, hvp⟩ := be32F_lt hb4
        by_cases hv1 : v = 1
        · subst hv1
          have HO2 := HO.out
          rw [if_pos hb4] at HO2
          have HO3 := Lib.hid HO2
          rw [hb4] at F2
          clear hb4 HO2 HO hv
          go_wp2_with (go_at_call 58; (with_reducible refine F2.out.mono ?_); rintro e w2 ⟨hc2, hj, rfl, hC2⟩; clear hj
                       obtain ⟨_, _, _, _, _, _, _, v3, _, _, _, _, v8, _⟩ := hC2.cells
                       have hA2 := hgA.chg hc2 (by omega)
                       have hn02 : New w w2 := hgN.trans hc2 (fun i hi hlt => by omega)
                       have F3 := cnode_walk tk tx (by omega) (by omega) (b.length + 8) 1 60 200 (w.heap.size + 1) w.heap.size w2 hC2 (by have := HLB.out; omega) (by omega) (by omega) (by omega) (by omega)
                       rw [show ((1 : Nat) : Int) = 1 from rfl] at F3
                       have F3 := Lib.hid F3
                       have HA2 := Lib.hid (And.intro hA2 hn02)
                       clear hc2 hC2 hA2 hn02)
          cases hnp : nodeP tk tx (b.length + 8) 1 60 200 with
          | none =>
            have HN := Lib.hid (show ofF b = none by rw [HO3.out, hnp])
            rw [hnp] at F3
            clear hnp
            go_wp2_with (go_at_call 59; (with_reducible refine F3.out.mono ?_); rintro e w3 ⟨hc3, s, Ax, Ay, nx, cx, ny, cy, rfl, p', l', hC3⟩
                         have hA3 := HA2.out.1.chg hc3 (by omega)
                         have hn03 : New w w3 := HA2.out.2.trans hc3 (fun i hi hlt => by omega)
                         obtain ⟨_, _, _, _, _, _, _, z3, _, _, _, _, z8, _⟩ := hC3.cells
                         have hA4 := hA3.alloc (.cells #[.string s, .slice Ax nx cx, .slice Ay ny cy] 25)
                         have hn04 := hn03.alloc (.cells #[.string s, .slice Ax nx cx, .slice Ay ny cy] 25)
                         have HA3 := Lib.hid (And.intro hA3 hn03)
                         obtain ⟨y0, y1, y2, y3, y4, y5⟩ := hA3.c3
                         have hz3 : w.heap.size < w3.heap.size := hA3.lt
                         clear hc3 hC3 hA3 hn03 hA4 hn04)
            exact tof_bad_al HN.out HA3.out.2 HA3.out.1 (by rfl) (by rfl)
          | some x =>
            obtain ⟨t, p', l'⟩ := x
            have HO4 := HO3.out
            rw [hnp] at HO4
            simp only at HO4
            have HO5 := Lib.hid HO4
            rw [hnp] at F3
            clear hnp HO3 HO4
            obtain ⟨bs, kx, hput⟩ : ∃ bs kx, putF t = (bs, kx) := ⟨_, _, rfl⟩
            have HP := Lib.hid hput
            clear hput
            go_wp2_with (go_at_call 59; (with_reducible refine F3.out.mono ?_); rintro e w3 ⟨hc3, s, Ax, Ay, nx, cx, ny, cy, rfl, hT3, hC3⟩
                         have hA3 := HA2.out.1.chg hc3 (by omega)
                         have hn03 : New w w3 := HA2.out.2.trans hc3 (fun i hi hlt => by omega)
                         obtain ⟨_, _, _, _, _, _, _, z3, _, _, _, _, z8, _⟩ := hC3.cells
                         have hal : New w3 (w3.alloc (.cells #[.string s, .slice Ax nx cx, .slice Ay ny cy] 25)) := (Chg.refl _ _).alloc _
                         have hT4 := hT3.new_ hal
                         have hz23 : w2.heap.size ≤ w3.heap.size := hc3.size
                         have hz3 : w.heap.size < w3.heap.size := hA3.lt
                         have hz34 := hal.size
                         have F5 := rput_any t _ _ _ _ (hT4.is (B := (w3.alloc (.cells #[.string s, .slice Ax nx cx, .slice Ay ny cy] 25)).heap.size) (fun k hk => by rcases hk with hk | hk <;> omega))
                         rw [HP.out] at F5
                         have F5 := Lib.hid F5
                         have hB4 := Blk.made w3 25 #[.string s, .slice Ax nx cx, .slice Ay ny cy]
                         have HA4 := Lib.hid (And.intro (hA3.new2_ hal) (And.intro (hn03.new_ hal) (And.intro hT4 hB4)))
                         clear hc3 hC3 hA3 hn03 hT3 hT4 hal hB4)
            obtain ⟨S2, hS2⟩ : ∃ S2 : ByteArray, ⟨b.toArray⟩ = S2 := ⟨_, rfl⟩
            obtain ⟨S1, hS1⟩ : ∃ S1 : ByteArray, ⟨bs.toArray⟩ = S1 := ⟨_, rfl⟩
            have hS : S1 = S2 ↔ bs = b := by
              rw [← hS1, ← hS2]
              constructor
              · intro e; injection e with e; exact List.toArray_inj e
              · rintro rfl; rfl
            have HS := Lib.hid hS
            have HS1 := Lib.hid hS1
            have HS2 := Lib.hid hS2
            clear hS hS1 hS2
            by_cases hk0 : kx = 0
            · subst hk0
              by_cases hbs : bs = b
              · have HF := Lib.hid (show ofF b = some t by rw [HO5.out, HP.out, hbs, if_pos rfl])
                have he := HS.out.2 hbs
                subst he
                clear hbs
                go_wp2_with (go_at_call 14; (with_reducible refine F5.out.mono ?_); rintro e w5 ⟨A5, n5, c5, rfl, hn5, hown5, hnw5⟩
                             have hs1 := run_string_of w5 A5 n5 c5 bs hown5.rd
                             rw [HS1.out] at hs1
                             have hs2 := run_string_of w5 (some ⟨bb, o, none⟩) n c b (HR.out.new_ (HA4.out.2.1.new_ hnw5))
                             rw [HS2.out] at hs2
                             have hA5 := HA4.out.1.new2_ hnw5
                             obtain ⟨y0, y1, y2, y3, y4, y5⟩ := hA5.c3
                             obtain ⟨u0, u1, u2, _⟩ := (HA4.out.2.2.2.new2_ hnw5).c3
                             have HN5 := Lib.hid (And.intro (HA4.out.2.1.new_ hnw5) (And.intro hA5 hnw5))
                             clear hn5 hown5 hnw5 hA5)
                refine tof_good HF.out HN5.out.1 HN5.out.2.1 (HA4.out.2.2.1.new_ HN5.out.2.2) (fun k hk => ?_) (by rfl) (by rfl)
                have := HN5.out.2.2.size
                rcases hk with hk | hk
                · exact ⟨by omega, by omega⟩
                · exact ⟨by omega, by omega⟩
              · have HF := Lib.hid (show ofF b = none by rw [HO5.out, HP.out, if_neg (by simpa using hbs)])
                have he : (S1.toList == S2.toList) = false := by rw [Lib.toList_data, Lib.toList_data, ← HS1.out, ← HS2.out]; simpa using hbs
                clear hbs
                go_wp2_with (go_at_call 14; (with_reducible refine F5.out.mono ?_); rintro e w5 ⟨A5, n5, c5, rfl, hn5, hown5, hnw5⟩
                             have hs1 := run_string_of w5 A5 n5 c5 bs hown5.rd
                             rw [HS1.out] at hs1
                             have hs2 := run_string_of w5 (some ⟨bb, o, none⟩) n c b (HR.out.new_ (HA4.out.2.1.new_ hnw5))
                             rw [HS2.out] at hs2
                             have hA5 := HA4.out.1.new2_ hnw5
                             obtain ⟨y0, y1, y2, y3, y4, y5⟩ := hA5.c3
                             obtain ⟨u0, u1, u2, _⟩ := (HA4.out.2.2.2.new2_ hnw5).c3
                             have HN5 := Lib.hid (And.intro (HA4.out.2.1.new_ hnw5) (And.intro hA5 hnw5))
                             clear hn5 hown5 hnw5 hA5)
                exact tof_bad HF.out HN5.out.1 HN5.out.2.1 (by rfl) (by rfl)
            · have HF := Lib.hid (show ofF b = none by rw [HO5.out, HP.out, if_neg (by intro e; injection e with _ e; exact hk0 e)])
              have he : ((kx : Int) != 0) = true := by rw [bne_iff_ne]; omega
              have he2 : ((kx : Int) == 0) = false := by rw [beq_eq_false_iff_ne]; omega
              clear hk0
              go_wp2_with (go_at_call 14; (with_reducible refine F5.out.mono ?_); rintro e w5 ⟨A5, n5, c5, rfl, hn5, hown5, hnw5⟩
                           have hA5 := HA4.out.1.new2_ hnw5
                           obtain ⟨y0, y1, y2, y3, y4, y5⟩ := hA5.c3
                           obtain ⟨u0, u1, u2, _⟩ := (HA4.out.2.2.2.new2_ hnw5).c3
                           have HN5 := Lib.hid (And.intro (HA4.out.2.1.new_ hnw5) (And.intro hA5 hnw5))
                           clear hn5 hown5 hnw5 hA5)
              exact tof_bad HF.out HN5.out.1 HN5.out.2.1 (by rfl) (by rfl)
        · have HN := Lib.hid (show ofF b = none by rw [HO.out, hb4, if_neg (by simpa using hv1)])
          rw [hb4] at F2
          have e3 : ((v : Int) != 1) = true := by rw [bne_iff_ne]; omega
          have e4 : ((v : Int) == 1) = false := by rw [beq_eq_false_iff_ne]; omega
          clear hb4 hv1
          go_wp2_with (go_at_call 58; (with_reducible refine F2.out.mono ?_); rintro e w2 ⟨hc2, hj, rfl, hC2⟩; clear hj
                       have hA2 := hgA.chg hc2 (by omega)
                       obtain ⟨y0, y1, y2, y3, y4, y5⟩ := hA2.c3)
          exact tof_bad HN.out (hgN.trans hc2 (fun i hi hlt => by omega)) hA2 (by rfl) (by rfl)
end Go.Proofs.Ytfmmcjiehpdogaa
