/-
  The reference's Same says true of two readings of one tree. No condition but that memory bears them.
-/
import Derived.Test.YtfmmcjiehpdogaaSame
set_option linter.unusedVariables false
set_option linter.unusedSimpArgs false
namespace Go.Proofs.Ytfmmcjiehpdogaa
open Go.RowKit
attribute [local go_sem ↓] Go.wp_at_zero Go.wp_at_succ

/-- what the reference's same says of two readings of t -/
def RSameOk (t : TreeD) : Prop := ∀ (B : Nat) (a : Int) (v0 v1 v2 u0 u1 u2 : Value) (w : World), B ≤ w.heap.size → TreeIs w B v0 v1 v2 t → TreeIs w B u0 u1 u2 t →
  Calls Try.prog 51 #[.agg #[v0, v1, v2], .agg #[u0, u1, u2], .int .i64 a] w fun e w' => e = .returned (.bool true) ∧ New w w'

theorem new_cell {w w2 : World} {b o : Nat} {v : Value} (hn : New w.drew w2) (h : w.cell? ⟨b, o, none⟩ = some v) : w2.cell? ⟨b, o, none⟩ = some v :=
  cell_chg (w := w.drew) (B := b + 1) h (by omega) hn (fun _ _ h => h)

set_option maxRecDepth 100000 in
set_option maxHeartbeats 2000000 in
theorem rsame_walk (t : TreeD) : RSameOk t := by
  induction t using TreeD.ind with
  | h nm ps ks ih =>
    intro B a v0 v1 v2 u0 u1 u2 w hB ht ht2
    obtain ⟨Ap, Ak, cp, ck, rfl, rfl, rfl, hp', hk', hps, hks⟩ := ht.parts
    obtain ⟨Aq, Al, cq, cl, rfl, rfl, rfl, _, _, hps2, hks2⟩ := ht2.parts
    have hal : New w ((w.alloc (.cells #[.string nm, .slice Ap ps.length cp, .slice Ak ks.length ck] 25)).alloc (.cells #[.string nm, .slice Aq ps.length cq, .slice Al ks.length cl] 25)) := ((Chg.refl _ _).alloc _).alloc _
    have hb1 := (Blk.made w 25 #[.string nm, .slice Ap ps.length cp, .slice Ak ks.length ck]).alloc (.cells #[.string nm, .slice Aq ps.length cq, .slice Al ks.length cl] 25)
    have hb2 : Blk ((w.alloc (.cells #[.string nm, .slice Ap ps.length cp, .slice Ak ks.length ck] 25)).alloc (.cells #[.string nm, .slice Aq ps.length cq, .slice Al ks.length cl] 25)) (w.heap.size + 1) 25 #[.string nm, .slice Aq ps.length cq, .slice Al ks.length cl] := by
      have := Blk.made (w.alloc (.cells #[.string nm, .slice Ap ps.length cp, .slice Ak ks.length ck] 25)) 25 #[.string nm, .slice Aq ps.length cq, .slice Al ks.length cl]
      simpa using this
    have HB := Lib.hid (And.intro hb1 hb2)
    have HP := Lib.hid (And.intro hps hps2)
    have HK := Lib.hid (And.intro hks hks2)
    have HAL := Lib.hid hal
    have HIH := Lib.hid ih
    obtain ⟨a1, ha1⟩ : ∃ a1, IntKind.i64.wrap (a + 1) = a1 := ⟨_, rfl⟩
    clear hps hps2 hks hks2 hal ht ht2 hb1 hb2 ih
    go_enter Try.func51, Try.ntmps51
    go_wp2_with fail
    go_loopw [35] (fun i wr => ∃ j : Nat, j ≤ ps.length ∧ i = .int .i64 j ∧ New w wr ∧ Blk wr w.heap.size 25 #[.string nm, .slice Ap ps.length cp, .slice Ak ks.length ck] ∧ Blk wr (w.heap.size + 1) 25 #[.string nm, .slice Aq ps.length cq, .slice Al ks.length cl]) (fun i _ => ps.length - (intOf i).toNat)
    case atStart => exact ⟨0, Nat.zero_le _, rfl, HAL.out, HB.out.1, HB.out.2⟩
    case round =>
      obtain ⟨j, hj, rfl, hnw, hg1, hg2⟩ := hrel
      have HNW := Lib.hid (And.intro hnw (And.intro hg1 hg2))
      obtain ⟨x0, x1, x2, _⟩ := hg1.c3
      obtain ⟨y0, y1, y2, _⟩ := hg2.c3
      by_cases hlt : j < ps.length
      · have hjp : ps[j]? = some ps[j] := List.getElem?_eq_getElem hlt
        obtain ⟨q, hq⟩ : ∃ q, ps[j] = q := ⟨_, rfl⟩
        rw [hq] at hjp
        obtain ⟨b, o, Ax, cx, rfl, hbB, hq1, hq2, hq3, hq4, hq5, hq6, hq7⟩ := (HP.out.1.new_ hnw) j q hjp
        obtain ⟨b2, o2, Ay, cy, rfl, hbB2, r1, r2, r3, r4, r5, r6, r7⟩ := (HP.out.2.new_ hnw) j q hjp
        have hs1 := run_string_of wr.drew Ax q.2.length cx q.2 hq6.drew
        have hs2 := run_string_of wr.drew Ay q.2.length cy q.2 r6.drew
        obtain ⟨S, hS⟩ : ∃ S : ByteArray, ⟨q.2.toArray⟩ = S := ⟨_, rfl⟩
        rw [hS] at hs1 hs2
        have i1 : (0 : Int) ≤ (j : Int) := by omega
        have i2 : (j : Int) < (ps.length : Int) := by omega
        clear hjp hq hnw hg1 hg2 hq3 hq4 hq5 hq6 hq7 r3 r4 r5 r6 r7 hS
        go_wp2_with fail
        go_region_held3 (fun wx => wx.cell? ⟨w.heap.size, 1, none⟩ = some (.slice (some ⟨b, o, none⟩) ps.length cp) ∧ wx.cell? ⟨w.heap.size + 1, 1, none⟩ = some (.slice (some ⟨b2, o2, none⟩) ps.length cq) ∧
            wx.cell? ⟨b, o + j * 2, none⟩ = some (.string q.1) ∧ wx.cell? ⟨b, o + j * 2 + 1, none⟩ = some (.slice Ax q.2.length cx) ∧ wx.cell? ⟨b2, o2 + j * 2, none⟩ = some (.string q.1) ∧ wx.cell? ⟨b2, o2 + j * 2 + 1, none⟩ = some (.slice Ay q.2.length cy) ∧
            (convert 28 9 (.slice Ax q.2.length cx)).run Try.prog wx = .ok (.string S) wx ∧ (convert 28 9 (.slice Ay q.2.length cy)).run Try.prog wx = .ok (.string S) wx) (exact ⟨x1, y1, hq1, hq2, r1, r2, hs1, hs2⟩) (fail)
        all_goals
          go_wp2_with fail
          go_roundw
          case rel => exact ⟨j + 1, by omega, by go_num, HNW.out.1.drew, HNW.out.2.1.drew, HNW.out.2.2.drew⟩
          case measure => simp [intOf]; omega
      · clear hnw hg1 hg2
        go_wp2_with fail
        go_loopw [72] (fun i wq => ∃ j : Nat, j ≤ ks.length ∧ i = .int .i64 j ∧ New w wq ∧ Blk wq w.heap.size 25 #[.string nm, .slice Ap ps.length cp, .slice Ak ks.length ck] ∧ Blk wq (w.heap.size + 1) 25 #[.string nm, .slice Aq ps.length cq, .slice Al ks.length cl]) (fun i _ => ks.length - (intOf i).toNat)
        case atStart => exact ⟨0, Nat.zero_le _, rfl, HNW.out.1, HNW.out.2.1, HNW.out.2.2⟩
        case round =>
          obtain ⟨k, hk, rfl, hnw, hg1, hg2⟩ := hrel
          clear x0 x1 x2 y0 y1 y2 HNW
          have HNW := Lib.hid (And.intro hnw (And.intro hg1 hg2))
          obtain ⟨x0, x1, x2, _⟩ := hg1.c3
          obtain ⟨y0, y1, y2, _⟩ := hg2.c3
          by_cases hlt2 : k < ks.length
          · have hjp : ks[k]? = some ks[k] := List.getElem?_eq_getElem hlt2
            have hok := HIH.out _ (List.getElem_mem hlt2)
            obtain ⟨q, hq⟩ : ∃ q, ks[k] = q := ⟨_, rfl⟩
            rw [hq] at hjp hok
            obtain ⟨b, o, v0, v1, v2, rfl, hbB, hq1, hq2, hq3, hq4⟩ := (HK.out.1.new_ hnw) k q hjp
            obtain ⟨b2, o2, u0, u1, u2, rfl, hbB2, r1, r2, r3, r4⟩ := (HK.out.2.new_ hnw) k q hjp
            obtain ⟨Ax, Ax2, cx, cx2, rfl, rfl, rfl, _⟩ := hq4.shape
            obtain ⟨Ay, Ay2, cy, cy2, rfl, rfl, rfl, _⟩ := r4.shape
            have hz := hnw.size
            have F := Lib.hid (hok B a1 _ _ _ _ _ _ wr.drew (by show B ≤ wr.heap.size; omega) (hq4.new_ (Chg.drew (Chg.refl _ _))) (r4.new_ (Chg.drew (Chg.refl _ _))))
            have i1 : (0 : Int) ≤ (k : Int) := by omega
            have i2 : (k : Int) < (ks.length : Int) := by omega
            clear hjp hq hnw hq4 r4 hok hg1 hg2
            go_wp2_with fail
            go_region_held3 (fun wx => wx.cell? ⟨w.heap.size, 2, none⟩ = some (.slice (some ⟨b, o, none⟩) ks.length ck) ∧ wx.cell? ⟨w.heap.size + 1, 2, none⟩ = some (.slice (some ⟨b2, o2, none⟩) ks.length cl) ∧
                wx.cell? ⟨b, o + k * 3, none⟩ = some (.string q.name) ∧ wx.cell? ⟨b, o + k * 3 + 1, none⟩ = some (.slice Ax q.props.length cx) ∧ wx.cell? ⟨b, o + k * 3 + 2, none⟩ = some (.slice Ax2 q.kids.length cx2) ∧
                wx.cell? ⟨b2, o2 + k * 3, none⟩ = some (.string q.name) ∧ wx.cell? ⟨b2, o2 + k * 3 + 1, none⟩ = some (.slice Ay q.props.length cy) ∧ wx.cell? ⟨b2, o2 + k * 3 + 2, none⟩ = some (.slice Ay2 q.kids.length cy2))
              (first | exact ⟨x2, y2, hq1, hq2, hq3, r1, r2, r3⟩ | exact hS2) (first
              | (go_at_call 51; (with_reducible refine F.out.mono ?_); rintro e w2 ⟨rfl, hn2⟩
                 have hS2 : w2.cell? ⟨w.heap.size, 2, none⟩ = some (.slice (some ⟨b, o, none⟩) ks.length ck) ∧ w2.cell? ⟨w.heap.size + 1, 2, none⟩ = some (.slice (some ⟨b2, o2, none⟩) ks.length cl) ∧
                    w2.cell? ⟨b, o + k * 3, none⟩ = some (.string q.name) ∧ w2.cell? ⟨b, o + k * 3 + 1, none⟩ = some (.slice Ax q.props.length cx) ∧ w2.cell? ⟨b, o + k * 3 + 2, none⟩ = some (.slice Ax2 q.kids.length cx2) ∧
                    w2.cell? ⟨b2, o2 + k * 3, none⟩ = some (.string q.name) ∧ w2.cell? ⟨b2, o2 + k * 3 + 1, none⟩ = some (.slice Ay q.props.length cy) ∧ w2.cell? ⟨b2, o2 + k * 3 + 2, none⟩ = some (.slice Ay2 q.kids.length cy2) :=
                   ⟨new_cell hn2 x2, new_cell hn2 y2, new_cell hn2 hq1, new_cell hn2 hq2, new_cell hn2 hq3, new_cell hn2 r1, new_cell hn2 r2, new_cell hn2 r3⟩))
            all_goals
              go_wp2_with fail
              go_roundw
              case rel => exact ⟨k + 1, by omega, by go_num, HNW.out.1.drew.new_ hn2, HNW.out.2.1.drew.chg hn2 (fun h => h), HNW.out.2.2.drew.chg hn2 (fun h => h)⟩
              case measure => simp [intOf]; omega
          · clear hnw hg1 hg2
            go_wp2_with fail
            go_ret
            exact ⟨rfl, HNW.out.1⟩

set_option maxRecDepth 100000 in
set_option maxHeartbeats 1000000 in
theorem rsame_any (t : TreeD) (B : Nat) (v0 v1 v2 u0 u1 u2 : Value) (w : World) (hB : B ≤ w.heap.size) (ht : TreeIs w B v0 v1 v2 t) (ht2 : TreeIs w B u0 u1 u2 t) :
    Calls Try.prog 20 #[.agg #[v0, v1, v2], .agg #[u0, u1, u2]] w fun e w' => e = .returned (.bool true) ∧ New w w' := by
  obtain ⟨Ap, Ak, cp, ck, rfl, rfl, rfl, _⟩ := ht.shape
  obtain ⟨Aq, Al, cq, cl, rfl, rfl, rfl, _⟩ := ht2.shape
  have hal : New w ((w.alloc (.cells #[.string t.name, .slice Ap t.props.length cp, .slice Ak t.kids.length ck] 25)).alloc (.cells #[.string t.name, .slice Aq t.props.length cq, .slice Al t.kids.length cl] 25)) := ((Chg.refl _ _).alloc _).alloc _
  have F := Lib.hid (rsame_walk t B 1 _ _ _ _ _ _ _ (by have := hal.size; omega) (ht.new_ hal) (ht2.new_ hal))
  have HAL := Lib.hid hal
  clear ht ht2 hal
  go_enter Try.func20, Try.ntmps20
  go_wp2_with (go_at_call 51; (with_reducible refine F.out.mono ?_); rintro e w2 ⟨rfl, hn2⟩)
  go_ret
  exact ⟨rfl, HAL.out.new_ hn2⟩
end Go.Proofs.Ytfmmcjiehpdogaa
