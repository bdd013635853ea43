/-
  What the buffer's methods four and fill leave. No condition but that memory bears the bytes.
-/
import Derived.Test.YtfmmcjiehpdogaaPut32
import Derived.Deep.RegionHeld3
import Derived.Deep.RegionLaw
import Derived.Deep.DrawnRows
set_option linter.unusedVariables false
set_option linter.unusedSimpArgs false
namespace Go.Proofs.Ytfmmcjiehpdogaa
open Go.RowKit
attribute [local go_sem ↓] Go.wp_at_zero Go.wp_at_succ

theorem step_of_wp {P : Program} {ops : Array Oper} {o : Oper} {a : Act} {w : World} {K : Act → World → Prop} {Q : Exit → Act → World → Prop} {E : Prop} (hgd : o.guard = none) (h : o.wp P a w K Q) :
    if Region.wanted o (yielded ops a.tmps) = true then Oper.wp P o a w K Q else E := by
  have hw : Region.wanted o (yielded ops a.tmps) = true := by simp [Region.wanted, hgd]
  rw [if_pos hw]
  exact h

set_option maxRecDepth 100000 in
set_option maxHeartbeats 1000000 in
theorem putBe32_any (A : Option Addr) (n c : Nat) (bs : List UInt8) (A2 : Option Addr) (m c2 : Nat) (l : List Nat) (w : World) (hr : Rd w 1 A n (bs.map bv)) (hr2 : Rd w 1 A2 m (l.map wv32))
    (hn : n ≤ 1099511627776) (hm : m ≤ 1099511627776) :
    Calls Try.prog 78 #[.slice A n c, .slice A2 m c2] w fun e w' =>
      ∃ A' c', e = .returned (.slice A' (n + 4 * m) c') ∧ Own w' w.heap.size 5 1 A' (n + 4 * m) c' ((bs ++ puts32 l false).map bv) ∧ New w w' := by
  have HR := Lib.hid hr
  have HR2 := Lib.hid hr2
  clear hr hr2
  go_enter Try.func78, Try.ntmps78
  go_wp2_with (go_at_call 100; refine (put32_any _ _ _ bs _ _ _ l _ HR.out HR2.out hn hm).mono ?_; rintro e w2 ⟨A', c', rfl, h1, h2⟩)
  go_ret
  exact ⟨A', c', rfl, h1, h2⟩

/-- what a change of the bytes in cell 0 of block g leaves -/
def BufPost (g : Nat) (t : TypeId) (cs : Array Value) (A : Option Addr) (bs : List UInt8) (w : World) (e : Ending) (w' : World) : Prop :=
  e = .returned (.tuple #[]) ∧ ∃ A' n' c', Blk w' g t (cs.setIfInBounds 0 (.slice A' n' c')) ∧ n' = bs.length ∧ Own w' 0 5 1 A' n' c' (bs.map bv) ∧ Chg (fun k => k = g ∨ blkOf A = some k) w w' ∧ (blkOf A' = blkOf A ∨ ∀ k, blkOf A' = some k → w.heap.size ≤ k)

set_option maxRecDepth 100000 in
set_option maxHeartbeats 1000000 in
theorem four_any (g : Nat) (t : TypeId) (cs : Array Value) (A : Option Addr) (n c : Nat) (bs : List UInt8) (A2 : Option Addr) (m c2 : Nat) (l : List Nat) (w : World) (hg : Blk w g t cs) (h0 : cs[0]? = some (.slice A n c))
    (hown : Own w 0 5 1 A n c (bs.map bv)) (hr2 : Rd w 1 A2 m (l.map wv32)) (hn : n ≤ 1099511627776) (hm : m ≤ 1099511627776) :
    Calls Try.prog 33 #[.pointer (some ⟨g, 0, none⟩), .slice A2 m c2] w (BufPost g t cs A (bs ++ puts32 l false) w) := by
  have hc0 : w.cell? ⟨g, 0, none⟩ = some (.slice A n c) := (hg.cell 0).trans h0
  have hf0 := hg.frozen 0
  have HR := Lib.hid hown.rd
  have HR2 := Lib.hid hr2
  have hlt := hg.lt
  clear hr2
  go_enter Try.func33, Try.ntmps33
  go_wp2_with (go_at_call 78; refine (putBe32_any _ _ _ bs _ _ _ l _ HR.out HR2.out hn hm).mono ?_; rintro e w2 ⟨A', c', rfl, hown2, hnew⟩; obtain ⟨hcl, hfr⟩ := New.cells hnew)
  go_end0
  have hlb : bs.length = n := by simpa using hown.1
  have hlm : l.length = m := by simpa using HR2.out.1
  have hne : ∀ k, blkOf A' = some k → k ≠ g := fun k hk => by have := (hown2.lt k hk).1; omega
  refine ⟨rfl, A', _, c', (hg.chg hnew (fun h => h)).set_ 0 _, ?_, ((hown2.low (Nat.zero_le _)).far hne _), ?_, .inr fun k hk => (hown2.lt k hk).1⟩
  · rw [List.length_append, puts32_length, hlb, hlm]
  · exact (hnew.mono (fun _ h _ => h.elim)).setCell (fun _ => .inl rfl) _

/-- bytes, filled up to a multiple of four -/
def pad4 (l : List UInt8) : List UInt8 := l ++ List.replicate ((4 - l.length % 4) % 4) 0

set_option maxRecDepth 100000 in
set_option maxHeartbeats 1000000 in
theorem fill_any (g : Nat) (t : TypeId) (cs : Array Value) (A : Option Addr) (n c : Nat) (bs : List UInt8) (A2 : Option Addr) (m c2 : Nat) (l : List UInt8) (w : World) (hg : Blk w g t cs) (h0 : cs[0]? = some (.slice A n c))
    (hown : Own w 0 5 1 A n c (bs.map bv)) (hr2 : Rd w 1 A2 m (l.map bv)) (hn : n ≤ 1099511627776) (hm : m ≤ 1099511627776) (hty : 5 ≠ t) :
    Calls Try.prog 76 #[.pointer (some ⟨g, 0, none⟩), .slice A2 m c2] w (BufPost g t cs A (pad4 (bs ++ l)) w) := by
  obtain ⟨i0, hi0, hz0, hz1, hz2⟩ := info_parts infoU8
  have hc0 : w.cell? ⟨g, 0, none⟩ = some (.slice A n c) := (hg.cell 0).trans h0
  have hf0 := hg.frozen 0
  have HR2 := Lib.hid hr2
  have hlt := hg.lt
  clear hr2
  go_enter Try.func76, Try.ntmps76
  go_wp2_with (with_reducible refine stopAt 10 rfl ?_)
  refine unstop ?_
  refine wpList_append_x _ rfl _ _ 28 rfl 0 5 i0 _ 1 1 Try.underlying28 hi0 hz0 hz1 hz2 rfl (by omega) A n c _ rfl hown A2 m c2 _ rfl HR2.out (bv_one _) (n + m) rfl (by simp only [maxLen]; omega) (by omega) (Nat.zero_le _) ?_
  intro A3 c3 w3 hown3 hg3 hat3
  have hne : ∀ k, blkOf A = some k → k ≠ g := hown.ne_ hg hty
  have hch3 : Chg (fun k => blkOf A = some k) w w3 := (Chg.refl _ _).grown hg3 (fun k hk _ => hk)
  have hgw3 := hg.chg hch3 (fun h => (hne _ h) rfl)
  have hc3 : w3.cell? ⟨g, 0, none⟩ = some (.slice A n c) := (hgw3.cell 0).trans h0
  have hf3 := hgw3.frozen 0
  go_wp2_with fail
  have hg4 := hgw3.set_ 0 (.slice A3 (n + m) c3)
  have hown4 := hown3.far (p := ⟨g, 0, none⟩) (hown3.ne_ hgw3 hty) (.slice A3 (n + m) c3)
  have hch4 : Chg (fun k => k = g ∨ blkOf A = some k) w (w3.setCell ⟨g, 0, none⟩ (.slice A3 (n + m) c3)) := (hch3.mono (fun k h _ => .inr h)).setCell (fun _ => .inl rfl) _
  have hc4 : (w3.setCell ⟨g, 0, none⟩ (.slice A3 (n + m) c3)).cell? ⟨g, 0, none⟩ = some (.slice A3 (n + m) c3) := by
    rw [hg4.cell 0]
    have : 0 < cs.size := (Array.getElem?_eq_some_iff.1 h0).1
    simp [this]
  have hf4 := hg4.frozen 0
  have hlt4 := hg4.lt
  clear hc3 hf3 hc0 hf0
  generalize w3.setCell ⟨g, 0, none⟩ (.slice A3 (n + m) c3) = w4 at *
  have hLb : n + m ≤ 2199023255552 := by omega
  obtain ⟨L, hL⟩ : ∃ L, n + m = L := ⟨_, rfl⟩
  rw [hL] at hown4 hc4 hg4 hLb ⊢
  have HL := Lib.hid hL
  have hne4 : ∀ k, blkOf A3 = some k → k ≠ g := hown4.ne_ hg4 hty
  have hsz0 : 0 < cs.size := (Array.getElem?_eq_some_iff.1 h0).1
  clear hL hown3 hgw3
  have e1 : (L : Int).tmod 4 = (L : Int) % 4 := Int.tmod_eq_emod_of_nonneg (by omega)
  have e2 : IntKind.i64.wrap (4 - (L : Int) % 4) = 4 - (L : Int) % 4 := IntWalk.i64_in _ (by omega)
  have e3 : (4 - (L : Int) % 4).tmod 4 = (((4 - L % 4) % 4 : Nat) : Int) := by rw [Int.tmod_eq_emod_of_nonneg (by omega)]; omega
  go_region_law (first
    | (refine step_of_wp rfl (wp_append_zeros _ _ _ 28 3 rfl 0 5 i0 Try.underlying28 .i64 Try.underlying3 hi0 hz0 hz1 hz2 A3 L c3 _ rfl hown4 .i64 ((4 - L % 4) % 4) rfl (L + (4 - L % 4) % 4) rfl (by simp only [maxLen]; omega) (by omega) (Nat.zero_le _) ?_)
       intro A5 c5 w5 hown5 hg5 hat5
       have hch5 : Chg (fun k => blkOf A3 = some k) w4 w5 := (Chg.drew (Chg.refl _ _)).grown hg5 (fun k hk _ => hk)
       have hgw5 := hg4.chg hch5 (fun h => hne4 _ h rfl)
       have hc5 : w5.cell? ⟨g, 0, none⟩ = some (.slice A3 L c3) := by rw [hgw5.cell 0]; simp [hsz0]
       have hf5 := hgw5.frozen 0))
  all_goals
    go_wp2_with fail
    go_end0
    have hlb : bs.length = n := by simpa using hown.1
    have hlm : l.length = m := by simpa using HR2.out.1
    have hne5 : ∀ k, blkOf A5 = some k → k ≠ g := hown5.ne_ hgw5 hty
    refine ⟨rfl, A5, _, c5, by simpa using hgw5.set_ 0 (.slice A5 (L + (4 - L % 4) % 4) c5), ?_, ?_, ?_, ?_⟩
    · rw [pad4, List.length_append, List.length_append, List.length_replicate, hlb, hlm, HL.out]
    · have := hown5.far (p := ⟨g, 0, none⟩) hne5 (.slice A5 (L + (4 - L % 4) % 4) c5)
      rw [pad4, List.length_append, hlb, hlm, HL.out, List.map_append, List.map_append, List.map_replicate]
      exact this
    · have hA3 : ∀ i, blkOf A3 = some i → i < w.heap.size → i = g ∨ blkOf A = some i := by
        intro i hi hlt
        rcases hat3 with h | h
        · exact .inr (h ▸ hi)
        · rw [h] at hi
          injection hi with hi
          omega
      exact (hch4.trans hch5 hA3).setCell (fun _ => .inl rfl) _
    · rcases hat5 with h | h
      · rcases hat3 with h' | h'
        · exact .inl (h.trans h')
        · refine .inr fun k hk => ?_
          rw [h, h'] at hk
          injection hk with hk
          omega
      · refine .inr fun k hk => ?_
        rw [h] at hk
        injection hk with hk
        have := hch4.size
        simp at hk
        omega
end Go.Proofs.Ytfmmcjiehpdogaa
