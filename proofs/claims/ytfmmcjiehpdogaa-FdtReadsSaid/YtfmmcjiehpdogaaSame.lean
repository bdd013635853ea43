/-
  The program's Same says true of two readings of one tree. No condition but that memory bears them.
-/
import Derived.Test.YtfmmcjiehpdogaaFdtPuts
set_option linter.unusedVariables false
set_option linter.unusedSimpArgs false
namespace Go.Proofs.Ytfmmcjiehpdogaa
open Go.RowKit
attribute [local go_sem ↓] Go.wp_at_zero Go.wp_at_succ

set_option maxRecDepth 100000 in
set_option maxHeartbeats 1000000 in
theorem sameProp_any (s : ByteArray) (l : List UInt8) (A A2 : Option Addr) (c c2 : Nat) (w : World) (h : Rd w 1 A l.length (l.map bv)) (h2 : Rd w 1 A2 l.length (l.map bv)) :
    Calls Try.prog 60 #[.agg #[.string s, .slice A l.length c], .agg #[.string s, .slice A2 l.length c2]] w fun e w' => e = .returned (.bool true) ∧ New w w' := by
  have hal : New w ((w.alloc (.cells #[.string s, .slice A l.length c] 96)).alloc (.cells #[.string s, .slice A2 l.length c2] 96)) := ((Chg.refl _ _).alloc _).alloc _
  have hs1 := run_string_of _ A l.length c l (h.new_ hal)
  have hs2 := run_string_of _ A2 l.length c2 l (h2.new_ hal)
  obtain ⟨S, hS⟩ : ∃ S : ByteArray, ⟨l.toArray⟩ = S := ⟨_, rfl⟩
  rw [hS] at hs1 hs2
  have HAL := Lib.hid hal
  clear hal h h2 hS
  go_enter Try.func60, Try.ntmps60
  go_wp2_with fail
  go_ret
  exact ⟨by simp, HAL.out⟩

set_option maxRecDepth 100000 in
set_option maxHeartbeats 1000000 in
theorem eqProps_any (ps : List PropD) (B : Nat) (A A2 : Option Addr) (c c2 : Nat) (w : World) (hB : B ≤ w.heap.size) (hps : PropsAt w B A ps) (hps2 : PropsAt w B A2 ps) (hl : ps.length ≤ 140737488351232) :
    Calls Try.prog 61 #[.slice A ps.length c, .slice A2 ps.length c2, .func (.func 60) #[] #[]] w fun e w' => e = .returned (.bool true) ∧ New w w' := by
  go_enter Try.func61, Try.ntmps61
  go_wp2_with fail
  go_loopw [17] (fun i wr => ∃ j : Nat, j ≤ ps.length ∧ i = .int .i64 j ∧ New w wr) (fun i _ => ps.length - (intOf i).toNat)
  case atStart => exact ⟨0, Nat.zero_le _, rfl, Chg.refl _ _⟩
  case round =>
    obtain ⟨j, hj, rfl, hnw⟩ := hrel
    have HNW := Lib.hid hnw
    by_cases hlt : j < ps.length
    · have hjp : ps[j]? = some ps[j] := List.getElem?_eq_getElem hlt
      obtain ⟨q, hq⟩ : ∃ q, ps[j] = q := ⟨_, rfl⟩
      rw [hq] at hjp
      obtain ⟨b, o, Aq, cq, rfl, hbB, hq1, hq2, hq3, hq4, hq5, hq6, hq7⟩ := (hps.new_ hnw) j q hjp
      obtain ⟨b2, o2, Aq2, cq2, rfl, hbB2, r1, r2, r3, r4, r5, r6, r7⟩ := (hps2.new_ hnw) j q hjp
      have hz := hnw.size
      have hb1 : b < wr.heap.size := by omega
      have hb2 : b2 < wr.heap.size := by omega
      have hal : New wr ((wr.alloc (.cells #[.string q.1, .slice Aq q.2.length cq] 96)).alloc (.cells #[.string q.1, .slice Aq2 q.2.length cq2] 96)) := ((Chg.refl _ _).alloc _).alloc _
      have F := Lib.hid (sameProp_any q.1 q.2 Aq Aq2 cq cq2 _ (hq6.new_ hal) (r6.new_ hal))
      have HAL := Lib.hid (hnw.new_ hal)
      clear hjp hq hnw hq3 hq4 hq5 hq6 hq7 r3 r4 r5 r6 r7 hal
      go_wp2_with (go_at_call 60; (with_reducible refine F.out.mono ?_); rintro e w2 ⟨rfl, hn2⟩)
      go_roundw
      case rel => exact ⟨j + 1, by omega, by go_num, HAL.out.new_ hn2⟩
      case measure => simp [intOf]; omega
    · obtain rfl : j = ps.length := by omega
      go_wp2_with fail
      go_ret
      exact ⟨rfl, HNW.out⟩
/-- what Same says of two readings of t -/
def SameOk (t : TreeD) : Prop := ∀ (B : Nat) (v0 v1 v2 u0 u1 u2 : Value) (w : World), B ≤ w.heap.size → TreeIs w B v0 v1 v2 t → TreeIs w B u0 u1 u2 t →
  Calls Try.prog 23 #[.agg #[v0, v1, v2], .agg #[u0, u1, u2]] w fun e w' => e = .returned (.bool true) ∧ New w w'
/-- the kids' row, out of a tree's reading -/
def KidsAt (w : World) (B : Nat) (A : Option Addr) (ks : List TreeD) : Prop :=
  ∀ i k, ks[i]? = some k → ∃ b o v0 v1 v2, A = some ⟨b, o, none⟩ ∧ b < B ∧ w.cell? ⟨b, o + i * 3, none⟩ = some v0 ∧ w.cell? ⟨b, o + i * 3 + 1, none⟩ = some v1 ∧ w.cell? ⟨b, o + i * 3 + 2, none⟩ = some v2 ∧ TreeIs w B v0 v1 v2 k
theorem TreeIs.parts {w : World} {B : Nat} {v0 v1 v2 : Value} {nm : ByteArray} {ps : List PropD} {ks : List TreeD} (h : TreeIs w B v0 v1 v2 (.mk nm ps ks)) :
    ∃ Ap Ak cp ck, v0 = .string nm ∧ v1 = .slice Ap ps.length cp ∧ v2 = .slice Ak ks.length ck ∧ ps.length ≤ 140737488351232 ∧ ks.length ≤ 140737488351232 ∧ PropsAt w B Ap ps ∧ KidsAt w B Ak ks := by
  cases h with
  | mk _ _ _ Ap Ak cp ck c0 c1 c2 hn hp hp' hk hk' hps hc hks =>
    refine ⟨Ap, Ak, cp, ck, rfl, rfl, rfl, hp', hk', hps, fun i k hik => ?_⟩
    obtain ⟨hi, _⟩ := List.getElem?_eq_some_iff.1 hik
    obtain ⟨b, o, e, hb, h1, h2, h3⟩ := hc i hi
    exact ⟨b, o, _, _, _, e, hb, h1, h2, h3, hks i k hik⟩
theorem KidsAt.new_ {w w1 : World} {B : Nat} {A : Option Addr} {ks : List TreeD} (h : KidsAt w B A ks) (hc : New w w1) : KidsAt w1 B A ks := by
  intro i k hik
  obtain ⟨b, o, v0, v1, v2, e, hb, h1, h2, h3, h4⟩ := h i k hik
  exact ⟨b, o, v0, v1, v2, e, hb, cell_chg h1 hb hc (fun _ _ h => h), cell_chg h2 hb hc (fun _ _ h => h), cell_chg h3 hb hc (fun _ _ h => h), h4.new_ hc⟩

set_option maxRecDepth 100000 in
set_option maxHeartbeats 1000000 in
theorem eqKids_any (ks : List TreeD) (hk : ∀ k ∈ ks, SameOk k) (B : Nat) (A A2 : Option Addr) (c c2 : Nat) (w : World) (hB : B ≤ w.heap.size) (hks : KidsAt w B A ks) (hks2 : KidsAt w B A2 ks) (hl : ks.length ≤ 140737488351232) :
    Calls Try.prog 62 #[.slice A ks.length c, .slice A2 ks.length c2, .func (.func 23) #[] #[]] w fun e w' => e = .returned (.bool true) ∧ New w w' := by
  go_enter Try.func62, Try.ntmps62
  go_wp2_with fail
  go_loopw [17] (fun i wr => ∃ j : Nat, j ≤ ks.length ∧ i = .int .i64 j ∧ New w wr) (fun i _ => ks.length - (intOf i).toNat)
  case atStart => exact ⟨0, Nat.zero_le _, rfl, Chg.refl _ _⟩
  case round =>
    obtain ⟨j, hj, rfl, hnw⟩ := hrel
    have HNW := Lib.hid hnw
    by_cases hlt : j < ks.length
    · have hjp : ks[j]? = some ks[j] := List.getElem?_eq_getElem hlt
      have hok := hk _ (List.getElem_mem hlt)
      obtain ⟨q, hq⟩ : ∃ q, ks[j] = q := ⟨_, rfl⟩
      rw [hq] at hjp hok
      obtain ⟨b, o, v0, v1, v2, rfl, hbB, hq1, hq2, hq3, hq4⟩ := (hks.new_ hnw) j q hjp
      obtain ⟨b2, o2, u0, u1, u2, rfl, hbB2, r1, r2, r3, r4⟩ := (hks2.new_ hnw) j q hjp
      obtain ⟨Ax, Ax2, cx, cx2, rfl, rfl, rfl, _⟩ := hq4.shape
      obtain ⟨Ay, Ay2, cy, cy2, rfl, rfl, rfl, _⟩ := r4.shape
      have hz := hnw.size
      have hb1 : b < wr.heap.size := by omega
      have hb2 : b2 < wr.heap.size := by omega
      have hal : New wr ((wr.alloc (.cells #[.string q.name, .slice Ax q.props.length cx, .slice Ax2 q.kids.length cx2] 25)).alloc (.cells #[.string q.name, .slice Ay q.props.length cy, .slice Ay2 q.kids.length cy2] 25)) := ((Chg.refl _ _).alloc _).alloc _
      have F := Lib.hid (hok B _ _ _ _ _ _ _ (by have := hal.size; omega) (hq4.new_ hal) (r4.new_ hal))
      have HAL := Lib.hid (hnw.new_ hal)
      clear hjp hq hnw hq4 r4 hal hok hk
      go_wp2_with (go_at_call 23; (with_reducible refine F.out.mono ?_); rintro e w2 ⟨rfl, hn2⟩)
      go_roundw
      case rel => exact ⟨j + 1, by omega, by go_num, HAL.out.new_ hn2⟩
      case measure => simp [intOf]; omega
    · obtain rfl : j = ks.length := by omega
      clear hk
      go_wp2_with fail
      go_ret
      exact ⟨rfl, HNW.out⟩

set_option maxRecDepth 100000 in
set_option maxHeartbeats 1000000 in
theorem same_any (t : TreeD) : SameOk t := by
  induction t using TreeD.ind with
  | h nm ps ks ih =>
    intro B v0 v1 v2 u0 u1 u2 w hB ht ht2
    obtain ⟨Ap, Ak, cp, ck, rfl, rfl, rfl, hp', hk', hps, hks⟩ := ht.parts
    obtain ⟨Aq, Al, cq, cl, rfl, rfl, rfl, _, _, hps2, hks2⟩ := ht2.parts
    have hal : New w ((w.alloc (.cells #[.string nm, .slice Ap ps.length cp, .slice Ak ks.length ck] 25)).alloc (.cells #[.string nm, .slice Aq ps.length cq, .slice Al ks.length cl] 25)) := ((Chg.refl _ _).alloc _).alloc _
    have hb1 := (Blk.made w 25 #[.string nm, .slice Ap ps.length cp, .slice Ak ks.length ck]).alloc (.cells #[.string nm, .slice Aq ps.length cq, .slice Al ks.length cl] 25)
    have hb2 : Blk ((w.alloc (.cells #[.string nm, .slice Ap ps.length cp, .slice Ak ks.length ck] 25)).alloc (.cells #[.string nm, .slice Aq ps.length cq, .slice Al ks.length cl] 25)) (w.heap.size + 1) 25 #[.string nm, .slice Aq ps.length cq, .slice Al ks.length cl] := by
      have := Blk.made (w.alloc (.cells #[.string nm, .slice Ap ps.length cp, .slice Ak ks.length ck] 25)) 25 #[.string nm, .slice Aq ps.length cq, .slice Al ks.length cl]
      simpa using this
    have F := Lib.hid (eqProps_any ps B Ap Aq cp cq _ (by have := hal.size; omega) (hps.new_ hal) (hps2.new_ hal) hp')
    have HB := Lib.hid (And.intro hb1 hb2)
    have HK := Lib.hid (And.intro (hks.new_ hal) (hks2.new_ hal))
    have HAL := Lib.hid hal
    clear hps hps2 hks hks2 hal ht ht2 hb1 hb2
    go_enter Try.func23, Try.ntmps23
    go_wp2_with (go_at_call 61; (with_reducible refine F.out.mono ?_); rintro e w2 ⟨rfl, hn2⟩
                 obtain ⟨x0, x1, x2, _⟩ := (HB.out.1.chg hn2 (fun h => h)).c3
                 obtain ⟨y0, y1, y2, _⟩ := (HB.out.2.chg hn2 (fun h => h)).c3
                 have F2 := Lib.hid (eqKids_any ks ih B Ak Al ck cl w2 (by have := HAL.out.size; have := hn2.size; omega) (HK.out.1.new_ hn2) (HK.out.2.new_ hn2) hk'))
    go_wp2_with (go_at_call 62; (with_reducible refine F2.out.mono ?_); rintro e w3 ⟨rfl, hn3⟩)
    go_ret
    exact ⟨rfl, (HAL.out.new_ hn2).new_ hn3⟩
end Go.Proofs.Ytfmmcjiehpdogaa
