/-
  The program's reader in memory; its methods four and up; text, Clone. No condition but the lengths.
-/
import Derived.Test.YtfmmcjiehpdogaaMust
import Derived.Test.YtfmmcjiehpdogaaFdtPuts
set_option linter.unusedVariables false
set_option linter.unusedSimpArgs false
namespace Go.Proofs.Ytfmmcjiehpdogaa
open Go.RowKit
attribute [local go_sem ↓] Go.wp_at_zero Go.wp_at_succ

theorem be32_any (A : Option Addr) (n c : Nat) (b : List UInt8) (p : Nat) (w : World) (hr : Rd w 1 A n (b.map bv)) (hn : n ≤ 140737488351232) (hp : p ≤ 1099511627776) :
    Calls Try.prog 53 #[.slice A n c, .int .i64 p] w fun e w' => e = .returned (.tuple #[.int .u32 (((be32F b p).getD 0 : Nat) : Int), .bool (be32F b p).isSome]) ∧ w = w' := by
  have F := Lib.hid (read32_any A n c b p w hr hn hp)
  clear hr
  go_enter Try.func53, Try.ntmps53
  go_wp2_with (go_at_call 88; (refine F.out.mono ?_); rintro e w' ⟨rfl, rfl⟩)
  go_ret2
  exact ⟨rfl, rfl⟩

/-- the reader in block g: bytes b, texts tx, place p, so many left -/
def ReaderIs (w : World) (g : Nat) (b tx : List UInt8) (p : Nat) (l : Int) : Prop :=
  ∃ Ab cb At ct, Blk w g 125 #[.slice Ab b.length cb, .slice At tx.length ct, .int .i64 (p : Int), .int .i64 l] ∧ Rd w 1 Ab b.length (b.map bv) ∧ Rd w 1 At tx.length (tx.map bv) ∧
    b.length ≤ cb ∧ tx.length ≤ ct ∧ (∀ ad, Ab = some ad → ad.block < g) ∧ (∀ ad, At = some ad → ad.block < g)
theorem ReaderIs.new_ {w w1 : World} {g p : Nat} {b tx : List UInt8} {l : Int} (h : ReaderIs w g b tx p l) (hc : New w w1) : ReaderIs w1 g b tx p l := by
  obtain ⟨Ab, cb, At, ct, h1, h2, h3, h4, h5, h6, h7⟩ := h
  exact ⟨Ab, cb, At, ct, h1.chg hc (fun h => h), h2.new_ hc, h3.new_ hc, h4, h5, h6, h7⟩
theorem ReaderIs.lt {w : World} {g p : Nat} {b tx : List UInt8} {l : Int} (h : ReaderIs w g b tx p l) : g < w.heap.size := by
  obtain ⟨Ab, cb, At, ct, h1, _⟩ := h
  exact h1.lt

/-- a step of the reader that turns its numbers alone -/
theorem ReaderIs.go_ {w w' : World} {g p p' : Nat} {b tx : List UInt8} {l l' : Int} (h : ReaderIs w g b tx p l) (hc : Chg (fun k => k = g) w w')
    (hb : ∀ Ab cb At ct, Blk w g 125 #[.slice Ab b.length cb, .slice At tx.length ct, .int .i64 (p : Int), .int .i64 l] → Blk w' g 125 #[.slice Ab b.length cb, .slice At tx.length ct, .int .i64 (p' : Int), .int .i64 l']) :
    ReaderIs w' g b tx p' l' := by
  obtain ⟨Ab, cb, At, ct, h1, h2, h3, h4, h5, h6, h7⟩ := h
  exact ⟨Ab, cb, At, ct, hb _ _ _ _ h1, h2.chg hc (fun ad e h => Nat.ne_of_lt (h6 ad e) h), h3.chg hc (fun ad e h => Nat.ne_of_lt (h7 ad e) h), h4, h5, h6, h7⟩

/-- what the reader's 'four' leaves -/
def FourPost (g : Nat) (b tx : List UInt8) (p : Nat) (l : Int) (x : Option Nat) (w : World) (e : Ending) (w' : World) : Prop :=
  Chg (fun k => k = g) w w' ∧ match x with
    | some v => e = .returned (.int .i64 (v : Int)) ∧ ReaderIs w' g b tx (p + 4) l ∧ ∀ i, i ≠ 2 → w'.cell? ⟨g, i, none⟩ = w.cell? ⟨g, i, none⟩
    | none => e = .panicked wrongCh

set_option maxRecDepth 100000 in
set_option maxHeartbeats 1000000 in
theorem rd_four (g : Nat) (b tx : List UInt8) (p : Nat) (l : Int) (w : World) (h : ReaderIs w g b tx p l) (hb : b.length ≤ 140737488351232) (hp : p ≤ 1099511627000) :
    Calls Try.prog 55 #[.pointer (some ⟨g, 0, none⟩)] w (FourPost g b tx p l (be32F b p) w) := by
  obtain ⟨Ab, cb, At, ct, h1, h2, h3, h4, h5, h6, h7⟩ := h
  have hc0 : w.cell? ⟨g, 0, none⟩ = some (.slice Ab b.length cb) := h1.cell 0
  have hc2 : w.cell? ⟨g, 2, none⟩ = some (.int .i64 (p : Int)) := h1.cell 2
  have hf2 := h1.frozen 2
  have hgl := h1.lt
  have F := Lib.hid (be32_any Ab b.length cb b p w.drew h2.drew hb (by omega))
  cases hbe : be32F b p with
  | none =>
    rw [hbe] at F
    simp only [Option.getD_none, Option.isSome_none] at F
    clear hbe
    go_enter Try.func55, Try.ntmps55
    go_wp2_with fail
    go_region_held3 (fun wx => wx.cell? ⟨g, 0, none⟩ = some (.slice Ab b.length cb) ∧ wx.cell? ⟨g, 2, none⟩ = some (.int .i64 (p : Int))) (first | exact ⟨‹_›, ‹_›⟩ | go_keep) (first
      | (go_at_call 53; (refine F.out.mono ?_); rintro e w' ⟨rfl, rfl⟩))
    go_wp2_with (go_at_call 54; (refine (must_false _).mono ?_); rintro e w' ⟨rfl, rfl⟩)
    exact ⟨rfl, Chg.drew (Chg.refl _ _), rfl⟩
  | some x =>
    obtain ⟨hx, hxp⟩ := be32F_lt hbe
    rw [hbe] at F
    simp only [Option.getD_some, Option.isSome_some] at F
    clear hbe
    go_enter Try.func55, Try.ntmps55
    go_wp2_with fail
    go_region_held3 (fun wx => wx.cell? ⟨g, 0, none⟩ = some (.slice Ab b.length cb) ∧ wx.cell? ⟨g, 2, none⟩ = some (.int .i64 (p : Int))) (first | exact ⟨‹_›, ‹_›⟩ | go_keep) (first
      | (go_at_call 53; (refine F.out.mono ?_); rintro e w' ⟨rfl, rfl⟩))
    go_wp2_with (go_at_call 54; (refine (must_true _).mono ?_); rintro e w' ⟨rfl, rfl⟩)
    go_ret
    have hw : IntKind.i64.wrap (x : Int) = x := IntWalk.i64_in _ (by omega)
    have hch : Chg (fun k => k = g) w (w.setCell ⟨g, 2, none⟩ (.int .i64 ((p : Int) + 4))).drew := (Chg.setCell (S := fun k => k = g) (p := ⟨g, 2, none⟩) (Chg.refl _ _) (fun _ => rfl) _).drew
    refine ⟨hch, by simp [hw], ReaderIs.go_ ⟨Ab, cb, At, ct, h1, h2, h3, h4, h5, h6, h7⟩ hch (fun Ab cb At ct hb => ?_), fun i hi => ?_⟩
    · have := (hb.set_ 2 (.int .i64 ((p : Int) + 4))).drew
      simpa using this
    · exact World.cell?_setCell_other w _ _ _ (fun e => hi (by injection e with _ e _; exact e.symm))

set_option maxRecDepth 100000 in
set_option maxHeartbeats 1000000 in
/-- 'up' goes on, where the reader has so much -/
theorem rd_up (g : Nat) (b tx : List UInt8) (p : Nat) (l : Int) (n : Nat) (w : World) (h : ReaderIs w g b tx p l) (hb : b.length ≤ 1099511627776) (hn : p + n ≤ b.length) :
    Calls Try.prog 90 #[.pointer (some ⟨g, 0, none⟩), .int .i64 n] w fun e w' => e = .returned (.tuple #[]) ∧ ReaderIs w' g b tx (p + (n + 3) / 4 * 4) l ∧ Chg (fun k => k = g) w w' := by
  have hR := Lib.hid h
  obtain ⟨Ab, cb, At, ct, h1, h2, h3, h4, h5, h6, h7⟩ := h
  have hc0 : w.cell? ⟨g, 0, none⟩ = some (.slice Ab b.length cb) := h1.cell 0
  have hc2 : w.cell? ⟨g, 2, none⟩ = some (.int .i64 (p : Int)) := h1.cell 2
  have hf2 := h1.frozen 2
  have hgl := h1.lt
  have e1 : IntKind.i64.wrap ((b.length : Int) - (p : Int)) = (b.length : Int) - (p : Int) := IntWalk.i64_in _ (by omega)
  have e2 : decide ((n : Int) ≤ (b.length : Int) - (p : Int)) = true := decide_eq_true (by omega)
  have e3 : ((n : Int) + 3).tdiv 4 = (((n + 3) / 4 : Nat) : Int) := by rw [Int.tdiv_eq_ediv_of_nonneg (by omega)]; omega
  go_enter Try.func90, Try.ntmps90
  go_wp2_with fail
  go_region_held3 (fun wx => wx.cell? ⟨g, 0, none⟩ = some (.slice Ab b.length cb) ∧ wx.cell? ⟨g, 2, none⟩ = some (.int .i64 (p : Int))) (first | exact ⟨‹_›, ‹_›⟩ | go_keep) (first
    | (go_at_call 54; (refine (must_true _).mono ?_); rintro e w' ⟨rfl, rfl⟩))
  go_wp2_with fail
  go_end0
  have hch : Chg (fun k => k = g) w (w.setCell ⟨g, 2, none⟩ (.int .i64 ((p : Int) + ((n : Int) + 3) / 4 * 4))).drew := (Chg.setCell (S := fun k => k = g) (p := ⟨g, 2, none⟩) (Chg.refl _ _) (fun _ => rfl) _).drew
  refine ⟨rfl, ReaderIs.go_ hR.out hch (fun Ab cb At ct hb => ?_), hch⟩
  have := (hb.set_ 2 (.int .i64 ((p : Int) + ((n : Int) + 3) / 4 * 4))).drew
  simpa using this
end Go.Proofs.Ytfmmcjiehpdogaa
