/-
  The reference's text, its cursor in memory, the cursor's four. No condition but the lengths.
-/
import Derived.Test.YtfmmcjiehpdogaaRefNum
import Derived.Test.YtfmmcjiehpdogaaRMem
set_option linter.unusedVariables false
set_option linter.unusedSimpArgs false
namespace Go.Proofs.Ytfmmcjiehpdogaa
open Go.RowKit
attribute [local go_sem ↓] Go.wp_at_zero Go.wp_at_succ

/-- what the reference's text hands back -/
def RTextPost (s : Option (List UInt8)) (w : World) (e : Ending) (w' : World) : Prop :=
  w = w' ∧ match s with
    | some s => e = .returned (.tuple #[.string ⟨s.toArray⟩, .bool true])
    | none => e = .returned (.tuple #[.string ⟨#[]⟩, .bool false])

set_option maxRecDepth 100000 in
set_option maxHeartbeats 1000000 in
theorem rtext_any (A : Option Addr) (n c : Nat) (b : List UInt8) (p : Nat) (w : World) (hr : Rd w 1 A n (b.map bv)) (hn : n ≤ 140737488351232) (hp : p ≤ 1099511627776) (hc : n ≤ c) :
    Calls Try.prog 92 #[.slice A n c, .int .i64 p] w (RTextPost (textP b p) w) := by
  have hlb : b.length = n := by simpa using hr.1
  have HLB := Lib.hid hlb
  have HR := Lib.hid hr
  clear hlb hr
  go_enter Try.func92, Try.ntmps92
  go_wp2_with fail
  go_loopw [6] (fun i wr => w = wr ∧ ∃ j : Nat, p ≤ j ∧ (j ≤ n ∨ j = p) ∧ i = .int .i64 j ∧ (0 : UInt8) ∉ (b.drop p).take (j - p)) (fun i _ => n - (intOf i).toNat)
  case atStart => exact ⟨rfl, p, Nat.le_refl _, .inr rfl, rfl, by simp⟩
  case round =>
    obtain ⟨rfl, j, hpj, hj, rfl, hno⟩ := hrel
    have HNO := Lib.hid hno
    clear hno
    by_cases hlt : j < n
    · obtain ⟨bb, o, u, rfl, hbl, hu, hcell⟩ := HR.out.at_ hlt
      obtain ⟨y, hy⟩ : ∃ y, b[j]? = some y := ⟨b[j]'(by rw [HLB.out]; exact hlt), List.getElem?_eq_getElem _⟩
      rw [List.getElem?_map, hy] at hu
      injection hu with hu
      subst hu
      have HY := Lib.hid hy
      by_cases hz : y = 0
      · subst hz
        simp only [bv] at hcell
        have hpc : ¬ c = p := by omega
        have hjc : (j : Int) ≤ (c : Int) := by omega
        have hpj2 : (p : Int) ≤ (j : Int) := by omega
        have htx : textP b p = some ((b.drop p).take (j - p)) := by
          refine textP_of (r := b.drop (j + 1)) ?_ HNO.out
          obtain ⟨h1, h2⟩ := List.getElem?_eq_some_iff.1 HY.out
          have e1 : b.drop p = (b.drop p).take (j - p) ++ (b.drop p).drop (j - p) := (List.take_append_drop _ _).symm
          rw [List.drop_drop, show p + (j - p) = j by omega, List.drop_eq_getElem_cons h1, h2] at e1
          exact e1
        have hs := run_string_of w (some ⟨bb, o + p, none⟩) (j - p) (c - p) ((b.drop p).take (j - p)) (by
          have := (HR.out.from_ (k := p) (by omega)).take_ (k := j - p) (by omega)
          rw [Nat.mul_one, ← List.map_drop, ← List.map_take] at this
          exact this)
        have HTX := Lib.hid htx
        obtain ⟨T, hT⟩ : ∃ T, (b.drop p).take (j - p) = T := ⟨_, rfl⟩
        rw [hT] at hs
        have HT := Lib.hid hT
        clear hy htx hT
        go_wp2_with fail
        go_ret2
        rw [HTX.out, HT.out]
        exact ⟨rfl, rfl⟩
      · have hyn : ¬ ((0 : Int) = (y.toNat : Int)) := fun e => hz (by apply UInt8.toNat_inj.1; simp; omega)
        have hyn2 : ((y.toNat : Int) == 0) = false := by rw [beq_eq_false_iff_ne]; exact fun e => hyn e.symm
        simp only [bv] at hcell
        clear hy
        go_wp2_with fail
        go_roundw
        case rel =>
          refine ⟨by first | rfl | trivial, j + 1, by omega, .inl (by omega), by go_num, ?_⟩
          obtain ⟨h1, h2⟩ := List.getElem?_eq_some_iff.1 HY.out
          have h3 : (b.drop p)[j - p]? = some y := by rw [List.getElem?_drop, show p + (j - p) = j by omega]; exact HY.out
          obtain ⟨h4, h5⟩ := List.getElem?_eq_some_iff.1 h3
          rw [show j + 1 - p = (j - p) + 1 by omega, List.take_succ_eq_append_getElem h4, h5]
          simp only [List.mem_append, List.mem_singleton, not_or]
          exact ⟨HNO.out, fun e => hz e.symm⟩
        case measure => simp [intOf]; omega
    · go_wp2_with fail
      go_ret2
      have hno := HNO.out
      rw [List.take_of_length_le (by rw [List.length_drop, HLB.out]; omega)] at hno
      have htn : textP b p = none := by unfold textP; rw [if_neg hno]
      rw [htn]
      exact ⟨rfl, rfl⟩

/-- the cursor in block g; its bytes lie below block lo -/
def CurIs (w : World) (lo g : Nat) (b tx : List UInt8) (p : Nat) (bad : Bool) (l : Int) : Prop :=
  ∃ Ab cb At ct, Blk w g 132 #[.slice Ab b.length cb, .slice At tx.length ct, .int .i64 (p : Int), .bool bad, .int .i64 l] ∧ Rd w 1 Ab b.length (b.map bv) ∧ Rd w 1 At tx.length (tx.map bv) ∧
    b.length ≤ cb ∧ tx.length ≤ ct ∧ (∀ ad, Ab = some ad → ad.block < lo) ∧ (∀ ad, At = some ad → ad.block < lo) ∧ lo ≤ g
theorem CurIs.chg {S : Nat → Prop} {w w1 : World} {lo g p : Nat} {b tx : List UInt8} {bad : Bool} {l : Int} (h : CurIs w lo g b tx p bad l) (hc : Chg S w w1) (hS : ∀ k, k ≤ g → ¬ S k) : CurIs w1 lo g b tx p bad l := by
  obtain ⟨Ab, cb, At, ct, h1, h2, h3, h4, h5, h6, h7, h8⟩ := h
  exact ⟨Ab, cb, At, ct, h1.chg hc (hS _ (Nat.le_refl _)), h2.chg hc (fun ad e => hS _ (Nat.le_of_lt (Nat.lt_of_lt_of_le (h6 ad e) h8))), h3.chg hc (fun ad e => hS _ (Nat.le_of_lt (Nat.lt_of_lt_of_le (h7 ad e) h8))), h4, h5, h6, h7, h8⟩
theorem CurIs.new_ {w w1 : World} {lo g p : Nat} {b tx : List UInt8} {bad : Bool} {l : Int} (h : CurIs w lo g b tx p bad l) (hc : New w w1) : CurIs w1 lo g b tx p bad l := h.chg hc (fun _ _ h => h)
theorem CurIs.lt {w : World} {lo g p : Nat} {b tx : List UInt8} {bad : Bool} {l : Int} (h : CurIs w lo g b tx p bad l) : g < w.heap.size := by
  obtain ⟨Ab, cb, At, ct, h1, _⟩ := h
  exact h1.lt
theorem CurIs.go_ {w w' : World} {lo g p p' : Nat} {b tx : List UInt8} {bad bad' : Bool} {l l' : Int} (h : CurIs w lo g b tx p bad l) (hc : Chg (fun k => k = g) w w')
    (hb : ∀ Ab cb At ct, Blk w g 132 #[.slice Ab b.length cb, .slice At tx.length ct, .int .i64 (p : Int), .bool bad, .int .i64 l] →
      Blk w' g 132 #[.slice Ab b.length cb, .slice At tx.length ct, .int .i64 (p' : Int), .bool bad', .int .i64 l']) : CurIs w' lo g b tx p' bad' l' := by
  obtain ⟨Ab, cb, At, ct, h1, h2, h3, h4, h5, h6, h7, h8⟩ := h
  exact ⟨Ab, cb, At, ct, hb _ _ _ _ h1, h2.chg hc (fun ad e h => Nat.ne_of_lt (Nat.lt_of_lt_of_le (h6 ad e) h8) h), h3.chg hc (fun ad e h => Nat.ne_of_lt (Nat.lt_of_lt_of_le (h7 ad e) h8) h), h4, h5, h6, h7, h8⟩

section
variable {w : World} {lo g p : Nat} {b tx : List UInt8} {bad : Bool} {l : Int}
theorem CurIs.setleft (h : CurIs w lo g b tx p bad l) (l' : Int) : CurIs (w.setCell ⟨g, 4, none⟩ (.int .i64 l')) lo g b tx p bad l' :=
  h.go_ (Chg.setCell (S := fun k => k = g) (p := ⟨g, 4, none⟩) (Chg.refl _ _) (fun _ => rfl) _) (fun Ab cb At ct hb => by have := hb.set_ 4 (.int .i64 l'); simpa using this)
theorem CurIs.setbad (h : CurIs w lo g b tx p bad l) (v : Bool) : CurIs (w.setCell ⟨g, 3, none⟩ (.bool v)) lo g b tx p v l :=
  h.go_ (Chg.setCell (S := fun k => k = g) (p := ⟨g, 3, none⟩) (Chg.refl _ _) (fun _ => rfl) _) (fun Ab cb At ct hb => by have := hb.set_ 3 (.bool v); simpa using this)
theorem CurIs.setat (h : CurIs w lo g b tx p bad l) (p' : Nat) : CurIs (w.setCell ⟨g, 2, none⟩ (.int .i64 (p' : Int))) lo g b tx p' bad l :=
  h.go_ (Chg.setCell (S := fun k => k = g) (p := ⟨g, 2, none⟩) (Chg.refl _ _) (fun _ => rfl) _) (fun Ab cb At ct hb => by have := hb.set_ 2 (.int .i64 (p' : Int)); simpa using this)
theorem CurIs.alloc (h : CurIs w lo g b tx p bad l) (o : Obj) : CurIs (w.alloc o) lo g b tx p bad l := h.new_ ((Chg.refl _ _).alloc _)
theorem CurIs.drew (h : CurIs w lo g b tx p bad l) : CurIs w.drew lo g b tx p bad l := h.new_ ((Chg.refl _ _).drew)
theorem CurIs.drewN (h : CurIs w lo g b tx p bad l) (n : Nat) : CurIs (w.drewN n) lo g b tx p bad l := h.new_ ((Chg.refl _ _).drewN n)
/-- the cursor's cells -/
theorem CurIs.cells (h : CurIs w lo g b tx p bad l) : ∃ Ab cb At ct, w.cell? ⟨g, 0, none⟩ = some (.slice Ab b.length cb) ∧ w.cell? ⟨g, 1, none⟩ = some (.slice At tx.length ct) ∧ w.cell? ⟨g, 2, none⟩ = some (.int .i64 (p : Int)) ∧ w.cell? ⟨g, 3, none⟩ = some (.bool bad) ∧
    w.cell? ⟨g, 4, none⟩ = some (.int .i64 l) ∧ w.frozen? ⟨g, 2, none⟩ = false ∧ w.frozen? ⟨g, 3, none⟩ = false ∧ w.frozen? ⟨g, 4, none⟩ = false ∧ g < w.heap.size ∧ Rd w 1 Ab b.length (b.map bv) ∧ Rd w 1 At tx.length (tx.map bv) ∧ b.length ≤ cb ∧ tx.length ≤ ct ∧
    (∀ ad, Ab = some ad → ad.block < lo) ∧ lo ≤ g := by
  obtain ⟨Ab, cb, At, ct, h1, h2, h3, h4, h5, h6, h7, h8⟩ := h
  exact ⟨Ab, cb, At, ct, h1.cell 0, h1.cell 1, h1.cell 2, h1.cell 3, h1.cell 4, h1.frozen 2, h1.frozen 3, h1.frozen 4, h1.lt, h2, h3, h4, h5, h6, h8⟩
end

/-- what the cursor's four leaves -/
def CFourPost (lo g : Nat) (b tx : List UInt8) (p : Nat) (bad : Bool) (l : Int) (x : Option Nat) (w : World) (e : Ending) (w' : World) : Prop :=
  Chg (fun k => k = g) w w' ∧ (∀ i, i ≠ 2 → i ≠ 3 → w'.cell? ⟨g, i, none⟩ = w.cell? ⟨g, i, none⟩) ∧ match x with
    | some v => e = .returned (.int .i64 (v : Int)) ∧ CurIs w' lo g b tx (p + 4) bad l
    | none => e = .returned (.int .i64 0) ∧ CurIs w' lo g b tx p true l

set_option maxRecDepth 100000 in
set_option maxHeartbeats 1000000 in
theorem cur_four (lo g : Nat) (b tx : List UInt8) (p : Nat) (bad : Bool) (l : Int) (w : World) (h : CurIs w lo g b tx p bad l) (hb : b.length ≤ 140737488351232) (hp : p ≤ 1099511627000) :
    Calls Try.prog 58 #[.pointer (some ⟨g, 0, none⟩)] w (CFourPost lo g b tx p bad l (be32F b p) w) := by
  have HC := Lib.hid h
  obtain ⟨Ab, cb, At, ct, h1, h2, h3, h4, h5, h6, h7, h8⟩ := h
  have hc0 : w.cell? ⟨g, 0, none⟩ = some (.slice Ab b.length cb) := h1.cell 0
  have hc2 : w.cell? ⟨g, 2, none⟩ = some (.int .i64 (p : Int)) := h1.cell 2
  have hc3 : w.cell? ⟨g, 3, none⟩ = some (.bool bad) := h1.cell 3
  have hf2 := h1.frozen 2
  have hf3 := h1.frozen 3
  have hgl := h1.lt
  have F := number_any Ab b.length cb b p 4 w.drew h2.drew hb (by omega) (by omega)
  rw [show ((4 : Nat) : Int) = 4 from rfl, beF_4] at F
  have F := Lib.hid F
  cases hbe : be32F b p with
  | none =>
    rw [hbe] at F
    simp only [Option.getD_none, Option.isSome_none] at F
    clear hbe
    go_enter Try.func58, Try.ntmps58
    go_wp2_with fail
    go_region_held3 (fun wx => wx.cell? ⟨g, 0, none⟩ = some (.slice Ab b.length cb) ∧ wx.cell? ⟨g, 2, none⟩ = some (.int .i64 (p : Int))) (first | exact ⟨‹_›, ‹_›⟩ | go_keep) (first
      | (go_at_call 57; ((with_reducible refine F.out.mono ?_)); rintro e w' ⟨rfl, rfl⟩))
    go_wp2_with fail
    go_ret
    have hch : Chg (fun k => k = g) w (w.setCell ⟨g, 3, none⟩ (.bool true)).drew := (Chg.setCell (S := fun k => k = g) (p := ⟨g, 3, none⟩) (Chg.refl _ _) (fun _ => rfl) _).drew
    refine ⟨hch, fun i h2 h3 => World.cell?_setCell_other w _ _ _ (fun e => h3 (by injection e with _ e _; exact e.symm)), rfl, HC.out.go_ hch (fun Ab cb At ct hb => ?_)⟩
    have := (hb.set_ 3 (.bool true)).drew
    simpa using this
  | some x =>
    obtain ⟨hx, hxp⟩ := be32F_lt hbe
    rw [hbe] at F
    simp only [Option.getD_some, Option.isSome_some] at F
    clear hbe
    go_enter Try.func58, Try.ntmps58
    go_wp2_with fail
    go_region_held3 (fun wx => wx.cell? ⟨g, 0, none⟩ = some (.slice Ab b.length cb) ∧ wx.cell? ⟨g, 2, none⟩ = some (.int .i64 (p : Int))) (first | exact ⟨‹_›, ‹_›⟩ | go_keep) (first
      | (go_at_call 57; ((with_reducible refine F.out.mono ?_)); rintro e w' ⟨rfl, rfl⟩))
    go_wp2_with fail
    go_ret
    have hch : Chg (fun k => k = g) w (w.setCell ⟨g, 2, none⟩ (.int .i64 ((p : Int) + 4))).drew := (Chg.setCell (S := fun k => k = g) (p := ⟨g, 2, none⟩) (Chg.refl _ _) (fun _ => rfl) _).drew
    have hw : IntKind.i64.wrap (x : Int) = x := IntWalk.i64_in _ (by omega)
    refine ⟨hch, fun i h2 h3 => World.cell?_setCell_other w _ _ _ (fun e => h2 (by injection e with _ e _; exact e.symm)), by simp [hw], HC.out.go_ hch (fun Ab cb At ct hb => ?_)⟩
    have := (hb.set_ 2 (.int .i64 ((p : Int) + 4))).drew
    simpa using this
end Go.Proofs.Ytfmmcjiehpdogaa
