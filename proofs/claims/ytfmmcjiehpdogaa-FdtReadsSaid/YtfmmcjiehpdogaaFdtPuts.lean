/-
  The law FdtPuts returns true and changes no old block. No condition but that memory bears the tree.
-/
import Derived.Test.YtfmmcjiehpdogaaAwake
import Derived.Test.YtfmmcjiehpdogaaRefPutTree
import Derived.Laws.IdiomStrings
import Derived.Lib.BufferRead
set_option linter.unusedVariables false
set_option linter.unusedSimpArgs false
namespace Go.Proofs.Ytfmmcjiehpdogaa
open Go.RowKit
attribute [local go_sem ↓] Go.wp_at_zero Go.wp_at_succ

/-- 'string(b)' -/
theorem run_string_of (w : World) (A : Option Addr) (n c : Nat) (l : List UInt8) (h : Rd w 1 A n (l.map bv)) :
    (convert 28 9 (.slice A n c)).run Try.prog w = .ok (.string ⟨l.toArray⟩) w := by
  have hl : l.length = n := by simpa using h.1
  subst hl
  cases A with
  | none =>
    have h0 : l.length = 0 := by
      rcases Nat.eq_zero_or_pos l.length with h0 | h0
      · exact h0
      · obtain ⟨ad, h1, _⟩ := h.2 h0
        cases h1
    obtain rfl : l = [] := List.eq_nil_of_length_eq_zero h0
    exact Lib.run_convert_nil_bytes w _ _ 5 c Try.underlying28 Try.underlying5 Try.underlying9
  | some ad =>
    refine run_convert_bytes_back w _ _ 5 ad c l Try.underlying28 Try.underlying5 Try.underlying9 (fun j hj => ?_)
    obtain ⟨ad', h1, h2⟩ := h.2 (by omega)
    injection h1 with h1
    subst h1
    exact h2 j _ (by rw [List.getElem?_map, List.getElem?_eq_getElem hj]; rfl)

set_option maxRecDepth 100000 in
set_option maxHeartbeats 1000000 in
theorem fdtPuts_any (t : TreeD) (v0 v1 v2 : Value) (w : World) (ht : TreeIs w w.heap.size v0 v1 v2 t) :
    Calls Try.prog 3 #[.agg #[v0, v1, v2]] w fun e w' => e = .returned (.bool true) ∧ New w w' := by
  obtain ⟨Aq, Aq2, cq, cq2, rfl, rfl, rfl, hqs⟩ := ht.shape
  have hbox := Blk.made w 25 #[.string t.name, .slice Aq t.props.length cq, .slice Aq2 t.kids.length cq2]
  have hal : New w (w.alloc (.cells #[.string t.name, .slice Aq t.props.length cq, .slice Aq2 t.kids.length cq2] 25)) := (Chg.refl _ _).alloc _
  go_enter Try.func3, Try.ntmps3
  go_wp2_with (first
    | (go_at_call 11; refine (awake_any _).mono ?_; rintro e w2 ⟨rfl, hn⟩
       have hn2 := hal.new_ hn
       obtain ⟨hx0, hx1, hx2, _⟩ := (hbox.chg hn (fun h => h)).c3
       have ht2 := Lib.hid ((ht.new_ hn2).more hn2.size))
    | (go_at_call 12; refine (few_any t _ _ _ _ ht2.out).mono ?_; rintro e w3 ⟨b, rfl, hnw3⟩
       have hn3 := hn2.new_ hnw3
       obtain ⟨hy0, hy1, hy2, _⟩ := ((hbox.chg hn (fun h => h)).chg hnw3 (fun h => h)).c3
       have ht3 := Lib.hid ((ht.new_ hn3).more hn3.size))
    | (go_at_call 13; refine (put_any t _ _ _ _ ht3.out).mono ?_; rintro e w4 ⟨A4, n4, c4, rfl, rfl, hown4, hnw4⟩
       have hn4 := hn3.new_ hnw4
       obtain ⟨hz0, hz1, hz2, _⟩ := (((hbox.chg hn (fun h => h)).chg hnw3 (fun h => h)).chg hnw4 (fun h => h)).c3
       have ht4 := Lib.hid ((ht.new_ hn4).more hn4.size))
    | (go_at_call 14; refine (rput_any t _ _ _ _ ht4.out).mono ?_; rintro e w5 ⟨A5, n5, c5, rfl, rfl, hown5, hnw5⟩
       have hn5 := hn4.new_ hnw5
       have hb5 := ((((hbox.chg hn (fun h => h)).chg hnw3 (fun h => h)).chg hnw4 (fun h => h)).chg hnw5 (fun h => h))
       obtain ⟨hu0, hu1, hu2, _⟩ := hb5.c3
       have ht5 := Lib.hid ((ht.new_ hn5).more hn5.size)))
  · go_ret
    exact ⟨rfl, hn3⟩
  · have hr4 := hown4.rd.new_ hnw5
    have hr5 := hown5.rd
    obtain ⟨bs, hbs⟩ : ∃ bs, (putF t).1 = bs := ⟨_, rfl⟩
    rw [hbs] at hr4 hr5 ⊢
    have hs4d := run_string_of w5.drew A4 bs.length c4 bs hr4.drew
    have hs5d := run_string_of w5.drew A5 bs.length c5 bs hr5.drew
    go_region_held3 (fun wx => wx.cell? ⟨w.heap.size, 0, none⟩ = some (.string t.name) ∧ wx.cell? ⟨w.heap.size, 1, none⟩ = some (.slice Aq t.props.length cq) ∧ wx.cell? ⟨w.heap.size, 2, none⟩ = some (.slice Aq2 t.kids.length cq2) ∧ (convert 28 9 (.slice A4 bs.length c4)).run Try.prog wx = .ok (.string ⟨bs.toArray⟩) wx ∧
        (convert 28 9 (.slice A5 bs.length c5)).run Try.prog wx = .ok (.string ⟨bs.toArray⟩) wx) (first | exact ⟨hu0, hu1, hu2, hs4d, hs5d⟩ | exact ⟨‹_›, ‹_›, ‹_›, ‹_›, ‹_›⟩) (first
      | (go_at_call 15
         refine (check_any t _ _ _ _ ((ht.new_ hn5.drew).more (by simpa using hn5.size))).mono ?_
         rintro e w6 ⟨rfl, hnw6⟩
         have hn56 : New w5 w6 := (Chg.drew (Chg.refl _ _)).new_ hnw6
         have hn6 := hn5.new_ hn56
         obtain ⟨hv0, hv1, hv2, _⟩ := (hb5.chg hn56 (fun h => h)).c3
         have hs46 := run_string_of w6 A4 bs.length c4 bs (hr4.new_ hn56)
         have hs56 := run_string_of w6 A5 bs.length c5 bs (hr5.new_ hn56)
         have ht6 := Lib.hid ((ht.new_ hn6).more hn6.size))
      | (go_at_call 16
         refine (refCheck_any t _ _ _ _ ht6.out).mono ?_
         rintro e w7 ⟨rfl, hnw7⟩
         have hn57 := hn56.new_ hnw7
         have hn7 := hn5.new_ hn57
         obtain ⟨hq0, hq1, hq2, _⟩ := (hb5.chg hn57 (fun h => h)).c3
         have hs4 := run_string_of w7 A4 bs.length c4 bs (hr4.new_ hn57)
         have hs5 := run_string_of w7 A5 bs.length c5 bs (hr5.new_ hn57)))
    all_goals
      go_wp2_with fail
      go_ret
      exact ⟨by simp, hn7⟩
end Go.Proofs.Ytfmmcjiehpdogaa
