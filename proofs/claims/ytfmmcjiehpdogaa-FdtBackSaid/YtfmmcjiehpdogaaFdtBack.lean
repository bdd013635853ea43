/-
  The law FdtBack returns true and changes no old block. No condition but that memory bears the tree.
-/
import Derived.Test.YtfmmcjiehpdogaaBack
import Derived.Test.YtfmmcjiehpdogaaRefSame
set_option linter.unusedVariables false
set_option linter.unusedSimpArgs false
namespace Go.Proofs.Ytfmmcjiehpdogaa
open Go.RowKit
attribute [local go_sem ↓] Go.wp_at_zero Go.wp_at_succ

theorem Blk.new_ {w w1 : World} {g : Nat} {t : TypeId} {cs : Array Value} (h : Blk w g t cs) (hc : New w w1) : Blk w1 g t cs := h.chg hc (fun h => h)
theorem putF_err (t : TreeD) (h : (putF t).2 ≠ 0) : (putF t).1 = [] := by
  unfold putF at h ⊢
  split
  · rfl
  · rename_i hc
    rw [if_neg hc] at h
    simp only at h ⊢
    split
    · rfl
    · rename_i hl
      rw [if_neg hl] at h
      exact absurd rfl h
theorem putF_len (t : TreeD) : (putF t).1.length ≤ 16384 := by
  unfold putF
  split
  · simp
  · simp only
    split
    · simp
    · simp [puts32_length, headF]
      omega

set_option maxRecDepth 100000 in
set_option maxHeartbeats 2000000 in
theorem fdtBack_any (t : TreeD) (v0 v1 v2 : Value) (w : World) (ht : TreeIs w w.heap.size v0 v1 v2 t) :
    Calls Try.prog 7 #[.agg #[v0, v1, v2]] w fun e w' => e = .returned (.bool true) ∧ New w w' := by
  obtain ⟨Aq, Aq2, cq, cq2, rfl, rfl, rfl, hqs⟩ := ht.shape
  have hbox := Blk.made w 25 #[.string t.name, .slice Aq t.props.length cq, .slice Aq2 t.kids.length cq2]
  have hal : New w (w.alloc (.cells #[.string t.name, .slice Aq t.props.length cq, .slice Aq2 t.kids.length cq2] 25)) := (Chg.refl _ _).alloc _
  have hlen := putF_len t
  have herr := putF_err t
  have hbk := back_all t
  obtain ⟨bs, kx, hput⟩ : ∃ bs kx, putF t = (bs, kx) := ⟨_, _, rfl⟩
  rw [hput] at hlen herr hbk
  simp only at hlen herr
  have HP := Lib.hid hput
  have HT := Lib.hid ht
  have HB := Lib.hid (And.intro hbox hal)
  clear hput ht hbox hal
  by_cases hk : kx = 0
  · subst hk
    have HOF := Lib.hid (hbk bs rfl)
    clear hbk herr
    go_enter Try.func7, Try.ntmps7
    go_wp2_with (first
      | (go_at_call 11; (with_reducible refine (awake_any _).mono ?_); rintro e w2 ⟨rfl, hn⟩
         have hn2 := HB.out.2.new_ hn
         obtain ⟨hx0, hx1, hx2, _⟩ := (HB.out.1.chg hn (fun h => h)).c3
         have ht2 := Lib.hid ((HT.out.new_ hn2).more hn2.size)
         have HN2 := Lib.hid (And.intro hn2 (HB.out.1.chg hn (fun h => h)))
         clear hn hn2)
      | (go_at_call 12; (with_reducible refine (few_any t _ _ _ _ ht2.out).mono ?_); rintro e w3 ⟨b, rfl, hnw3⟩
         have hn3 := HN2.out.1.new_ hnw3
         obtain ⟨hy0, hy1, hy2, _⟩ := (HN2.out.2.chg hnw3 (fun h => h)).c3
         have ht3 := Lib.hid ((HT.out.new_ hn3).more hn3.size)
         have F4 := put_any t _ _ _ _ ht3.out
         rw [HP.out] at F4
         have F4 := Lib.hid F4
         have HN3 := Lib.hid (And.intro hn3 (HN2.out.2.chg hnw3 (fun h => h)))
         clear hn3 hnw3)
      | (go_at_call 13; (with_reducible refine F4.out.mono ?_); rintro e w4 ⟨A4, n4, c4, rfl, hn4, hown4, hnw4⟩
         simp only at hn4
         have hn04 := HN3.out.1.new_ hnw4
         obtain ⟨hz0, hz1, hz2, _⟩ := (HN3.out.2.chg hnw4 (fun h => h)).c3
         have F5 := Lib.hid (of_some HOF.out w4 hown4.rd (by omega) hown4.le.1)
         have HN4 := Lib.hid (And.intro hn04 (And.intro hn4 (HN3.out.2.chg hnw4 (fun h => h))))
         subst hn4
         clear hn04 hown4 hnw4)
      | (go_at_call 21; (with_reducible refine F5.out.mono ?_); rintro e w5 ⟨Ap, Ak, cp, ck, rfl, htz, hnw5⟩
         obtain ⟨hu0, hu1, hu2, _⟩ := (HN4.out.2.2.chg hnw5 (fun h => h)).c3
         have hlt5 : w.heap.size < w5.heap.size := (HN4.out.2.2.chg hnw5 (fun h => h)).lt
         have HN5 := Lib.hid (And.intro (HN4.out.1.new_ hnw5) (And.intro htz (HN4.out.2.2.chg hnw5 (fun h => h))))
         clear htz hnw5))
    · go_ret
      exact ⟨rfl, HN3.out.1⟩
    · obtain ⟨hn05, htz, hb5⟩ := HN5.out
      have hal6 : New w5 (w5.alloc (.cells #[.string t.name, .slice Ap t.props.length cp, .slice Ak t.kids.length ck] 25)) := (Chg.refl _ _).alloc _
      have hx6 := Blk.made w5 25 #[.string t.name, .slice Ap t.props.length cp, .slice Ak t.kids.length ck]
      have ho6 := (HT.out.new_ (hn05.new_ hal6)).more (B' := w5.heap.size) hn05.size
      have hz6 := htz.new_ hal6
      have hs6 := hal6.size
      have F6 := Lib.hid (same_any t w5.heap.size _ _ _ _ _ _ _ hs6 hz6 ho6)
      have HW := Lib.hid (And.intro hx6 (And.intro (hb5.new_ hal6) (And.intro hz6 (And.intro ho6 (And.intro (hn05.new_ hal6) hs6)))))
      clear hn05 htz hb5 hal6 hx6 ho6 hz6 hs6 HN5 HN4 HN3 HN2 F5 F4
      go_wp2_with (go_at_call 23; (with_reducible refine F6.out.mono ?_); rintro e w7 ⟨rfl, hn7⟩
                   obtain ⟨h1, h2, h3, h4, h5, h6⟩ := HW.out
                   obtain ⟨a0, a1, a2, _⟩ := (h1.chg hn7 (fun h => h)).c3
                   obtain ⟨b0, b1, b2, _⟩ := (h2.chg hn7 (fun h => h)).c3
                   have F8 := Lib.hid (rsame_any t w5.heap.size _ _ _ _ _ _ w7 (Nat.le_trans h6 hn7.size) (h3.new_ hn7) (h4.new_ hn7))
                   have HN7 := Lib.hid (h5.new_ hn7)
                   clear h1 h2 h3 h4 h5 h6 hn7)
      go_wp2_with (go_at_call 20; (with_reducible refine F8.out.mono ?_); rintro e w8 ⟨rfl, hn8⟩)
      go_ret
      exact ⟨rfl, HN7.out.new_ hn8⟩
  · have hb0 := herr hk
    subst hb0
    have he : ((kx : Int) == 0) = false := by rw [beq_eq_false_iff_ne]; omega
    have he2 : ((kx : Int) != 0) = true := by rw [bne_iff_ne]; omega
    clear hbk herr hk
    go_enter Try.func7, Try.ntmps7
    go_wp2_with (first
      | (go_at_call 11; (with_reducible refine (awake_any _).mono ?_); rintro e w2 ⟨rfl, hn⟩
         have hn2 := HB.out.2.new_ hn
         obtain ⟨hx0, hx1, hx2, _⟩ := (HB.out.1.chg hn (fun h => h)).c3
         have ht2 := Lib.hid ((HT.out.new_ hn2).more hn2.size)
         have HN2 := Lib.hid (And.intro hn2 (HB.out.1.chg hn (fun h => h)))
         clear hn hn2)
      | (go_at_call 12; (with_reducible refine (few_any t _ _ _ _ ht2.out).mono ?_); rintro e w3 ⟨b, rfl, hnw3⟩
         have hn3 := HN2.out.1.new_ hnw3
         obtain ⟨hy0, hy1, hy2, _⟩ := (HN2.out.2.chg hnw3 (fun h => h)).c3
         have ht3 := Lib.hid ((HT.out.new_ hn3).more hn3.size)
         have F4 := put_any t _ _ _ _ ht3.out
         rw [HP.out] at F4
         have F4 := Lib.hid F4
         have HN3 := Lib.hid (And.intro hn3 (HN2.out.2.chg hnw3 (fun h => h)))
         clear hn3 hnw3)
      | (go_at_call 13; (with_reducible refine F4.out.mono ?_); rintro e w4 ⟨A4, n4, c4, rfl, hn4, hown4, hnw4⟩
         simp only [List.length_nil] at hn4
         subst hn4
         have HN4 := Lib.hid (HN3.out.1.new_ hnw4)
         clear hown4 hnw4))
    · go_ret
      exact ⟨rfl, HN3.out.1⟩
    · go_ret
      exact ⟨rfl, HN4.out⟩
end Go.Proofs.Ytfmmcjiehpdogaa
