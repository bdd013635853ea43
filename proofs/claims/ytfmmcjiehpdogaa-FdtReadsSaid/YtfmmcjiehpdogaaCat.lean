/-
  word.Cat: rows of bytes put behind one another. No condition but that memory bears it.
-/
import Derived.Test.YtfmmcjiehpdogaaBuf
set_option linter.unusedVariables false
set_option linter.unusedSimpArgs false
namespace Go.Proofs.Ytfmmcjiehpdogaa
open Go.RowKit

/-- rows of bytes at A -/
def RowsAt (w : World) (A : Option Addr) (n : Nat) (ls : List (List UInt8)) : Prop :=
  ls.length = n ∧ ∀ i l, ls[i]? = some l → ∃ b o A' c', A = some ⟨b, o, none⟩ ∧ w.cell? ⟨b, o + i, none⟩ = some (.slice A' l.length c') ∧ Rd w 1 A' l.length (l.map bv)
theorem RowsAt.new_ {w w1 : World} {A : Option Addr} {n : Nat} {ls : List (List UInt8)} (h : RowsAt w A n ls) (hc : New w w1) : RowsAt w1 A n ls := by
  refine ⟨h.1, fun i l hl => ?_⟩
  obtain ⟨b, o, A', c', rfl, h1, h2⟩ := h.2 i l hl
  exact ⟨b, o, A', c', rfl, by rw [hc.cell (World.block_lt_of_cell? w _ h1) (fun h => h)]; exact h1, h2.new_ hc⟩

theorem flat_take (ls : List (List UInt8)) (j : Nat) (h : j < ls.length) : (ls.take (j + 1)).flatten = (ls.take j).flatten ++ ls[j] := by
  rw [List.take_succ_eq_append_getElem h, List.flatten_append]; simp
theorem flat_le (ls : List (List UInt8)) (j : Nat) : (ls.take j).flatten.length ≤ ls.flatten.length := by
  conv => rhs; rw [← List.take_append_drop j ls, List.flatten_append, List.length_append]
  omega

set_option maxRecDepth 100000 in
set_option maxHeartbeats 1000000 in
theorem cat_any (A : Option Addr) (n c : Nat) (ls : List (List UInt8)) (w : World) (h : RowsAt w A n ls) (hn : n ≤ 1099511627776) (hl : ls.flatten.length ≤ 1099511627776) :
    Calls Try.prog 34 #[.slice A n c] w fun e w' =>
      ∃ A' c', e = .returned (.slice A' ls.flatten.length c') ∧ Own w' w.heap.size 5 1 A' ls.flatten.length c' (ls.flatten.map bv) ∧ New w w' := by
  obtain ⟨i0, hi0, hz0, hz1, hz2⟩ := info_parts infoU8
  have hlen := h.1
  have H := Lib.hid h
  clear h
  go_enter Try.func34, Try.ntmps34
  go_wp2_with fail
  go_loopw [3, 11] (fun s i wr => w = wr ∧ ∃ (j : Nat), j ≤ n ∧ i = .int .i64 j ∧ s = .int .i64 ((ls.take j).flatten.length : Int)) (fun _ i _ => n - (intOf i).toNat)
  case atStart => exact ⟨rfl, 0, Nat.zero_le _, rfl, rfl⟩
  case round =>
    obtain ⟨rfl, j, hj, rfl, rfl⟩ := hrel
    have hfl := flat_le ls j
    by_cases hlt : j < n
    · have hjl : j < ls.length := by omega
      have hft := flat_take ls j hjl
      have hfl2 := flat_le ls (j + 1)
      obtain ⟨b, o, A', c', rfl, h1, h2⟩ := H.out.2 j _ (List.getElem?_eq_getElem hjl)
      have hft2 : (ls.take (j + 1)).flatten.length = (ls.take j).flatten.length + ls[j].length := by rw [hft, List.length_append]
      have HFT := Lib.hid hft2
      obtain ⟨L, hL⟩ : ∃ L, (ls.take j).flatten.length = L := ⟨_, rfl⟩
      obtain ⟨L2, hL2⟩ : ∃ L, ls[j].length = L := ⟨_, rfl⟩
      rw [hL, hL2] at hft2
      rw [hL] at hfl
      rw [hL2] at h1
      rw [hft2] at hfl2
      have HL := Lib.hid hL
      have HL2 := Lib.hid hL2
      rw [hL]
      clear hL hL2 hft h2
      go_wp2_with fail
      go_roundw
      case rel => exact ⟨by first | rfl | trivial, j + 1, by omega, by go_num, by rw [HFT.out, HL.out, HL2.out]; go_num⟩
      case measure => simp [intOf]; omega
    · obtain rfl : n = j := by omega
      rw [List.take_of_length_le (by omega)]
      obtain ⟨L, hL⟩ : ∃ L, ls.flatten.length = L := ⟨_, rfl⟩
      rw [hL] at hl ⊢
      have HL := Lib.hid hL
      clear hL hfl
      go_wp2_with (with_reducible refine stopAt 21 rfl ?_)
      refine unstop ?_
      refine wpList_make_x _ rfl _ _ 28 rfl 5 i0 _ Try.underlying28 hi0 hz0 hz1 rfl .i64 .i64 _ _ 0 L rfl rfl rfl rfl (Nat.zero_le _) (by rw [hz2]; omega) (by simp only [maxLen]; omega) ?_
      intro w2 hown2 hnew2
      go_wp2_with fail
      go_loopw [6, 24] (fun s i wr => ∃ (j : Nat) (A' : Option Addr) (c' : Nat), j ≤ n ∧ i = .int .i64 j ∧ s = .slice A' (ls.take j).flatten.length c' ∧ Own wr w.heap.size 5 1 A' (ls.take j).flatten.length c' ((ls.take j).flatten.map bv) ∧ New w wr) (fun _ i _ => n - (intOf i).toNat)
      case atStart => exact ⟨0, _, _, Nat.zero_le _, rfl, rfl, hown2, hnew2⟩
      case round =>
        clear hown2 hnew2
        obtain ⟨j, A3, c3, hj, rfl, rfl, hown, hnew⟩ := hrel
        have hfl := flat_le ls j
        rw [HL.out] at hfl
        by_cases hlt : j < n
        · have hjl : j < ls.length := by omega
          have hft := flat_take ls j hjl
          have hfl2 := flat_le ls (j + 1)
          rw [HL.out] at hfl2
          obtain ⟨b, o, A', c', rfl, h1, h2⟩ := (H.out.new_ hnew).2 j _ (List.getElem?_eq_getElem hjl)
          have hft2 : (ls.take (j + 1)).flatten.length = (ls.take j).flatten.length + ls[j].length := by rw [hft, List.length_append]
          have HFT := Lib.hid hft
          have HFT2 := Lib.hid hft2
          rw [hft2] at hfl2
          clear hft hft2
          go_wp2_with (with_reducible refine stopAt 30 rfl ?_)
          refine unstop ?_
          refine wpList_append_x _ rfl _ _ 28 rfl w.heap.size 5 i0 _ 1 1 Try.underlying28 hi0 hz0 hz1 hz2 rfl (by omega) A3 _ c3 _ rfl hown A' _ c' _ rfl h2 (bv_one _) ((ls.take j).flatten.length + ls[j].length) rfl (by simp only [maxLen]; omega) (by omega) hnew.size ?_
          intro A5 c5 w5 hown5 hg5 hat5
          go_wp2_with fail
          go_roundw
          case rel =>
            refine ⟨j + 1, A5, c5, by omega, by go_num, by rw [HFT2.out]; simp, by rw [HFT2.out, HFT.out, List.map_append]; exact hown5, hnew.grown hg5 (fun k hk hlt => ?_)⟩
            have := (hown.lt k hk).1
            omega
          case measure => simp [intOf]; omega
        · obtain rfl : n = j := by omega
          rw [List.take_of_length_le (by omega)] at hown ⊢
          go_wp2_with fail
          go_ret
          exact ⟨A3, c3, by rw [HL.out]; rfl, hown, hnew⟩
end Go.Proofs.Ytfmmcjiehpdogaa
