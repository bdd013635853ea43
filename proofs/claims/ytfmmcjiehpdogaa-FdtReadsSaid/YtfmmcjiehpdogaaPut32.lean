/-
  Numbers of 32 bits put behind bytes. No condition but that memory bears them.
-/
import Derived.Test.YtfmmcjiehpdogaaCopy
import Derived.Test.YtfmmcjiehpdogaaRefPut
set_option linter.unusedVariables false
set_option linter.unusedSimpArgs false
namespace Go.Proofs.Ytfmmcjiehpdogaa
open Go.RowKit

theorem size32_any (w : World) : Calls Try.prog 105 #[] w fun e w' => e = .returned (.int .i64 4) ∧ w = w' := by
  go_enter Try.func105, Try.ntmps105
  go_wp2
  go_ret
  exact ⟨rfl, rfl⟩

/-- numbers as bytes, one behind the other -/
def puts32 (l : List Nat) (low : Bool) : List UInt8 := l.flatMap fun x => putN x 4 low
theorem puts32_length (l : List Nat) (low : Bool) : (puts32 l low).length = 4 * l.length := by
  induction l with
  | nil => rfl
  | cons x l ih => simp only [puts32, List.flatMap_cons, List.length_append, putN_length, List.length_cons] at ih ⊢; omega
theorem puts32_take (l : List Nat) (low : Bool) (j : Nat) (h : j < l.length) : puts32 (l.take (j + 1)) low = puts32 (l.take j) low ++ putN l[j] 4 low := by
  unfold puts32
  rw [List.take_succ_eq_append_getElem h, List.flatMap_append]
  simp only [List.flatMap_cons, List.flatMap_nil, List.append_nil]
/-- a number as a cell -/
def wv32 (x : Nat) : Value := .int .u32 (x : Int)

set_option maxRecDepth 100000 in
set_option maxHeartbeats 1000000 in
theorem put32_any (A : Option Addr) (n c : Nat) (bs : List UInt8) (A2 : Option Addr) (m c2 : Nat) (l : List Nat) (w : World) (hr : Rd w 1 A n (bs.map bv)) (hr2 : Rd w 1 A2 m (l.map wv32))
    (hn : n ≤ 1099511627776) (hm : m ≤ 1099511627776) :
    Calls Try.prog 100 #[.slice A n c, .bool false, .slice A2 m c2] w fun e w' =>
      ∃ A' c', e = .returned (.slice A' (n + 4 * m) c') ∧ Own w' w.heap.size 5 1 A' (n + 4 * m) c' ((bs ++ puts32 l false).map bv) ∧ New w w' := by
  obtain ⟨i0, hi0, hz0, hz1, hz2⟩ := info_parts infoU8
  have hs1 : (Try.prog.info? 5).map (·.size) = some 1 := by kernel_rfl
  have hlm : l.length = m := by simpa using hr2.1
  have HL := Lib.hid hlm
  clear hlm
  go_enter Try.func100, Try.ntmps100
  go_wp2_with (first
    | (go_at_call 105; refine (size32_any _).mono ?_; rintro e w' ⟨rfl, rfl⟩)
    | (with_reducible refine stopAt 23 rfl ?_))
  refine unstop ?_
  refine wpList_make_x _ rfl _ _ 28 rfl 5 i0 (.int .u8 0) Try.underlying28 hi0 hz0 hz1 rfl .i64 .i64 _ _ n (n + 4 * m) rfl rfl rfl (by push_cast; rfl) (by omega) (by rw [hz2]; omega) (by simp only [maxLen]; omega) ?_
  intro w1 hown1 hnew1
  go_wp2_with (with_reducible refine stopAt 26 rfl ?_)
  refine unstop ?_
  refine wpList_copy_x _ rfl _ _ 28 28 rfl 5 Try.underlying28 hs1 _ _ n (n + 4 * m) _ rfl hown1 A n c _ rfl (hr.new_ hnew1) (Nat.le_refl _) (bv_one _) ?_
  intro w2 hown2 hg2
  have hnew2 : New w w2 := hnew1.grown hg2 (by intro k hk hlt; simp [blkOf] at hk; omega)
  go_wp2_with fail
  go_loopw [8, 29] (fun v i wr => ∃ (j : Nat) (A3 : Option Addr) (c3 : Nat), j ≤ m ∧ i = .int .i64 j ∧ v = .slice A3 (n + 4 * j) c3 ∧ Own wr w.heap.size 5 1 A3 (n + 4 * j) c3 ((bs ++ puts32 (l.take j) false).map bv) ∧ New w wr)
    (fun _ i _ => m - (intOf i).toNat)
  case atStart => exact ⟨0, _, _, Nat.zero_le _, rfl, rfl, by simpa [puts32, hr.1] using hown2, hnew2⟩
  case round =>
    obtain ⟨j, A3, c3, hj, rfl, rfl, hown, hnew⟩ := hrel
    by_cases hlt : j < m
    · obtain ⟨b, o, u, rfl, hbl, hu, hcell⟩ := (hr2.new_ hnew).at_ hlt
      have hjl : j < l.length := by rw [HL.out]; exact hlt
      obtain rfl : wv32 l[j] = u := by simpa [List.getElem?_map, List.getElem?_eq_getElem hjl] using hu
      have HT := Lib.hid (puts32_take l false j hjl)
      clear hu
      obtain ⟨x, hx⟩ : ∃ x, x = l[j] := ⟨_, rfl⟩
      rw [← hx] at hcell HT
      clear hx
      unfold wv32 at hcell
      obtain ⟨wo, rfl⟩ : ∃ wo : World, wo = wr := ⟨_, rfl⟩
      go_wp2_with fail
      go_loopw [8, 34] (fun v i wr => ∃ (k : Nat) (A4 : Option Addr) (c4 : Nat), k ≤ 4 ∧ i = .int .i64 k ∧ v = .slice A4 (n + 4 * j + k) c4 ∧ Own wr w.heap.size 5 1 A4 (n + 4 * j + k) c4 ((bs ++ puts32 (l.take j) false ++ (putN x 4 false).take k).map bv) ∧ New w wr)
        (fun _ i _ => 4 - (intOf i).toNat)
      case atStart => exact ⟨0, _, _, Nat.zero_le _, rfl, rfl, by simpa using hown, hnew⟩
      case round =>
        clear hown hnew hcell hbl
        obtain ⟨k, A4, c4, hk, rfl, rfl, hown, hnew⟩ := hrel
        by_cases hlt2 : k < 4
        · have H := Lib.hid (putN_take x 4 k false hlt2)
          go_wp2_with (with_reducible refine stopAt 50 rfl ?_)
          all_goals
            refine unstop ?_
            refine wpList_append_x _ rfl _ _ 28 rfl w.heap.size 5 i0 _ 1 1 Try.underlying28 hi0 hz0 hz1 hz2 rfl (by omega) A4 _ c4 _ rfl (hown.alloc _) _ 1 _ _ rfl (Rd.made _ _ _) (by simp [Value.oneCell']) (n + 4 * j + (k + 1)) (by omega) (by simp only [maxLen]; omega) (by omega) (by have := hnew.size; simp; omega) ?_
            intro A5 c5 w5 hown5 hg5 hat5
            go_wp2_with fail
            go_roundw
            case rel =>
              refine ⟨k + 1, A5, c5, by omega, by go_num, rfl, ?_, (hnew.alloc _).grown hg5 ?_⟩
              · rw [H.out, ← List.append_assoc, List.map_append]
                simp_all [bv_byteAt]
              · intro b hb hlt'
                have := hown.lt b hb
                omega
            case measure => simp [intOf]; omega
        · obtain rfl : k = 4 := by omega
          go_wp2_with fail
          go_roundw
          case rel =>
            refine ⟨j + 1, A4, c4, by omega, by go_num, rfl, ?_, hnew⟩
            rw [HT.out, ← List.append_assoc]
            rw [show (putN x 4 false).take 4 = putN x 4 false from List.take_of_length_le (by simp)] at hown
            exact hown
          case measure => simp [intOf]; omega
    · obtain rfl : j = m := by omega
      go_wp2_with fail
      go_ret
      refine ⟨A3, c3, rfl, ?_, hnew⟩
      rw [List.take_of_length_le (by rw [HL.out]; exact Nat.le_refl _)] at hown
      exact hown
end Go.Proofs.Ytfmmcjiehpdogaa
