/-
  The reference puts one number behind bytes. No condition but that memory bears them.
-/
import Derived.Test.YtfmmcjiehpdogaaMem
set_option linter.unusedVariables false
set_option linter.unusedSimpArgs false
namespace Go.Proofs.Ytfmmcjiehpdogaa
open Go.RowKit

/-- byte number k of x, from the lowest -/
def byteAt (x k : Nat) : UInt8 := UInt8.ofNat (x / 2 ^ (8 * k))
/-- x as k bytes, the lowest ahead or the highest -/
def putN (x k : Nat) (low : Bool) : List UInt8 := (List.range k).map fun i => byteAt x (if low then i else k - 1 - i)
@[simp] theorem putN_length (x k : Nat) (low : Bool) : (putN x k low).length = k := by simp [putN]

theorem bv_byteAt (x i : Nat) : bv (byteAt x i) = .int .u8 ((x : Int) / 2 ^ (8 * i) % 256) := by
  unfold bv byteAt
  congr 1
theorem putN_take (x k j : Nat) (low : Bool) (h : j < k) : (putN x k low).take (j + 1) = (putN x k low).take j ++ [byteAt x (if low then j else k - 1 - j)] := by
  rw [List.take_succ_eq_append_getElem (by simpa using h)]
  simp [putN]

theorem infoU8 : (Try.prog.info? 5).map (fun i => (i.zero, i.size, i.bytes)) = some (some (.int .u8 0), 1, 1) := by kernel_rfl

set_option maxRecDepth 100000 in
set_option maxHeartbeats 400000 in
theorem refPut_any (A : Option Addr) (n c : Nat) (bs : List UInt8) (x k : Nat) (low : Bool) (w : World) (hr : Rd w 1 A n (bs.map bv)) (hx : x < 18446744073709551616) (hk : k ≤ 8) (hn : n ≤ 1099511627776) :
    Calls Try.prog 81 #[.slice A n c, .int .u64 x, .int .i64 k, .bool low] w fun e w' =>
      ∃ A' c', e = .returned (.slice A' (n + k) c') ∧ Own w' w.heap.size 5 1 A' (n + k) c' ((bs ++ putN x k low).map bv) ∧ New w w' := by
  obtain ⟨i0, hi0, hz0, hz1, hz2⟩ := info_parts infoU8
  go_enter Try.func81, Try.ntmps81
  go_wp2_with (first
    | (at_builtin; refine wpList_append_x _ rfl _ _ 28 rfl w.heap.size 5 i0 _ 1 1 Try.underlying28 hi0 hz0 hz1 hz2 rfl (by omega) none 0 0 [] rfl (Own.nil_ _ _ _ _) A n c _ rfl hr (bv_one _) n (by omega) (by simp only [maxLen]; omega) (by omega) (Nat.le_refl _) ?_; intro A1 c1 w1 hown1 hg1 hat1))
  have hgb : New w w1 := (Chg.refl _ w).grown hg1 (by simp [blkOf])
  have hl1 : Hid (n + k ≤ 1099511627784) := by show _ ≤ _; omega
  go_loopw [9, 10] (fun v i wr => ∃ (j : Nat) (A2 : Option Addr) (c2 : Nat), j ≤ k ∧ i = .int .i64 j ∧ v = .slice A2 (n + j) c2 ∧ Own wr w.heap.size 5 1 A2 (n + j) c2 ((bs ++ (putN x k low).take j).map bv) ∧ New w wr)
    (fun _ i _ => k - (intOf i).toNat)
  case atStart => exact ⟨0, A1, c1, Nat.zero_le _, rfl, rfl, by simpa using hown1, hgb⟩
  case round =>
    obtain ⟨j, A2, c2, hj, rfl, rfl, hown, hnew⟩ := hrel
    by_cases hlt : j < k
    · have H := Lib.hid (putN_take x k j low hlt)
      go_wp2_with (at_builtin; refine stop ?_)
      all_goals
        refine unstop ?_
        refine wpList_append_x _ rfl _ _ 28 rfl w.heap.size 5 i0 _ 1 1 Try.underlying28 hi0 hz0 hz1 hz2 rfl (by omega) A2 (n + j) c2 _ rfl (hown.alloc _) _ 1 _ _ rfl (Rd.made _ _ _) (by simp [Value.oneCell']) (n + (j + 1)) (by omega) (by simp only [maxLen]; omega) (by omega) (by have := hnew.size; simp; omega) ?_
        intro A3 c3 w3 hown3 hg3 hat3
        go_wp2_with fail
        go_roundw
        case rel =>
          refine ⟨j + 1, A3, c3, by omega, by go_num, rfl, ?_, (hnew.alloc _).grown hg3 ?_⟩
          · rw [H.out, ← List.append_assoc, List.map_append]
            simp_all [bv_byteAt]
          · intro b hb hlt'
            have := hown.lt b hb
            omega
        case measure => simp [intOf]; omega
    · obtain rfl : j = k := by omega
      rw [List.take_of_length_le (by simp)] at hown
      go_wp2_with fail
      go_ret
      exact ⟨A2, c2, rfl, hown, hnew⟩
end Go.Proofs.Ytfmmcjiehpdogaa
