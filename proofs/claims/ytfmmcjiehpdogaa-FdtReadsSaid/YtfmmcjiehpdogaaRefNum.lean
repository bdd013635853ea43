/-
  The reference's Number reads bytes as numB says. No condition but the lengths.
-/
import Derived.Test.YtfmmcjiehpdogaaNum
set_option linter.unusedVariables false
set_option linter.unusedSimpArgs false
namespace Go.Proofs.Ytfmmcjiehpdogaa
open Go.RowKit

/-- the number of s bytes at p -/
def beF (s : Nat) (b : List UInt8) (p : Nat) : Option Nat := if p + s ≤ b.length then some (numB ((b.drop p).take s)) else none
theorem beF_4 (b : List UInt8) (p : Nat) : beF 4 b p = be32F b p := rfl
theorem numB_small8 (b : List UInt8) (p j : Nat) (hj : j ≤ 7) : numB ((b.drop p).take j) < 72057594037927936 := by
  have := numB_lt ((b.drop p).take j)
  have h2 : ((b.drop p).take j).length ≤ 7 := by rw [List.length_take]; omega
  have h3 : (256 : Nat) ^ ((b.drop p).take j).length ≤ 256 ^ 7 := Nat.pow_le_pow_right (by omega) h2
  omega
theorem u64_or (a b : Nat) (ha : a < 18446744073709551616) (hb : b < 18446744073709551616) : bits .or .u64 (a : Int) (b : Int) = ((a ||| b : Nat) : Int) := by
  have hx : a ||| b < 2 ^ 64 := Nat.or_lt_two_pow (by omega) (by omega)
  show IntKind.u64.wrap ((BitVec.ofInt 64 (a : Int) ||| BitVec.ofInt 64 (b : Int)).toNat : Int) = _
  rw [BitVec.ofInt_natCast, BitVec.ofInt_natCast, BitVec.toNat_or, BitVec.toNat_ofNat, BitVec.toNat_ofNat, Nat.mod_eq_of_lt (by omega), Nat.mod_eq_of_lt (by omega)]
  simp [IntKind.wrap, IntKind.signed, IntKind.bits]
  omega
theorem u64_step (X Y : Nat) (hX : X < 72057594037927936) (hY : Y < 256) : bits .or .u64 ((X : Int) * 256) (Y : Int) = ((X * 256 + Y : Nat) : Int) := by
  have e : (X : Int) * 256 = ((X * 256 : Nat) : Int) := by omega
  rw [e, u64_or (X * 256) Y (by omega) (by omega), or_byte X Y hY]

set_option maxRecDepth 100000 in
set_option maxHeartbeats 1000000 in
theorem number_any (A : Option Addr) (n c : Nat) (b : List UInt8) (p s : Nat) (w : World) (hr : Rd w 1 A n (b.map bv)) (hn : n ≤ 140737488351232) (hp : p ≤ 1099511627776) (hs : s ≤ 8) :
    Calls Try.prog 57 #[.slice A n c, .int .i64 p, .int .i64 s, .bool false] w fun e w' => e = .returned (.tuple #[.int .u64 (((beF s b p).getD 0 : Nat) : Int), .bool (beF s b p).isSome]) ∧ w = w' := by
  have hlb : b.length = n := by simpa using hr.1
  have HR := Lib.hid hr
  have HLB := Lib.hid hlb
  clear hr hlb
  by_cases hin : p + s ≤ n
  · have hbe : beF s b p = some (numB ((b.drop p).take s)) := by unfold beF; rw [if_pos (by rw [HLB.out]; exact hin)]
    have HBE := Lib.hid hbe
    clear hbe
    have q1 : decide ((n : Int) < (s : Int)) = false := decide_eq_false (by omega)
    have q2 : decide ((n : Int) - (s : Int) < (p : Int)) = false := decide_eq_false (by omega)
    go_enter Try.func57, Try.ntmps57
    go_wp2_with fail
    go_loopw [10, 11] (fun x i wr => w = wr ∧ ∃ j : Nat, j ≤ s ∧ i = .int .i64 j ∧ x = .int .u64 (numB ((b.drop p).take j) : Int)) (fun _ i _ => s - (intOf i).toNat)
    case atStart => exact ⟨rfl, 0, by omega, rfl, rfl⟩
    case round =>
      obtain ⟨rfl, j, hj, rfl, rfl⟩ := hrel
      by_cases hlt : j < s
      · obtain ⟨bb, o, u, rfl, hbl, hu, hcell⟩ := HR.out.at_ (k := p + j) (by omega)
        obtain ⟨y, hy⟩ : ∃ y, b[p + j]? = some y := ⟨b[p + j]'(by rw [HLB.out]; omega), List.getElem?_eq_getElem _⟩
        rw [List.getElem?_map, hy] at hu
        injection hu with hu
        subst hu
        have hsm := numB_small8 b p j (by omega)
        have HNX := Lib.hid (numB_take b p j y hy)
        obtain ⟨X, hX⟩ : ∃ X, numB ((b.drop p).take j) = X := ⟨_, rfl⟩
        rw [hX] at hsm ⊢
        have HX := Lib.hid hX
        have hyl := y.toNat_lt
        obtain ⟨Y, hY⟩ : ∃ Y, y.toNat = Y := ⟨_, rfl⟩
        have HY := Lib.hid hY
        rw [hY] at hyl
        simp only [bv, hY] at hcell
        clear hX hY hy
        have HST := Lib.hid (u64_step X Y hsm hyl)
        go_wp2_with fail
        go_roundw
        case rel =>
          refine ⟨by first | rfl | trivial, j + 1, by omega, by go_num, ?_⟩
          rw [HST.out, HNX.out, HX.out, HY.out]
        case measure => simp [intOf]; omega
      · obtain rfl : j = s := by omega
        go_wp2_with fail
        go_ret2
        rw [HBE.out]
        exact ⟨rfl, rfl⟩
  · have hbe : beF s b p = none := by unfold beF; rw [if_neg (by rw [HLB.out]; exact hin)]
    have HBE := Lib.hid hbe
    clear hbe
    have hbad : n < s ∨ (n : Int) - s < p := by omega
    go_enter Try.func57, Try.ntmps57
    go_wp2_with fail
    all_goals
      go_ret2
      rw [HBE.out]
      exact ⟨rfl, rfl⟩
end Go.Proofs.Ytfmmcjiehpdogaa
