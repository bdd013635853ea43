/-
  Numbers read out of bytes: word.Be32, the reference's Number. No condition.
-/
import Derived.Test.YtfmmcjiehpdogaaParse
set_option linter.unusedVariables false
set_option linter.unusedSimpArgs false
namespace Go.Proofs.Ytfmmcjiehpdogaa
open Go.RowKit

theorem numB_take (b : List UInt8) (p j : Nat) (c : UInt8) (h : b[p + j]? = some c) : numB ((b.drop p).take (j + 1)) = numB ((b.drop p).take j) * 256 + c.toNat := by
  have h1 : (b.drop p)[j]? = some c := by rw [List.getElem?_drop]; exact h
  obtain ⟨hl, h2⟩ := List.getElem?_eq_some_iff.1 h1
  rw [List.take_succ_eq_append_getElem hl, h2, numB_snoc]
theorem numB_small (b : List UInt8) (p j : Nat) (hj : j ≤ 3) : numB ((b.drop p).take j) < 16777216 := by
  have := numB_lt ((b.drop p).take j)
  have h2 : ((b.drop p).take j).length ≤ 3 := by rw [List.length_take]; omega
  have h3 : (256 : Nat) ^ ((b.drop p).take j).length ≤ 256 ^ 3 := Nat.pow_le_pow_right (by omega) h2
  omega
theorem or_byte (x c : Nat) (hc : c < 256) : x * 256 ||| c = x * 256 + c := by
  have := Nat.two_pow_add_eq_or_of_lt (i := 8) (b := c) (by omega) x
  rw [show (2 : Nat) ^ 8 = 256 from rfl, Nat.mul_comm 256 x] at this
  exact this.symm

theorem u32_or (a b : Nat) (ha : a < 4294967296) (hb : b < 4294967296) : bits .or .u32 (a : Int) (b : Int) = ((a ||| b : Nat) : Int) := by
  have hx : a ||| b < 2 ^ 32 := Nat.or_lt_two_pow (by omega) (by omega)
  show IntKind.u32.wrap ((BitVec.ofInt 32 (a : Int) ||| BitVec.ofInt 32 (b : Int)).toNat : Int) = _
  rw [BitVec.ofInt_natCast, BitVec.ofInt_natCast, BitVec.toNat_or, BitVec.toNat_ofNat, BitVec.toNat_ofNat, Nat.mod_eq_of_lt (by omega), Nat.mod_eq_of_lt (by omega)]
  simp [IntKind.wrap, IntKind.signed, IntKind.bits]
  omega

set_option maxRecDepth 100000 in
set_option maxHeartbeats 1000000 in
theorem read32_any (A : Option Addr) (n c : Nat) (b : List UInt8) (p : Nat) (w : World) (hr : Rd w 1 A n (b.map bv)) (hn : n ≤ 140737488351232) (hp : p ≤ 1099511627776) :
    Calls Try.prog 88 #[.slice A n c, .int .i64 p, .bool false] w fun e w' => e = .returned (.tuple #[.int .u32 (((be32F b p).getD 0 : Nat) : Int), .bool (be32F b p).isSome]) ∧ w = w' := by
  have hlb : b.length = n := by simpa using hr.1
  have HR := Lib.hid hr
  have HLB := Lib.hid hlb
  clear hr hlb
  by_cases hin : p + 4 ≤ n
  · have hbe : be32F b p = some (numB ((b.drop p).take 4)) := by unfold be32F; rw [if_pos (by rw [HLB.out]; exact hin)]
    have HBE := Lib.hid hbe
    clear hbe
    go_enter Try.func88, Try.ntmps88
    go_wp2_with (go_at_call 105; refine (size32_any _).mono ?_; rintro e w' ⟨rfl, rfl⟩)
    go_loopw [9, 30] (fun x i wr => w = wr ∧ ∃ j : Nat, j ≤ 4 ∧ i = .int .i64 j ∧ x = .int .u32 (numB ((b.drop p).take j) : Int)) (fun _ i _ => 4 - (intOf i).toNat)
    case atStart => exact ⟨rfl, 0, by omega, rfl, rfl⟩
    case round =>
      obtain ⟨rfl, j, hj, rfl, rfl⟩ := hrel
      by_cases hlt : j < 4
      · obtain ⟨bb, o, u, rfl, hbl, hu, hcell⟩ := HR.out.at_ (k := p + j) (by omega)
        obtain ⟨y, hy⟩ : ∃ y, b[p + j]? = some y := ⟨b[p + j]'(by rw [HLB.out]; omega), List.getElem?_eq_getElem _⟩
        rw [List.getElem?_map, hy] at hu
        injection hu with hu
        subst hu
        have hsm := numB_small b p j (by omega)
        have HNX := Lib.hid (numB_take b p j y hy)
        obtain ⟨X, hX⟩ : ∃ X, numB ((b.drop p).take j) = X := ⟨_, rfl⟩
        rw [hX] at hsm ⊢
        have HX := Lib.hid hX
        have hyl := y.toNat_lt
        obtain ⟨Y, hY⟩ : ∃ Y, y.toNat = Y := ⟨_, rfl⟩
        have HY := Lib.hid hY
        rw [hY] at hyl
        simp only [bv, hY] at hcell
        clear hX hY hy
        go_wp2_with fail
        go_roundw
        case rel =>
          refine ⟨by first | rfl | trivial, j + 1, by omega, by go_num, ?_⟩
          have e : (X : Int) * 256 = ((X * 256 : Nat) : Int) := by omega
          rw [e, u32_or (X * 256) Y (by omega) (by omega), or_byte X Y hyl, HNX.out, HX.out, HY.out]
        case measure => simp [intOf]; omega
      · obtain rfl : j = 4 := by omega
        go_wp2_with fail
        go_ret2
        rw [HBE.out]
        exact ⟨rfl, rfl⟩
  · have hbe : be32F b p = none := by unfold be32F; rw [if_neg (by rw [HLB.out]; exact hin)]
    have HBE := Lib.hid hbe
    clear hbe
    have hbad : n < 4 ∨ (n : Int) - 4 < p := by omega
    go_enter Try.func88, Try.ntmps88
    go_wp2_with (go_at_call 105; refine (size32_any _).mono ?_; rintro e w' ⟨rfl, rfl⟩)
    all_goals
      go_ret2
      rw [HBE.out]
      exact ⟨rfl, rfl⟩
end Go.Proofs.Ytfmmcjiehpdogaa
