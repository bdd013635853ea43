/-
  The reference's test of a name answers as nameB does. No condition but the text's length.
-/
import Derived.Test.YtfmmcjiehpdogaaNamed
set_option linter.unusedVariables false
set_option linter.unusedSimpArgs false
namespace Go.Proofs.Ytfmmcjiehpdogaa
open Go.RowKit

/-- whether a sign is among some -/
def inB (l : List UInt8) (c : UInt8) : Bool := l.contains c
theorem ret_bool {a b : Bool} (h : a = b) : Ending.returned (.bool a) = .returned (.bool b) := by rw [h]
set_option maxRecDepth 100000 in
set_option maxHeartbeats 1000000 in
theorem refLetter_any (c : UInt8) (w : World) : Calls Try.prog 102 #[.int .u8 (c.toNat : Int)] w fun e w' => e = .returned (.bool (letterB c)) ∧ w = w' := by
  have hc : c.toNat ≤ 255 := by have := c.toNat_lt; omega
  rcases (show c.toNat < 48 ∨ (48 ≤ c.toNat ∧ c.toNat ≤ 57) ∨ (57 < c.toNat ∧ c.toNat < 65) ∨ (65 ≤ c.toNat ∧ c.toNat ≤ 90) ∨ (90 < c.toNat ∧ c.toNat < 97) ∨ (97 ≤ c.toNat ∧ c.toNat ≤ 122) ∨ 122 < c.toNat by omega) with h | ⟨h, h2⟩ | ⟨h, h2⟩ | ⟨h, h2⟩ | ⟨h, h2⟩ | ⟨h, h2⟩ | h
  all_goals
    go_enter Try.func102, Try.ntmps102
    go_wp2_with fail
    go_ret
    refine ⟨?_, rfl⟩
    refine ret_bool ?_
    rw [Bool.eq_iff_iff]
    simp only [letterB, Bool.or_eq_true, Bool.and_eq_true, decide_eq_true_eq, Bool.false_eq_true, false_iff, true_iff]
    omega

set_option maxRecDepth 100000 in
set_option maxHeartbeats 1000000 in
theorem refIn_any (c : UInt8) (s : ByteArray) (w : World) (hs : s.size ≤ 140737488351232) :
    Calls Try.prog 103 #[.int .u8 (c.toNat : Int), .string s] w fun e w' => e = .returned (.bool (inB s.data.toList c)) ∧ w = w' := by
  go_enter Try.func103, Try.ntmps103
  go_wp2_with fail
  go_loop [5] (fun i => ∃ j : Nat, j ≤ s.size ∧ i = .int .i64 j ∧ (s.data.toList.take j).contains c = false) (fun i => s.size - (intOf i).toNat)
  case atStart => exact ⟨0, Nat.zero_le _, rfl, rfl⟩
  case round =>
    obtain ⟨j, hj, rfl, hno⟩ := hrel
    have HNO := Lib.hid hno
    clear hno
    by_cases hlt : j < s.size
    · have hjl : j < s.data.toList.length := by simpa using hlt
      have hel : s[j] = s.data.toList[j]'hjl := by rw [Array.getElem_toList]; rfl
      have htk : s.data.toList.take (j + 1) = s.data.toList.take j ++ [s[j]] := by rw [hel]; exact List.take_succ_eq_append_getElem hjl
      have HTK := Lib.hid htk
      have HEL := Lib.hid hel
      clear htk hel
      by_cases he : s[j] = c
      · have HE := Lib.hid he
        have he2 : s[j].toNat = c.toNat := by rw [he]
        clear he
        go_wp2_with fail
        go_ret
        refine ⟨?_, rfl⟩
        have : s.data.toList.contains c = true := List.contains_iff_mem.2 (by rw [← HE.out, HEL.out]; exact List.getElem_mem hjl)
        rw [inB, this]
        rfl
      · have he2 : ¬ s[j].toNat = c.toNat := fun h => he (UInt8.toNat_inj.1 h)
        have HE := Lib.hid he
        clear he
        go_wp2_with fail
        go_round
        case rel =>
          refine ⟨j + 1, by omega, by go_num, ?_⟩
          rw [HTK.out]
          simp only [List.contains_eq_any_beq, List.any_append] at HNO ⊢
          rw [HNO.out]
          simpa using fun h => HE.out h.symm
        case measure => simp [intOf]; omega
    · obtain rfl : j = s.size := by omega
      go_wp2_with fail
      go_ret
      refine ⟨?_, rfl⟩
      have hno := HNO.out
      rw [List.take_of_length_le (by simp)] at hno
      rw [inB, hno]
      rfl

set_option maxRecDepth 100000 in
set_option maxHeartbeats 1000000 in
theorem refName_any (s more : ByteArray) (w : World) (hs : s.size ≤ 140737488351232) (hm : more.size ≤ 140737488351232) :
    Calls Try.prog 84 #[.string s, .string more] w fun e w' => e = .returned (.bool (nameB more.data.toList s.data.toList)) ∧ w = w' := by
  go_enter Try.func84, Try.ntmps84
  go_wp2_with fail
  go_loop [5] (fun i => ∃ j : Nat, j ≤ s.size ∧ i = .int .i64 j ∧ (s.data.toList.take j).all (signB more.data.toList) = true) (fun i => s.size - (intOf i).toNat)
  case atStart => exact ⟨0, Nat.zero_le _, rfl, rfl⟩
  case round =>
    obtain ⟨j, hj, rfl, hall⟩ := hrel
    have HA := Lib.hid hall
    clear hall
    by_cases hlt : j < s.size
    · have hjl : j < s.data.toList.length := by simpa using hlt
      have hel : s.data.toList[j]'hjl = s[j] := by rw [Array.getElem_toList]; rfl
      have htk : s.data.toList.take (j + 1) = s.data.toList.take j ++ [s[j]] := by rw [← hel]; exact List.take_succ_eq_append_getElem hjl
      have HTK := Lib.hid htk
      have HEL := Lib.hid hel
      clear htk hel
      cases hle : letterB s[j] with
      | true =>
        have HL := Lib.hid hle
        clear hle
        go_wp2_with (go_at_call 102; refine (refLetter_any _ _).mono ?_; rintro e w2 ⟨he, rfl⟩; rw [HL.out] at he; subst he)
        go_round
        case rel =>
          refine ⟨j + 1, by omega, by go_num, ?_⟩
          rw [HTK.out, List.all_append, HA.out]
          simp [signB, HL.out]
        case measure => simp [intOf]; omega
      | false =>
        have HL := Lib.hid hle
        clear hle
        cases hin : more.data.toList.contains s[j] with
        | true =>
          have HI := Lib.hid hin
          clear hin
          go_wp2_with (first
            | (go_at_call 102; refine (refLetter_any _ _).mono ?_; rintro e w2 ⟨he, rfl⟩; rw [HL.out] at he; subst he)
            | (go_at_call 103; refine (refIn_any _ _ _ hm).mono ?_; rintro e w2 ⟨he, rfl⟩; rw [inB, HI.out] at he; subst he))
          go_round
          case rel =>
            refine ⟨j + 1, by omega, by go_num, ?_⟩
            rw [HTK.out, List.all_append, HA.out]
            simp only [List.all_cons, List.all_nil, signB, HI.out]
            simp
          case measure => simp [intOf]; omega
        | false =>
          have HI := Lib.hid hin
          clear hin
          go_wp2_with (first
            | (go_at_call 102; refine (refLetter_any _ _).mono ?_; rintro e w2 ⟨he, rfl⟩; rw [HL.out] at he; subst he)
            | (go_at_call 103; refine (refIn_any _ _ _ hm).mono ?_; rintro e w2 ⟨he, rfl⟩; rw [inB, HI.out] at he; subst he))
          go_ret
          refine ⟨?_, rfl⟩
          rw [nameB_no _ _ j s[j] hjl HEL.out (by rw [signB, HI.out, HL.out]; rfl)]
          rfl
    · obtain rfl : j = s.size := by omega
      have hfull : s.data.toList.take s.size = s.data.toList := List.take_of_length_le (by simp)
      have hsz : s.data.toList.length = s.size := by simp
      have HF := Lib.hid hfull
      have HZ := Lib.hid hsz
      clear hfull hsz
      by_cases h1 : 1 ≤ s.size
      · by_cases h3 : s.size ≤ 31
        · go_wp2_with fail
          go_ret
          refine ⟨?_, rfl⟩
          have hall := HA.out
          rw [HF.out] at hall
          rw [nameB, hall, HZ.out]
          simp [h1, h3]
          omega
        · go_wp2_with fail
          go_ret
          refine ⟨?_, rfl⟩
          rw [nameB, HZ.out]
          simp [h3]
          omega
      · go_wp2_with fail
        go_ret
        refine ⟨?_, rfl⟩
        rw [nameB, HZ.out]
        simp [h1]
end Go.Proofs.Ytfmmcjiehpdogaa
