/-
  The program's named answers as nameB does. No condition but the text's length.
-/
import Derived.Test.YtfmmcjiehpdogaaIdx
import Derived.Test.YtfmmcjiehpdogaaCopy
import Derived.Lib.IndexLaws
set_option linter.unusedVariables false
set_option linter.unusedSimpArgs false
namespace Go.Proofs.Ytfmmcjiehpdogaa
open Go.RowKit

/-- a letter or a digit -/
def letterB (c : UInt8) : Bool := (97 ≤ c.toNat && c.toNat ≤ 122) || (65 ≤ c.toNat && c.toNat ≤ 90) || (48 ≤ c.toNat && c.toNat ≤ 57)
theorem letter_yes (c : UInt8) (h : (97 ≤ c.toNat ∧ c.toNat ≤ 122) ∨ (65 ≤ c.toNat ∧ c.toNat ≤ 90) ∨ (48 ≤ c.toNat ∧ c.toNat ≤ 57)) : letterB c = true := by
  simp only [letterB, Bool.or_eq_true, Bool.and_eq_true, decide_eq_true_eq]; omega
theorem letter_no (c : UInt8) (h : ¬ ((97 ≤ c.toNat ∧ c.toNat ≤ 122) ∨ (65 ≤ c.toNat ∧ c.toNat ≤ 90) ∨ (48 ≤ c.toNat ∧ c.toNat ≤ 57))) : letterB c = false := by
  rw [Bool.eq_false_iff]; simp only [letterB, ne_eq, Bool.or_eq_true, Bool.and_eq_true, decide_eq_true_eq]; omega
/-- a sign that may be -/
def signB (more : List UInt8) (c : UInt8) : Bool := letterB c || more.contains c
/-- a text that is a name, with some signs beside letters and digits -/
def nameB (more s : List UInt8) : Bool := s.all (signB more) && (1 ≤ s.length && s.length ≤ 31)

theorem indexByte_in (l : List UInt8) (x : UInt8) (h : l.contains x = true) : ∃ k : Nat, Lib.indexByte l x = (k : Int) := by
  have hge := Lib.indexByte_ge l x
  by_cases h1 : Lib.indexByte l x = -1
  · obtain ⟨k, hk, hx⟩ := List.getElem_of_mem (List.contains_iff_mem.1 h)
    exact absurd (by rw [List.getElem?_eq_getElem hk, hx]) (Lib.indexByte_none h1 k)
  · exact ⟨(Lib.indexByte l x).toNat, by omega⟩
theorem indexByte_out (l : List UInt8) (x : UInt8) (h : l.contains x = false) : Lib.indexByte l x = -1 := by
  have hge := Lib.indexByte_ge l x
  by_cases h1 : Lib.indexByte l x = -1
  · exact h1
  · have h2 := (Lib.indexByte_some (l := l) (c := x) (o := (Lib.indexByte l x).toNat) (by omega)).1
    have : l.contains x = true := List.contains_iff_mem.2 (List.mem_of_getElem? h2)
    rw [h] at this
    cases this
theorem index_yes (more : ByteArray) (x : UInt8) (w : World) (h : more.data.toList.contains x = true) :
    Calls Try.prog 101 #[.string more, .int .u8 (x.toNat : Int)] w fun e w' => ∃ k : Nat, e = .returned (.int .i64 (k : Int)) ∧ w = w' := by
  refine (Try.strings_IndexByte more (x.toNat : Int) w).mono fun e w' ⟨he, hw⟩ => ?_
  rw [Int.toNat_natCast, show x.toNat.toUInt8 = x from UInt8.ofNat_toNat] at he
  obtain ⟨k, hk⟩ := indexByte_in _ _ h
  exact ⟨k, by rw [he, hk], hw.symm⟩
theorem index_no (more : ByteArray) (x : UInt8) (w : World) (h : more.data.toList.contains x = false) :
    Calls Try.prog 101 #[.string more, .int .u8 (x.toNat : Int)] w fun e w' => e = .returned (.int .i64 (-1)) ∧ w = w' := by
  refine (Try.strings_IndexByte more (x.toNat : Int) w).mono fun e w' ⟨he, hw⟩ => ?_
  rw [Int.toNat_natCast, show x.toNat.toUInt8 = x from UInt8.ofNat_toNat] at he
  exact ⟨by rw [he, indexByte_out _ _ h], hw.symm⟩

theorem nameB_no (more s : List UInt8) (j : Nat) (x : UInt8) (hj : j < s.length) (hx : s[j] = x) (h : signB more x = false) : nameB more s = false := by
  have : s.all (signB more) = false := by
    rw [List.all_eq_false]
    exact ⟨s[j], List.getElem_mem hj, by rw [hx, h]; simp⟩
  simp [nameB, this]

set_option maxRecDepth 100000 in
set_option maxHeartbeats 1000000 in
theorem named_any (s more : ByteArray) (w : World) (hs : s.size ≤ 140737488351232) :
    Calls Try.prog 82 #[.string s, .string more] w fun e w' => e = .returned (.bool (nameB more.data.toList s.data.toList)) ∧ New w w' := by
  go_enter Try.func82, Try.ntmps82
  go_wp2_with (with_reducible refine stopAt 9 rfl ?_)
  refine unstop ?_
  refine wpList_bytes_of _ rfl _ 9 28 rfl 5 s Try.underlying9 Try.underlying28 Try.underlying5 rfl (by simp only [maxLen]; omega) ?_
  intro c w1 hown1 hnew1
  have hr1 := hown1.rd
  go_wp2_with fail
  go_loopw [11] (fun i wr => ∃ j : Nat, j ≤ s.size ∧ i = .int .i64 j ∧ (s.data.toList.take j).all (signB more.data.toList) = true ∧ New w1 wr) (fun i _ => s.size - (intOf i).toNat)
  case atStart => exact ⟨0, Nat.zero_le _, rfl, rfl, Chg.refl _ _⟩
  case round =>
    obtain ⟨j, hj, rfl, hall, hnew⟩ := hrel
    by_cases hlt : j < s.size
    · obtain ⟨b, o, u, hA, hbl, hu, hcell⟩ := (hr1.new_ hnew).at_ hlt
      injection hA with hA
      injection hA with hA1 hA2
      subst hA1; subst hA2
      have hjl : j < s.data.toList.length := by simpa using hlt
      obtain ⟨x, hx⟩ : ∃ x, s.data.toList[j]'hjl = x := ⟨_, rfl⟩
      obtain rfl : bv x = u := by rw [← hx]; simpa [List.getElem?_map, List.getElem?_eq_getElem hjl] using hu
      have hsucc : (s.data.toList.take (j + 1)).all (signB more.data.toList) = ((s.data.toList.take j).all (signB more.data.toList) && signB more.data.toList x) := by
        rw [List.take_succ_eq_append_getElem hjl, hx]; simp
      have HS := Lib.hid hsucc
      have HX := Lib.hid hx
      clear hsucc hu hx
      unfold bv at hcell
      rw [Nat.zero_add] at hcell
      have hx255 : x.toNat ≤ 255 := by have := x.toNat_lt; omega
      have HA := Lib.hid hall
      clear hall
      by_cases hin : more.data.toList.contains x = true
      · have HI := Lib.hid hin
        clear hin
        go_wp2_with (go_at_call 101; refine (index_yes more x _ HI.out).mono ?_; rintro e w' ⟨k, rfl, rfl⟩)
        all_goals
          go_roundw
          case rel =>
            refine ⟨j + 1, by omega, by go_num, ?_, hnew⟩
            rw [HS.out, HA.out, signB, HI.out]; simp
          case measure => simp [intOf]; omega
      · have HI := Lib.hid (Bool.eq_false_iff.2 hin)
        clear hin
        go_wp2_with (go_at_call 101; refine (index_no more x _ HI.out).mono ?_; rintro e w' ⟨rfl, rfl⟩)
        all_goals first
          | (go_roundw
             case rel =>
               refine ⟨j + 1, by omega, by go_num, ?_, hnew⟩
               rw [HS.out, HA.out, signB, letter_yes x (by omega)]; simp
             case measure => simp [intOf]; omega)
          | (go_ret
             refine ⟨?_, hnew1.new_ hnew⟩
             rw [nameB_no _ _ j x hjl HX.out (by rw [signB, HI.out, letter_no x (by omega)]; rfl)]
             rfl)
          | (exfalso
             simp only [Bool.not_eq_eq_eq_not, Bool.not_false, decide_eq_true_eq, Bool.not_true, decide_eq_false_iff_not] at *
             omega)
    · obtain rfl : j = s.size := by omega
      have hfull : s.data.toList.take s.size = s.data.toList := List.take_of_length_le (by simp)
      rw [hfull] at hall
      have HA := Lib.hid hall
      clear hall hfull
      have hsz : s.data.toList.length = s.size := by simp
      by_cases h0 : s.toList = []
      · go_wp2_with fail
        go_ret
        refine ⟨?_, hnew1.new_ hnew⟩
        rw [Lib.toList_data] at h0
        have : nameB more.data.toList s.data.toList = false := by rw [h0]; rfl
        rw [this]
        rfl
      · go_wp2_with fail
        go_ret
        refine ⟨?_, hnew1.new_ hnew⟩
        rw [Lib.toList_data] at h0
        have h1 : 1 ≤ s.size := by rw [← hsz]; exact List.length_pos_iff.2 h0
        have h2 : s.toList.isEmpty = false := by rw [Lib.toList_data]; simpa using h0
        show Ending.returned (.bool (!s.toList.isEmpty && decide ((s.size : Int) ≤ 31))) = _
        rw [nameB, HA.out, hsz, h2]
        congr 2
        by_cases h3 : s.size ≤ 31
        · simp [h1, h3]; omega
        · simp [h3]; omega
end Go.Proofs.Ytfmmcjiehpdogaa
