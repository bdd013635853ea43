/-
  The program's text, slices.Clone. No condition but the lengths.
-/
import Derived.Test.YtfmmcjiehpdogaaRead
import Derived.Lib.LazyBuf
set_option linter.unusedVariables false
set_option linter.unusedSimpArgs false
namespace Go.Proofs.Ytfmmcjiehpdogaa
open Go.RowKit
attribute [local go_sem ↓] Go.wp_at_zero Go.wp_at_succ

/-- a reading from a place on -/
theorem Rd.from_ {w : World} {b o n : Nat} {xs : List Value} (h : Rd w 1 (some ⟨b, o, none⟩) n xs) {k : Nat} (hk : k ≤ n) : Rd w 1 (some ⟨b, o + k, none⟩) (n - k) (xs.drop k) := by
  refine ⟨by rw [List.length_drop, h.1, Nat.mul_one, Nat.mul_one], fun hn => ⟨_, rfl, fun j u hu => ?_⟩⟩
  obtain ⟨ad, h1, h2⟩ := h.2 (by omega)
  injection h1 with h1
  subst h1
  have := h2 (k + j) u (by rw [List.getElem?_drop] at hu; exact hu)
  rw [Addr.add_lit] at this ⊢
  rwa [Nat.add_assoc]

/-- what 'text' leaves -/
def TextPost (s : Option (List UInt8)) (w : World) (e : Ending) (w' : World) : Prop :=
  w = w' ∧ match s with
    | some s => e = .returned (.string ⟨s.toArray⟩)
    | none => e = .panicked wrongCh

set_option maxRecDepth 100000 in
set_option maxHeartbeats 1000000 in
theorem text_any (A : Option Addr) (n c : Nat) (b : List UInt8) (p : Nat) (w : World) (hr : Rd w 1 A n (b.map bv)) (hn : n ≤ 140737488351232) (hc : n ≤ c) :
    Calls Try.prog 89 #[.slice A n c, .int .i64 p] w (TextPost (textP b p) w) := by
  have hlb : b.length = n := by simpa using hr.1
  by_cases hp : p < n
  · obtain ⟨bb, o, rfl, hbl, hcells⟩ := hr.addr (by omega) (by omega)
    have hrp := hr.from_ (k := p) (by omega)
    rw [← List.map_drop] at hrp
    have F := Lib.hid (index_any (some ⟨bb, o + p, none⟩) (n - p) (c - p) (b.drop p) w hrp (by omega))
    have hpc : ¬ c = p := by omega
    have h0p : textP (b.drop p) 0 = textP b p := by unfold textP; rw [List.drop_zero]
    rw [h0p] at F
    cases ht : textP b p with
    | none =>
      rw [ht] at F
      simp only [idxV] at F
      clear hcells ht h0p hrp hr
      go_enter Try.func89, Try.ntmps89
      go_wp2_with (first
        | (go_at_call 54; (with_reducible refine (must_true _).mono ?_); rintro e w' ⟨rfl, rfl⟩)
        | (go_at_call 54; (with_reducible refine (must_false _).mono ?_); rintro e w' ⟨rfl, rfl⟩)
        | (go_at_call 106; (refine F.out.mono ?_); rintro e w' ⟨rfl, rfl⟩))
      exact ⟨rfl, rfl, rfl⟩
    | some s =>
      obtain ⟨t1, t2, t3, t4⟩ := textP_some ht
      rw [ht] at F
      simp only [idxV] at F
      have hrs := run_string_of w (some ⟨bb, o + p, none⟩) s.length (c - p) s (by
        have := hrp.take_ (k := s.length) (by omega)
        rw [Nat.mul_one, ← List.map_take, ← t2] at this
        exact this)
      have HS := Lib.hid ht
      obtain ⟨L, hL⟩ : ∃ L, s.length = L := ⟨_, rfl⟩
      rw [hL] at F hrs t1
      have HL := Lib.hid hL
      clear hcells ht h0p hrp hr t2 t3 t4 hL
      go_enter Try.func89, Try.ntmps89
      go_wp2_with (first
        | (go_at_call 54; (with_reducible refine (must_true _).mono ?_); rintro e w' ⟨rfl, rfl⟩)
        | (go_at_call 106; (refine F.out.mono ?_); rintro e w' ⟨rfl, rfl⟩))
      go_ret
      exact ⟨rfl, rfl⟩
  · have ht : textP b p = none := textP_none fun i hi => by rw [List.getElem?_eq_none (by omega)]; simp
    have HT := Lib.hid ht
    clear ht
    go_enter Try.func89, Try.ntmps89
    go_wp2_with (go_at_call 54; (with_reducible refine (must_false _).mono ?_); rintro e w' ⟨rfl, rfl⟩)
    rw [HT.out]
    exact ⟨rfl, rfl, rfl⟩

set_option maxRecDepth 100000 in
set_option maxHeartbeats 1000000 in
theorem clone_any (A : Option Addr) (n c : Nat) (b : List UInt8) (w : World) (hr : Rd w 1 A n (b.map bv)) (hn : n ≤ 1099511627776) (hA : A = none → n = 0 ∧ c = 0) :
    Calls Try.prog 91 #[.slice A n c] w fun e w' => ∃ A' c', e = .returned (.slice A' n c') ∧ Own w' w.heap.size 5 1 A' n c' (b.map bv) ∧ New w w' := by
  obtain ⟨i0, hi0, hz0, hz1, hz2⟩ := info_parts infoU8
  cases A with
  | none =>
    obtain ⟨rfl, rfl⟩ := hA rfl
    have hb : b = [] := by
      have := hr.1
      simpa using this
    subst hb
    have he := fun w => Lib.run_eql_slice_nil (P := Try.prog) w 28 5 none 0 0 0 0 Try.underlying28
    simp only [Option.isNone_none] at he
    go_enter Try.func91, Try.ntmps91
    go_wp2_with fail
    go_ret
    exact ⟨none, 0, rfl, Own.nil_ _ _ _ _, Chg.refl _ _⟩
  | some ad =>
    have he := fun w => Lib.run_eql_slice_nil (P := Try.prog) w 28 5 (some ad) n c 0 0 Try.underlying28
    simp only [Option.isNone_some] at he
    go_enter Try.func91, Try.ntmps91
    go_wp2_with (with_reducible refine stopAt 7 rfl ?_)
    refine unstop ?_
    have hown0 : Own (w.alloc (.cells #[] 5)) w.heap.size 5 1 (some ⟨w.heap.size, 0, none⟩) 0 0 [] :=
      Own.mk_row (Blk.made w 5 #[]).row (Nat.le_refl _) 0 (Nat.le_refl _) (by simp)
    refine wpList_append_x _ rfl _ _ 28 rfl w.heap.size 5 i0 _ 1 1 Try.underlying28 hi0 hz0 hz1 hz2 rfl (by omega) _ 0 0 _ rfl hown0 _ n c _ rfl (hr.alloc _) (bv_one _) n (by omega) (by simp only [maxLen]; omega) (by omega) (by simp) ?_
    intro A5 c5 w5 hown5 hg5 hat5
    go_wp2_with fail
    go_ret
    refine ⟨A5, c5, rfl, by simpa using hown5, ((Chg.refl _ _).alloc _).grown hg5 (fun k hk h => by simp [blkOf] at hk; omega)⟩
end Go.Proofs.Ytfmmcjiehpdogaa
