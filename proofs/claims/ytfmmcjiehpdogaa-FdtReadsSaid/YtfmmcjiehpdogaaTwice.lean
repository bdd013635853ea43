/-
  The program's twice answers as dupB does. No condition but the texts' lengths.
-/
import Derived.Test.YtfmmcjiehpdogaaMaps
set_option linter.unusedVariables false
set_option linter.unusedSimpArgs false
namespace Go.Proofs.Ytfmmcjiehpdogaa
open Go.RowKit Go.Maps

/-- whether a text is there twice -/
def dupB (l : List (List UInt8)) : Bool := decide (¬ l.Nodup)
theorem dupB_yes (l : List (List UInt8)) (j : Nat) (hj : j < l.length) (h : l[j] ∈ l.take j) : dupB l = true := by
  rw [dupB, decide_eq_true_eq]
  intro hn
  obtain ⟨i, hi, he⟩ := List.getElem_of_mem h
  rw [List.length_take] at hi
  rw [List.getElem_take] at he
  have h2 := List.pairwise_iff_getElem.1 hn i j (by omega) hj (by omega)
  exact h2 he
theorem nodup_take (l : List (List UInt8)) (j : Nat) (hj : j < l.length) (h : (l.take j).Nodup) (hx : l[j] ∉ l.take j) : (l.take (j + 1)).Nodup := by
  rw [List.take_succ_eq_append_getElem hj]
  rw [List.nodup_append]
  refine ⟨h, by simp, ?_⟩
  intro a ha b hb
  rw [List.mem_singleton] at hb
  subst hb
  exact fun e => hx (e ▸ ha)
/-- what the map says when the texts of l have been counted -/
def seenF (l : List (List UInt8)) : List UInt8 → Option Int := fun s => if s ∈ l then some 1 else none
theorem seenF_next (l : List (List UInt8)) (x : List UInt8) : upd (seenF l) x 1 = seenF (l ++ [x]) := by
  funext s
  simp only [upd, seenF, List.mem_append, List.mem_singleton]
  by_cases h : s = x <;> simp [h]

theorem zeroI (w : World) : (zeroValue 3).run Try.prog w = .ok (.int .i64 0) w := by kernel_rfl

set_option maxRecDepth 100000 in
set_option maxHeartbeats 1000000 in
theorem twice_any (A : Option Addr) (n c : Nat) (ss : List ByteArray) (w : World) (hr : Rd w 1 A n (ss.map Value.string)) (hs : ∀ s ∈ ss, s.size ≤ maxLen) (hn : n ≤ 1099511627776) :
    Calls Try.prog 83 #[.slice A n c] w fun e w' => e = .returned (.bool (dupB (ss.map (·.data.toList)))) ∧ New w w' := by
  have hlm : ss.length = n := by simpa using hr.1
  have HL := Lib.hid hlm
  clear hlm
  have hmm := @run_makeMap Try.prog
  go_enter Try.func83, Try.ntmps83
  go_wp2_with fail
  clear hmm
  go_loopw [9] (fun i wr => ∃ j : Nat, j ≤ n ∧ i = .int .i64 j ∧ ((ss.map (·.data.toList)).take j).Nodup ∧ MapIs wr 3 .i64 w.heap.size (2 * j) (seenF ((ss.map (·.data.toList)).take j)) ∧ New w wr) (fun i _ => n - (intOf i).toNat)
  case atStart =>
    refine ⟨0, Nat.zero_le _, rfl, by simp, ?_, (Chg.refl _ _).alloc _⟩
    have e0 : seenF ((ss.map (·.data.toList)).take 0) = fun _ => none := by funext s; simp [seenF]
    rw [e0]
    exact MapIs.made w 3 .i64
  case round =>
    obtain ⟨j, hj, rfl, hnd, hmap, hnew⟩ := hrel
    by_cases hlt : j < n
    · obtain ⟨b, o, u, rfl, hbl, hu, hcell⟩ := (hr.new_ hnew).at_ hlt
      have hjl : j < ss.length := by rw [HL.out]; exact hlt
      obtain ⟨x, hx⟩ : ∃ x, ss[j]'hjl = x := ⟨_, rfl⟩
      obtain rfl : Value.string x = u := by rw [← hx]; simpa [List.getElem?_map, List.getElem?_eq_getElem hjl] using hu
      have hxs : x.size ≤ maxLen := by rw [← hx]; exact hs _ (List.getElem_mem hjl)
      have hjl' : j < (ss.map (·.data.toList)).length := by simpa using hjl
      have HX : Hid ((ss.map (·.data.toList))[j]'hjl' = x.data.toList) := by show _ = _; simp [hx]
      have HT : Hid ((ss.map (·.data.toList)).take (j + 1) = (ss.map (·.data.toList)).take j ++ [x.data.toList]) := by
        show _ = _
        rw [List.take_succ_eq_append_getElem hjl', HX.out]
      clear hu hx
      have HN := Lib.hid hnd
      clear hnd
      by_cases hin : x.data.toList ∈ (ss.map (·.data.toList)).take j
      · have hf : (seenF ((ss.map (·.data.toList)).take j) x.data.toList).getD 0 = 1 := by simp only [seenF, if_pos hin]; rfl
        have HF := Lib.hid hf
        have HI := Lib.hid hin
        clear hf hin
        go_wp2_with (with_reducible refine stopAt 15 rfl ?_)
        refine unstop ?_
        refine wpList_look rfl _ _ 173 rfl Try.underlying173 Try.underlying3 (zeroI _) rfl hmap x rfl hxs ?_
        rw [HF.out]
        go_wp2_with (first | (refine wpList_upd rfl _ _ _ 173 rfl Try.underlying173 Try.underlying3 rfl hmap (by simp only [maxLen]; omega) x rfl hxs 2 rfl (by decide) ?_; intro w2 hmap2 hg2) | (with_reducible refine stopAt 19 rfl ?_))
        have hf2 : (upd (seenF ((ss.map (·.data.toList)).take j)) x.data.toList 2 x.data.toList).getD 0 = 2 := by simp [upd]
        have HF2 := Lib.hid hf2
        clear hf2
        refine unstop ?_
        refine wpList_look rfl _ _ 173 rfl Try.underlying173 Try.underlying3 (zeroI _) rfl hmap2 x rfl hxs ?_
        rw [HF2.out]
        go_wp2_with fail
        go_ret
        refine ⟨?_, hnew.grown hg2 (by intro k hk hlt; injection hk with hk; omega)⟩
        rw [dupB_yes _ j hjl' (by rw [HX.out]; exact HI.out)]
        rfl
      · have hf : (seenF ((ss.map (·.data.toList)).take j) x.data.toList).getD 0 = 0 := by simp only [seenF, if_neg hin]; rfl
        have HF := Lib.hid hf
        have HI := Lib.hid hin
        clear hf hin
        go_wp2_with (with_reducible refine stopAt 15 rfl ?_)
        refine unstop ?_
        refine wpList_look rfl _ _ 173 rfl Try.underlying173 Try.underlying3 (zeroI _) rfl hmap x rfl hxs ?_
        rw [HF.out]
        go_wp2_with (first | (refine wpList_upd rfl _ _ _ 173 rfl Try.underlying173 Try.underlying3 rfl hmap (by simp only [maxLen]; omega) x rfl hxs 1 rfl (by decide) ?_; intro w2 hmap2 hg2) | (with_reducible refine stopAt 19 rfl ?_))
        have hf2 : (upd (seenF ((ss.map (·.data.toList)).take j)) x.data.toList 1 x.data.toList).getD 0 = 1 := by simp [upd]
        have HF2 := Lib.hid hf2
        clear hf2
        refine unstop ?_
        refine wpList_look rfl _ _ 173 rfl Try.underlying173 Try.underlying3 (zeroI _) rfl hmap2 x rfl hxs ?_
        rw [HF2.out]
        go_wp2_with fail
        go_roundw
        case rel =>
          refine ⟨j + 1, by omega, by go_num, ?_, ?_, hnew.grown hg2 (by intro k hk hlt; injection hk with hk; omega)⟩
          · exact nodup_take _ j hjl' HN.out (by rw [HX.out]; exact HI.out)
          · rw [HT.out, ← seenF_next]
            obtain ⟨D, ⟨es, clock, h1, h2, h3, h4⟩, h5⟩ := hmap2
            exact ⟨D, ⟨es, clock, h1, h2, by omega, h4⟩, h5⟩
        case measure => simp [intOf]; omega
    · obtain rfl : j = n := by omega
      go_wp2_with fail
      go_ret
      refine ⟨?_, hnew⟩
      rw [List.take_of_length_le (by rw [List.length_map, HL.out]; exact Nat.le_refl _)] at hnd
      have : dupB (ss.map (·.data.toList)) = false := by simp [dupB, hnd]
      rw [this]
      rfl
end Go.Proofs.Ytfmmcjiehpdogaa
