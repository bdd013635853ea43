/-
  The reference's structure in memory; its methods. No condition but that memory bears what is written.
-/
import Derived.Test.YtfmmcjiehpdogaaWr
set_option linter.unusedVariables false
set_option linter.unusedSimpArgs false
namespace Go.Proofs.Ytfmmcjiehpdogaa
open Go.RowKit

/-- two rows of different types are not one -/
theorem Own.ne_own {w : World} {B B' : Nat} {e e' : TypeId} {size size' n n' c c' : Nat} {A A' : Option Addr} {xs xs' : List Value} (h : Own w B e size A n c xs) (h' : Own w B' e' size' A' n' c' xs') (hne : e ≠ e') :
    ∀ k, blkOf A = some k → blkOf A' ≠ some k := by
  intro k hk hk'
  rcases h.cases with ⟨rfl, _⟩ | ⟨g, cur, rfl, _, hg, _⟩
  · cases hk
  · rcases h'.cases with ⟨rfl, _⟩ | ⟨g', cur', rfl, _, hg', _⟩
    · cases hk'
    · have : g ≠ g' := hg.ne_ hg' hne
      simp only [blkOf, Option.map_some, Option.some.injEq] at hk hk'
      omega

/-- names with their places, as cells -/
def plC (l : List (List UInt8 × Nat)) : List Value := l.flatMap fun x => [.string ⟨x.1.toArray⟩, .int .i64 (x.2 : Int)]
theorem plC_length (l : List (List UInt8 × Nat)) : (plC l).length = l.length * 2 := by
  induction l with
  | nil => rfl
  | cons x l ih => simp only [plC, List.flatMap_cons, List.length_append, List.length_cons, List.length_nil] at ih ⊢; omega
theorem plC_snoc (l : List (List UInt8 × Nat)) (x : List UInt8 × Nat) : plC (l ++ [x]) = plC l ++ [.string ⟨x.1.toArray⟩, .int .i64 (x.2 : Int)] := by simp [plC]
theorem plC_at (l : List (List UInt8 × Nat)) (i : Nat) (x : List UInt8 × Nat) (h : l[i]? = some x) : (plC l)[i * 2]? = some (.string ⟨x.1.toArray⟩) ∧ (plC l)[i * 2 + 1]? = some (.int .i64 (x.2 : Int)) := by
  induction l generalizing i with
  | nil => simp at h
  | cons y l ih =>
    cases i with
    | zero =>
      obtain rfl : y = x := by simpa using h
      simp [plC]
    | succ i =>
      have := ih i (by simpa using h)
      simp only [plC, List.flatMap_cons] at this ⊢
      rw [show (i + 1) * 2 = i * 2 + 2 from by omega, show i * 2 + 2 + 1 = i * 2 + 1 + 2 from by omega]
      simpa using this

/-- the structure in block g says s; all that it has lies in blocks of S -/
def FlIs (w : World) (S : Nat → Prop) (g : Nat) (s : WS) : Prop :=
  ∃ A c A2 c2 A3 c3, Blk w g 75 #[.slice A s.b.length c, .slice A2 s.texts.length c2, .slice A3 s.pl.length c3] ∧ Own w 0 5 1 A s.b.length c (s.b.map bv) ∧
    Own w 0 5 1 A2 s.texts.length c2 (s.texts.map bv) ∧ Own w 0 171 2 A3 s.pl.length c3 (plC s.pl) ∧ (∀ k, blkOf A = some k → blkOf A2 ≠ some k) ∧
    S g ∧ (∀ k, blkOf A = some k → S k) ∧ (∀ k, blkOf A2 = some k → S k) ∧ (∀ k, blkOf A3 = some k → S k) ∧ ∀ k, S k → k < w.heap.size

theorem FlIs.new_ {w w1 : World} {S : Nat → Prop} {g : Nat} {s : WS} (h : FlIs w S g s) (hc : New w w1) : FlIs w1 S g s := by
  obtain ⟨A, c, A2, c2, A3, c3, h1, h2, h3, h4, h6, h7, h8, h9, h10, h11⟩ := h
  exact ⟨A, c, A2, c2, A3, c3, h1.chg hc (fun h => h), h2.new_ hc, h3.new_ hc, h4.new_ hc, h6, h7, h8, h9, h10, fun k hk => Nat.lt_of_lt_of_le (h11 k hk) hc.size⟩
theorem FlIs.lt {w : World} {S : Nat → Prop} {g : Nat} {s : WS} (h : FlIs w S g s) : ∀ k, S k → k < w.heap.size := by
  obtain ⟨A, c, A2, c2, A3, c3, h1, h2, h3, h4, h6, h7, h8, h9, h10, h11⟩ := h
  exact h11
theorem FlIs.mem {w : World} {S : Nat → Prop} {g : Nat} {s : WS} (h : FlIs w S g s) : S g := by
  obtain ⟨A, c, A2, c2, A3, c3, h1, h2, h3, h4, h6, h7, h8, h9, h10, h11⟩ := h
  exact h7

/-- what a method of the structure leaves -/
def FlPost (r : Value) (S : Nat → Prop) (g : Nat) (s : WS) (w : World) (e : Ending) (w' : World) : Prop :=
  e = .returned r ∧ ∃ S', Ext S S' w ∧ FlIs w' S' g s ∧ Chg S w w'

theorem fl_buf {S : Nat → Prop} {g : Nat} {s : WS} {w w' : World} {b' : List UInt8} {A : Option Addr} {c : Nat} {A2 : Option Addr} {c2 : Nat} {A3 : Option Addr} {c3 : Nat}
    (h1 : Blk w g 75 #[.slice A s.b.length c, .slice A2 s.texts.length c2, .slice A3 s.pl.length c3]) (h2 : Own w 0 5 1 A s.b.length c (s.b.map bv)) (h3 : Own w 0 5 1 A2 s.texts.length c2 (s.texts.map bv))
    (h4 : Own w 0 171 2 A3 s.pl.length c3 (plC s.pl))
    (h6 : ∀ k, blkOf A = some k → blkOf A2 ≠ some k) (h7 : S g) (h8 : ∀ k, blkOf A = some k → S k) (h9 : ∀ k, blkOf A2 = some k → S k) (h10 : ∀ k, blkOf A3 = some k → S k) (h11 : ∀ k, S k → k < w.heap.size)
    {e : Ending} (h : BufPost g 75 #[.slice A s.b.length c, .slice A2 s.texts.length c2, .slice A3 s.pl.length c3] A b' w e w') : FlPost (.tuple #[]) S g { s with b := b' } w e w' := by
  obtain ⟨rfl, A', n', c', hg', rfl, hown', hch, hat⟩ := h
  have hA2g : ∀ k, blkOf A2 = some k → k ≠ g := h3.ne_ h1 (by decide)
  have hA3g : ∀ k, blkOf A3 = some k → k ≠ g := h4.ne_ h1 (by decide)
  have hA3A := h4.ne_own h2 (by decide)
  have h11' : ∀ k, S k → k < w'.heap.size := fun k hk => Nat.lt_of_lt_of_le (h11 k hk) hch.size
  refine ⟨rfl, fun k => S k ∨ blkOf A' = some k, ?_, ⟨A', c', A2, c2, A3, c3, by simpa using hg', hown', h3.chg hch ?_, h4.chg hch ?_, ?_, .inl h7, fun k hk => .inr hk, fun k hk => .inl (h9 k hk), fun k hk => .inl (h10 k hk), ?_⟩, hch.mono ?_⟩
  · rintro k (hk | hk)
    · exact .inl hk
    · rcases hat with h | h
      · exact .inl (h8 k (h ▸ hk))
      · exact .inr (h k hk)
  · rintro k hk (h | h)
    · exact hA2g k hk h
    · exact h6 k h hk
  · rintro k hk (h | h)
    · exact hA3g k hk h
    · exact hA3A k hk h
  · intro k hk hk2
    rcases hat with h | h
    · exact h6 k (h ▸ hk) hk2
    · have := (h3.lt k hk2).2
      have := h k hk
      omega
  · rintro k (hk | hk)
    · exact h11' k hk
    · exact (hown'.lt k hk).2
  · rintro i (rfl | h) _
    · exact h7
    · exact h8 i h

theorem wrap_u64 (n : Nat) (h : n ≤ 4294967295) : IntKind.u64.wrap (n : Int) = n := by
  simp [IntKind.wrap, IntKind.signed, IntKind.bits]
  omega

set_option maxRecDepth 100000 in
set_option maxHeartbeats 1000000 in
theorem fl_four (S : Nat → Prop) (g : Nat) (s : WS) (w : World) (h : FlIs w S g s) (x : Nat) (hx : x ≤ 4294967295) (hn : s.b.length ≤ 1099511627776) :
    Calls Try.prog 36 #[.pointer (some ⟨g, 0, none⟩), .int .i64 x] w (FlPost (.tuple #[]) S g (num4 [x] s) w) := by
  obtain ⟨A, c, A2, c2, A3, c3, h1, h2, h3, h4, h6, h7, h8, h9, h10, h11⟩ := h
  obtain ⟨hc0, hc1, hc2, hf0, hf1, hf2⟩ := h1.c3
  have HR := Lib.hid h2.rd
  have hlt := h1.lt
  have e1 := wrap_u64 x hx
  go_enter Try.func36, Try.ntmps36
  go_wp2_with (go_at_call 81; refine (refPut_any _ _ _ s.b x 4 false _ HR.out (by omega) (by omega) hn).mono ?_; rintro e w2 ⟨A', c', rfl, hown2, hnew⟩; obtain ⟨hcl, hfr⟩ := New.cells hnew)
  go_end0
  refine fl_buf h1 h2 h3 h4 h6 h7 h8 h9 h10 h11 ⟨rfl, A', _, c', (h1.chg hnew (fun h => h)).set_ 0 _, ?_, ?_, (hnew.mono (fun _ h _ => h.elim)).setCell (fun _ => .inl rfl) _, .inr fun k hk => (hown2.lt k hk).1⟩
  · rw [List.length_append, puts32_length]; rfl
  · have := (hown2.low (Nat.zero_le _)).far (p := ⟨g, 0, none⟩) (fun k hk => by have := (hown2.lt k hk).1; show k ≠ g; omega) (.slice A' (s.b.length + 4) c')
    simpa [puts32] using this

/-- bytes behind the structure -/
def rawF (l : List UInt8) (s : WS) : WS := { s with b := s.b ++ l }
theorem fillF_raw (l : List UInt8) (s : WS) : fillF l s = fillF [] (rawF l s) := by simp [fillF, rawF]
/-- how many bytes the structure has -/
def lenAt (w : World) (g : Nat) : Nat := match w.cell? ⟨g, 0, none⟩ with | some (.slice _ n _) => n | _ => 0
theorem lenAt_of {w : World} {g n c : Nat} {A : Option Addr} (h : w.cell? ⟨g, 0, none⟩ = some (.slice A n c)) : lenAt w g = n := by simp [lenAt, h]

set_option maxRecDepth 100000 in
set_option maxHeartbeats 1000000 in
theorem fl_fill (S : Nat → Prop) (g : Nat) (s : WS) (w : World) (h : FlIs w S g s) (hn : s.b.length ≤ 1099511627776) :
    Calls Try.prog 79 #[.pointer (some ⟨g, 0, none⟩)] w (FlPost (.tuple #[]) S g (fillF [] s) w) := by
  obtain ⟨i0, hi0, hz0, hz1, hz2⟩ := info_parts infoU8
  have H := Lib.hid h
  clear h
  go_enter Try.func79, Try.ntmps79
  go_wp2_with fail
  go_loopw [] (fun wr => ∃ (i : Nat) (S' : Nat → Prop), i ≤ (4 - s.b.length % 4) % 4 ∧ Ext S S' w ∧ FlIs wr S' g (rawF (List.replicate i 0) s) ∧ Chg S w wr) (fun wr => (4 - lenAt wr g % 4) % 4)
  case atStart => exact ⟨0, S, Nat.zero_le _, Ext.refl _ _, by simpa [rawF] using H.out, Chg.refl _ _⟩
  case round =>
    obtain ⟨i, S', hi, he, hfl, hch⟩ := hrel
    obtain ⟨A, c, A2, c2, A3, c3, h1, h2, h3, h4, h6, h7, h8, h9, h10, h11⟩ := hfl
    obtain ⟨hc0, hc1, hc2, hf0, hf1, hf2⟩ := h1.c3
    have hla := lenAt_of hc0
    have hll : (rawF (List.replicate i 0) s).b.length = s.b.length + i := by simp [rawF]
    have hgl := h1.lt
    have HLA := Lib.hid hla
    have HLL := Lib.hid hll
    rw [hll] at hc0
    obtain ⟨L, hL⟩ : ∃ L, s.b.length = L := ⟨_, rfl⟩
    rw [hL] at hi hn hc0
    have HL := Lib.hid hL
    have e1 : ((L : Int) + (i : Int)).tmod 4 = (((L + i) % 4 : Nat) : Int) := by rw [Int.tmod_eq_emod_of_nonneg (by omega)]; omega
    clear hla hll hL
    by_cases hz : (L + i) % 4 = 0
    · have hi2 : i = (4 - L % 4) % 4 := by omega
      go_wp2_with fail
      go_end0
      refine ⟨rfl, S', he, ?_, hch⟩
      have : fillF [] s = rawF (List.replicate i 0) s := by simp [fillF, rawF, pad4, HL.out, hi2]
      rw [this]
      exact ⟨A, c, A2, c2, A3, c3, h1, h2, h3, h4, h6, h7, h8, h9, h10, h11⟩
    · go_wp2_with (with_reducible refine stopAt 15 rfl ?_)
      refine unstop ?_
      have h2' := h2
      rw [HLL.out, HL.out] at h2'
      refine wpList_append_x _ rfl _ _ 28 rfl 0 5 i0 _ 1 1 Try.underlying28 hi0 hz0 hz1 hz2 rfl (by omega) A (L + i) c _ rfl (h2'.alloc _) _ 1 _ _ rfl (Rd.made _ _ _) (by simp [Value.oneCell']) (L + i + 1) rfl (by simp only [maxLen]; omega) (by omega) (Nat.zero_le _) ?_
      intro A5 c5 w5 hown5 hg5 hat5
      have hne : ∀ k, blkOf A = some k → k ≠ g := h2.ne_ h1 (by decide)
      have hch5 : Chg (fun k => blkOf A = some k) wr w5 := ((Chg.refl _ _).alloc _).grown hg5 (fun k hk _ => hk)
      have hg5' := h1.chg hch5 (fun h => hne _ h rfl)
      have hn5 : ∀ k, blkOf A5 = some k → k ≠ g := hown5.ne_ hg5' (by decide)
      obtain ⟨hd0, hd1, hd2, hu0, hu1, hu2⟩ := hg5'.c3
      go_wp2_with fail
      have key : FlPost (.tuple #[]) S' g { rawF (List.replicate i 0) s with b := (rawF (List.replicate i 0) s).b ++ [0] } wr (.returned (.tuple #[])) (w5.setCell ⟨g, 0, none⟩ (.slice A5 (L + i + 1) c5)) := by
        refine fl_buf h1 h2 h3 h4 h6 h7 h8 h9 h10 h11 ⟨rfl, A5, _, c5, hg5'.set_ 0 _, ?_, ?_, (hch5.mono (fun _ h _ => .inr h)).setCell (fun _ => .inl rfl) _, ?_⟩
        · rw [List.length_append, HLL.out, HL.out]; rfl
        · have := hown5.far (p := ⟨g, 0, none⟩) hn5 (.slice A5 (L + i + 1) c5)
          simpa [bv] using this
        · rcases hat5 with h | h
          · exact .inl h
          · refine .inr fun k hk => ?_
            rw [h] at hk
            simp at hk
            omega
      obtain ⟨-, S6, he6, hfl6, hch6⟩ := key
      have hst : ({ rawF (List.replicate i 0) s with b := (rawF (List.replicate i 0) s).b ++ [0] } : WS) = rawF (List.replicate (i + 1) 0) s := by simp [rawF, List.replicate_succ']
      rw [hst] at hfl6
      go_roundw
      case rel => exact ⟨i + 1, S6, by rw [HL.out]; omega, he.trans he6 hch.size, hfl6, hch.ext he hch6⟩
      case measure =>
        obtain ⟨B, d, B2, d2, B3, d3, r1, _⟩ := hfl6
        have := lenAt_of r1.c3.1
        rw [HLA.out, HLL.out, HL.out, this]
        simp [rawF, HL.out]
        omega

theorem plF_hit (pl : List (List UInt8 × Nat)) (s : List UInt8) (j : Nat) (x : List UInt8 × Nat) (hj : pl[j]? = some x) (hx : x.1 = s) (h : ∀ i y, i < j → pl[i]? = some y → y.1 ≠ s) : plF pl s = some x.2 := by
  unfold plF
  obtain ⟨hlt, hj⟩ := List.getElem?_eq_some_iff.1 hj
  have : pl.find? (fun x => x.1 == s) = some x := by
    rw [List.find?_eq_some_iff_getElem]
    refine ⟨by simp [hx], j, hlt, hj, fun i hi => ?_⟩
    have := h i pl[i] hi (List.getElem?_eq_getElem (by omega))
    simp [this]
  rw [this]; rfl
theorem plF_miss (pl : List (List UInt8 × Nat)) (s : List UInt8) (h : ∀ i y, i < pl.length → pl[i]? = some y → y.1 ≠ s) : plF pl s = none := by
  unfold plF
  have : pl.find? (fun x => x.1 == s) = none := by
    rw [List.find?_eq_none]
    intro x hx
    obtain ⟨i, hi, rfl⟩ := List.getElem_of_mem hx
    have := h i _ hi (List.getElem?_eq_getElem hi)
    simp [this]
  rw [this]; rfl
theorem Rd.re {w : World} {size size' n n' : Nat} {A : Option Addr} {xs : List Value} (h : Rd w size A n xs) (hn : n * size = n' * size') (h0 : 0 < n' → 0 < n) : Rd w size' A n' xs :=
  ⟨h.1.trans hn, fun hp => h.2 (h0 hp)⟩
theorem infoPl : (Try.prog.info? 171).map (fun i => (i.zero, i.size, i.bytes)) = some (some (.agg #[.string .empty, .int .i64 0]), 2, 24) := by kernel_rfl

set_option maxRecDepth 100000 in
set_option maxHeartbeats 1000000 in
theorem fl_text (S : Nat → Prop) (g : Nat) (s : WS) (w : World) (h : FlIs w S g s) (nm : ByteArray) (hn : s.wt ≤ 1073741824) (hnm : nm.size ≤ 1073741824) :
    Calls Try.prog 80 #[.pointer (some ⟨g, 0, none⟩), .string nm] w (FlPost (.int .i64 ((textF nm.data.toList s).1 : Int)) S g (textF nm.data.toList s).2 w) := by
  obtain ⟨i0, hi0, hz0, hz1, hz2⟩ := info_parts infoU8
  obtain ⟨ip, hip, hp0, hp1, hp2⟩ := info_parts infoPl
  have hw := h
  obtain ⟨A, c, A2, c2, A3, c3, h1, h2, h3, h4, h6, h7, h8, h9, h10, h11⟩ := h
  obtain ⟨hc0, hc1, hc2, hf0, hf1, hf2⟩ := h1.c3
  have hgl := h1.lt
  have hb1 : s.texts.length ≤ 1073741824 := by unfold WS.wt at hn; omega
  have hb2 : s.pl.length ≤ 1073741824 := by unfold WS.wt at hn; omega
  have H6 := Lib.hid h6
  have H8 := Lib.hid h8
  have H9 := Lib.hid h9
  have H10 := Lib.hid h10
  have H11 := Lib.hid h11
  clear h6 h8 h9 h10 h11
  go_enter Try.func80, Try.ntmps80
  go_wp2_with fail
  go_loopw [13] (fun i wr => ∃ (j : Nat), j ≤ s.pl.length ∧ i = .int .i64 j ∧ (∀ i y, i < j → s.pl[i]? = some y → y.1 ≠ nm.data.toList) ∧ New w wr) (fun i _ => s.pl.length - (intOf i).toNat)
  case atStart => exact ⟨0, Nat.zero_le _, rfl, fun i y hi => by omega, Chg.refl _ _⟩
  case round =>
    obtain ⟨j, hj, rfl, hno, hnew⟩ := hrel
    have HNO := Lib.hid hno
    clear hno
    by_cases hlt : j < s.pl.length
    · have hjx : s.pl[j]? = some s.pl[j] := List.getElem?_eq_getElem hlt
      obtain ⟨x, hx⟩ : ∃ x, s.pl[j] = x := ⟨_, rfl⟩
      rw [hx] at hjx
      obtain ⟨b, o, rfl, hbl, hcells⟩ := ((h4.new_ hnew).rd).addr (by omega) (by omega)
      obtain ⟨q0, q1⟩ := plC_at _ _ _ hjx
      have hq0 := hcells _ _ q0
      have hq1 := hcells _ _ q1
      rw [← Nat.add_assoc] at hq1
      have HJX := Lib.hid hjx
      obtain ⟨q, hq⟩ : ∃ q, (⟨x.1.toArray⟩ : ByteArray) = q := ⟨_, rfl⟩
      rw [hq] at hq0
      have hqx : q.toList = x.1 := by rw [Lib.toList_data, ← hq]
      have HQX := Lib.hid hqx
      have hnt : nm.toList = nm.data.toList := Lib.toList_data nm
      have HNT := Lib.hid hnt
      clear hcells q0 q1 hjx hx hq hqx hnt
      by_cases hqe : (q.toList == nm.toList) = true
      · have HQE := Lib.hid hqe
        go_wp2_with fail
        go_ret
        have hxe : x.1 = nm.data.toList := by have := HQE.out; rw [HQX.out, HNT.out] at this; simpa using this
        have ht : textF nm.data.toList s = (x.2, s) := by simp only [textF, plF_hit _ _ j x HJX.out hxe HNO.out]
        rw [ht]
        exact ⟨rfl, S, Ext.refl _ _, hw.new_ (hnew.alloc _), (hnew.alloc _).mono (fun _ h _ => h.elim)⟩
      · have hqe := Bool.eq_false_iff.2 hqe
        have HQE := Lib.hid hqe
        go_wp2_with fail
        go_roundw
        case rel =>
          refine ⟨j + 1, by omega, by go_num, fun i y hi hy => ?_, hnew.alloc _⟩
          rcases Nat.lt_succ_iff_lt_or_eq.1 hi with h | rfl
          · exact HNO.out i y h hy
          · rw [HJX.out] at hy
            injection hy with hy
            subst hy
            have := HQE.out
            rw [HQX.out, HNT.out] at this
            simpa using this
        case measure => simp [intOf]; omega
    · obtain rfl : s.pl.length = j := by omega
      have hmiss : plF s.pl nm.data.toList = none := plF_miss _ _ HNO.out
      have ht : textF nm.data.toList s = (s.texts.length, { s with texts := s.texts ++ nm.data.toList ++ [0], pl := s.pl ++ [(nm.data.toList, s.texts.length)] }) := by simp [textF, hmiss]
      have HT := Lib.hid ht
      clear ht hmiss
      have h1w := h1.chg hnew (fun h => h)
      obtain ⟨hd0, hd1, hd2, he0, he1, he2⟩ := h1w.c3
      have hglw : g < wr.heap.size := h1w.lt
      go_wp2_with (with_reducible refine stopAt 38 rfl ?_)
      refine unstop ?_
      refine wpList_append_x _ rfl _ _ 73 rfl 0 171 ip _ 2 24 Try.underlying73 hip hp0 hp1 hp2 rfl (by omega) A3 _ c3 _ rfl ((h4.new_ hnew).alloc _) _ 1 _ [.string nm, .int .i64 (s.texts.length : Int)] rfl
        ((Rd.made' wr 171 [.string nm, .int .i64 (s.texts.length : Int)] (k := wr.heap.size) (n := 2) rfl rfl).re (by omega) (by omega)) (by simp [Value.oneCell']) (s.pl.length + 1) rfl (by simp only [maxLen]; omega) (by omega) (Nat.zero_le _) ?_
      intro A5 c5 w5 hown5 hg5 hat5
      have hA3g : ∀ k, blkOf A3 = some k → k ≠ g := h4.ne_ h1 (by decide)
      have hch5 : Chg (fun k => blkOf A3 = some k) wr w5 := ((Chg.refl _ _).alloc _).grown hg5 (fun k hk _ => hk)
      have hb5 := h1w.chg hch5 (fun h => hA3g _ h rfl)
      have hA5g : ∀ k, blkOf A5 = some k → k ≠ g := hown5.ne_ hb5 (by decide)
      clear hd0 hd1 hd2 he0 he1 he2 hc0 hc1 hc2 hf0 hf1 hf2
      obtain ⟨hd0, hd1, hd2, he0, he1, he2⟩ := hb5.c3
      have hgl5 := hb5.lt
      have h23 : Own w5 0 5 1 A2 s.texts.length c2 (s.texts.map bv) := (h3.new_ hnew).chg hch5 (fun k hk h => h4.ne_own h3 (by decide) k h hk)
      have hb6 := hb5.set_ 2 (.slice A5 (s.pl.length + 1) c5)
      have h236 := h23.far (p := ⟨g, 2, none⟩) (h3.ne_ h1 (by decide)) (.slice A5 (s.pl.length + 1) c5)
      go_wp2_with (with_reducible refine stopAt 47 rfl ?_)
      refine unstop ?_
      refine wpList_append_str _ rfl _ _ 28 9 rfl 0 5 i0 Try.underlying28 Try.underlying9 hi0 hz0 hz1 hz2 A2 _ c2 _ rfl h236 nm rfl (s.texts.length + nm.size) rfl (by simp only [maxLen]; omega) (by omega) (Nat.zero_le _) ?_
      intro A7 c7 w7 hown7 hg7 hat7
      clear hd0 hd1 hd2 he0 he1 he2
      go_wp2_with (with_reducible refine stopAt 49 rfl ?_)
      refine unstop ?_
      refine wpList_append_x _ rfl _ _ 28 rfl 0 5 i0 _ 1 1 Try.underlying28 hi0 hz0 hz1 hz2 rfl (by omega) A7 _ c7 _ rfl (hown7.alloc _) _ 1 _ _ rfl (Rd.made _ _ _) (by simp [Value.oneCell']) (s.texts.length + nm.size + 1) rfl (by simp only [maxLen]; omega) (by omega) (Nat.zero_le _) ?_
      intro A8 c8 w8 hown8 hg8 hat8
      have hA2g : ∀ k, blkOf A2 = some k → k ≠ g := h3.ne_ h1 (by decide)
      have hch7 : Chg (fun k => blkOf A2 = some k) (w5.setCell ⟨g, 2, none⟩ (.slice A5 (s.pl.length + 1) c5)) w7 := (Chg.refl _ _).grown hg7 (fun k hk _ => hk)
      have hb7 := hb6.chg hch7 (fun h => hA2g _ h rfl)
      have hA7g : ∀ k, blkOf A7 = some k → k ≠ g := hown7.ne_ hb7 (by decide)
      have hch8 : Chg (fun k => blkOf A7 = some k) w7 w8 := ((Chg.refl _ _).alloc _).grown hg8 (fun k hk _ => hk)
      have hb8 := hb7.chg hch8 (fun h => hA7g _ h rfl)
      have hA8g : ∀ k, blkOf A8 = some k → k ≠ g := hown8.ne_ hb8 (by decide)
      have hb8' : Blk w8 g 75 #[.slice A s.b.length c, .slice A2 s.texts.length c2, .slice A5 (s.pl.length + 1) c5] := by simpa using hb8
      obtain ⟨hd0, hd1, hd2, he0, he1, he2⟩ := hb8'.c3
      have hgl8 := hb8'.lt
      go_wp2_with fail
      go_ret
      rw [HT.out]
      have hszr := hnew.size
      have hsz5 := hch5.size
      have hsz7 := hch7.size
      have hsz8 := hch8.size
      simp only [World.size_setCell] at hsz7
      have hA5' : ∀ k, blkOf A5 = some k → blkOf A3 = some k ∨ w.heap.size ≤ k := by
        intro k hk
        rcases hat5 with h | h
        · exact .inl (h ▸ hk)
        · rw [h] at hk; simp at hk; exact .inr (by omega)
      have hA7' : ∀ k, blkOf A7 = some k → blkOf A2 = some k ∨ w.heap.size ≤ k := by
        intro k hk
        rcases hat7 with h | h
        · exact .inl (h ▸ hk)
        · rw [h] at hk; simp at hk; exact .inr (by omega)
      have hA8' : ∀ k, blkOf A8 = some k → blkOf A2 = some k ∨ w.heap.size ≤ k := by
        intro k hk
        rcases hat8 with h | h
        · exact hA7' k (h ▸ hk)
        · rw [h] at hk; simp at hk; exact .inr (by omega)
      have hchw5 : Chg S w (w5.setCell ⟨g, 2, none⟩ (.slice A5 (s.pl.length + 1) c5)) := ((hnew.mono (fun _ h _ => h.elim)).trans hch5 (fun i hi hlt => H10.out i hi)).setCell (fun _ => h7) _
      have hchw8 : Chg S w w8 := (hchw5.trans hch7 (fun i hi _ => H9.out i hi)).trans hch8 (fun i hi hlt => H9.out i ((hA7' i hi).resolve_right (by omega)))
      have hown5' := ((hown5.far (p := ⟨g, 2, none⟩) hA5g (.slice A5 (s.pl.length + 1) c5)).chg hch7 (fun k hk h => hown5.ne_own h23 (by decide) k hk h))
      have hown5'' := (hown5'.chg hch8 (fun k hk h => hown5'.ne_own hown7 (by decide) k hk h)).far (p := ⟨g, 1, none⟩) hA5g (.slice A8 (s.texts.length + nm.size + 1) c8)
      have hA5c : Own (w8.setCell ⟨g, 1, none⟩ (.slice A8 (s.texts.length + nm.size + 1) c8)) 0 171 2 A5 (s.pl.length + 1) c5 (plC (s.pl ++ [(nm.data.toList, s.texts.length)])) := by
        rw [plC_snoc]; simpa using hown5''
      have hAc := ((((h2.new_ hnew).chg hch5 (fun k hk h => h4.ne_own h2 (by decide) k h hk)).far (p := ⟨g, 2, none⟩) (h2.ne_ h1 (by decide)) (.slice A5 (s.pl.length + 1) c5)).chg hch7 (fun k hk h => H6.out k hk h)).chg hch8 (fun k hk h => by
        rcases hA7' k h with h' | h'
        · exact H6.out k hk h'
        · have := H11.out k (H8.out k hk); omega)
      have hA8c := hown8.far (p := ⟨g, 1, none⟩) hA8g (.slice A8 (s.texts.length + nm.size + 1) c8)
      refine ⟨rfl, fun k => S k ∨ blkOf A5 = some k ∨ blkOf A8 = some k, ?_, ⟨A, c, A8, c8, A5, c5, ?_, ?_, ?_, ?_, ?_, .inl h7, fun k hk => .inl (H8.out k hk), fun k hk => .inr (.inr hk), fun k hk => .inr (.inl hk), ?_⟩, hchw8.setCell (fun _ => h7) _⟩
      · rintro k (hk | hk | hk)
        · exact .inl hk
        · exact (hA5' k hk).imp (H10.out k) id
        · exact (hA8' k hk).imp (H9.out k) id
      · have := hb8'.set_ 1 (.slice A8 (s.texts.length + nm.size + 1) c8)
        simpa [Nat.add_assoc] using this
      · exact hAc.far (p := ⟨g, 1, none⟩) (h2.ne_ h1 (by decide)) _
      · simpa [bv, Nat.add_assoc] using hA8c
      · simpa using hA5c
      · intro k hk hk2
        rcases hA8' k hk2 with h' | h'
        · exact H6.out k hk h'
        · have := H11.out k (H8.out k hk); omega
      · rintro k (hk | hk | hk)
        · have := H11.out k hk
          have := hchw8.size
          simp; omega
        · exact (hA5c.lt k hk).2
        · exact (hA8c.lt k hk).2
end Go.Proofs.Ytfmmcjiehpdogaa
