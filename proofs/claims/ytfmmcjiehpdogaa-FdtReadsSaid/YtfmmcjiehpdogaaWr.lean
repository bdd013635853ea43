/-
  The program's writer in memory; its methods. No condition but that memory bears what is written.
-/
import Derived.Test.YtfmmcjiehpdogaaPutF
import Derived.Test.YtfmmcjiehpdogaaMaps
set_option linter.unusedVariables false
set_option linter.unusedSimpArgs false
namespace Go.Proofs.Ytfmmcjiehpdogaa
open Go.RowKit

/-- S' holds no old block that S does not hold -/
def Ext (S S' : Nat → Prop) (w : World) : Prop := ∀ k, S' k → S k ∨ w.heap.size ≤ k
section
variable {S S1 S2 : Nat → Prop} {w w1 w2 : World}
theorem Ext.refl (S : Nat → Prop) (w : World) : Ext S S w := fun _ h => .inl h
theorem Ext.trans (h : Ext S S1 w) (k : Ext S1 S2 w1) (hs : w.heap.size ≤ w1.heap.size) : Ext S S2 w := fun i hi => by
  rcases k i hi with h1 | h1
  · exact h i h1
  · exact .inr (by omega)
theorem Chg.ext (h : Chg S w w1) (he : Ext S S1 w) (k : Chg S1 w1 w2) : Chg S w w2 :=
  h.trans k fun i hi hlt => (he i hi).resolve_right (by omega)
theorem Ext.of_le (h : Ext S S1 w1) (hs : w.heap.size ≤ w1.heap.size) : Ext S S1 w := fun i hi => (h i hi).imp id (by omega)
end

/-- the writer in block g says s; all that it has lies in blocks of S -/
def WrIs (w : World) (S : Nat → Prop) (g : Nat) (s : WS) : Prop :=
  ∃ A c A2 c2 m cnt, Blk w g 68 #[.slice A s.b.length c, .slice A2 s.texts.length c2, .map (some m)] ∧ Own w 0 5 1 A s.b.length c (s.b.map bv) ∧
    Own w 0 5 1 A2 s.texts.length c2 (s.texts.map bv) ∧ MapIs w 34 .u32 m cnt (plI s.pl) ∧ cnt ≤ s.pl.length ∧ (∀ k, blkOf A = some k → blkOf A2 ≠ some k) ∧
    S g ∧ S m ∧ (∀ k, blkOf A = some k → S k) ∧ (∀ k, blkOf A2 = some k → S k) ∧ ∀ k, S k → k < w.heap.size

theorem WrIs.new_ {w w1 : World} {S : Nat → Prop} {g : Nat} {s : WS} (h : WrIs w S g s) (hc : New w w1) : WrIs w1 S g s := by
  obtain ⟨A, c, A2, c2, m, cnt, h1, h2, h3, h4, h5, h6, h7, h8, h9, h10, h11⟩ := h
  exact ⟨A, c, A2, c2, m, cnt, h1.chg hc (fun h => h), h2.new_ hc, h3.new_ hc, h4.new_ hc, h5, h6, h7, h8, h9, h10, fun k hk => Nat.lt_of_lt_of_le (h11 k hk) hc.size⟩
theorem WrIs.lt {w : World} {S : Nat → Prop} {g : Nat} {s : WS} (h : WrIs w S g s) : ∀ k, S k → k < w.heap.size := by
  obtain ⟨A, c, A2, c2, m, cnt, h1, h2, h3, h4, h5, h6, h7, h8, h9, h10, h11⟩ := h
  exact h11
theorem WrIs.mem {w : World} {S : Nat → Prop} {g : Nat} {s : WS} (h : WrIs w S g s) : S g := by
  obtain ⟨A, c, A2, c2, m, cnt, h1, h2, h3, h4, h5, h6, h7, h8, h9, h10, h11⟩ := h
  exact h7

/-- what a method of the writer leaves -/
def WrPost (r : Value) (S : Nat → Prop) (g : Nat) (s : WS) (w : World) (e : Ending) (w' : World) : Prop :=
  e = .returned r ∧ ∃ S', Ext S S' w ∧ WrIs w' S' g s ∧ Chg S w w'

theorem wr_buf {S : Nat → Prop} {g : Nat} {s : WS} {w w' : World} {b' : List UInt8} {A : Option Addr} {c : Nat} {A2 : Option Addr} {c2 m cnt : Nat}
    (h1 : Blk w g 68 #[.slice A s.b.length c, .slice A2 s.texts.length c2, .map (some m)]) (h3 : Own w 0 5 1 A2 s.texts.length c2 (s.texts.map bv)) (h4 : MapIs w 34 .u32 m cnt (plI s.pl))
    (h5 : cnt ≤ s.pl.length) (h6 : ∀ k, blkOf A = some k → blkOf A2 ≠ some k) (h7 : S g) (h8 : S m) (h9 : ∀ k, blkOf A = some k → S k) (h10 : ∀ k, blkOf A2 = some k → S k) (h11 : ∀ k, S k → k < w.heap.size) (h2 : Own w 0 5 1 A s.b.length c (s.b.map bv))
    {e : Ending} (h : BufPost g 68 #[.slice A s.b.length c, .slice A2 s.texts.length c2, .map (some m)] A b' w e w') : WrPost (.tuple #[]) S g { s with b := b' } w e w' := by
  obtain ⟨rfl, A', n', c', hg', rfl, hown', hch, hat⟩ := h
  have hA2g : ∀ k, blkOf A2 = some k → k ≠ g := h3.ne_ h1 (by decide)
  have hmg : m ≠ g := h4.ne_blk h1.row
  have hmA : ∀ k, blkOf A = some k → m ≠ k := by
    intro k hk
    rcases h2.cases with ⟨rfl, _⟩ | ⟨g', cur, rfl, _, hr, _⟩
    · cases hk
    · obtain rfl : g' = k := by simpa [blkOf] using hk
      exact h4.ne_blk hr
  have h11' : ∀ k, S k → k < w'.heap.size := fun k hk => Nat.lt_of_lt_of_le (h11 k hk) hch.size
  refine ⟨rfl, fun k => S k ∨ blkOf A' = some k, ?_, ⟨A', c', A2, c2, m, cnt, by simpa using hg', hown', h3.chg hch ?_, h4.chg hch ?_, h5, ?_, .inl h7, .inl h8, fun k hk => .inr hk, fun k hk => .inl (h10 k hk), ?_⟩, hch.mono ?_⟩
  · rintro k (hk | hk)
    · exact .inl hk
    · rcases hat with h | h
      · exact .inl (h9 k (h ▸ hk))
      · exact .inr (h k hk)
  · rintro k hk (h | h)
    · exact hA2g k hk h
    · exact h6 k h hk
  · rintro (h | h)
    · exact hmg h
    · exact hmA _ h rfl
  · intro k hk hk2
    rcases hat with h | h
    · exact h6 k (h ▸ hk) hk2
    · have := (h3.lt k hk2).2
      have := h k hk
      omega
  · rintro k (hk | hk)
    · exact h11' k hk
    · exact (hown'.lt k hk).2
  · rintro i (rfl | h) _
    · exact h7
    · exact h9 i h

theorem wr_four (S : Nat → Prop) (g : Nat) (s : WS) (w : World) (h : WrIs w S g s) (A2 : Option Addr) (m c2 : Nat) (l : List Nat) (hr2 : Rd w 1 A2 m (l.map wv32)) (hn : s.b.length ≤ 1099511627776) (hm : m ≤ 1099511627776) :
    Calls Try.prog 33 #[.pointer (some ⟨g, 0, none⟩), .slice A2 m c2] w (WrPost (.tuple #[]) S g (num4 l s) w) := by
  obtain ⟨A, c, A3, c3, m3, cnt, h1, h2, h3, h4, h5, h6, h7, h8, h9, h10, h11⟩ := h
  exact (four_any g _ _ A _ c s.b A2 m c2 l w h1 rfl h2 hr2 hn hm).mono fun e w' hp => wr_buf h1 h3 h4 h5 h6 h7 h8 h9 h10 h11 h2 hp
theorem wr_fill (S : Nat → Prop) (g : Nat) (s : WS) (w : World) (h : WrIs w S g s) (A2 : Option Addr) (m c2 : Nat) (l : List UInt8) (hr2 : Rd w 1 A2 m (l.map bv)) (hn : s.b.length ≤ 1099511627776) (hm : m ≤ 1099511627776) :
    Calls Try.prog 76 #[.pointer (some ⟨g, 0, none⟩), .slice A2 m c2] w (WrPost (.tuple #[]) S g (fillF l s) w) := by
  obtain ⟨A, c, A3, c3, m3, cnt, h1, h2, h3, h4, h5, h6, h7, h8, h9, h10, h11⟩ := h
  exact (fill_any g _ _ A _ c s.b A2 m c2 l w h1 rfl h2 hr2 hn hm (by decide)).mono fun e w' hp => wr_buf h1 h3 h4 h5 h6 h7 h8 h9 h10 h11 h2 hp

theorem wf_u32 (n : Nat) (h : n ≤ 1073741824) : (Lit.int .u32 (n : Int)).wf = true := by
  simp [Lit.wf, IntKind.min, IntKind.max, IntKind.signed, IntKind.bits]
  omega
theorem zeroU32 (w : World) : (zeroValue 34).run Try.prog w = .ok (.int .u32 0) w := by kernel_rfl

set_option maxRecDepth 100000 in
set_option maxHeartbeats 1000000 in
theorem wr_text (S : Nat → Prop) (g : Nat) (s : WS) (w : World) (h : WrIs w S g s) (nm : ByteArray) (hn : s.wt ≤ 1073741824) (hnm : nm.size ≤ 1073741824) :
    Calls Try.prog 77 #[.pointer (some ⟨g, 0, none⟩), .string nm] w (WrPost (.int .u32 ((textF nm.data.toList s).1 : Int)) S g (textF nm.data.toList s).2 w) := by
  have hw := h
  obtain ⟨A, c, A2, c2, m, cnt, h1, h2, h3, h4, h5, h6, h7, h8, h9, h10, h11⟩ := h
  obtain ⟨i0, hi0, hz0, hz1, hz2⟩ := info_parts infoU8
  obtain ⟨hc0, hc1, hc2, hf0, hf1, hf2⟩ := h1.c3
  have hgl := h1.lt
  have hb1 : s.texts.length ≤ 1073741824 := by unfold WS.wt at hn; omega
  have hb2 : cnt ≤ 1073741824 := by unfold WS.wt at hn; omega
  cases hp : plF s.pl nm.data.toList with
  | some at_ =>
    have hI : plI s.pl nm.data.toList = some (at_ : Int) := by simp [plI, hp]
    have ht : textF nm.data.toList s = (at_, s) := by simp [textF, hp]
    have HI := Lib.hid hI
    have HT := Lib.hid ht
    clear hI ht hp
    go_enter Try.func77, Try.ntmps77
    go_wp2_with (with_reducible refine stopAt 13 rfl ?_)
    refine unstop ?_
    refine wpList_look_ok rfl _ _ 64 rfl Try.underlying64 Try.underlying34 (zeroU32 _) rfl h4 nm rfl (by simp only [maxLen]; omega) ?_
    rw [HI.out]
    go_wp2_with fail
    go_ret
    rw [HT.out]
    exact ⟨rfl, S, Ext.refl _ _, hw, Chg.refl _ _⟩
  | none =>
    have hI : plI s.pl nm.data.toList = none := by simp [plI, hp]
    have ht : textF nm.data.toList s = (s.texts.length, { s with texts := s.texts ++ nm.data.toList ++ [0], pl := s.pl ++ [(nm.data.toList, s.texts.length)] }) := by simp [textF, hp]
    have HI := Lib.hid hI
    have HT := Lib.hid ht
    have HP := Lib.hid hp
    clear hI ht hp
    go_enter Try.func77, Try.ntmps77
    go_wp2_with (with_reducible refine stopAt 13 rfl ?_)
    refine unstop ?_
    refine wpList_look_ok rfl _ _ 64 rfl Try.underlying64 Try.underlying34 (zeroU32 _) rfl h4 nm rfl (by simp only [maxLen]; omega) ?_
    rw [HI.out]
    have hwf := wf_u32 s.texts.length hb1
    have HWF := Lib.hid hwf
    clear hwf
    have hmg : m ≠ g := h4.ne_blk h1.row
    have hmO : ∀ {A : Option Addr} {n c : Nat} {xs : List Value}, Own w 0 5 1 A n c xs → ∀ k, blkOf A = some k → ¬ k = m := by
      intro A n c xs ho k hk e
      rcases ho.cases with ⟨rfl, _⟩ | ⟨g', cur, rfl, _, hr, _⟩
      · cases hk
      · obtain rfl : g' = k := by simpa [blkOf] using hk
        exact h4.ne_blk hr e.symm
    have hmA := hmO h2
    have hmA2 := hmO h3
    clear hmO
    have HmA := Lib.hid hmA
    have HmA2 := Lib.hid hmA2
    have H6 := Lib.hid h6
    have H9 := Lib.hid h9
    have H10 := Lib.hid h10
    have H11 := Lib.hid h11
    clear hmA hmA2 h6 h9 h10 h11
    go_wp2_with (first
      | (refine wpList_upd rfl _ _ _ 64 rfl Try.underlying64 Try.underlying34 rfl h4 (by simp only [maxLen]; omega) nm rfl (by simp only [maxLen]; omega) (s.texts.length : Int) rfl HWF.out ?_; intro w2 hmap2 hg2
         have hch2 : Chg (fun k => k = m) w w2 := (Chg.refl _ _).grown hg2 (fun k hk _ => (Option.some.inj hk).symm)
         have hb2' := h1.chg hch2 (fun h => hmg h.symm)
         obtain ⟨hd0, hd1, hd2, he0, he1, he2⟩ := hb2'.c3)
      | (with_reducible refine stopAt 36 rfl ?_))
    refine unstop ?_
    have h2' := h2.chg hch2 HmA.out
    have h3' := h3.chg hch2 HmA2.out
    refine wpList_append_str _ rfl _ _ 28 9 rfl 0 5 i0 Try.underlying28 Try.underlying9 hi0 hz0 hz1 hz2 A2 _ c2 _ rfl h3' nm rfl (s.texts.length + nm.size) rfl (by simp only [maxLen]; omega) (by omega) (Nat.zero_le _) ?_
    intro A5 c5 w5 hown5 hg5 hat5
    have hA2g := h3.ne_ h1 (by decide)
    have hA5g : ∀ k, blkOf A5 = some k → k ≠ g := by
      intro k hk
      rcases hat5 with h | h
      · exact hA2g k (h ▸ hk)
      · rw [h] at hk
        injection hk with hk
        have := hb2'.lt
        omega
    have hch5 : Chg (fun k => blkOf A2 = some k) w2 w5 := (Chg.refl _ _).grown hg5 (fun k hk _ => hk)
    have hb5 := hb2'.chg hch5 (fun h => hA2g _ h rfl)
    clear hd0 hd1 hd2 he0 he1 he2 hc0 hc1 hc2 hf0 hf1 hf2
    go_wp2_with (with_reducible refine stopAt 38 rfl ?_)
    refine unstop ?_
    refine wpList_append_x _ rfl _ _ 28 rfl 0 5 i0 _ 1 1 Try.underlying28 hi0 hz0 hz1 hz2 rfl (by omega) A5 _ c5 _ rfl (hown5.alloc _) _ 1 _ _ rfl (Rd.made _ _ _) (by simp [Value.oneCell']) (s.texts.length + nm.size + 1) rfl (by simp only [maxLen]; omega) (by omega) (Nat.zero_le _) ?_
    intro A6 c6 w6 hown6 hg6 hat6
    have hch6 : Chg (fun k => blkOf A5 = some k) w5 w6 := ((Chg.refl _ _).alloc _).grown hg6 (fun k hk _ => hk)
    have hb6 := hb5.chg hch6 (fun h => hA5g _ h rfl)
    obtain ⟨hd0, hd1, hd2, he0, he1, he2⟩ := hb6.c3
    go_wp2_with fail
    go_ret
    rw [HT.out]
    have hA6g := hown6.ne_ hb6 (by decide)
    have hA5' : ∀ k, blkOf A5 = some k → blkOf A2 = some k ∨ w.heap.size ≤ k := by
      intro k hk
      rcases hat5 with h | h
      · exact .inl (h ▸ hk)
      · rw [h] at hk
        injection hk with hk
        have := hch2.size
        exact .inr (by omega)
    have hA6' : ∀ k, blkOf A6 = some k → blkOf A2 = some k ∨ w.heap.size ≤ k := by
      intro k hk
      rcases hat6 with h | h
      · exact hA5' k (h ▸ hk)
      · rw [h] at hk
        injection hk with hk
        have := hch2.size
        have := hch5.size
        simp at hk
        exact .inr (by omega)
    have hS5 : ∀ i, i < w.heap.size → blkOf A5 = some i → S i := fun i hlt hi => H10.out i ((hA5' i hi).resolve_right (by omega))
    have hchw5 : Chg S w w5 := (hch2.mono (fun i hi _ => by rw [hi]; exact h8)).trans hch5 (fun i hi hlt => H10.out i hi)
    have hchw6 : Chg S w w6 := hchw5.trans hch6 (fun i hi hlt => hS5 i hlt hi)
    refine ⟨rfl, fun k => S k ∨ blkOf A6 = some k, ?_, ⟨A, c, A6, c6, m, cnt + 1, ?_, ?_, ?_, ?_, ?_, ?_, .inl h7, .inl h8, fun k hk => .inl (H9.out k hk), fun k hk => .inr hk, ?_⟩, hchw6.setCell (fun _ => h7) _⟩
    · rintro k (hk | hk)
      · exact .inl hk
      · exact (hA6' k hk).imp (H10.out k) id
    · have := hb6.set_ 1 (.slice A6 (s.texts.length + nm.size + 1) c6)
      simpa [Nat.add_assoc] using this
    · have hA : Own w6 0 5 1 A s.b.length c (s.b.map bv) := (h2'.chg hch5 (fun k hk h => H6.out k hk h)).chg hch6 (fun k hk h => by
        rcases hA5' k h with h' | h'
        · exact H6.out k hk h'
        · have := H11.out k (H9.out k hk); omega)
      exact hA.far (h2.ne_ h1 (by decide)) _
    · have := hown6.far (p := ⟨g, 1, none⟩) hA6g (.slice A6 (s.texts.length + nm.size + 1) c6)
      simpa [Nat.add_assoc, bv] using this
    · have hm6 := ((hmap2.chg hch5 (fun h => HmA2.out m h rfl)).chg hch6 (fun h => by
        rcases hA5' m h with h' | h'
        · exact HmA2.out m h' rfl
        · have := H11.out m h8; omega)).far (p := ⟨g, 1, none⟩) hmg (.slice A6 (s.texts.length + nm.size + 1) c6)
      rw [plI_snoc _ _ _ HP.out] at hm6
      exact hm6
    · simp; omega
    · intro k hk hk2
      rcases hA6' k hk2 with h' | h'
      · exact H6.out k hk h'
      · have := H11.out k (H9.out k hk); omega
    · rintro k (hk | hk)
      · have := H11.out k hk
        have := hchw6.size
        simp; omega
      · have := (hown6.lt k hk).2
        simpa using this
end Go.Proofs.Ytfmmcjiehpdogaa
