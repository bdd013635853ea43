/-
  The reference's structure takes a node as nodeF does. No condition but that memory bears the tree.
-/
import Derived.Test.YtfmmcjiehpdogaaRefFl
import Derived.Test.YtfmmcjiehpdogaaNode
set_option linter.unusedVariables false
set_option linter.unusedSimpArgs false
namespace Go.Proofs.Ytfmmcjiehpdogaa
open Go.RowKit
attribute [local go_sem ↓] Go.wp_at_zero Go.wp_at_succ

theorem fl_raw {S : Nat → Prop} {g : Nat} {s : WS} {w w' : World} {l : List UInt8} {A : Option Addr} {c : Nat} {A2 : Option Addr} {c2 : Nat} {A3 : Option Addr} {c3 : Nat}
    (h1 : Blk w g 75 #[.slice A s.b.length c, .slice A2 s.texts.length c2, .slice A3 s.pl.length c3]) (h2 : Own w 0 5 1 A s.b.length c (s.b.map bv)) (h3 : Own w 0 5 1 A2 s.texts.length c2 (s.texts.map bv))
    (h4 : Own w 0 171 2 A3 s.pl.length c3 (plC s.pl))
    (h6 : ∀ k, blkOf A = some k → blkOf A2 ≠ some k) (h7 : S g) (h8 : ∀ k, blkOf A = some k → S k) (h9 : ∀ k, blkOf A2 = some k → S k) (h10 : ∀ k, blkOf A3 = some k → S k) (h11 : ∀ k, S k → k < w.heap.size)
    {A' : Option Addr} {n' c' : Nat} (hn : n' = s.b.length + l.length) (hown : Own w' 0 5 1 A' n' c' ((s.b ++ l).map bv)) (hch : Chg (fun k => blkOf A = some k) w w') (hat : blkOf A' = blkOf A ∨ ∀ k, blkOf A' = some k → w.heap.size ≤ k) :
    FlPost (.tuple #[]) S g (rawF l s) w (.returned (.tuple #[])) (w'.setCell ⟨g, 0, none⟩ (.slice A' n' c')) := by
  have hb' := h1.chg hch (fun h => h2.ne_ h1 (by decide) _ h rfl)
  exact fl_buf h1 h2 h3 h4 h6 h7 h8 h9 h10 h11 ⟨rfl, A', _, c', hb'.set_ 0 _, by rw [List.length_append, hn], hown.far (p := ⟨g, 0, none⟩) (hown.ne_ hb' (by decide)) _, (hch.mono (fun _ h _ => .inr h)).setCell (fun _ => .inl rfl) _, hat⟩

/-- the places are within the texts -/
def okPl (s : WS) : Prop := ∀ x ∈ s.pl, x.2 ≤ s.texts.length
theorem okPl_num (l : List Nat) {s : WS} (h : okPl s) : okPl (num4 l s) := h
theorem okPl_fill (l : List UInt8) {s : WS} (h : okPl s) : okPl (fillF l s) := h
theorem okPl_text (l : List UInt8) {s : WS} (h : okPl s) : okPl (textF l s).2 ∧ (textF l s).1 ≤ s.texts.length := by
  unfold textF
  split
  · rename_i at_ hp
    refine ⟨h, ?_⟩
    unfold plF at hp
    cases hf : s.pl.find? (fun x => x.1 == l) with
    | none => rw [hf] at hp; cases hp
    | some x =>
      rw [hf] at hp
      obtain rfl : x.2 = at_ := by simpa using hp
      exact h x (List.mem_of_find?_eq_some hf)
  · refine ⟨fun x hx => ?_, Nat.le_refl _⟩
    simp only [List.mem_append, List.mem_singleton] at hx
    simp only [List.length_append]
    rcases hx with hx | rfl
    · have := h x hx; omega
    · simp only; omega
theorem okPl_prop (p : PropD) {s : WS} (h : okPl s) : okPl (propF p s) := (okPl_text p.1.data.toList h).1
theorem okPl_props (ps : List PropD) : ∀ {s : WS}, okPl s → okPl (propsF ps s) := by
  induction ps with
  | nil => intro s h; exact h
  | cons p ps ih => intro s h; exact ih (okPl_prop p h)
theorem okPl_kids (ks : List TreeD) (hk : ∀ k ∈ ks, ∀ {s : WS}, okPl s → okPl (nodeF k s)) : ∀ {s : WS}, okPl s → okPl (kidsF ks s) := by
  induction ks with
  | nil => intro s h; exact h
  | cons k ks ih =>
    intro s h
    exact ih (fun k' hk' => hk k' (by simp [hk'])) (hk k (by simp) h)
theorem okPl_node (t : TreeD) : ∀ {s : WS}, okPl s → okPl (nodeF t s) := by
  induction t using TreeD.ind with
  | h nm ps ks ih =>
    intro s h
    exact okPl_num _ (okPl_kids ks ih (okPl_props ps (okPl_fill _ (okPl_num _ h))))

theorem textF_num (l : List UInt8) (n : List Nat) (s : WS) : textF l (num4 n s) = ((textF l s).1, num4 n (textF l s).2) := by
  unfold textF num4
  simp only
  split <;> simp_all
theorem num4_num (l r : List Nat) (s : WS) : num4 l (num4 r s) = num4 (r ++ l) s := by simp [num4, puts32]
theorem propF_eq (q : PropD) (s : WS) : propF q s = fillF [] (rawF q.2 (num4 [(textF q.1.data.toList (num4 [q.2.length] (num4 [3] s))).1] (textF q.1.data.toList (num4 [q.2.length] (num4 [3] s))).2)) := by
  rw [← fillF_raw, textF_num, textF_num]
  simp only [num4_num]
  rfl

/-- what the reference's 'node' gives, for one tree -/
def FlOk (t : TreeD) : Prop := ∀ (S : Nat → Prop) (g B : Nat) (s : WS) (w : World) (v0 v1 v2 : Value), FlIs w S g s → TreeIs w B v0 v1 v2 t → (∀ k, k < B → ¬ S k) → B ≤ w.heap.size → s.wt + nodeW t ≤ 1073741824 → okPl s →
  Calls Try.prog 35 #[.pointer (some ⟨g, 0, none⟩), .agg #[v0, v1, v2]] w (FlPost (.tuple #[]) S g (nodeF t s) w)

/-- between two steps of 'node' -/
def FlMid (S : Nat → Prop) (g bx : Nat) (cells : Array Value) (s : WS) (w wx : World) : Prop :=
  ∃ S5, Ext S S5 w ∧ FlIs wx S5 g s ∧ Chg S w wx ∧ Blk wx bx 25 cells ∧ ¬ S5 bx

theorem rawF_wt (l : List UInt8) (s : WS) : (rawF l s).wt = s.wt + l.length := by simp only [rawF, WS.wt, List.length_append]; omega

set_option maxRecDepth 100000 in
set_option maxHeartbeats 1000000 in
theorem rnode_any (t : TreeD) : FlOk t := by
  induction t using TreeD.ind with
  | h nm ps ks ih =>
    intro S g B s w v0 v1 v2 hw ht hBS hBw hwt hok
    obtain ⟨i0, hi0, hz0, hz1, hz2⟩ := info_parts infoU8
    have ht' := ht
    have hWN : s.wt + 32 + nm.size + propsW ps + kidsW ks ≤ 1073741824 := by simp only [nodeW] at hwt; omega
    cases ht with
    | mk _ _ _ Ap Ak cp ck c0 c1 c2 hnm hp1 hp2 hk1 hk2 hps hcs hks =>
      have hgl := hw.lt g hw.mem
      have hbox := Blk.made w 25 #[.string nm, .slice Ap ps.length cp, .slice Ak ks.length ck]
      have hw1 := Lib.hid (hw.new_ ((Chg.refl _ _).alloc (.cells #[.string nm, .slice Ap ps.length cp, .slice Ak ks.length ck] 25)))
      have HBS := Lib.hid hBS
      have HOK := Lib.hid hok
      clear hok
      have hsb := wt_b s
      clear hBS hwt
      go_enter Try.func35, Try.ntmps35
      go_wp2_with (go_at_call 36; refine (fl_four S g s _ hw1.out 1 (by omega) (by omega)).mono ?_; rintro e w3 ⟨rfl, S3, he3, hw3, hch3⟩)
      have hsz3 := hch3.size
      simp only [World.size_alloc] at hsz3
      have hnS : ¬ S w.heap.size := fun h => by have := hw.lt _ h; omega
      have hchW : Chg S w w3 := (((Chg.refl S w).alloc _)).trans hch3 (fun i hi _ => hi)
      have heW : Ext S S3 w := he3.of_le (by simp)
      have hnS3 : ¬ S3 w.heap.size := fun h => by
        rcases he3 _ h with h1 | h1
        · exact hnS h1
        · simp at h1; omega
      have hb3 := hbox.chg hch3 hnS
      have hw3wt := num4_wt [1] s
      have hw3b := wt_b (num4 [1] s)
      simp only [List.length_cons, List.length_nil] at hw3wt
      clear hw1
      obtain ⟨s3, hs3⟩ : ∃ s3, num4 [1] s = s3 := ⟨_, rfl⟩
      rw [hs3] at hw3 hw3wt hw3b
      have HS3 := Lib.hid hs3
      clear hs3
      go_cut [] (fun wx => FlMid S g w.heap.size #[.string nm, .slice Ap ps.length cp, .slice Ak ks.length ck] (rawF (nm.data.toList ++ [0]) s3) w wx)
      case first =>
        obtain ⟨hc0, hc1, hc2, hf0, hf1, hf2⟩ := hb3.c3
        obtain ⟨A, c, A2, c2, A3, c3, k1, k2, k3, k4, k6, k7, k8, k9, k10, k11⟩ := hw3
        have K6 := Lib.hid k6
        have K8 := Lib.hid k8
        have K9 := Lib.hid k9
        have K10 := Lib.hid k10
        have K11 := Lib.hid k11
        clear k6 k8 k9 k10 k11
        have hgl3 := k1.lt
        obtain ⟨hd0, hd1, hd2, he0, he1, he2⟩ := k1.c3
        have hAg : ∀ k, blkOf A = some k → k ≠ g := k2.ne_ k1 (by decide)
        have hAb : ∀ k, blkOf A = some k → k ≠ w.heap.size := k2.ne_ hb3 (by decide)
        have k2d := k2.drew
        have k2a := (k2.alloc (.cells #[.int .u8 0] 5)).drew
        have hx0 := (hb3.alloc (.cells #[.int .u8 0] 5)).c3.1
        have hy0 := (k1.alloc (.cells #[.int .u8 0] 5)).c3.1
        have hra := (Rd.made' w3 5 ([(0 : UInt8)].map bv) (k := w3.heap.size) (n := 1) rfl rfl).drew
        have hsh : (s3.b.map bv ++ nm.data.toList.map bv ++ [(0 : UInt8)].map bv) = (s3.b ++ (nm.data.toList ++ [0])).map bv := by simp
        go_region_law (first
          | (refine step_of_wp rfl (wp_append_str _ _ _ 28 9 rfl 0 5 i0 Try.underlying28 Try.underlying9 hi0 hz0 hz1 hz2 A _ c _ rfl k2d nm rfl (s3.b.length + nm.size) rfl (by simp only [maxLen]; omega) (by omega) (Nat.zero_le _) ?_)
             intro A5 c5 w5 hown5 hg5 hat5
             have hch5 : Chg (fun k => blkOf A = some k) w3 w5 := (Chg.drew (Chg.refl _ _)).grown hg5 (fun k hk _ => hk)
             have hat5' : blkOf A5 = blkOf A ∨ ∀ k, blkOf A5 = some k → w3.heap.size ≤ k := hat5.imp id (fun h k hk => by rw [h] at hk; simp at hk; omega)
             have hr5 := Rd.made' w5 5 ([(0 : UInt8)].map bv) (k := w5.heap.size) (n := 1) rfl rfl
             have hown5a := hown5.alloc (.cells #[.int .u8 0] 5)
             have hch5a : Chg (fun k => blkOf A = some k) w3 (w5.alloc (.cells #[.int .u8 0] 5)) := hch5.alloc _
             have hb5 := hb3.chg hch5 (fun h => hAb _ h rfl)
             obtain ⟨hu0, _⟩ := hb5.c3)
          | (refine step_of_wp rfl (wp_append_str _ _ _ 28 9 rfl 0 5 i0 Try.underlying28 Try.underlying9 hi0 hz0 hz1 hz2 A _ c _ rfl k2a nm rfl (s3.b.length + nm.size) rfl (by simp only [maxLen]; omega) (by omega) (Nat.zero_le _) ?_)
             intro A5 c5 w5 hown5 hg5 hat5
             have hch5a : Chg (fun k => blkOf A = some k) w3 w5 := (Chg.drew ((Chg.refl _ _).alloc _)).grown hg5 (fun k hk _ => hk)
             have hat5' : blkOf A5 = blkOf A ∨ ∀ k, blkOf A5 = some k → w3.heap.size ≤ k := hat5.imp id (fun h k hk => by rw [h] at hk; simp at hk; omega)
             have hr5 := hra.chg ((Chg.refl (fun k => blkOf A = some k) _).grown hg5 (fun k hk _ => hk)) (fun ad ha h => by injection ha with ha; subst ha; have := (k2.lt _ h).2; simp at this)
             have hown5a := hown5
             have hb5 := hb3.chg hch5a (fun h => hAb _ h rfl)
             obtain ⟨hu0, _⟩ := hb5.c3)
          | (refine step_of_wp rfl (wp_append_x _ _ _ 28 rfl 0 5 i0 _ 1 1 Try.underlying28 hi0 hz0 hz1 hz2 rfl (by omega) A5 _ c5 _ rfl hown5a _ 1 _ _ rfl hr5 (bv_one _) (s3.b.length + nm.size + 1) rfl (by simp only [maxLen]; omega) (by omega) (Nat.zero_le _) ?_)
             intro A6 c6 w6 hown6 hg6 hat6
             have hch6 : Chg (fun k => blkOf A = some k) w3 w6 := hch5a.grown hg6 (fun k hk hlt => by
               rcases hat5' with h | h
               · exact h ▸ hk
               · have := h k hk; omega)
             have hat6' : blkOf A6 = blkOf A ∨ ∀ k, blkOf A6 = some k → w3.heap.size ≤ k := by
               rcases hat6 with h | h
               · rw [h]; exact hat5'
               · exact .inr fun k hk => by rw [h] at hk; have := hch5a.size; simp at hk this; omega
             have hb6 := hb3.chg hch6 (fun h => hAb _ h rfl)
             have hk6 := k1.chg hch6 (fun h => hAg _ h rfl)
             have hgl6 := hk6.lt
             obtain ⟨hv0, _⟩ := hb6.c3
             obtain ⟨hw0, _, _, hw1, _⟩ := hk6.c3
             have hne6 : w.heap.size ≠ g := by omega
             have hz6 := (hb6.far (p := ⟨g, 0, none⟩) hne6 (.slice A6 (s3.b.length + nm.size + 1) c6)).c3.1))
        all_goals
          go_wp2_with fail
          go_meet
          obtain ⟨-, S6, he6, hf6, hc6⟩ := fl_raw (l := nm.data.toList ++ [0]) k1 k2 k3 k4 K6.out k7 K8.out K9.out K10.out K11.out (by rw [List.length_append, data_length]) (by rw [← hsh]; exact hown6) hch6 hat6'
          refine ⟨S6, heW.trans he6 hchW.size, hf6, hchW.ext heW hc6, hb6.far (p := ⟨g, 0, none⟩) hne6 _, fun h => ?_⟩
          rcases he6 _ h with h1 | h1
          · exact hnS3 h1
          · omega
      case rest =>
        obtain ⟨S5, he5, hw5, hch5, hb5, hn5⟩ := hcut
        clear hw3 hch3 hsz3 hnS3 hb3 he3 heW hchW
        have hr5 := rawF_wt (nm.data.toList ++ [0]) s3
        rw [List.length_append, data_length, List.length_singleton] at hr5
        have hwt5 := fillF_wt (nm.data.toList ++ [0]) s3
        rw [List.length_append, data_length, List.length_singleton] at hwt5
        have hraw := fillF_raw (nm.data.toList ++ [0]) s3
        obtain ⟨s5, hs5⟩ : ∃ s5, fillF (nm.data.toList ++ [0]) s3 = s5 := ⟨_, rfl⟩
        rw [hs5] at hwt5 hraw
        have HS5 := Lib.hid hs5
        have HRAW := Lib.hid hraw
        clear hs5 hraw
        have hb5r := wt_b (rawF (nm.data.toList ++ [0]) s3)
        obtain ⟨hbc0, hbc1, hbc2, hbf0, hbf1, hbf2⟩ := hb5.c3
        have hsz5 := hb5.lt
        go_wp2_with (go_at_call 79; refine (fl_fill S5 g _ _ hw5 (by omega)).mono ?_; rintro e w6 ⟨rfl, S6, he6, hw6, hch6⟩
                     rw [← HRAW.out] at hw6
                     have hb6 := hb5.chg hch6 hn5
                     have hn6 : ¬ S6 w.heap.size := fun h => (he6 _ h).elim hn5 (by omega)
                     have hcw6 := hch5.ext he5 hch6
                     have hew6 := he5.trans he6 hch5.size
                     obtain ⟨hd0, hd1, hd2, hf0, hf1, hf2⟩ := hb6.c3)
        clear hbc0 hbc1 hbc2 hbf0 hbf1 hbf2 hb5 hn5 he5 hw5 hch5 he6 hch6 hsz5
        go_loopw [28] (fun i wr => ∃ (j : Nat), j ≤ ps.length ∧ i = .int .i64 j ∧ FlMid S g w.heap.size #[.string nm, .slice Ap ps.length cp, .slice Ak ks.length ck] (propsF (ps.take j) s5) w wr) (fun i _ => ps.length - (intOf i).toNat)
        case atStart => exact ⟨0, Nat.zero_le _, rfl, S6, hew6, hw6, hcw6, hb6, hn6⟩
        case round =>
          clear hw6 hcw6 hb6 hn6 hew6 hd0 hd1 hd2 hf0 hf1 hf2
          obtain ⟨j, hj, rfl, S6, he6, hw6, hch6, hb6, hn6⟩ := hrel
          obtain ⟨hbc0, hbc1, hbc2, hbf0, hbf1, hbf2⟩ := hb6.c3
          have hsz6 : w.heap.size < wr.heap.size := hb6.lt
          by_cases hlt : j < ps.length
          · have hjp : ps[j]? = some ps[j] := List.getElem?_eq_getElem hlt
            have hwj := propsF_wt (ps.take j) s5
            have hwj2 := propsW_take_succ ps j hlt
            obtain ⟨q, hq⟩ : ∃ q, ps[j] = q := ⟨_, rfl⟩
            rw [hq] at hjp hwj2
            have htake : propsF (ps.take (j + 1)) s5 = propF q (propsF (ps.take j) s5) := by rw [List.take_succ_eq_append_getElem hlt, hq, propsF_append]; rfl
            have hok6 : okPl (propsF (ps.take j) s5) := okPl_props _ (by rw [← HS5.out, ← HS3.out]; exact okPl_fill _ (okPl_num _ HOK.out))
            obtain ⟨s6, hs6⟩ : ∃ s6, propsF (ps.take j) s5 = s6 := ⟨_, rfl⟩
            rw [hs6] at hw6 hwj htake hok6
            rw [propF_eq] at htake
            have HT := Lib.hid htake
            clear htake hs6 hq
            obtain ⟨b, o, Aq, cq, rfl, hbB, hq1, hq2, hq3, hq4, hq5, hq6, hq7⟩ := (hps.chg hch6 HBS.out) j q hjp
            have hpw : propW q = 32 + q.1.size + q.2.length := rfl
            have hbq := Blk.made wr 96 #[.string q.1, .slice Aq q.2.length cq]
            have hBS6 := Lib.hid (he6.off HBS.out hBw)
            have hwt6 : s6.wt + propW q ≤ 1073741824 := by omega
            have t6 := wt_b s6
            have HW6 := hw6.new_ ((Chg.refl _ _).alloc (.cells #[.string q.1, .slice Aq q.2.length cq] 96))
            have F1 : Calls Try.prog 36 #[.pointer (some ⟨g, 0, none⟩), .int .i64 3] (wr.alloc (.cells #[.string q.1, .slice Aq q.2.length cq] 96)) _ := fl_four S6 g s6 _ HW6 3 (by omega) (by omega)
            have F1 := Lib.hid F1
            clear HW6
            go_wp2_with (go_at_call 36; (with_reducible refine F1.out.mono ?_); rintro e w7 ⟨rfl, S7, he7, hw7, hch7⟩
                         have hbq7 := hbq.chg hch7 (fun h => by have := hw6.lt _ h; omega)
                         obtain ⟨hx0, hx1, _⟩ := hbq7.c2)
            have hn7 : ¬ S7 wr.heap.size := fun h => by
              rcases he7 _ h with h1 | h1
              · have := hw6.lt _ h1; omega
              · simp at h1; omega
            have hc7 : Chg S6 wr w7 := ((Chg.refl _ _).alloc _).trans hch7 (fun i hi _ => hi)
            have he67 : Ext S6 S7 wr := he7.of_le (by simp)
            have t7 := num4_wt [3] s6
            rw [List.length_singleton] at t7
            have u7 := wt_b (num4 [3] s6)
            obtain ⟨s7, hs7⟩ : ∃ s7, num4 [3] s6 = s7 := ⟨_, rfl⟩
            have ok7 : okPl s7 := by rw [← hs7]; exact okPl_num _ hok6
            rw [hs7] at hw7 t7 u7
            have F2 := Lib.hid (fl_four S7 g s7 w7 hw7 q.2.length (by omega) (by omega))
            go_wp2_with (go_at_call 36; (with_reducible refine F2.out.mono ?_); rintro e w8 ⟨rfl, S8, he8, hw8, hch8⟩
                         have hbq8 := hbq7.chg hch8 hn7
                         obtain ⟨hy0, hy1, _⟩ := hbq8.c2)
            have hn8 : ¬ S8 wr.heap.size := fun h => (he8 _ h).elim hn7 (by have := hbq7.lt; omega)
            have hc8 : Chg S6 wr w8 := hc7.ext he67 hch8
            have he68 : Ext S6 S8 wr := he67.trans he8 hc7.size
            have t8 := num4_wt [q.2.length] s7
            rw [List.length_singleton] at t8
            have u8 := wt_b (num4 [q.2.length] s7)
            obtain ⟨s8, hs8⟩ : ∃ s8, num4 [q.2.length] s7 = s8 := ⟨_, rfl⟩
            have ok8 : okPl s8 := by rw [← hs8]; exact okPl_num _ ok7
            rw [hs8] at hw8 t8 u8
            have F3 := Lib.hid (fl_text S8 g s8 w8 hw8 q.1 (by omega) (by omega))
            obtain ⟨ok9, hpl9⟩ := okPl_text q.1.data.toList ok8
            have t9 := textF_wt q.1.data.toList s8
            rw [data_length] at t9
            have t9' : s8.texts.length ≤ s8.wt := by unfold WS.wt; omega
            have u9 := wt_b (textF q.1.data.toList s8).2
            obtain ⟨p9, s9, hs9⟩ : ∃ p9 s9, textF q.1.data.toList s8 = (p9, s9) := ⟨_, _, rfl⟩
            rw [hs9] at F3 hpl9 t9 u9 ok9
            simp only at F3 hpl9 t9 u9 ok9
            go_wp2_with (go_at_call 80; (with_reducible refine F3.out.mono ?_); rintro e w9 ⟨rfl, S9, he9, hw9, hch9⟩
                         have hbq9 := hbq8.chg hch9 hn8
                         obtain ⟨hz0', hz1', _⟩ := hbq9.c2)
            have hn9 : ¬ S9 wr.heap.size := fun h => (he9 _ h).elim hn8 (by have := hbq8.lt; omega)
            have hc9 : Chg S6 wr w9 := hc8.ext he68 hch9
            have he69 : Ext S6 S9 wr := he68.trans he9 hc8.size
            have F4 := Lib.hid (fl_four S9 g s9 w9 hw9 p9 (by omega) (by omega))
            go_wp2_with (go_at_call 36; (with_reducible refine F4.out.mono ?_); rintro e wa ⟨rfl, Sa, hea, hwa, hcha⟩
                         have hbqa := hbq9.chg hcha hn9
                         obtain ⟨hv0, hv1, _⟩ := hbqa.c2)
            have hna : ¬ Sa wr.heap.size := fun h => (hea _ h).elim hn9 (by have := hbq9.lt; omega)
            have hca : Chg S6 wr wa := hc9.ext he69 hcha
            have he6a : Ext S6 Sa wr := he69.trans hea hc9.size
            have ta := num4_wt [p9] s9
            rw [List.length_singleton] at ta
            have ua := wt_b (num4 [p9] s9)
            obtain ⟨sa, hsa⟩ : ∃ sa, num4 [p9] s9 = sa := ⟨_, rfl⟩
            rw [hsa] at hwa ta ua
            have hTT : propsF (ps.take (j + 1)) s5 = fillF [] (rawF q.2 sa) := by rw [HT.out, hs7, hs8, hs9, hsa]
            have HTT := Lib.hid hTT
            clear hTT hs7 hs8 hs9 hsa F1 F2 F3 F4 hx0 hx1 hy0 hy1 hz0' hz1' HT
            have hra := hq6.chg_lo hq7 hca hBS6.out
            obtain ⟨A, c, A2, c2, A3, c3, k1, k2, k3, k4, k6, k7, k8, k9, k10, k11⟩ := hwa
            have K6 := Lib.hid k6
            have K8 := Lib.hid k8
            have K9 := Lib.hid k9
            have K10 := Lib.hid k10
            have K11 := Lib.hid k11
            clear k6 k8 k9 k10 k11
            have hgla := k1.lt
            obtain ⟨hd0, hd1, hd2, hf0, hf1, hf2⟩ := k1.c3
            have hAg : ∀ k, blkOf A = some k → k ≠ g := k2.ne_ k1 (by decide)
            have hAb : ∀ k, blkOf A = some k → k ≠ wr.heap.size := k2.ne_ hbqa (by decide)
            have hbql := hbqa.lt
            have hgw : g < wr.heap.size := Nat.lt_of_lt_of_le hgl hch6.size
            have k2d := k2.drew
            have hrad := hra.drew
            have hshq : (sa.b.map bv ++ q.2.map bv) = (sa.b ++ q.2).map bv := by simp
            go_wp2_with fail
            go_region_law (first
              | (refine step_of_wp rfl (wp_append_x _ _ _ 28 rfl 0 5 i0 _ 1 1 Try.underlying28 hi0 hz0 hz1 hz2 rfl (by omega) A _ c _ rfl k2d Aq _ cq _ rfl hrad (bv_one _) (sa.b.length + q.2.length) rfl (by simp only [maxLen]; omega) (by omega) (Nat.zero_le _) ?_)
                 intro A6 c6 wb hown6 hg6 hat6
                 have hchb : Chg (fun k => blkOf A = some k) wa wb := (Chg.drew (Chg.refl _ _)).grown hg6 (fun k hk _ => hk)
                 have hat6' : blkOf A6 = blkOf A ∨ ∀ k, blkOf A6 = some k → wa.heap.size ≤ k := hat6.imp id (fun h k hk => by rw [h] at hk; simp at hk; omega)
                 have hbqb := hbqa.chg hchb (fun h => hAb _ h rfl)
                 have hkb := k1.chg hchb (fun h => hAg _ h rfl)
                 have hglb := hkb.lt
                 obtain ⟨hv0', hv1', _⟩ := hbqb.c2
                 obtain ⟨hw0, _, _, hw1, _⟩ := hkb.c3
                 have hneb : wr.heap.size ≠ g := by omega
                 have hzb := (hbqb.far (p := ⟨g, 0, none⟩) hneb (.slice A6 (sa.b.length + q.2.length) c6)).c2.2.1))
            all_goals
              obtain ⟨-, Sc, hec, hfc, hcc⟩ := fl_raw (l := q.2) k1 k2 k3 k4 K6.out k7 K8.out K9.out K10.out K11.out rfl (by rw [← hshq]; exact hown6) hchb hat6'
              have hcc6 := hca.ext he6a hcc
              have he6c := he6a.trans hec hca.size
              have hrw := rawF_wt q.2 sa
              have urw := wt_b (rawF q.2 sa)
              have F5 := Lib.hid (fl_fill Sc g _ _ hfc (by omega))
              clear hd0 hd1 hd2 hf0 hf1 hf2 hw0 hw1 hv0 hv1 hv0' hv1' hzb
              go_wp2_with (go_at_call 79; (with_reducible refine F5.out.mono ?_); rintro e wd ⟨rfl, Sd, hed, hwd, hchd⟩)
              go_roundw
              case rel =>
                have hc6d : Chg S6 wr wd := hcc6.ext he6c hchd
                have he6d : Ext S6 Sd wr := he6c.trans hed hcc6.size
                refine ⟨j + 1, by omega, by go_num, Sd, he6.trans he6d hch6.size, by rw [HTT.out]; exact hwd, hch6.ext he6 hc6d, hb6.chg hc6d hn6, fun h => (he6d _ h).elim hn6 (by omega)⟩
              case measure => simp [intOf]; omega
          · obtain rfl : j = ps.length := by omega
            rw [List.take_of_length_le (Nat.le_refl _)] at hw6
            have hwt6 := propsF_wt ps s5
            have hok6 : okPl (propsF ps s5) := okPl_props _ (by rw [← HS5.out, ← HS3.out]; exact okPl_fill _ (okPl_num _ HOK.out))
            obtain ⟨s6, hs6⟩ : ∃ s6, propsF ps s5 = s6 := ⟨_, rfl⟩
            rw [hs6] at hw6 hwt6 hok6
            have HS6 := Lib.hid hs6
            clear hs6
            go_wp2_with fail
            go_loopw [62] (fun i wr => ∃ (j : Nat), j ≤ ks.length ∧ i = .int .i64 j ∧ FlMid S g w.heap.size #[.string nm, .slice Ap ps.length cp, .slice Ak ks.length ck] (kidsF (ks.take j) s6) w wr) (fun i _ => ks.length - (intOf i).toNat)
            case atStart => exact ⟨0, Nat.zero_le _, rfl, S6, he6, hw6, hch6, hb6, hn6⟩
            case round =>
              clear hw6 hch6 hb6 hn6 he6 hsz6 hbc0 hbc1 hbc2 hbf0 hbf1 hbf2 hj
              obtain ⟨j, hj, rfl, S7, he7, hw7, hch7, hb7, hn7⟩ := hrel
              obtain ⟨hbc0, hbc1, hbc2, hbf0, hbf1, hbf2⟩ := hb7.c3
              have hsz7 : w.heap.size < wr.heap.size := hb7.lt
              by_cases hlt : j < ks.length
              · have hjk : ks[j]? = some ks[j] := List.getElem?_eq_getElem hlt
                have hwj := kidsF_wt (ks.take j) (fun k _ => nodeF_wt k) s6
                have hwj2 := kidsW_take_succ ks j hlt
                obtain ⟨q, hq⟩ : ∃ q, ks[j] = q := ⟨_, rfl⟩
                have hqm : q ∈ ks := by rw [← hq]; exact List.getElem_mem hlt
                rw [hq] at hjk hwj2
                have htake : kidsF (ks.take (j + 1)) s6 = nodeF q (kidsF (ks.take j) s6) := by rw [List.take_succ_eq_append_getElem hlt, hq, kidsF_append]; rfl
                have hok7 : okPl (kidsF (ks.take j) s6) := okPl_kids _ (fun k _ => okPl_node k) hok6
                obtain ⟨s7, hs7⟩ : ∃ s7, kidsF (ks.take j) s6 = s7 := ⟨_, rfl⟩
                rw [hs7] at hw7 hwj htake hok7
                have HT := Lib.hid htake
                have HOK7 := Lib.hid hok7
                clear htake hs7 hq hok7
                obtain ⟨b, o, rfl, hbB, hq0, hq1, hq2⟩ := hcs j hlt
                have htq := (hks j q hjk).chg hch7 HBS.out
                replace hq0 := cell_chg hq0 hbB hch7 HBS.out
                replace hq1 := cell_chg hq1 hbB hch7 HBS.out
                replace hq2 := cell_chg hq2 hbB hch7 HBS.out
                obtain ⟨Aq, Aq2, cq, cq2, e0, e1, e2, hqs⟩ := htq.shape
                rw [e0] at hq0 htq
                rw [e1] at hq1 htq
                rw [e2] at hq2 htq
                clear e0 e1 e2
                have htq2 := Lib.hid (htq.new_ ((Chg.refl (fun _ => False) wr).alloc (.cells #[.string q.name, .slice Aq q.props.length cq, .slice Aq2 q.kids.length cq2] 25)))
                have HW7 := Lib.hid (hw7.new_ ((Chg.refl (fun _ => False) wr).alloc (.cells #[.string q.name, .slice Aq q.props.length cq, .slice Aq2 q.kids.length cq2] 25)))
                have HB7 := Lib.hid (he7.off HBS.out hBw)
                clear htq
                go_wp2_with (go_at_call 35; refine (ih q hqm S7 g B s7 _ _ _ _ HW7.out htq2.out HB7.out (by simp; omega) (by omega) HOK7.out).mono ?_; rintro e w8 ⟨rfl, S8, he8, hw8, hch8⟩)
                go_roundw
                case rel =>
                  have hc8 : Chg S7 wr w8 := ((Chg.refl _ _).alloc _).trans hch8 (fun i hi _ => hi)
                  have he78 : Ext S7 S8 wr := he8.of_le (by simp)
                  refine ⟨j + 1, by omega, by go_num, S8, he7.trans he78 hch7.size, by rw [HT.out]; exact hw8, hch7.ext he7 hc8, hb7.chg hc8 hn7, fun h => ?_⟩
                  rcases he78 _ h with h1 | h1
                  · exact hn7 h1
                  · omega
                case measure => simp [intOf]; omega
              · obtain rfl : j = ks.length := by omega
                rw [List.take_of_length_le (Nat.le_refl _)] at hw7
                have hwt7 := kidsF_wt ks (fun k _ => nodeF_wt k) s6
                have b7 := wt_b (kidsF ks s6)
                have F := Lib.hid (fl_four S7 g _ _ hw7 2 (by omega) (by omega))
                go_wp2_with (go_at_call 36; refine F.out.mono ?_; rintro e w8 ⟨rfl, S8, he8, hw8, hch8⟩)
                go_end0
                refine ⟨rfl, S8, he7.trans he8 hch7.size, ?_, hch7.ext he7 hch8⟩
                rw [nodeF, HS3.out, HS5.out, HS6.out]
                exact hw8
end Go.Proofs.Ytfmmcjiehpdogaa
