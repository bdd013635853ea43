/-
  Bytes that a tree is put as are read as that tree. No program in sight.
-/
import Derived.Test.YtfmmcjiehpdogaaParse
set_option linter.unusedVariables false
set_option linter.unusedSimpArgs false
namespace Go.Proofs.Ytfmmcjiehpdogaa
open Go.RowKit

theorem byteAt_toNat (x k : Nat) : (byteAt x k).toNat = x / 2 ^ (8 * k) % 256 := by
  unfold byteAt
  simp
theorem numB_put (x : Nat) (h : x < 4294967296) : numB (putN x 4 false) = x := by
  have e : putN x 4 false = [byteAt x 3, byteAt x 2, byteAt x 1, byteAt x 0] := rfl
  rw [e]
  simp only [numB, List.foldl_cons, List.foldl_nil, byteAt_toNat]
  omega
/-- a number stands there -/
theorem be32_at {b A C : List UInt8} {x p : Nat} (h : b = A ++ putN x 4 false ++ C) (hp : A.length = p) (hx : x < 4294967296) : be32F b p = some x := by
  subst hp
  subst h
  unfold be32F
  rw [if_pos (by simp)]
  congr 1
  rw [List.append_assoc, List.drop_left, List.take_append_of_le_length (by simp), List.take_of_length_le (by simp)]
  exact numB_put x hx
theorem text_at {b A C s : List UInt8} {p : Nat} (h : b = A ++ s ++ 0 :: C) (hp : A.length = p) (h0 : (0 : UInt8) ∉ s) : textP b p = some s := by
  subst hp
  subst h
  refine textP_of (r := C) ?_ h0
  rw [List.append_assoc, List.drop_left]

/-- the structure's bytes so far stand behind pre in b; the texts so far at the head of tx -/
def ExtB (pre b tx : List UInt8) (st : WS) : Prop := (∃ C, b = pre ++ st.b ++ C) ∧ ∃ C, tx = st.texts ++ C
/-- each text that has a place stands there -/
def InvB (st : WS) : Prop := ∀ x ∈ st.pl, ∃ A C, st.texts = A ++ x.1 ++ 0 :: C ∧ A.length = x.2 ∧ (0 : UInt8) ∉ x.1

/-- from st to st' all has grown -/
def GrowsB (st st' : WS) : Prop := (∃ C, st'.b = st.b ++ C) ∧ ∃ C, st'.texts = st.texts ++ C
theorem GrowsB.refl (st : WS) : GrowsB st st := ⟨⟨[], by simp⟩, ⟨[], by simp⟩⟩
theorem GrowsB.trans {a b c : WS} (h : GrowsB a b) (k : GrowsB b c) : GrowsB a c := by
  obtain ⟨⟨x, hx⟩, y, hy⟩ := h
  obtain ⟨⟨u, hu⟩, v, hv⟩ := k
  exact ⟨⟨x ++ u, by rw [hu, hx, List.append_assoc]⟩, ⟨y ++ v, by rw [hv, hy, List.append_assoc]⟩⟩
theorem ExtB.back {pre b tx : List UInt8} {st st' : WS} (h : ExtB pre b tx st') (k : GrowsB st st') : ExtB pre b tx st := by
  obtain ⟨⟨x, hx⟩, y, hy⟩ := h
  obtain ⟨⟨u, hu⟩, v, hv⟩ := k
  exact ⟨⟨u ++ x, by rw [hx, hu]; simp⟩, ⟨v ++ y, by rw [hy, hv]; simp⟩⟩
theorem grows_num4 (l : List Nat) (st : WS) : GrowsB st (num4 l st) := ⟨⟨_, rfl⟩, ⟨[], by simp [num4]⟩⟩
theorem grows_fillF (l : List UInt8) (st : WS) : GrowsB st (fillF l st) := ⟨⟨l ++ List.replicate ((4 - (st.b ++ l).length % 4) % 4) 0, by simp [fillF, pad4]⟩, ⟨[], by simp [fillF]⟩⟩
theorem grows_textF (s : List UInt8) (st : WS) : GrowsB st (textF s st).2 := by
  unfold textF
  split
  · exact GrowsB.refl _
  · exact ⟨⟨[], by simp⟩, ⟨s ++ [0], by simp⟩⟩
theorem grows_propF (p : PropD) (st : WS) : GrowsB st (propF p st) := ((grows_textF _ _).trans (grows_num4 _ _)).trans (grows_fillF _ _)
theorem grows_propsF (ps : List PropD) : ∀ st, GrowsB st (propsF ps st) := by
  induction ps with
  | nil => intro st; exact GrowsB.refl _
  | cons p ps ih => intro st; exact (grows_propF p st).trans (ih _)
theorem grows_kidsF (ks : List TreeD) (hk : ∀ k ∈ ks, ∀ st, GrowsB st (nodeF k st)) : ∀ st, GrowsB st (kidsF ks st) := by
  induction ks with
  | nil => intro st; exact GrowsB.refl _
  | cons k ks ih => intro st; exact (hk k (by simp) st).trans (ih (fun k' h => hk k' (by simp [h])) _)
theorem grows_nodeF (t : TreeD) : ∀ st, GrowsB st (nodeF t st) := by
  induction t using TreeD.ind with
  | h nm ps ks ih =>
    intro st
    simp only [nodeF]
    exact ((((grows_num4 _ _).trans (grows_fillF _ _)).trans (grows_propsF _ _)).trans (grows_kidsF ks ih _)).trans (grows_num4 _ _)

theorem plF_some {pl : List (List UInt8 × Nat)} {s : List UInt8} {a : Nat} (h : plF pl s = some a) : (s, a) ∈ pl := by
  unfold plF at h
  obtain ⟨x, hx, rfl⟩ := Option.map_eq_some_iff.1 h
  have h1 := List.mem_of_find?_eq_some hx
  have h2 := List.find?_some hx
  simp only [beq_iff_eq] at h2
  rw [← h2]
  exact h1
theorem textF_spec (s : List UInt8) (st : WS) (hi : InvB st) (h0 : (0 : UInt8) ∉ s) : InvB (textF s st).2 ∧ ∃ A C, (textF s st).2.texts = A ++ s ++ 0 :: C ∧ A.length = (textF s st).1 := by
  unfold textF
  split
  · rename_i a ha
    obtain ⟨A, C, h1, h2, _⟩ := hi _ (plF_some ha)
    exact ⟨hi, A, C, h1, h2⟩
  · refine ⟨fun x hx => ?_, st.texts, [], by simp, rfl⟩
    simp only [List.mem_append, List.mem_singleton] at hx
    rcases hx with hx | rfl
    · obtain ⟨A, C, h1, h2, h3⟩ := hi x hx
      exact ⟨A, C ++ (s ++ [0]), by rw [h1]; simp, h2, h3⟩
    · exact ⟨st.texts, [], by simp, rfl, h0⟩
theorem textF_b (s : List UInt8) (st : WS) : (textF s st).2.b = st.b := by
  unfold textF
  split <;> rfl
theorem inv_num4 {l : List Nat} {st : WS} (h : InvB st) : InvB (num4 l st) := h
theorem inv_fillF {l : List UInt8} {st : WS} (h : InvB st) : InvB (fillF l st) := h
theorem fillF_len (l : List UInt8) (st : WS) (h4 : st.b.length % 4 = 0) : (fillF l st).b.length = st.b.length + (l.length + 3) / 4 * 4 ∧ (fillF l st).b.length % 4 = 0 := by
  have e : (fillF l st).b.length = st.b.length + l.length + (4 - (st.b.length + l.length) % 4) % 4 := by simp [fillF, pad4]; omega
  omega
theorem num4_len (l : List Nat) (st : WS) : (num4 l st).b.length = st.b.length + 4 * l.length := by simp [num4, puts32_length]
/-- the numbers that were put are read -/
theorem read_num4 {pre b tx : List UInt8} {st : WS} {l r : List Nat} {x : Nat} {p : Nat} (h : ExtB pre b tx (num4 (l ++ x :: r) st)) (hp : p = pre.length + st.b.length + 4 * l.length) (hx : x < 4294967296) : be32F b p = some x := by
  obtain ⟨⟨C, hC⟩, _⟩ := h
  refine be32_at (A := pre ++ st.b ++ puts32 l false) (C := puts32 r false ++ C) ?_ (by simp [puts32_length, hp]; omega) hx
  rw [hC]
  simp [num4, puts32, List.flatMap_append]

/-- no byte 0 in a name -/
theorem name_no0 {more s : List UInt8} (hm : (0 : UInt8) ∉ more) (h : nameB more s = true) : (0 : UInt8) ∉ s := by
  unfold nameB at h
  simp only [Bool.and_eq_true, List.all_eq_true] at h
  intro h0
  have := h.1 0 h0
  simp only [signB, Bool.or_eq_true] at this
  rcases this with h1 | h1
  · exact absurd h1 (by decide)
  · exact hm (List.contains_iff_mem.1 h1)
theorem ba_eta (s : ByteArray) : (⟨s.data.toList.toArray⟩ : ByteArray) = s := rfl

/-- one property is read -/
theorem read_prop {pre b tx : List UInt8} {st : WS} {p : PropD} {f d l : Nat} {nm : ByteArray} {ps : List PropD} {ks : List TreeD} (hpre : pre.length % 4 = 0) (h4 : st.b.length % 4 = 0) (hi : InvB st) (hok : propOk p = true) (hbl : b.length < 4294967296) (htl : tx.length < 4294967296)
    (h : ExtB pre b tx (propF p st)) : InvB (propF p st) ∧ (propF p st).b.length % 4 = 0 ∧ st.b.length + 12 ≤ (propF p st).b.length ∧
      loopP b tx (f + 1) d nm ps ks (pre.length + st.b.length) l = loopP b tx f d nm (ps ++ [p]) ks (pre.length + (propF p st).b.length) l := by
  simp only [propOk, Bool.and_eq_true, decide_eq_true_eq] at hok
  have hn0 := name_no0 (more := ofProps) (by decide) hok.1
  obtain ⟨ht1, A, C, ht2, ht3⟩ := textF_spec p.1.data.toList st hi hn0
  have hb := textF_b p.1.data.toList st
  obtain ⟨a, ha⟩ : ∃ a, (textF p.1.data.toList st).1 = a := ⟨_, rfl⟩
  obtain ⟨s1, hs1⟩ : ∃ s1, (textF p.1.data.toList st).2 = s1 := ⟨_, rfl⟩
  have hpf : propF p st = fillF p.2 (num4 [3, p.2.length, a] s1) := by simp only [propF, ha, hs1]
  rw [ha] at ht3
  rw [hs1] at ht1 ht2 hb
  rw [hpf] at h ⊢
  have hg := h.back (grows_fillF _ _)
  have hl := fillF_len p.2 (num4 [3, p.2.length, a] s1) (by rw [num4_len, hb]; simp; omega)
  rw [num4_len, hb] at hl
  simp only [List.length_cons, List.length_nil] at hl
  obtain ⟨⟨Cb, hCb⟩, Ct, hCt⟩ := h
  have htexts : (fillF p.2 (num4 [3, p.2.length, a] s1)).texts = s1.texts := rfl
  rw [htexts] at hCt
  have hblen : pre.length + (fillF p.2 (num4 [3, p.2.length, a] s1)).b.length ≤ b.length := by rw [hCb]; simp
  have htlen : a < tx.length := by rw [hCt, ht2]; simp; omega
  have hle : p.2.length ≤ (p.2.length + 3) / 4 * 4 := by omega
  have e1 : be32F b (pre.length + st.b.length) = some 3 := read_num4 (l := []) (r := [p.2.length, a]) hg (by simp [hb]) (by omega)
  have e2 : be32F b (pre.length + st.b.length + 4) = some p.2.length := read_num4 (l := [3]) (r := [a]) hg (by simp [hb]) (by omega)
  have e3 : be32F b (pre.length + st.b.length + 8) = some a := read_num4 (l := [3, p.2.length]) (r := []) hg (by simp [hb]) (by omega)
  have e4 : textP tx a = some p.1.data.toList := text_at (A := A) (C := C ++ Ct) (by rw [hCt, ht2]; simp) ht3 hn0
  have e5 : (b.drop (pre.length + st.b.length + 12)).take p.2.length = p.2 := by
    have : b = (pre ++ (st.b ++ puts32 [3, p.2.length, a] false)) ++ (p.2 ++ (List.replicate ((4 - ((num4 [3, p.2.length, a] s1).b ++ p.2).length % 4) % 4) 0 ++ Cb)) := by
      rw [hCb]
      simp [fillF, pad4, num4, hb]
    rw [this, List.drop_left' (by simp [puts32_length]; omega)]
    simp
  refine ⟨ht1, hl.2, by omega, ?_⟩
  conv => lhs; rw [loopP]
  simp only [e1, e2, e3, e4, if_true]
  rw [if_neg (by omega), e5, ba_eta, hl.1]
  congr 1
  omega
theorem read_props {pre b tx : List UInt8} {f d l : Nat} {nm : ByteArray} {ks : List TreeD} (hpre : pre.length % 4 = 0) (hbl : b.length < 4294967296) (htl : tx.length < 4294967296) (qs : List PropD) : ∀ (ps : List PropD) (st : WS), st.b.length % 4 = 0 → InvB st → qs.all propOk = true →
    ExtB pre b tx (propsF qs st) → InvB (propsF qs st) ∧ (propsF qs st).b.length % 4 = 0 ∧ st.b.length + qs.length ≤ (propsF qs st).b.length ∧
      loopP b tx (f + qs.length) d nm ps ks (pre.length + st.b.length) l = loopP b tx f d nm (ps ++ qs) ks (pre.length + (propsF qs st).b.length) l := by
  induction qs with
  | nil => intro ps st h4 hi _ _; exact ⟨hi, h4, by simp [propsF], by simp [propsF]⟩
  | cons p qs ih =>
    intro ps st h4 hi hok h
    simp only [List.all_cons, Bool.and_eq_true] at hok
    simp only [propsF] at h ⊢
    obtain ⟨r1, r2, r3, r4⟩ := read_prop (f := f + qs.length) (d := d) (l := l) (nm := nm) (ps := ps) (ks := ks) hpre h4 hi hok.1 hbl htl (h.back (grows_propsF _ _))
    obtain ⟨q1, q2, q3, q4⟩ := ih (ps ++ [p]) _ r2 r1 hok.2 h
    refine ⟨q1, q2, by simp only [List.length_cons]; omega, ?_⟩
    rw [List.length_cons, ← Nat.add_assoc, r4, q4, List.append_assoc]
    rfl

mutual
/-- how much fuel a node's reading wants -/
def nodeN : TreeD → Nat
  | .mk _ ps ks => 2 + ps.length + kidsN ks
def kidsN : List TreeD → Nat
  | [] => 0
  | k :: ks => 1 + nodeN k + kidsN ks
end

/-- what reading a node gives -/
def BackOk (pre b tx : List UInt8) (t : TreeD) : Prop := ∀ (st : WS) (f at_ n p n' p' : Nat), st.b.length % 4 = 0 → InvB st → mayF t at_ n p = some (n', p') → ExtB pre b tx (nodeF t st) → nodeN t ≤ f →
  InvB (nodeF t st) ∧ (nodeF t st).b.length % 4 = 0 ∧ st.b.length + 4 + nodeN t ≤ (nodeF t st).b.length ∧ be32F b (pre.length + st.b.length) = some 1 ∧
    nodeP b tx f at_ (pre.length + st.b.length + 4) (200 - n) = some (t, pre.length + (nodeF t st).b.length, 200 - n')
theorem read_kids {pre b tx : List UInt8} {d : Nat} {nm : ByteArray} {ps : List PropD} (qs : List TreeD) (hk : ∀ k ∈ qs, BackOk pre b tx k) : ∀ (ks : List TreeD) (st : WS) (f n p n' p' : Nat), st.b.length % 4 = 0 → InvB st → mayL qs (d + 1) n p = some (n', p') →
    ExtB pre b tx (kidsF qs st) → kidsN qs ≤ f → InvB (kidsF qs st) ∧ (kidsF qs st).b.length % 4 = 0 ∧ st.b.length + kidsN qs ≤ (kidsF qs st).b.length ∧
      ∃ f', f ≤ f' + kidsN qs ∧ loopP b tx f d nm ps ks (pre.length + st.b.length) (200 - n) = loopP b tx f' d nm ps (ks ++ qs) (pre.length + (kidsF qs st).b.length) (200 - n') := by
  induction qs with
  | nil =>
    intro ks st f n p n' p' h4 hi hm _ _
    simp only [mayL, Option.some.injEq, Prod.mk.injEq] at hm
    obtain ⟨rfl, rfl⟩ := hm
    exact ⟨hi, h4, by simp [kidsF, kidsN], f, by simp [kidsN], by simp [kidsF]⟩
  | cons k qs ih =>
    intro ks st f n p n' p' h4 hi hm h hf
    simp only [mayL] at hm
    simp only [kidsN] at hf ⊢
    simp only [kidsF] at h ⊢
    cases h1 : mayF k (d + 1) n p with
    | none => simp [h1] at hm
    | some x =>
      obtain ⟨n1, p1⟩ := x
      simp only [h1] at hm
      obtain ⟨f1, rfl⟩ : ∃ f1, f = f1 + 1 := ⟨f - 1, by omega⟩
      have hg := grows_kidsF qs (fun k' _ => grows_nodeF k') (nodeF k st)
      obtain ⟨r1, r2, r3, r4, r5⟩ := hk k (by simp) st f1 (d + 1) n p n1 p1 h4 hi h1 (h.back hg) (by omega)
      obtain ⟨q1, q2, q3, f', q4, q5⟩ := ih (fun k' hk' => hk k' (by simp [hk'])) (ks ++ [k]) _ f1 n1 p1 n' p' r2 r1 hm h (by omega)
      refine ⟨q1, q2, by omega, f', by omega, ?_⟩
      conv => lhs; rw [loopP]
      simp [r4, r5, q5]
theorem back_node {pre b tx : List UInt8} (hpre : pre.length % 4 = 0) (hbl : b.length < 4294967296) (htl : tx.length < 4294967296) (t : TreeD) : BackOk pre b tx t := by
  induction t using TreeD.ind with
  | h nm ps ks ih =>
    intro st f at_ n p n' p' h4 hi hm h hf
    simp only [nodeN] at hf ⊢
    simp only [mayF] at hm
    split at hm
    · cases hm
    · rename_i hc
      split at hm
      · cases hm
      · rename_i hnm
        split at hm
        · cases hm
        · rename_i hps
          split at hm
          · cases hm
          · split at hm
            · cases hm
            · have hn0 : (0 : UInt8) ∉ nm.data.toList := by
                simp only [nmOk] at hnm
                split at hnm
                · simp at hnm
                  rw [hnm]
                  simp
                · exact name_no0 (more := ofNodes) (by decide) (by simpa using hnm)
              have hps' : ps.all propOk = true := by simpa using hps
              simp only [nodeF] at h ⊢
              obtain ⟨s0, hs0⟩ : ∃ s0, fillF (nm.data.toList ++ [0]) (num4 [1] st) = s0 := ⟨_, rfl⟩
              rw [hs0] at h ⊢
              have hend := h
              have h := h.back (grows_num4 _ _)
              have hkids := h
              have h := h.back (grows_kidsF ks (fun k _ => grows_nodeF k) _)
              have hprops := h
              have h := h.back (grows_propsF _ _)
              have hs0l := fillF_len (nm.data.toList ++ [0]) (num4 [1] st) (by rw [num4_len]; simp; omega)
              rw [hs0, num4_len] at hs0l
              simp only [List.length_cons, List.length_nil, List.length_append] at hs0l
              have h1 : be32F b (pre.length + st.b.length) = some 1 := by
                have hx : ExtB pre b tx (num4 [1] st) := by rw [← hs0] at h; exact h.back (grows_fillF _ _)
                exact read_num4 (l := []) (r := []) hx (by simp) (by omega)
              have htx : textP b (pre.length + st.b.length + 4) = some nm.data.toList := by
                obtain ⟨⟨C, hC⟩, _⟩ := h
                refine text_at (A := pre ++ st.b ++ puts32 [1] false) (C := List.replicate ((4 - ((num4 [1] st).b ++ (nm.data.toList ++ [0])).length % 4) % 4) 0 ++ C) ?_ (by simp [puts32_length]; omega) hn0
                rw [hC, ← hs0]
                simp [fillF, pad4, num4]
              obtain ⟨f1, rfl⟩ : ∃ f1, f = f1 + ps.length + 1 := ⟨f - 1 - ps.length, by omega⟩
              have hi0 : InvB s0 := by rw [← hs0]; exact hi
              obtain ⟨p1, p2, p3, p4⟩ := read_props (f := f1) (d := at_) (l := 200 - n - 1) (nm := nm) (ks := []) hpre hbl htl ps [] s0 hs0l.2 hi0 hps' hprops
              obtain ⟨k1, k2, k3, f', k4, k5⟩ := read_kids (d := at_) (nm := nm) (ps := ps) ks ih [] _ f1 (n + 1) (p + ps.length) n' p' p2 p1 hm hkids (by omega)
              have hend2 : be32F b (pre.length + (kidsF ks (propsF ps s0)).b.length) = some 2 := read_num4 (l := []) (r := []) hend (by simp) (by omega)
              obtain ⟨f2, rfl⟩ : ∃ f2, f' = f2 + 1 := ⟨f' - 1, by omega⟩
              rw [num4_len]
              simp only [List.length_cons, List.length_nil]
              refine ⟨k1, by omega, by omega, h1, ?_⟩
              simp only [nodeP, htx]
              rw [if_neg (by omega)]
              have e0 : pre.length + st.b.length + 4 + (nm.data.toList.length + 4) / 4 * 4 = pre.length + s0.b.length := by rw [hs0l.1]; omega
              rw [e0, ba_eta, p4, List.nil_append, show 200 - n - 1 = 200 - (n + 1) by omega, k5, List.nil_append]
              conv => lhs; rw [loopP]
              simp [hend2]
              omega
end Go.Proofs.Ytfmmcjiehpdogaa
