/-
  make of a slice with room, copy into a slice of the call's own. No condition but that memory bears it.
-/
import Derived.Test.YtfmmcjiehpdogaaApp
import Derived.Laws.CopyOwn
import Derived.Lib.ConvBytes
set_option linter.unusedVariables false
set_option linter.unusedSimpArgs false
namespace Go.Proofs.Ytfmmcjiehpdogaa
open Go.RowKit

theorem madeCells_one (z : Value) (h : z.cells = #[z]) (n : Nat) : (madeCells z.cells n).toList = List.replicate n z := by
  simp only [madeCells, h, Array.toList_map, Array.toList_range]
  apply List.ext_getElem
  · simp
  · intro i h1 h2
    simp [Nat.mod_one]

section
variable {P : Program} (w : World)
/-- 'make([]T, l, c)', T of one cell -/
theorem wpList_make_x {ops : Array Oper} {rest : List Oper} {o : Oper} {a : Act} {Q : Exit → Act → World → Prop} (hgd : o.guard = none) (lo co : Operand) (t : TypeId) (hop : o.op = Op.makeSlice t lo co)
    (e : TypeId) (i : TypeInfo) (z : Value) (h1 : P.underlying t = some (.slice e)) (h2 : P.info? e = some i) (h3 : i.zero = some z) (h4 : i.size = 1) (hzc : z.cells = #[z])
    (kl kc : IntKind) (L C : Int) (l c : Nat) (hl : a.eval lo = .int kl L) (hc : a.eval co = .int kc C) (hL : L = (l : Int)) (hC : C = (c : Int)) (hlc : l ≤ c) (b2 : i.bytes * c ≤ 281474976710656) (b3 : c ≤ maxLen)
    (hK : ∀ w', Own w' w.heap.size e 1 (some ⟨w.heap.size, 0, none⟩) l c (List.replicate l z) → New w w' → wpList P ops Q rest (a.put o.dst (.slice (some ⟨w.heap.size, 0, none⟩) l c)) w') : wpList P ops Q (o :: rest) a w := by
  refine wpList_plain hgd fun K hK' => ?_
  have hb : (i.bytes : Int) * (c : Int) ≤ 281474976710656 := by
    have h : ((i.bytes * c : Nat) : Int) ≤ 281474976710656 := by omega
    rwa [Int.natCast_mul] at h
  have hr := run_make (P := P) w t e i z h1 h2 h3 kl kc l c (by omega) (by omega) hb (by simp only [maxLen] at b3; omega)
  simp only [Int.toNat_natCast, h4, Nat.mul_one] at hr
  subst hL
  subst hC
  unfold Oper.wp
  simp [execOp, hop, hl, hc, hr, Result.andThen]
  refine hK' _ _ (hK _ ⟨by simp, .inr ⟨w.heap.size, _, rfl, Nat.le_refl _, (Blk.made w _ _).row, hlc, b3, by simp [size_madeCells], ?_⟩⟩ ((Chg.refl _ _).alloc _))
  rw [madeCells_one z hzc]
  simp [Nat.min_eq_left hlc]

theorem Own.copied {w' : World} {B : Nat} {e : TypeId} {A : Option Addr} {n c : Nat} {xs cs : List Value} (hown : Own w B e 1 A n c xs) (hm : cs.length ≤ n)
    (h : ∀ g cur, A = some ⟨g, 0, none⟩ → Row w g e cur → w' = w.setRow g (cur.toList.take 0 ++ cs ++ cur.toList.drop (0 + cs.length)).toArray) (h0 : A = none → w' = w) :
    Own w' B e 1 A n c (cs ++ xs.drop cs.length) ∧ w.grownBy w' (blkOf A) := by
  rcases hown.cases with ⟨rfl, rfl, rfl, rfl⟩ | ⟨g, cur, rfl, hb, hg, hnc, hcm, hcs, htake⟩
  · obtain rfl := h0 rfl
    obtain rfl : cs = [] := List.eq_nil_of_length_eq_zero (by omega)
    exact ⟨by simpa using hown, World.grownBy.refl _ _⟩
  · obtain rfl := h g cur rfl hg
    have hxl := hown.len
    simp only [Nat.mul_one] at htake hcs hxl
    refine ⟨⟨by simp only [List.length_append, List.length_drop]; omega, .inr ⟨g, _, rfl, hb, hg.set _ ?_, hnc, hcm, ?_, ?_⟩⟩, ⟨rfl, rfl, rfl, by simp [World.setRow], fun k _ hk => setRow_other w g k _ (fun e => hk (by simp [blkOf, e]))⟩⟩
    · simp only [List.size_toArray, List.length_append, List.length_take, List.length_drop, Array.length_toList]
      omega
    · simp only [List.size_toArray, List.length_append, List.length_take, List.length_drop, Array.length_toList]
      omega
    · rw [← htake]
      simp only [List.take_zero, List.nil_append, Nat.zero_add, Nat.mul_one]
      rw [List.take_append, List.take_of_length_le (by omega), List.drop_take]

/-- 'copy(dst, src)', dst of the call's own, src no longer than dst -/
theorem wp_copy_x {o : Oper} {a : Act} {K : Act → World → Prop} {Q : Exit → Act → World → Prop} (d s : Operand) (dT sT : TypeId)
    (ho : o.op = .call { callee := .builtin .copy, args := #[d, s], argTypes := #[dT, sT] }) (e : TypeId) (hu : P.underlying dT = some (.slice e)) (hsz : (P.info? e).map (·.size) = some 1)
    (B : Nat) (A : Option Addr) (n c : Nat) (xs : List Value) (hd : a.eval d = .slice A n c) (hown : Own w B e 1 A n c xs)
    (A2 : Option Addr) (m c2 : Nat) (cs : List Value) (hs : a.eval s = .slice A2 m c2) (hr : Rd w 1 A2 m cs) (hm : m ≤ n) (h1 : ∀ v ∈ cs, v.oneCell' = true)
    (h : ∀ w', Own w' B e 1 A n c (cs ++ xs.drop m) → w.grownBy w' (blkOf A) → K (a.put o.dst (goInt m)) w') : o.wp P a w K Q := by
  have hcl : cs.length = m := by simpa using hr.1
  have key : ∃ w', (Builtin.copy_ #[dT, sT] o.type #[.slice A n c, .slice A2 m c2]).run P w = .ok (goInt m) w' ∧ Own w' B e 1 A n c (cs ++ xs.drop m) ∧ w.grownBy w' (blkOf A) := by
    rcases Nat.eq_zero_or_pos m with h0 | h0
    · subst h0
      obtain rfl : cs = [] := List.eq_nil_of_length_eq_zero hcl
      exact ⟨w, run_copy_none (P := P) w dT sT o.type e A A2 n c 0 c2 hu hsz (by simp), by simpa using hown, World.grownBy.refl _ _⟩
    · obtain ⟨ad, rfl, hcell⟩ := hr.2 h0
      rcases hown.cases with ⟨rfl, rfl, rfl, rfl⟩ | ⟨g, cur, rfl, hb, hg, hnc, hcm, hcs, htake⟩
      · omega
      · have hl := run_loadCells_list (P := P) w ad cs hcell
        have hst := run_storeCells_row (P := P) g 0 e cs 0 cur w hg (by omega) h1
        simp only [Nat.add_zero] at hst
        have hrun : (Builtin.copy_ #[dT, sT] o.type #[.slice (some ⟨g, 0, none⟩) n c, .slice (some ad) m c2]).run P w = .ok (goInt m) (w.setRow g (cur.toList.take 0 ++ cs ++ cur.toList.drop (0 + cs.length)).toArray) := by
          cases hq : P.info? e with
          | none => simp [hq] at hsz
          | some i =>
            have hs1 : i.size = 1 := by simpa [hq] using hsz
            have hmn : Nat.min m n = m := Nat.min_eq_left hm
            rw [hcl] at hl
            simp [Builtin.copy_, run_underlying hu, Builtin.lenOf, Builtin.firstCells, sizeOf, typeInfo, hq, hs1, hmn, hl] at hst ⊢
            rw [hst]; rfl
        obtain ⟨r1, r2⟩ := Own.copied w hown (cs := cs) (w' := w.setRow g (cur.toList.take 0 ++ cs ++ cur.toList.drop (0 + cs.length)).toArray) (by omega) (fun g' cur' hA hg' => by
          injection hA with hA
          injection hA with hA
          subst hA
          obtain ⟨fr, hg, _⟩ := hg
          obtain ⟨fr', hg', _⟩ := hg'
          rw [hg] at hg'
          injection hg' with hg'
          injection hg' with hg'
          rw [hg']) (fun hA => by cases hA)
        exact ⟨_, hrun, by rw [← hcl]; exact r1, r2⟩
  obtain ⟨w', hrun, r1, r2⟩ := key
  unfold Oper.wp execOp
  simp only [ho, resolve, invoke, builtin, Sem.run_bind, Sem.run_pure, Result.andThen_ok, List.map_toArray, List.map_cons, List.map_nil, hd, hs, hrun]
  exact h w' r1 r2

theorem wpList_copy_x {ops : Array Oper} {rest : List Oper} {o : Oper} {a : Act} {Q : Exit → Act → World → Prop} (hgd : o.guard = none) (d s : Operand) (dT sT : TypeId)
    (ho : o.op = .call { callee := .builtin .copy, args := #[d, s], argTypes := #[dT, sT] }) (e : TypeId) (hu : P.underlying dT = some (.slice e)) (hsz : (P.info? e).map (·.size) = some 1)
    (B : Nat) (A : Option Addr) (n c : Nat) (xs : List Value) (hd : a.eval d = .slice A n c) (hown : Own w B e 1 A n c xs)
    (A2 : Option Addr) (m c2 : Nat) (cs : List Value) (hs : a.eval s = .slice A2 m c2) (hr : Rd w 1 A2 m cs) (hm : m ≤ n) (h1 : ∀ v ∈ cs, v.oneCell' = true)
    (h : ∀ w', Own w' B e 1 A n c (cs ++ xs.drop m) → w.grownBy w' (blkOf A) → wpList P ops Q rest (a.put o.dst (goInt m)) w') : wpList P ops Q (o :: rest) a w :=
  wpList_plain hgd fun _ hK => wp_copy_x w d s dT sT ho e hu hsz B A n c xs hd hown A2 m c2 cs hs hr hm h1 fun w' h2 h3 => hK _ _ (h w' h2 h3)
end

section
variable {P : Program} (w : World)
/-- '[]byte(s)' -/
theorem run_bytes_of (src dst e : TypeId) (s : ByteArray) (hs : P.underlying src = some .string) (hd : P.underlying dst = some (.slice e)) (he : P.underlying e = some (.int .u8)) (hsz : s.size ≤ maxLen) :
    ∃ c w', (convert src dst (.string s)).run P w = .ok (.slice (some ⟨w.heap.size, 0, none⟩) s.size c) w' ∧ Own w' w.heap.size e 1 (some ⟨w.heap.size, 0, none⟩) s.size c (s.data.toList.map bv) ∧ New w w' := by
  have hcap := grownCap_ge w s.size 0 e
  have hcm := grownCap_le_maxLen w s.size 0 e hsz
  refine ⟨_, _, Lib.run_convert_string_bytes (P := P) w src dst e s hs hd he, ⟨by simp, .inr ⟨w.heap.size, _, rfl, Nat.le_refl _, ⟨_, Lib.bytesWorld_at_new w e s, .inr (Nat.le_refl _)⟩, hcap, hcm, ?_, ?_⟩⟩, ⟨rfl, rfl, rfl, ?_, fun k hk _ => Lib.bytesWorld_at_old w e s k hk⟩⟩
  · simp only [Lib.bytesCells, Array.size_append, Array.size_map, Array.size_replicate, Nat.mul_one]
    have : s.data.size = s.size := rfl
    omega
  · simp only [Lib.bytesCells, Array.toList_append, Array.toList_map, Nat.mul_one]
    have : s.size = (s.data.toList.map bv).length := by simp
    rw [this]
    exact List.take_left
  · rw [Lib.bytesWorld_size]; omega

theorem wp_bytes_of {o : Oper} {a : Act} {K : Act → World → Prop} {Q : Exit → Act → World → Prop} (x : Operand) (src dst : TypeId) (ho : o.op = .convert src dst x)
    (e : TypeId) (s : ByteArray) (hs : P.underlying src = some .string) (hd : P.underlying dst = some (.slice e)) (he : P.underlying e = some (.int .u8)) (hx : a.eval x = .string s) (hsz : s.size ≤ maxLen)
    (h : ∀ c w', Own w' w.heap.size e 1 (some ⟨w.heap.size, 0, none⟩) s.size c (s.data.toList.map bv) → New w w' → K (a.put o.dst (.slice (some ⟨w.heap.size, 0, none⟩) s.size c)) w') : o.wp P a w K Q := by
  obtain ⟨c, w', hrun, h1, h2⟩ := run_bytes_of (P := P) w src dst e s hs hd he hsz
  unfold Oper.wp
  simp only [execOp, ho, hx, Sem.run_bind, hrun, Sem.run_pure, Result.andThen_ok, Sem.run_map]
  exact h c w' h1 h2

theorem wpList_bytes_of {ops : Array Oper} {rest : List Oper} {o : Oper} {a : Act} {Q : Exit → Act → World → Prop} (hgd : o.guard = none) (x : Operand) (src dst : TypeId) (ho : o.op = .convert src dst x)
    (e : TypeId) (s : ByteArray) (hs : P.underlying src = some .string) (hd : P.underlying dst = some (.slice e)) (he : P.underlying e = some (.int .u8)) (hx : a.eval x = .string s) (hsz : s.size ≤ maxLen)
    (h : ∀ c w', Own w' w.heap.size e 1 (some ⟨w.heap.size, 0, none⟩) s.size c (s.data.toList.map bv) → New w w' → wpList P ops Q rest (a.put o.dst (.slice (some ⟨w.heap.size, 0, none⟩) s.size c)) w') : wpList P ops Q (o :: rest) a w :=
  wpList_plain hgd fun _ hK => wp_bytes_of w x src dst ho e s hs hd he hx hsz fun c w' h1 h2 => hK _ _ (h c w' h1 h2)
end
end Go.Proofs.Ytfmmcjiehpdogaa
