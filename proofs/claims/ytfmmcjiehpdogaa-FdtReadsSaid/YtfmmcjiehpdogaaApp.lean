/-
  append of a string, and of so many zero bytes, onto a slice of the call's own. No condition but that the bytes are not more than memory bears.
-/
import Derived.Test.YtfmmcjiehpdogaaMem
import Derived.Lib.AppendStr
import Derived.Lib.AppendZerosOnto
set_option linter.unusedVariables false
set_option linter.unusedSimpArgs false
namespace Go.Proofs.Ytfmmcjiehpdogaa
open Go.RowKit

theorem strCells_eq (s : ByteArray) : Lib.strCells s = s.data.toList.map bv := rfl

section
variable {P : Program} (w : World)
theorem run_append_str (B : Nat) (t u ty e : TypeId) (i : TypeInfo) (ht : P.underlying t = some (.slice e)) (hu : P.underlying u = some .string) (hi : P.info? e = some i) (hz : i.zero = some (.int .u8 0))
    (hsize : i.size = 1) (hby : i.bytes = 1) (A : Option Addr) (n c : Nat) (xs : List Value) (hown : Own w B e 1 A n c xs) (s : ByteArray)
    (h63 : n + s.size ≤ maxLen) (hbytes : n + s.size ≤ 140737488355328) (hB : B ≤ w.heap.size) :
    ∃ A' c' w', (Builtin.append_ #[t, u] ty #[.slice A n c, .string s]).run P w = .ok (.slice A' (n + s.size) c') w' ∧ Own w' B e 1 A' (n + s.size) c' (xs ++ s.data.toList.map bv) ∧ w.grownBy w' (blkOf A) ∧
      (blkOf A' = blkOf A ∨ blkOf A' = some w.heap.size) := by
  have hxl : xs.length = n := by simpa using hown.1
  rw [← strCells_eq]
  have hsl := Lib.strCells_length s
  refine own_append hown s.size (Lib.strCells s) (by simpa using hsl) h63 hB _ (fun hm => ?_) (fun g cur hA hg hr hcs hfit => ?_) (fun hm hc holds => ?_)
  · have hf := Lib.run_firstCells_string (P := P) w 1 s
    have hn : Lib.strCells s = [] := List.eq_nil_of_length_eq_zero (by rw [hsl]; exact hm)
    rw [hm, hn] at hf
    have hle := hown.le
    rcases hown.cases with ⟨rfl, rfl, rfl, rfl⟩ | ⟨g, cur, rfl, hb, hg, hnc, hcm, hcs, htake⟩
    · simp [Builtin.append_, run_underlying ht, run_underlying hu, sizeOf, typeInfo, hi, hsize, Builtin.lenOf, hm, hf]
    · simp [Builtin.append_, run_underlying ht, run_underlying hu, sizeOf, typeInfo, hi, hsize, Builtin.lenOf, hm, hf, hnc, storeCells]
  · subst hA
    have hf := Lib.run_firstCells_string (P := P) w 1 s
    have hst := run_storeCells_row (P := P) g n e (Lib.strCells s) 0 cur w hg (by rw [hsl]; omega) (Lib.strCells_oneCell s)
    simp only [Nat.add_zero] at hst
    simp [Builtin.append_, run_underlying ht, run_underlying hu, sizeOf, typeInfo, hi, hsize, Builtin.lenOf, hr, hf, Addr.add_lit] at hst ⊢
    rw [hst]; rfl
  · have hn0 : s.size ≠ 0 := by omega
    rcases hown.cases with ⟨rfl, rfl, rfl, rfl⟩ | ⟨g, cur, rfl, hb, hg, hnc, hcm, hcs, htake⟩
    · have hr := run_append_nil_string (P := P) w t u ty e i (.int .u8 0) ht hu hi hz s (by omega) (by simp only [maxLen] at h63; omega) (by rw [hby]; omega)
      have e1 : (s.data.map fun b => Value.int .u8 b.toNat) = (Lib.strCells s).toArray := by
        apply Array.ext'
        simp [Lib.strCells]
      rw [e1] at hr
      refine ⟨_, ?_, by simpa only [Nat.zero_add, Array.empty_append] using hr⟩
      simp only [size_zeroCells]
      congr 1
      rw [Nat.zero_add]
    · have hr := Lib.run_append_grow_string (P := P) w t u ty e i (.int .u8 0) ht hu hi hz ⟨g, 0, none⟩ n c xs (by rw [hsize]; simpa using hxl) (holds g rfl) s (by omega) (by simp only [maxLen] at h63; omega) (by rw [hby]; exact growslice_fits (by omega) (by omega))
      refine ⟨_, ?_, hr⟩
      simp only [size_zeroCells]
      rfl

theorem wp_append_str {o : Oper} {a : Act} {K : Act → World → Prop} {Q : Exit → Act → World → Prop} (s x : Operand) (t u : TypeId)
    (ho : o.op = .call { callee := .builtin .append, args := #[s, x], argTypes := #[t, u] })
    (B : Nat) (e : TypeId) (i : TypeInfo) (ht : P.underlying t = some (.slice e)) (hu : P.underlying u = some .string) (hi : P.info? e = some i) (hz : i.zero = some (.int .u8 0))
    (hsize : i.size = 1) (hby : i.bytes = 1) (A : Option Addr) (n c : Nat) (xs : List Value) (hs : a.eval s = .slice A n c) (hown : Own w B e 1 A n c xs) (str : ByteArray) (hx : a.eval x = .string str)
    (N : Nat) (hN : N = n + str.size) (h63 : N ≤ maxLen) (hbytes : N ≤ 140737488355328) (hB : B ≤ w.heap.size)
    (h : ∀ A' c' w', Own w' B e 1 A' N c' (xs ++ str.data.toList.map bv) → w.grownBy w' (blkOf A) → (blkOf A' = blkOf A ∨ blkOf A' = some w.heap.size) → K (a.put o.dst (.slice A' N c')) w') : o.wp P a w K Q := by
  subst hN
  obtain ⟨A', c', w', hrun, h2, h3, h4⟩ := run_append_str (P := P) w B t u o.type e i ht hu hi hz hsize hby A n c xs hown str h63 hbytes hB
  unfold Oper.wp execOp
  simp only [ho, resolve, invoke, builtin, Sem.run_bind, Sem.run_pure, Result.andThen_ok, List.map_toArray, List.map_cons, List.map_nil, hs, hx, hrun]
  exact h A' c' w' h2 h3 h4

theorem wpList_append_str {ops : Array Oper} {rest : List Oper} {o : Oper} {a : Act} {Q : Exit → Act → World → Prop} (hgd : o.guard = none) (s x : Operand) (t u : TypeId)
    (ho : o.op = .call { callee := .builtin .append, args := #[s, x], argTypes := #[t, u] })
    (B : Nat) (e : TypeId) (i : TypeInfo) (ht : P.underlying t = some (.slice e)) (hu : P.underlying u = some .string) (hi : P.info? e = some i) (hz : i.zero = some (.int .u8 0))
    (hsize : i.size = 1) (hby : i.bytes = 1) (A : Option Addr) (n c : Nat) (xs : List Value) (hs : a.eval s = .slice A n c) (hown : Own w B e 1 A n c xs) (str : ByteArray) (hx : a.eval x = .string str)
    (N : Nat) (hN : N = n + str.size) (h63 : N ≤ maxLen) (hbytes : N ≤ 140737488355328) (hB : B ≤ w.heap.size)
    (h : ∀ A' c' w', Own w' B e 1 A' N c' (xs ++ str.data.toList.map bv) → w.grownBy w' (blkOf A) → (blkOf A' = blkOf A ∨ blkOf A' = some w.heap.size) → wpList P ops Q rest (a.put o.dst (.slice A' N c')) w') : wpList P ops Q (o :: rest) a w :=
  wpList_plain hgd fun _ hK => wp_append_str w s x t u ho B e i ht hu hi hz hsize hby A n c xs hs hown str hx N hN h63 hbytes hB fun A' c' w' h2 h3 h4 => hK _ _ (h A' c' w' h2 h3 h4)

theorem zeroCells_u8 (k : Nat) : Builtin.zeroCells (Value.int .u8 0).cells k = (List.replicate k (Value.int .u8 0)).toArray := by
  apply Array.ext'
  simp only [Builtin.zeroCells, Array.toList_map, Array.toList_range]
  apply List.ext_getElem
  · simp [Value.cells]
  · intro i h1 h2
    simp [Value.cells, Nat.mod_one]

theorem run_append_zeros (B : Nat) (t tn ty e : TypeId) (i : TypeInfo) (ht : P.underlying t = some (.slice e)) (kn : IntKind) (htn : P.underlying tn = some (.int kn)) (hi : P.info? e = some i) (hz : i.zero = some (.int .u8 0))
    (hsize : i.size = 1) (hby : i.bytes = 1) (A : Option Addr) (n c : Nat) (xs : List Value) (hown : Own w B e 1 A n c xs) (kq : IntKind) (k : Nat)
    (h63 : n + k ≤ maxLen) (hbytes : n + k ≤ 140737488355328) (hB : B ≤ w.heap.size) :
    ∃ A' c' w', (Builtin.append_ #[t, tn] ty #[.slice A n c, .int kq k]).run P w = .ok (.slice A' (n + k) c') w' ∧ Own w' B e 1 A' (n + k) c' (xs ++ List.replicate k (.int .u8 0)) ∧ w.grownBy w' (blkOf A) ∧
      (blkOf A' = blkOf A ∨ blkOf A' = some w.heap.size) := by
  have hxl : xs.length = n := by simpa using hown.1
  have hwr : IntKind.i64.wrap (k : Int) = k := by rw [IntKind.wrap_i64]; omega
  have hneg : ¬ ((k : Int) < 0) := by omega
  have h48i : ¬ (281474976710656 < (k : Int) * (i.bytes : Int)) := by rw [hby]; omega
  have h48j : ¬ (281474976710656 < (k : Int)) := by omega
  have hnegj : (0 : Int) ≤ (k : Int) := by omega
  refine own_append hown k (List.replicate k (.int .u8 0)) (by simp) h63 hB _ (fun hm => ?_) (fun g cur hA hg hr hcs hfit => ?_) (fun hm hc holds => ?_)
  · have hle := hown.le
    subst hm
    have hw0 : IntKind.i64.wrap 0 = 0 := by decide
    rcases hown.cases with ⟨rfl, rfl, rfl, rfl⟩ | ⟨g, cur, rfl, hb, hg, hnc, hcm, hcs, htake⟩
    · simp [Builtin.append_, run_underlying ht, run_underlying htn, sizeOf, typeInfo, hi, hsize, asInt, asIntOf, hw0]
    · simp [Builtin.append_, run_underlying ht, run_underlying htn, sizeOf, typeInfo, hi, hsize, asInt, asIntOf, hw0, hnc, storeCells]
  · subst hA
    rcases Nat.eq_zero_or_pos k with h0 | h0
    · subst h0
      have hw0 : IntKind.i64.wrap 0 = 0 := by decide
      have hnc := hown.le.1
      have e1 : w.setRow g (cur.toList.take (n * 1) ++ [] ++ cur.toList.drop (n * 1 + 0)).toArray = w := by
        obtain ⟨fr, hg, _⟩ := hg
        simp only [Nat.add_zero, List.append_nil, List.take_append_drop, Array.toArray_toList]
        exact setRow_self w g cur e fr hg
      simp only [List.replicate_zero, List.length_nil]
      rw [e1]
      simp [Builtin.append_, run_underlying ht, run_underlying htn, sizeOf, typeInfo, hi, hsize, asInt, asIntOf, hw0, hnc, storeCells]
    · have hst := run_storeCells_row (P := P) g (n * 1) e (List.replicate k (.int .u8 0)) 0 cur w hg (by simp; omega) (by intro u hu; rw [(List.mem_replicate.1 hu).2]; rfl)
      simp only [Nat.add_zero] at hst
      have hk : k ≠ 0 := by omega
      have hzc := zeroCells_u8 k
      simp [Builtin.append_, run_underlying ht, run_underlying htn, sizeOf, typeInfo, zeroValue, hi, hz, hsize, hby, asInt, asIntOf, hwr, hk, hneg, h48j, hr, hzc, Addr.add_lit] at hst ⊢
      rw [hst]
      rfl
  · have hn0 : k ≠ 0 := by omega
    rcases hown.cases with ⟨rfl, rfl, rfl, rfl⟩ | ⟨g, cur, rfl, hb, hg, hnc, hcm, hcs, htake⟩
    · have hr := Lib.run_append_grow_zeros (P := P) w t tn ty e i (.int .u8 0) kq kn ht htn hi hz none 0 0 [] (by simp [Builtin.firstCells]) k hm (by omega) hc (by simp only [maxLen] at h63; omega) (by rw [hby]; omega) (by rw [hby, Nat.zero_add, nextslicecap_zero hm]; omega)
      refine ⟨_, ?_, by rw [zeroCells_u8 k] at hr; exact hr⟩
      simp only [size_zeroCells]
      rfl
    · have hf := run_firstCells_some (P := P) w.drew i.size n ⟨g, 0, none⟩ n c xs (by rw [hsize]; simpa using hxl) (by simpa using holds g rfl)
      have hr := Lib.run_append_grow_zeros (P := P) w t tn ty e i (.int .u8 0) kq kn ht htn hi hz (some ⟨g, 0, none⟩) n c xs hf k hm (by omega) hc (by simp only [maxLen] at h63; omega) (by rw [hby]; omega) (by rw [hby]; exact growslice_fits (by omega) (by omega))
      refine ⟨_, ?_, by rw [zeroCells_u8 k] at hr; exact hr⟩
      simp only [size_zeroCells]
      rfl

theorem wp_append_zeros {o : Oper} {a : Act} {K : Act → World → Prop} {Q : Exit → Act → World → Prop} (s x : Operand) (t tn : TypeId)
    (ho : o.op = .call { callee := .builtin .append, args := #[s, x], argTypes := #[t, tn] })
    (B : Nat) (e : TypeId) (i : TypeInfo) (ht : P.underlying t = some (.slice e)) (kn : IntKind) (htn : P.underlying tn = some (.int kn)) (hi : P.info? e = some i) (hz : i.zero = some (.int .u8 0))
    (hsize : i.size = 1) (hby : i.bytes = 1) (A : Option Addr) (n c : Nat) (xs : List Value) (hs : a.eval s = .slice A n c) (hown : Own w B e 1 A n c xs) (kq : IntKind) (k : Nat) (hx : a.eval x = .int kq k)
    (N : Nat) (hN : N = n + k) (h63 : N ≤ maxLen) (hbytes : N ≤ 140737488355328) (hB : B ≤ w.heap.size)
    (h : ∀ A' c' w', Own w' B e 1 A' N c' (xs ++ List.replicate k (.int .u8 0)) → w.grownBy w' (blkOf A) → (blkOf A' = blkOf A ∨ blkOf A' = some w.heap.size) → K (a.put o.dst (.slice A' N c')) w') : o.wp P a w K Q := by
  subst hN
  obtain ⟨A', c', w', hrun, h2, h3, h4⟩ := run_append_zeros (P := P) w B t tn o.type e i ht kn htn hi hz hsize hby A n c xs hown kq k h63 hbytes hB
  unfold Oper.wp execOp
  simp only [ho, resolve, invoke, builtin, Sem.run_bind, Sem.run_pure, Result.andThen_ok, List.map_toArray, List.map_cons, List.map_nil, hs, hx, hrun]
  exact h A' c' w' h2 h3 h4
end
end Go.Proofs.Ytfmmcjiehpdogaa
