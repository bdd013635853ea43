/-
  From a walk that ends in 'true' and changes no old block to the row's post. Trees out of what an argument reads as. No condition but the form's own reach.
-/
import Derived.Test.YtfmmcjiehpdogaaTree
import Derived.Test.YtfmmcjiehpdogaaRows
import Derived.ChangeSame
import Derived.ChangeStays
import Derived.ChangeBears
import Derived.ReadAgain
import Derived.SizedLaws
import Derived.RowKit
import Derived.RowKit2
import Derived.JoinedOf
import Derived.JoinedAt
import Derived.ChangeAlike
import Derived.Below
import Derived.ProofKit
import Derived.Deep.Slices
import Derived.Deep.Strs
import Derived.ChangeArms
set_option linter.unusedVariables false
set_option linter.unusedSimpArgs false
namespace Go.Proofs.Ytfmmcjiehpdogaa
open Go.ChangeShapes Go.WideShapes Go.ChangeAt Go.RowKit Go.Deep

theorem ownNo : ownKnob Try.prog.godebug = none := by kernel_rfl
theorem kidsAll : Kids Try.prog (· < Try.prog.types.size) := kids_rows (by kernel_rfl) (by kernel_rfl)
theorem fullAll : ∀ t e, t < Try.prog.types.size → Try.prog.underlying t = some (.slice e) → 0 < Try.prog.cellsOf e := slices_full_of Try.prog (by kernel_rfl)

section
variable {H : Type} {enc : TypeId × Value → H} {W W' : World}
/-- what is read again behind a call that changed no old block -/
theorem trod_again (hb : Below W.heap.size W W') {sp : Nat → Bool} : ∀ {ts : List TypeId} {vs : List Value} {ds : List (DataW H)} {ps : List MemPlace}, (∀ t ∈ ts, t < Try.prog.types.size) →
    DataW.TrodAll enc Try.prog W 0 (fun _ => true) true ts vs ds ps → (∀ p ∈ ps, p.block < W.heap.size) → (∀ p ∈ ps, sp p.block = true) → DataW.TrodAll enc Try.prog W' 0 sp true ts vs ds ps
  | [], [], [], ps, _, h, _, _ => h
  | t :: ts, v :: vs, d :: ds, ps, hT, ⟨p, q, ⟨n, hp⟩, hq, e⟩, hlt, hsp => by
    subst e
    refine ⟨p, q, ⟨n, DataW.trod_stays kidsAll (fun hT hu => fullAll _ _ hT hu) (fun h => by cases h) (hT t (by simp)) hp (fun x hx => hb.same (hlt x (List.mem_append_left _ hx))) (fun x hx => hsp x (List.mem_append_left _ hx))⟩,
      trod_again hb (fun t ht => hT t (by simp [ht])) hq (fun x hx => hlt x (List.mem_append_right _ hx)) (fun x hx => hsp x (List.mem_append_right _ hx)), rfl⟩

/-- the post of a law that returned true and changed no old block -/
theorem law_post {f : Func} {s : ChangeSpec} {apart fresh handsOn : Bool} {args : Array Value} {ds gs : List (DataW H)} {before : List MemPlace} {tb : TypeId} (hv : s.vars = [])
    (hW : DataW.Whole enc Try.prog f.params.toList s.vars apart W args.toList ds gs before) (hs : s.fn H ds = { results := [.lit (.bool true)], args := ds }) (hT : ∀ t ∈ f.params.toList, t < Try.prog.types.size)
    (hr : f.resultTypes = #[tb]) (htb : Try.prog.underlying tb = some .bool) (hb : Below W.heap.size W W') : s.post enc Try.prog f apart fresh handsOn false W args (.bool true) W' := by
  have hlt := hW.lt
  have hW' := hW
  obtain ⟨p, q, hA, hV, rfl, _, _⟩ := hW
  rw [hv] at hV
  obtain ⟨rfl, rfl⟩ := trodVars_none hV
  simp only [List.append_nil] at hlt
  refine ⟨ds, [], p ++ [], [], p, [], hW', ?_, ?_, ?_, hb.frame _, fun h => by cases h⟩
  · rw [List.append_nil, hs, hr]
    exact trodAll_mk1 (shut_bool htb true)
  · rw [List.append_nil, hs]
    exact trod_again hb hT hA hlt (fun x hx => by simpa using hlt x hx)
  · rw [hv, List.append_nil, hs]
    rfl
end

/-! trees out of readings -/
section
variable {H : Type} {enc : TypeId × Value → H} {W : World}
/-- each string, slice of it is within the form's reach -/
def Fit (t : TypeId) (d : DataW H) : Prop := ∀ n ∈ d.weights Try.prog t, n ≤ reachBytes
theorem weightsAll_mem {e : TypeId} {l : List (DataW H)} {d : DataW H} (hd : d ∈ l) {n : Nat} (hn : n ∈ d.weights Try.prog e) : n ∈ DataW.weightsAll Try.prog e l := by
  induction l with
  | nil => cases hd
  | cons x l ih =>
    rw [DataW.weightsAll, List.mem_append]
    rcases List.mem_cons.1 hd with rfl | h
    · exact .inl hn
    · exact .inr (ih h)
theorem reach_val : reachBytes = 140737488351232 := rfl

theorem fit_str {s : ByteArray} {t : TypeId} (h : Fit t (.lit (.string s.data.toList) : DataW H)) : s.size ≤ 140737488351232 := by
  have := h s.data.toList.length (by simp [DataW.weights])
  rw [reach_val] at this
  simpa using this

/-- a slice, element by element -/
theorem slice_open {t e : TypeId} {fuel : Nat} {cs : List Value} {d : DataW H} {ps : List MemPlace} (ht : Try.prog.underlying t = some (.slice e)) (hby : 1 ≤ Try.prog.bytesOf e) (h : DataW.trod enc Try.prog W 0 (fun _ => true) true fuel t cs = some (d, ps)) (hf : Fit t d) :
    (cs = [.slice none 0 0]) ∨ ∃ (a : Addr) (len cap n : Nat), fuel = n + 1 ∧ cs = [.slice (some a) len cap] ∧ len ≤ cap ∧ cap ≤ 140737488351232 ∧
      ∀ i, i < len → ∃ cs' d' ps', cs'.length = Try.prog.cellsOf e ∧ (∀ j, j < Try.prog.cellsOf e → W.cell? (a.add (i * Try.prog.cellsOf e + j)) = cs'[j]?) ∧ DataW.trod enc Try.prog W 0 (fun _ => true) true n e cs' = some (d', ps') ∧ Fit e d' := by
  rcases DataW.trod_slice ht h with ⟨h0, _⟩ | ⟨a, len, cap, elems, rest, n, hn, rfl, hx, hb, hl, hm, hlen, hel, hsp, hns⟩
  · exact .inl h0
  · right
    injection hx with hd hp
    subst hd
    have hrl := (hsp rfl).1
    refine ⟨a, len, cap, n, hn, rfl, hl, ?_, fun i hi => ?_⟩
    · have := hf ((elems.length + rest.length) * Try.prog.bytesOf e) (by simp [DataW.weights, ht])
      rw [reach_val, hlen, hrl, show len + (cap - len) = cap by omega] at this
      exact Nat.le_trans (Nat.le_mul_of_pos_right cap hby) this
    · have := hel i hi
      rw [List.getElem?_eq_getElem (by omega)] at this
      obtain ⟨cs', h1, h2⟩ := Option.bind_eq_some_iff.1 this
      obtain ⟨_, h3, h4⟩ := World.cells?_some h1
      refine ⟨cs', (elems[i]'(by omega)).1, (elems[i]'(by omega)).2, h3, fun j hj => ?_, h2, fun m hm => hf m ?_⟩
      · rw [← h4 j hj, addr_add_add]
      · simp only [DataW.weights, ht, List.mem_cons, List.mem_append]
        exact .inr (.inl (weightsAll_mem (List.mem_map.2 ⟨_, List.getElem_mem (by omega), rfl⟩) hm))

theorem bytes1 : Try.prog.bytesOf 5 = 1 := by kernel_rfl
theorem cells1 : Try.prog.cellsOf 5 = 1 := by kernel_rfl
/-- a []byte -/
theorem bytes_open {fuel : Nat} {cs : List Value} {d : DataW H} {ps : List MemPlace} (h : DataW.trod enc Try.prog W 0 (fun _ => true) true fuel 28 cs = some (d, ps)) (hf : Fit 28 d) :
    ∃ (A : Option Addr) (l : List UInt8) (c : Nat), cs = [.slice A l.length c] ∧ l.length ≤ c ∧ c ≤ 140737488351232 ∧ Rd W 1 A l.length (l.map bv) ∧ Lo W.heap.size A l.length := by
  rcases slice_open Try.underlying28 (by rw [bytes1]; exact Nat.le_refl _) h hf with rfl | ⟨a, len, cap, n, _, rfl, hl, hc, hel⟩
  · exact ⟨none, [], 0, rfl, Nat.le_refl _, by decide, Rd.nil_, fun h => by simp at h⟩
  · rw [cells1] at hel
    have key : ∀ i, i < len → ∃ b : UInt8, W.cell? (a.add i) = some (bv b) := by
      intro i hi
      obtain ⟨cs', d', ps', h1, h2, h3, _⟩ := hel i hi
      obtain ⟨x, rfl⟩ : ∃ x, cs' = [x] := List.length_eq_one_iff.1 h1
      obtain ⟨v, hx, _, hw⟩ := DataW.trod_int Try.underlying5 h3
      injection hx with hx
      subst hx
      have h0 := h2 0 (by omega)
      simp only [Nat.mul_one, Nat.add_zero, List.getElem?_cons_zero] at h0
      have hb : 0 ≤ v ∧ v ≤ 255 := by simpa [Lit.wf, IntKind.min, IntKind.max, IntKind.signed, IntKind.bits] using hw
      refine ⟨UInt8.ofNat v.toNat, ?_⟩
      rw [h0, bv]
      congr 2
      have : (UInt8.ofNat v.toNat).toNat = v.toNat := by simp; omega
      rw [this]
      omega
    obtain ⟨f, hfn⟩ := choose_lt (α := UInt8) key
    refine ⟨some a, (List.range len).map f, cap, by simp, by simpa using hl, hc, ⟨by simp, fun _ => ⟨a, rfl, fun j u hu => ?_⟩⟩, fun hp ad e => ?_⟩
    · have hj : j < len := by
        have := (List.getElem?_eq_some_iff.1 hu).1
        simpa using this
      rw [hfn j hj]
      simp only [List.getElem?_map, List.getElem?_range hj, Option.map_some] at hu
      exact hu
    · injection e with e
      subst e
      have h0 := hfn 0 (by simpa using hp)
      have := World.block_lt_of_cell? W _ h0
      rwa [addr_add] at this

theorem addr_at {a : Addr} {v : Value} (h : W.cell? (a.add 0) = some v) : ∃ b o, a = ⟨b, o, none⟩ ∧ b < W.heap.size ∧ ∀ k, a.add k = ⟨b, o + k, none⟩ := by
  have h1 := cell_spot h
  have hl := World.block_lt_of_cell? W _ h
  obtain ⟨b, o, sp⟩ := a
  obtain rfl : sp = none := h1
  exact ⟨b, o, rfl, hl, fun k => by simp [Addr.add_lit]⟩
theorem len_two {α : Type} {l : List α} (h : l.length = 2) : ∃ u v, l = [u, v] := by
  match l, h with
  | [u, v], _ => exact ⟨u, v, rfl⟩
theorem len_three {α : Type} {l : List α} (h : l.length = 3) : ∃ u v z, l = [u, v, z] := by
  match l, h with
  | [u, v, z], _ => exact ⟨u, v, z, rfl⟩

theorem cellsP : Try.prog.cellsOf 96 = 2 := by kernel_rfl
theorem bytesP : Try.prog.bytesOf 96 = 40 := by kernel_rfl
theorem cellsT : Try.prog.cellsOf 25 = 3 := by kernel_rfl
theorem bytesT : Try.prog.bytesOf 25 = 64 := by kernel_rfl
theorem cellsS : Try.prog.cellsOf 9 = 1 := by kernel_rfl
theorem cellsB : Try.prog.cellsOf 28 = 1 := by kernel_rfl
theorem cellsPs : Try.prog.cellsOf 22 = 1 := by kernel_rfl
theorem cellsTs : Try.prog.cellsOf 23 = 1 := by kernel_rfl

/-- a property's two cells -/
theorem prop_open {fuel : Nat} {cs : List Value} {d : DataW H} {ps : List MemPlace} (h : DataW.trod enc Try.prog W 0 (fun _ => true) true fuel 96 cs = some (d, ps)) (hf : Fit 96 d) :
    ∃ (s : ByteArray) (A : Option Addr) (l : List UInt8) (c : Nat), cs = [.string s, .slice A l.length c] ∧ s.size ≤ 140737488351232 ∧ l.length ≤ c ∧ c ≤ 140737488351232 ∧ Rd W 1 A l.length (l.map bv) ∧ Lo W.heap.size A l.length := by
  obtain ⟨y0, y1, n, hx, hl, h0, h1⟩ := trod_struct2 Try.underlying96 h
  rw [cellsP] at hl
  obtain ⟨u, v, rfl⟩ : ∃ u v, cs = [u, v] := len_two hl
  injection hx with hd hp
  subst hd
  simp only [cellsS, cellsB, List.drop_zero, List.take_succ_cons, List.take_zero, List.drop_succ_cons] at h0 h1
  obtain ⟨s, hs, hy, hm⟩ := DataW.trod_string Try.underlying9 h0
  injection hs with hs
  subst hs
  have hw : ∀ m, m ∈ y0.1.weights Try.prog 9 ∨ m ∈ y1.1.weights Try.prog 28 → m ≤ reachBytes := fun m hm => hf m (by simp [DataW.weights, Try.underlying96, DataW.weightsEach, hm])
  subst hy
  obtain ⟨A, l, c, hA, r1, r2, r3, r4⟩ := bytes_open (d := y1.1) (ps := y1.2) h1 (fun m hm => hw m (.inr hm))
  injection hA with hA
  subst hA
  exact ⟨s, A, l, c, rfl, fit_str (t := 9) (fun m hm => hw m (.inl hm)), r1, r2, r3, r4⟩

/-- properties -/
theorem props_open {fuel : Nat} {cs : List Value} {d : DataW H} {ps : List MemPlace} (h : DataW.trod enc Try.prog W 0 (fun _ => true) true fuel 22 cs = some (d, ps)) (hf : Fit 22 d) :
    ∃ (A : Option Addr) (l : List PropD) (c : Nat), cs = [.slice A l.length c] ∧ l.length ≤ c ∧ c ≤ 140737488351232 ∧ PropsAt W W.heap.size A l := by
  rcases slice_open Try.underlying22 (by rw [bytesP]; omega) h hf with rfl | ⟨a, len, cap, n, _, rfl, hl, hc, hel⟩
  · exact ⟨none, [], 0, rfl, Nat.le_refl _, by decide, fun i p h => by simp at h⟩
  · rw [cellsP] at hel
    have key : ∀ i, i < len → ∃ p : PropD, ∃ b o A' c', some a = some ⟨b, o, none⟩ ∧ b < W.heap.size ∧ W.cell? ⟨b, o + i * 2, none⟩ = some (.string p.1) ∧ W.cell? ⟨b, o + i * 2 + 1, none⟩ = some (.slice A' p.2.length c') ∧
        p.2.length ≤ c' ∧ p.2.length ≤ 140737488351232 ∧ p.1.size ≤ 140737488351232 ∧ Rd W 1 A' p.2.length (p.2.map bv) ∧ Lo W.heap.size A' p.2.length := by
      intro i hi
      obtain ⟨cs', d', ps', h1, h2, h3, h4⟩ := hel i hi
      obtain ⟨s, A, l, c, rfl, r1, r2, r3, r4, r5⟩ := prop_open h3 h4
      have q0 := h2 0 (by omega)
      have q1 := h2 1 (by omega)
      simp only [List.getElem?_cons_zero, List.getElem?_cons_succ, Nat.add_zero] at q0 q1
      obtain ⟨cz, _, _, z1, z2, _⟩ := hel 0 (by omega)
      have z0 := z2 0 (by omega)
      rw [Nat.zero_mul, Nat.add_zero, List.getElem?_eq_getElem (by omega)] at z0
      obtain ⟨b, o, rfl, hb, had⟩ := addr_at z0
      rw [had] at q0 q1
      rw [← Nat.add_assoc] at q1
      exact ⟨(s, l), b, o, A, c, rfl, hb, q0, q1, r2, Nat.le_trans r2 r3, r1, r4, r5⟩
    obtain ⟨f, hfn⟩ := choose_lt (α := PropD) key
    refine ⟨some a, (List.range len).map f, cap, by simp, by simpa using hl, hc, fun i p hp => ?_⟩
    have hi : i < len := by
      have := (List.getElem?_eq_some_iff.1 hp).1
      simpa using this
    simp only [List.getElem?_map, List.getElem?_range hi, Option.map_some, Option.some.injEq] at hp
    subst hp
    exact hfn i hi

set_option maxRecDepth 100000 in
/-- a tree -/
theorem tree_open : ∀ (fuel : Nat) (cs : List Value) (d : DataW H) (ps : List MemPlace), DataW.trod enc Try.prog W 0 (fun _ => true) true fuel 25 cs = some (d, ps) → Fit 25 d →
    ∃ v0 v1 v2 t, cs = [v0, v1, v2] ∧ TreeIs W W.heap.size v0 v1 v2 t := by
  intro fuel
  induction fuel using Nat.strongRecOn with
  | _ fuel ih =>
  intro cs d ps h hf
  obtain ⟨xs, n, rfl, hx, hl, hxl, hall⟩ := DataW.trod_struct Try.underlying25 h
  rw [cellsT] at hl
  obtain ⟨u, v, z, rfl⟩ : ∃ u v z, cs = [u, v, z] := len_three hl
  obtain ⟨y0, y1, y2, rfl⟩ : ∃ u v z, xs = [u, v, z] := len_three hxl
  injection hx with hd hp
  subst hd
  have h0 := hall 0 _ rfl
  have h1 := hall 1 _ rfl
  have h2 := hall 2 _ rfl
  simp only [cellsS, cellsPs, cellsTs, List.drop_zero, List.take_succ_cons, List.take_zero, List.drop_succ_cons, List.getElem?_cons_zero, List.getElem?_cons_succ] at h0 h1 h2
  obtain ⟨s, hs, hy, hm⟩ := DataW.trod_string Try.underlying9 h0
  injection hs with hs
  subst hs
  have hw : ∀ m, m ∈ y0.1.weights Try.prog 9 ∨ m ∈ y1.1.weights Try.prog 22 ∨ m ∈ y2.1.weights Try.prog 23 → m ≤ reachBytes := fun m hm => hf m (by simp [DataW.weights, Try.underlying25, DataW.weightsEach, hm])
  subst hy
  have hsz := fit_str (t := 9) (fun m hm => hw m (.inl hm))
  obtain ⟨A, l, c, hA, r1, r2, r3⟩ := props_open (d := y1.1) (ps := y1.2) h1 (fun m hm => hw m (.inr (.inl hm)))
  injection hA with hA
  subst hA
  have hfk : Fit 23 y2.1 := fun m hm => hw m (.inr (.inr hm))
  rcases slice_open (d := y2.1) (ps := y2.2) Try.underlying23 (by rw [bytesT]; omega) h2 hfk with hz | ⟨a, len, cap, m, hmm, hz, hlc, hc, hel⟩
  · injection hz with hz
    subst hz
    exact ⟨_, _, _, _, rfl, .mk s l [] A none c 0 (fun _ => undef) (fun _ => undef) (fun _ => undef) hsz r1 (Nat.le_trans r1 r2) (Nat.le_refl _) (by decide) r3 (fun i hi => by simp at hi) (fun i k hk => by simp at hk)⟩
  · injection hz with hz
    subst hz
    rw [cellsT] at hel
    have key : ∀ i, i < len → ∃ x : Value × Value × Value × TreeD, ∃ b o, some a = some ⟨b, o, none⟩ ∧ b < W.heap.size ∧ W.cell? ⟨b, o + i * 3, none⟩ = some x.1 ∧ W.cell? ⟨b, o + i * 3 + 1, none⟩ = some x.2.1 ∧ W.cell? ⟨b, o + i * 3 + 2, none⟩ = some x.2.2.1 ∧
        TreeIs W W.heap.size x.1 x.2.1 x.2.2.1 x.2.2.2 := by
      intro i hi
      obtain ⟨cs', d', ps', g1, g2, g3, g4⟩ := hel i hi
      obtain ⟨v0, v1, v2, t, rfl, ht⟩ := ih m (by omega) cs' d' ps' g3 g4
      have q0 := g2 0 (by omega)
      have q1 := g2 1 (by omega)
      have q2 := g2 2 (by omega)
      simp only [List.getElem?_cons_zero, List.getElem?_cons_succ, Nat.add_zero] at q0 q1 q2
      obtain ⟨cz, _, _, z1, z2, _⟩ := hel 0 (by omega)
      have z0 := z2 0 (by omega)
      rw [Nat.zero_mul, Nat.add_zero, List.getElem?_eq_getElem (by omega)] at z0
      obtain ⟨b, o, rfl, hb, had⟩ := addr_at z0
      rw [had] at q0 q1 q2
      rw [← Nat.add_assoc] at q1 q2
      exact ⟨(v0, v1, v2, t), b, o, rfl, hb, q0, q1, q2, ht⟩
    haveI : Inhabited (Value × Value × Value × TreeD) := ⟨(undef, undef, undef, .mk .empty [] [])⟩
    obtain ⟨f, hfn⟩ := choose_lt (α := Value × Value × Value × TreeD) key
    refine ⟨_, _, _, .mk s l ((List.range len).map fun i => (f i).2.2.2), rfl, ?_⟩
    have := TreeIs.mk (w := W) (B := W.heap.size) s l ((List.range len).map fun i => (f i).2.2.2) A (some a) c cap (fun i => (f i).1) (fun i => (f i).2.1) (fun i => (f i).2.2.1) hsz r1 (Nat.le_trans r1 r2) (by simpa using hlc) (by simpa using Nat.le_trans hlc hc) r3 (fun i hi => ?_) (fun i k hk => ?_)
    · simpa using this
    · have hi' : i < len := by simpa using hi
      obtain ⟨b, o, e, hb, c0, c1, c2, _⟩ := hfn i hi'
      exact ⟨b, o, e, hb, c0, c1, c2⟩
    · have hi' : i < len := by
        have := (List.getElem?_eq_some_iff.1 hk).1
        simpa using this
      simp only [List.getElem?_map, List.getElem?_range hi', Option.map_some, Option.some.injEq] at hk
      subst hk
      obtain ⟨b, o, e, hb, c0, c1, c2, ht⟩ := hfn i hi'
      exact ht
end
end Go.Proofs.Ytfmmcjiehpdogaa
