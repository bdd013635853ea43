/-
  fdt.Of, as a function of the bytes. No condition but the lengths.
-/
import Derived.Test.YtfmmcjiehpdogaaRNode
import Derived.Recover
set_option linter.unusedVariables false
set_option linter.unusedSimpArgs false
namespace Go.Proofs.Ytfmmcjiehpdogaa
open Go.RowKit
attribute [local go_sem ↓] Go.wp_at_zero Go.wp_at_succ

/-- the tree that bytes are -/
def ofF (b : List UInt8) : Option TreeD :=
  match be32F b 12 with
  | none => none
  | some q =>
    if 16384 < b.length ∨ q < 56 ∨ b.length < q then none
    else if be32F (b.take q) 56 = some 1 then
      match nodeP (b.take q) (b.drop q) (b.length + 8) 1 60 200 with
      | none => none
      | some (t, _, _) => if putF t = (b, 0) then some t else none
    else none

/-- where a slice from q on lies -/
def cutA (bb o c q : Nat) : Option Addr := if c = q then some ⟨bb, o, none⟩ else some ⟨bb, o + q, none⟩
set_option maxRecDepth 100000 in
theorem run_from {kl : IntKind} (bb o n c q : Nat) (h : q ≤ n) (w : World) : (Instr.slice 28 (.slice (some ⟨bb, o, none⟩) n c) (some (.int kl (q : Int))) none none).run Try.prog w = .ok (.slice (cutA bb o c q) (n - q) (c - q)) w := by
  rw [run_slice_l w 28 _ n c Try.underlying28 kl (q : Int) (by omega) (by omega)]
  obtain ⟨i0, hi0, hz0, hz1, hz2⟩ := info_parts infoU8
  simp [sliced, cutA, sizeOf, typeInfo, hi0, hz1, Addr.add_lit, go_sem]
theorem Rd.cutA_ {w : World} {bb o n c q : Nat} {l : List UInt8} (h : Rd w 1 (some ⟨bb, o, none⟩) n (l.map bv)) (hq : q ≤ n) (hc : n ≤ c) : Rd w 1 (cutA bb o c q) (n - q) ((l.drop q).map bv) := by
  have h1 := h.cut (k := q) (cap := c) hq hc
  rw [Nat.mul_one, ← List.map_drop] at h1
  simp only [Option.map_some, Addr.add_lit] at h1
  exact h1

/-- the zero tree's cells -/
abbrev zt0 : Value := .string ⟨#[]⟩
abbrev zt1 : Value := .slice none 0 0

/-- what the deferred closure leaves -/
def CatchPost (c ce : Nat) (older : List PanicEntry) (w : World) (e : Ending) (u' : FrameMode) (w' : World) : Prop :=
  e = .returned (.tuple #[]) ∧ u' = .panicking ({ v := .iface 118 (.agg #[]), recovered := true } :: older) ∧ Blk w' c 25 #[zt0, zt1, zt1] ∧ Blk w' ce 29 #[.int .i64 240] ∧
    Chg (fun k => k = c ∨ k = ce) w w'

set_option maxRecDepth 100000 in
set_option maxHeartbeats 1000000 in
theorem catch_wrong (c ce : Nat) (x0 x1 x2 y : Value) (older : List PanicEntry) (w : World) (h : Blk w c 25 #[x0, x1, x2]) (he : Blk w ce 29 #[y]) (hne : c ≠ ce) :
    CallsD Try.prog 52 #[.pointer (some ⟨c, 0, none⟩), .pointer (some ⟨ce, 0, none⟩)] (.panicking ({ v := .iface 118 (.agg #[]), recovered := false } :: older)) w (CatchPost c ce older w) := by
  have hlt1 := h.lt
  have hlt2 := he.lt
  have hW := Lib.hid (And.intro (h.alloc (.cells #[] 118)) (he.alloc (.cells #[] 118)))
  obtain ⟨a0, a1, a2, a3, a4, a5⟩ := hW.out.1.c3
  obtain ⟨b0, b1⟩ := hW.out.2.c1
  have hne' : ce ≠ c := fun e => hne e.symm
  obtain ⟨d0, d1, d2, d3, d4, d5⟩ := h.c3
  obtain ⟨e0, e1⟩ := he.c1
  have hta : ∀ w : World, (Instr.typeAssert (.iface 118 (.agg #[])) 20 118 true).run Try.prog w = .ok (.tuple #[.agg #[], .bool true]) w := fun _ => by kernel_rfl
  have hfr : (#[Value.pointer (some ⟨c, 0, none⟩), .pointer (some ⟨ce, 0, none⟩)] ++ Array.replicate (Try.f52.ntmps - #[Value.pointer (some ⟨c, 0, none⟩), .pointer (some ⟨ce, 0, none⟩)].size) undef) = #[Value.pointer (some ⟨c, 0, none⟩), .pointer (some ⟨ce, 0, none⟩), undef, undef, undef, undef, undef, undef, undef, undef, undef, undef, undef, undef, undef, undef, undef] := rfl
  refine callsD_of_wpS Try.func52 rfl fun c₀ cs hu => ?_
  rw [hfr]
  apply wpS_seq
  apply wpS_region
  simp [wpOpsS, go_sem, recoverD, hu, Exit.thenS]
  refine wpS_of_wp ?_
  go_wp2
  refine ⟨rfl, _, rfl, .tuple #[], by simp [results, Try.results52], rfl, rfl, ?_, ?_, ?_⟩
  · have := ((((h.set_ 0 zt0).set_ 1 zt1).set_ 2 zt1).far (p := ⟨ce, 0, none⟩) hne (.int .i64 240)).alloc (.cells #[] 118)
    simpa using this
  · have := ((((he.far (p := ⟨c, 0, none⟩) hne' zt0).far (p := ⟨c, 1, none⟩) hne' zt1).far (p := ⟨c, 2, none⟩) hne' zt1).set_ 0 (.int .i64 240)).alloc (.cells #[] 118)
    simpa using this
  · have c0 : Chg (fun k => k = c ∨ k = ce) w w := Chg.refl _ _
    have c1 := c0.setCell (p := ⟨c, 0, none⟩) (fun _ => .inl rfl) zt0
    have c2 := c1.setCell (p := ⟨c, 1, none⟩) (fun _ => .inl rfl) zt1
    have c3 := c2.setCell (p := ⟨c, 2, none⟩) (fun _ => .inl rfl) zt1
    have c4 := c3.setCell (p := ⟨ce, 0, none⟩) (fun _ => .inr rfl) (.int .i64 240)
    exact c4.alloc _

set_option maxRecDepth 100000 in
set_option maxHeartbeats 1000000 in
theorem catch_idle (c ce : Nat) (w : World) : CallsD Try.prog 52 #[.pointer (some ⟨c, 0, none⟩), .pointer (some ⟨ce, 0, none⟩)] .returning w fun e u' w' => e = .returned (.tuple #[]) ∧ u' = .returning ∧ w = w' := by
  have hfr : (#[Value.pointer (some ⟨c, 0, none⟩), .pointer (some ⟨ce, 0, none⟩)] ++ Array.replicate (Try.f52.ntmps - #[Value.pointer (some ⟨c, 0, none⟩), .pointer (some ⟨ce, 0, none⟩)].size) undef) = #[Value.pointer (some ⟨c, 0, none⟩), .pointer (some ⟨ce, 0, none⟩), undef, undef, undef, undef, undef, undef, undef, undef, undef, undef, undef, undef, undef, undef, undef] := rfl
  refine callsD_of_wpS Try.func52 rfl fun c₀ cs hu => ?_
  rw [hfr]
  apply wpS_seq
  apply wpS_region
  simp [wpOpsS, go_sem, recoverD, hu, Exit.thenS]
  refine wpS_of_wp ?_
  go_wp2
  refine ⟨rfl, .returning, ?_, .tuple #[], by simp [results, Try.results52], rfl, rfl, rfl⟩
  cases c₀
  simp only at hu
  subst hu
  rfl

/-- what Of leaves -/
def OfPost (b : List UInt8) (w : World) (e : Ending) (w' : World) : Prop :=
  New w w' ∧ match ofF b with
    | some t => ∃ v0 v1 v2, e = .returned (.tuple #[.agg #[v0, v1, v2], .int .i64 0]) ∧ TreeIs w' w'.heap.size v0 v1 v2 t
    | none => e = .returned (.tuple #[.agg #[zt0, zt1, zt1], .int .i64 240])
/-- the door, where the body has thrown -/
theorem of_thrown {b : List UInt8} {w w1 : World} {x0 x1 x2 y : Value} (hn : ofF b = none) (hc : New w w1) (hb : Blk w1 w.heap.size 25 #[x0, x1, x2]) (he : Blk w1 (w.heap.size + 1) 29 #[y]) {tmps : Array Value}
    (h2 : tmps[2]? = some (.pointer (some ⟨w.heap.size, 0, none⟩))) (h3 : tmps[3]? = some (.pointer (some ⟨w.heap.size + 1, 0, none⟩))) :
    bodyPostD Try.prog Try.f21 (OfPost b w) (.panic wrongCh) { tmps := tmps, defers := [{ target := Target.fn (Fn.func 52) #[.pointer (some ⟨w.heap.size, 0, none⟩), .pointer (some ⟨w.heap.size + 1, 0, none⟩)], args := #[] }] } w1 := by
  have hcl := Lib.hid hc
  refine leaves_cons (f := 52) (args := #[.pointer (some ⟨w.heap.size, 0, none⟩), .pointer (some ⟨w.heap.size + 1, 0, none⟩)]) (by simp) (by simp [go_sem]) ?_
  refine (catch_wrong w.heap.size (w.heap.size + 1) _ _ _ _ [] w1 hb he (by omega)).mono ?_
  rintro e u' w2 ⟨rfl, rfl, hB, hE, hc2⟩
  obtain ⟨a0, a1, a2, _⟩ := hB.c3
  obtain ⟨b0, _⟩ := hE.c1
  refine ⟨.tuple #[.agg #[zt0, zt1, zt1], .int .i64 240], ?_, ?_, ?_⟩
  · simp [results, Try.results21, go_sem, h2, h3, a0, a1, a2, b0]
  · exact hc.trans hc2 (fun i hi hlt => by omega)
  · rw [hn]
/-- the door, where the body has come to its end -/
theorem of_done {b : List UInt8} {w w1 : World} {t : TreeD} {v0 v1 v2 : Value} (hn : ofF b = some t) (hc : New w w1) (hb : Blk w1 w.heap.size 25 #[v0, v1, v2]) (he : Blk w1 (w.heap.size + 1) 29 #[.int .i64 0]) (ht : TreeIs w1 w1.heap.size v0 v1 v2 t) {tmps : Array Value}
    (h2 : tmps[2]? = some (.pointer (some ⟨w.heap.size, 0, none⟩))) (h3 : tmps[3]? = some (.pointer (some ⟨w.heap.size + 1, 0, none⟩))) :
    bodyPostD Try.prog Try.f21 (OfPost b w) .ret { tmps := tmps, defers := [{ target := Target.fn (Fn.func 52) #[.pointer (some ⟨w.heap.size, 0, none⟩), .pointer (some ⟨w.heap.size + 1, 0, none⟩)], args := #[] }] } w1 := by
  obtain ⟨a0, a1, a2, _⟩ := hb.c3
  obtain ⟨b0, _⟩ := he.c1
  refine leaves_cons (f := 52) (args := #[.pointer (some ⟨w.heap.size, 0, none⟩), .pointer (some ⟨w.heap.size + 1, 0, none⟩)]) (by simp) (by simp [go_sem]) ?_
  refine (catch_idle w.heap.size (w.heap.size + 1) w1).mono ?_
  rintro e u' w2 ⟨rfl, rfl, rfl⟩
  refine ⟨.tuple #[.agg #[v0, v1, v2], .int .i64 0], ?_, hc, ?_⟩
  · simp [results, Try.results21, go_sem, h2, h3, a0, a1, a2, b0]
  · rw [hn]
    exact ⟨v0, v1, v2, rfl, ht⟩

set_option maxRecDepth 100000 in
set_option maxHeartbeats 2000000 in
theorem of_any (A : Option Addr) (n c : Nat) (b : List UInt8) (w : World) (hr : Rd w 1 A n (b.map bv)) (hn : n ≤ 140737488351232) (hc : n ≤ c) :
    Calls Try.prog 21 #[.slice A n c] w (OfPost b w) := by
  have hmf : ∀ (fn : Fn) (first cap : Array Value) (w : World), (Instr.makeFunc fn first cap).run Try.prog w = .ok (.func fn first cap) w := fun _ _ _ _ => rfl
  have hlb : b.length = n := by simpa using hr.1
  have HLB := Lib.hid hlb
  have hs2 : Blk ((w.alloc (.cells #[zt0, zt1, zt1] 25)).alloc (.cells #[.int .i64 0] 29)) w.heap.size 25 #[zt0, zt1, zt1] := (Blk.made w _ _).alloc _
  have he2 : Blk ((w.alloc (.cells #[zt0, zt1, zt1] 25)).alloc (.cells #[.int .i64 0] 29)) (w.heap.size + 1) 29 #[.int .i64 0] := by
    have := Blk.made (w.alloc (.cells #[zt0, zt1, zt1] 25)) 29 #[.int .i64 0]
    simpa using this
  have hn2 : New w ((w.alloc (.cells #[zt0, zt1, zt1] 25)).alloc (.cells #[.int .i64 0] 29)) := ((Chg.refl _ _).alloc _).alloc _
  have F0 := be32_any A n c b 12 ((w.alloc (.cells #[zt0, zt1, zt1] 25)).alloc (.cells #[.int .i64 0] 29)) (hr.new_ hn2) hn (by omega)
  rw [show ((12 : Nat) : Int) = 12 from rfl] at F0
  have F1 := Lib.hid F0
  clear F0
  have H2 := Lib.hid (And.intro hs2 (And.intro he2 hn2))
  clear hs2 he2 hn2 hlb
  cases hq : be32F b 12 with
  | none =>
    have HN := Lib.hid (show ofF b = none by simp only [ofF, hq])
    rw [hq] at F1
    simp only [Option.getD_none, Option.isSome_none] at F1
    clear hq
    go_enter_defers Try.func21, Try.ntmps21
    go_wp2_with (first
      | (go_at_call 53; (with_reducible refine F1.out.mono ?_); rintro e w' ⟨rfl, rfl⟩)
      | (go_at_call 54; (with_reducible refine (must_false _).mono ?_); rintro e w' ⟨rfl, rfl⟩))
    exact of_thrown HN.out H2.out.2.2 H2.out.1 H2.out.2.1 rfl rfl
  | some q =>
    obtain ⟨hq1, hq2⟩ := be32F_lt hq
    rw [hq] at F1
    simp only [Option.getD_some, Option.isSome_some] at F1
    by_cases hok : 16384 < b.length ∨ q < 56 ∨ b.length < q
    · have HN := Lib.hid (show ofF b = none by simp only [ofF, hq, if_pos hok])
      clear hq
      rw [HLB.out] at hok hq2
      rcases hok with hk | hk | hk
      all_goals
        try have hkd : decide (q ≤ n) = false := decide_eq_false (by omega)
        go_enter_defers Try.func21, Try.ntmps21
        go_wp2_with (first
          | (go_at_call 53; (with_reducible refine F1.out.mono ?_); rintro e w' ⟨rfl, rfl⟩)
          | (go_at_call 54; (with_reducible refine (must_false _).mono ?_); rintro e w' ⟨rfl, rfl⟩))
        all_goals exact of_thrown HN.out H2.out.2.2 H2.out.1 H2.out.2.1 (by rfl) (by rfl)
    · have hof : ofF b = if be32F (b.take q) 56 = some 1 then
          match nodeP (b.take q) (b.drop q) (b.length + 8) 1 60 200 with
          | none => none
          | some (t, _, _) => if putF t = (b, 0) then some t else none
        else none := by simp only [ofF, hq, if_neg hok]
      have HOF := Lib.hid hof
      clear hq hof
      rw [HLB.out] at hok hq2
      have hk1 : n ≤ 16384 := by omega
      have hk2 : 56 ≤ q := by omega
      have hk3 : q ≤ n := by omega
      clear hok
      obtain ⟨bb, o, rfl, hbb, _⟩ := hr.addr (by omega) (by omega)
      have hc0 : ¬ c = 0 := by omega
      have hk4 : (q : Int) ≤ (c : Int) := by omega
      have hk5 : (q : Int) ≤ (n : Int) := by omega
      have hk6 : (0 : Int) ≤ (q : Int) := by omega
      have HR := Lib.hid hr
      have hsl := fun (w : World) => run_from (kl := .u32) bb o n c q hk3 w
      clear hr
      go_enter_defers Try.func21, Try.ntmps21
      go_wp2_with (first
        | (go_at_call 53; (with_reducible refine F1.out.mono ?_); rintro e w' ⟨rfl, rfl⟩)
        | (go_at_call 54; (with_reducible refine (must_true _).mono ?_); rintro e w' ⟨rfl, rfl⟩))
      go_region_held3 (fun _ => True) (exact trivial) (fail)
      go_wp2_with fail
      obtain ⟨h2a, h2b, h2c⟩ := H2.out
      have hgB := Blk.made ((w.alloc (.cells #[zt0, zt1, zt1] 25)).alloc (.cells #[.int .i64 0] 29)) 125 #[.slice (some ⟨bb, o, none⟩) q c, .slice (cutA bb o c q) (n - q) (c - q), .int .i64 56, .int .i64 200]
      have hgN : New w (((w.alloc (.cells #[zt0, zt1, zt1] 25)).alloc (.cells #[.int .i64 0] 29)).alloc (.cells #[.slice (some ⟨bb, o, none⟩) q c, .slice (cutA bb o c q) (n - q) (c - q), .int .i64 56, .int .i64 200] 125)).drew := (h2c.alloc _).drew
      have hgA : Blk (((w.alloc (.cells #[zt0, zt1, zt1] 25)).alloc (.cells #[.int .i64 0] 29)).alloc (.cells #[.slice (some ⟨bb, o, none⟩) q c, .slice (cutA bb o c q) (n - q) (c - q), .int .i64 56, .int .i64 200] 125)).drew w.heap.size 25 #[zt0, zt1, zt1] := (h2a.alloc _).drew
      have hgE : Blk (((w.alloc (.cells #[zt0, zt1, zt1] 25)).alloc (.cells #[.int .i64 0] 29)).alloc (.cells #[.slice (some ⟨bb, o, none⟩) q c, .slice (cutA bb o c q) (n - q) (c - q), .int .i64 56, .int .i64 200] 125)).drew (w.heap.size + 1) 29 #[.int .i64 0] := (h2b.alloc _).drew
      have hg0 : ((w.alloc (.cells #[zt0, zt1, zt1] 25)).alloc (.cells #[.int .i64 0] 29)).heap.size = w.heap.size + 1 + 1 := by simp
      rw [hg0] at hgB
      obtain ⟨W, hW⟩ : ∃ W, (((w.alloc (.cells #[zt0, zt1, zt1] 25)).alloc (.cells #[.int .i64 0] 29)).alloc (.cells #[.slice (some ⟨bb, o, none⟩) q c, .slice (cutA bb o c q) (n - q) (c - q), .int .i64 56, .int .i64 200] 125)).drew = W := ⟨_, rfl⟩
      have hgB' : Blk W (w.heap.size + 1 + 1) 125 #[.slice (some ⟨bb, o, none⟩) q c, .slice (cutA bb o c q) (n - q) (c - q), .int .i64 56, .int .i64 200] := by rw [← hW]; exact hgB.drew
      rw [hW] at hgN hgA hgE ⊢
      clear hW hgB h2a h2b h2c hg0 hmf hsl F1 hc0 H2
      obtain ⟨tk, htk⟩ : ∃ tk, b.take q = tk := ⟨_, rfl⟩
      obtain ⟨tx, htx⟩ : ∃ tx, b.drop q = tx := ⟨_, rfl⟩
      have hltk : tk.length = q := by rw [← htk, List.length_take, HLB.out]; omega
      have hltx : tx.length = n - q := by rw [← htx, List.length_drop, HLB.out]
      have hrW := HR.out.new_ hgN
      have hRW : ReaderIs W (w.heap.size + 1 + 1) tk tx 56 200 := by
        refine ⟨some ⟨bb, o, none⟩, c, cutA bb o c q, c - q, ?_, ?_, ?_, by omega, by omega, ?_, ?_⟩
        · rw [hltk, hltx]; exact hgB'
        · have := hrW.take_ (k := q) (by omega)
          rw [Nat.mul_one, ← List.map_take, htk] at this
          rw [hltk]; exact this
        · have := hrW.cutA_ hk3 hc
          rw [htx] at this
          rw [hltx]; exact this
        · intro ad e; injection e with e; subst e; show bb < _; omega
        · intro ad e
          have : ad.block = bb := by
            unfold cutA at e
            split at e <;> (injection e with e; subst e; rfl)
          omega
      have F2 := Lib.hid (rd_four (w.heap.size + 1 + 1) tk tx 56 200 W hRW (by omega) (by omega))
      have HOF' := HOF.out
      rw [htk, htx] at HOF'
      have HO := Lib.hid HOF'
      clear hgB' HOF HOF' hrW hRW htk htx
      cases hb4 : be32F tk 56 with
      | none =>
        have HN := Lib.hid (show ofF b = none by rw [HO.out, hb4, if_neg (by simp)])
        rw [hb4] at F2
        clear hb4
        go_wp2_with (go_at_call 55; (with_reducible refine F2.out.mono ?_); rintro e w2 ⟨hc2, rfl⟩)
        have hc2' : New w w2 := hgN.trans hc2 (fun i hi hlt => by omega)
        exact of_thrown HN.out hc2' (hgA.chg hc2 (by omega)) (hgE.chg hc2 (by omega)) (by rfl) (by rfl)
      | some v =>
        obtain ⟨hv, hvp⟩ := be32F_lt hb4
        by_cases hv1 : v = 1
        · subst hv1
          have HO2 := HO.out
          rw [if_pos hb4] at HO2
          have HO3 := Lib.hid HO2
          rw [hb4] at F2
          clear hb4 HO2 HO hv
          go_wp2_with (first
            | (go_at_call 55; (with_reducible refine F2.out.mono ?_); rintro e w2 ⟨hc2, rfl, hR2, _⟩)
            | (go_at_call 54; (with_reducible refine (must_true _).mono ?_); rintro e w' ⟨rfl, rfl⟩))
          have hn02 : New w w2 := hgN.trans hc2 (fun i hi hlt => by omega)
          have hA2 := hgA.chg hc2 (by omega)
          have hE2 := hgE.chg hc2 (by omega)
          have hz2 : w.heap.size + 1 + 1 < w2.heap.size := hR2.lt
          have F3 := rnode_walk tk tx (by omega) (by omega) (b.length + 8) 1 60 200 (w.heap.size + 1 + 1) w2 hR2 (by have := HLB.out; omega) (by omega) (by omega) (by omega)
          rw [show ((1 : Nat) : Int) = 1 from rfl] at F3
          have F3 := Lib.hid F3
          clear F2 hc2 hgA hgE hgN hR2
          cases hnp : nodeP tk tx (b.length + 8) 1 60 200 with
          | none =>
            have HN := Lib.hid (show ofF b = none by rw [HO3.out, hnp])
            rw [hnp] at F3
            clear hnp
            go_wp2_with (go_at_call 56; (with_reducible refine F3.out.mono ?_); rintro e w3 ⟨hc3, rfl⟩)
            have hc3' : New w w3 := hn02.trans hc3 (fun i hi hlt => by omega)
            exact of_thrown HN.out hc3' (hA2.chg hc3 (by omega)) (hE2.chg hc3 (by omega)) (by rfl) (by rfl)
          | some x =>
            obtain ⟨t, p', l'⟩ := x
            have HO4 := HO3.out
            rw [hnp] at HO4
            simp only at HO4
            have HO5 := Lib.hid HO4
            rw [hnp] at F3
            clear hnp HO3 HO4
            go_wp2_with (go_at_call 56; (with_reducible refine F3.out.mono ?_); rintro e w3 ⟨hc3, v0, v1, v2, rfl, hT, hR3⟩
                         have hn03 : New w w3 := hn02.trans hc3 (fun i hi hlt => by omega)
                         have hA3 := hA2.chg hc3 (by omega)
                         have hE3 := hE2.chg hc3 (by omega)
                         have hz3 : w2.heap.size ≤ w3.heap.size := hc3.size
                         obtain ⟨Ap, Ak, cp, ck, rfl, rfl, rfl⟩ := hT.shape
                         obtain ⟨x0, x1, x2, x3, x4, x5⟩ := hA3.c3
                         clear hc3 hR3)
            have c0 : Chg (fun k => k = w.heap.size) w3 w3 := Chg.refl _ _
            have c1 := c0.setCell (p := ⟨w.heap.size, 0, none⟩) (fun _ => rfl) (.string t.name)
            have c2 := c1.setCell (p := ⟨w.heap.size, 1, none⟩) (fun _ => rfl) (.slice Ap t.props.length cp)
            have c4 := c2.setCell (p := ⟨w.heap.size, 2, none⟩) (fun _ => rfl) (.slice Ak t.kids.length ck)
            have hA4 := ((hA3.set_ 0 (.string t.name)).set_ 1 (.slice Ap t.props.length cp)).set_ 2 (.slice Ak t.kids.length ck)
            simp only [List.setIfInBounds_toArray, List.set_cons_zero, List.set_cons_succ] at hA4
            obtain ⟨w4, hw4⟩ : ∃ w4, ((w3.setCell ⟨w.heap.size, 0, none⟩ (.string t.name)).setCell ⟨w.heap.size, 1, none⟩ (.slice Ap t.props.length cp)).setCell ⟨w.heap.size, 2, none⟩ (.slice Ak t.kids.length ck) = w4 := ⟨_, rfl⟩
            rw [hw4] at c4 hA4 ⊢
            have hE4 := hE3.chg c4 (by omega)
            have hn04 : New w w4 := hn03.trans c4 (fun i hi hlt => by omega)
            have hz4 := c4.size
            have hT4 := hT.chg c4 (fun k hk e => by rcases hk with hk | hk <;> omega)
            have F5 := Lib.hid (put_any t _ _ _ w4 (hT4.is (fun k hk => by rcases hk with hk | hk <;> omega)))
            have HT4 := Lib.hid hT4
            obtain ⟨bs, kx, hput⟩ : ∃ bs kx, putF t = (bs, kx) := ⟨_, _, rfl⟩
            rw [hput] at F5
            have HP := Lib.hid hput
            clear c0 c1 c2 hw4 hA3 hE3 hn03 hT x0 x1 x2 x3 x4 x5 hT4 hput c4 hA2 hE2 hn02 F3
            obtain ⟨S2, hS2⟩ : ∃ S2 : ByteArray, ⟨b.toArray⟩ = S2 := ⟨_, rfl⟩
            obtain ⟨S1, hS1⟩ : ∃ S1 : ByteArray, ⟨bs.toArray⟩ = S1 := ⟨_, rfl⟩
            have hS : S1 = S2 ↔ bs = b := by
              rw [← hS1, ← hS2]
              constructor
              · intro e; injection e with e; exact List.toArray_inj e
              · rintro rfl; rfl
            have HS := Lib.hid hS
            have HS1 := Lib.hid hS1
            have HS2 := Lib.hid hS2
            clear hS hS1 hS2
            by_cases hk0 : kx = 0
            · subst hk0
              by_cases hbs : bs = b
              · have HF := Lib.hid (show ofF b = some t by rw [HO5.out, HP.out, hbs, if_pos rfl])
                have he := HS.out.2 hbs
                subst he
                have HBS := Lib.hid hbs
                clear hbs
                go_wp2_with (first
                  | (go_at_call 13; (with_reducible refine F5.out.mono ?_); rintro e w5 ⟨A5, n5, c5, rfl, hn5, hown5, hnw5⟩
                     have hs1 := run_string_of w5 A5 n5 c5 bs hown5.rd
                     rw [HS1.out] at hs1
                     have hs2 := run_string_of w5 (some ⟨bb, o, none⟩) n c b (HR.out.new_ (hn04.new_ hnw5))
                     rw [HS2.out] at hs2
                     have hA5 := hA4.chg hnw5 (fun h => h)
                     have hE5 := hE4.chg hnw5 (fun h => h)
                     obtain ⟨x0, x1, x2, x3, x4, x5⟩ := hA5.c3
                     obtain ⟨y0, y1⟩ := hE5.c1
                     have HN5 := Lib.hid (And.intro hn5 (And.intro hown5 hnw5))
                     clear hn5 hown5 hnw5)
                  | (go_at_call 54; (with_reducible refine (must_true _).mono ?_); rintro e w' ⟨rfl, rfl⟩))
                obtain ⟨hn5, hown5, hnw5⟩ := HN5.out
                have d0 : Chg (fun k => k = w.heap.size ∨ k = w.heap.size + 1) w5 w5 := Chg.refl _ _
                have d1 := d0.setCell (p := ⟨w.heap.size, 0, none⟩) (fun _ => .inl rfl) (.string t.name)
                have d2 := d1.setCell (p := ⟨w.heap.size, 1, none⟩) (fun _ => .inl rfl) (.slice Ap t.props.length cp)
                have d3 := d2.setCell (p := ⟨w.heap.size, 2, none⟩) (fun _ => .inl rfl) (.slice Ak t.kids.length ck)
                have d4 := d3.setCell (p := ⟨w.heap.size + 1, 0, none⟩) (fun _ => .inr rfl) (.int .i64 0)
                have hA6 := (((hA5.set_ 0 (.string t.name)).set_ 1 (.slice Ap t.props.length cp)).set_ 2 (.slice Ak t.kids.length ck)).far (p := ⟨w.heap.size + 1, 0, none⟩) (by show w.heap.size ≠ w.heap.size + 1; omega) (.int .i64 0)
                have hE6 := (((hE5.far (p := ⟨w.heap.size, 0, none⟩) (by show w.heap.size + 1 ≠ w.heap.size; omega) (.string t.name)).far (p := ⟨w.heap.size, 1, none⟩) (by show w.heap.size + 1 ≠ w.heap.size; omega) (.slice Ap t.props.length cp)).far (p := ⟨w.heap.size, 2, none⟩) (by show w.heap.size + 1 ≠ w.heap.size; omega) (.slice Ak t.kids.length ck)).set_ 0 (.int .i64 0)
                simp only [List.setIfInBounds_toArray, List.set_cons_zero, List.set_cons_succ] at hA6 hE6
                have hz5 := hnw5.size
                have hz6 := d4.size
                have hT6 := (HT4.out.new_ hnw5).chg d4 (fun k hk e => by rcases hk with hk | hk <;> rcases e with e | e <;> omega)
                exact of_done HF.out ((hn04.new_ hnw5).trans d4 (fun i hi hlt => by omega)) hA6 hE6 (hT6.is (fun k hk => by rcases hk with hk | hk <;> omega)) (by rfl) (by rfl)
              · have HF := Lib.hid (show ofF b = none by rw [HO5.out, HP.out, if_neg (by simpa using hbs)])
                have he : (S1.toList == S2.toList) = false := by rw [Lib.toList_data, Lib.toList_data, ← HS1.out, ← HS2.out]; simpa using hbs
                clear hbs
                go_wp2_with (first
                  | (go_at_call 13; (with_reducible refine F5.out.mono ?_); rintro e w5 ⟨A5, n5, c5, rfl, hn5, hown5, hnw5⟩
                     have hs1 := run_string_of w5 A5 n5 c5 bs hown5.rd
                     rw [HS1.out] at hs1
                     have hs2 := run_string_of w5 (some ⟨bb, o, none⟩) n c b (HR.out.new_ (hn04.new_ hnw5))
                     rw [HS2.out] at hs2
                     have hA5 := hA4.chg hnw5 (fun h => h)
                     have hE5 := hE4.chg hnw5 (fun h => h)
                     obtain ⟨x0, x1, x2, x3, x4, x5⟩ := hA5.c3
                     obtain ⟨y0, y1⟩ := hE5.c1
                     have HN5 := Lib.hid (And.intro hn5 (And.intro hown5 hnw5))
                     clear hn5 hown5 hnw5)
                  | (go_at_call 54; (with_reducible refine (must_false _).mono ?_); rintro e w' ⟨rfl, rfl⟩))
                exact of_thrown HF.out (hn04.new_ HN5.out.2.2) hA5 hE5 (by rfl) (by rfl)
            · have HF := Lib.hid (show ofF b = none by rw [HO5.out, HP.out, if_neg (by intro e; injection e with _ e; exact hk0 e)])
              have he : ((kx : Int) == 0) = false := by rw [beq_eq_false_iff_ne]; omega
              clear hk0
              go_wp2_with (first
                | (go_at_call 13; (with_reducible refine F5.out.mono ?_); rintro e w5 ⟨A5, n5, c5, rfl, hn5, hown5, hnw5⟩
                   have hA5 := hA4.chg hnw5 (fun h => h)
                   have hE5 := hE4.chg hnw5 (fun h => h)
                   have HN5 := Lib.hid (And.intro hn5 (And.intro hown5 hnw5))
                   clear hn5 hown5 hnw5)
                | (go_at_call 54; (with_reducible refine (must_false _).mono ?_); rintro e w' ⟨rfl, rfl⟩))
              exact of_thrown HF.out (hn04.new_ HN5.out.2.2) hA5 hE5 (by rfl) (by rfl)
        · have HN := Lib.hid (show ofF b = none by rw [HO.out, hb4, if_neg (by simpa using hv1)])
          rw [hb4] at F2
          have e3 : ((v : Int) == 1) = false := by rw [beq_eq_false_iff_ne]; omega
          clear hb4 hv1
          go_wp2_with (first
            | (go_at_call 55; (with_reducible refine F2.out.mono ?_); rintro e w2 ⟨hc2, rfl, hR2, _⟩)
            | (go_at_call 54; (with_reducible refine (must_false _).mono ?_); rintro e w' ⟨rfl, rfl⟩))
          have hc2' : New w w2 := hgN.trans hc2 (fun i hi hlt => by omega)
          exact of_thrown HN.out hc2' (hgA.chg hc2 (by omega)) (hgE.chg hc2 (by omega)) (by rfl) (by rfl)
theorem of_none {A : Option Addr} {n c : Nat} {b : List UInt8} (hof : ofF b = none) (w : World) (hr : Rd w 1 A n (b.map bv)) (hn : n ≤ 140737488351232) (hc : n ≤ c) :
    Calls Try.prog 21 #[.slice A n c] w fun e w' => e = .returned (.tuple #[.agg #[zt0, zt1, zt1], .int .i64 240]) ∧ New w w' := by
  refine (of_any A n c b w hr hn hc).mono fun e w' h => ?_
  obtain ⟨h1, h2⟩ := h
  rw [hof] at h2
  exact ⟨h2, h1⟩
theorem of_some {A : Option Addr} {n c : Nat} {b : List UInt8} {t : TreeD} (hof : ofF b = some t) (w : World) (hr : Rd w 1 A n (b.map bv)) (hn : n ≤ 140737488351232) (hc : n ≤ c) :
    Calls Try.prog 21 #[.slice A n c] w fun e w' => ∃ Ap Ak cp ck, e = .returned (.tuple #[.agg #[.string t.name, .slice Ap t.props.length cp, .slice Ak t.kids.length ck], .int .i64 0]) ∧
      TreeIs w' w'.heap.size (.string t.name) (.slice Ap t.props.length cp) (.slice Ak t.kids.length ck) t ∧ New w w' := by
  refine (of_any A n c b w hr hn hc).mono fun e w' h => ?_
  obtain ⟨h1, h2⟩ := h
  rw [hof] at h2
  obtain ⟨v0, v1, v2, rfl, ht⟩ := h2
  obtain ⟨Ap, Ak, cp, ck, rfl, rfl, rfl, _⟩ := ht.shape
  exact ⟨Ap, Ak, cp, ck, rfl, ht, h1⟩
theorem ofF_put {b : List UInt8} {t : TreeD} (h : ofF b = some t) : putF t = (b, 0) := by
  unfold ofF at h
  split at h
  · cases h
  · split at h
    · cases h
    · split at h
      · split at h
        · cases h
        · split at h
          · injection h with h
            subst h
            assumption
          · cases h
      · cases h
end Go.Proofs.Ytfmmcjiehpdogaa
