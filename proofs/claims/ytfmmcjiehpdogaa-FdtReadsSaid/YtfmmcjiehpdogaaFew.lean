/-
  The law's Few answers some bool; the empty tree as bytes. No condition but that memory bears the tree.
-/
import Derived.Test.YtfmmcjiehpdogaaPut
set_option linter.unusedVariables false
set_option linter.unusedSimpArgs false
namespace Go.Proofs.Ytfmmcjiehpdogaa
open Go.RowKit
attribute [local go_sem ↓] Go.wp_at_zero Go.wp_at_succ

def SizePost (w : World) (e : Ending) (w' : World) : Prop := ∃ r : Nat, r ≤ 1000 ∧ e = .returned (.int .i64 (r : Int)) ∧ New w w'
def SizeOk (t : TreeD) : Prop := ∀ (B n d : Nat) (w : World) (v0 v1 v2 : Value), TreeIs w B v0 v1 v2 t → n ≤ 400 → d ≤ 13 →
  Calls Try.prog 31 #[.agg #[v0, v1, v2], .int .i64 n, .int .i64 d] w (SizePost w)

set_option maxRecDepth 100000 in
set_option maxHeartbeats 1000000 in
theorem size_any (t : TreeD) : SizeOk t := by
  induction t using TreeD.ind with
  | h nm ps ks ih =>
    intro B n d w v0 v1 v2 ht hn hd
    cases ht with
    | mk _ _ _ Ap Ak cp ck c0 c1 c2 hnm hp1 hp2 hk1 hk2 hps hcs hks =>
      have hbox := Blk.made w 25 #[.string nm, .slice Ap ps.length cp, .slice Ak ks.length ck]
      go_enter Try.func31, Try.ntmps31
      have hal : New w (w.alloc (.cells #[.string nm, .slice Ap ps.length cp, .slice Ak ks.length ck] 25)) := (Chg.refl _ _).alloc _
      by_cases hc : 12 < d ∨ 400 < n + (1 + ps.length) ∨ 100 < nm.size ∨ 400 < ks.length
      · go_wp2_with fail
        all_goals
          go_ret
          exact ⟨1000, Nat.le_refl _, rfl, hal⟩
      · have h1 : d ≤ 12 := by omega
        have h2 : n + (1 + ps.length) ≤ 400 := by omega
        have h3 : nm.size ≤ 100 := by omega
        have h4 : ks.length ≤ 400 := by omega
        clear hc
        obtain ⟨hbc0, hbc1, hbc2, hbf0, hbf1, hbf2⟩ := hbox.c3
        have hszb := hbox.lt
        go_wp2_with fail
        go_loopw [38] (fun i wr => ∃ j : Nat, j ≤ ps.length ∧ i = .int .i64 j ∧ New (w.alloc (.cells #[.string nm, .slice Ap ps.length cp, .slice Ak ks.length ck] 25)) wr) (fun i _ => ps.length - (intOf i).toNat)
        case atStart => exact ⟨0, Nat.zero_le _, rfl, Chg.refl _ _⟩
        case round =>
          obtain ⟨j, hj, rfl, hnew⟩ := hrel
          clear hbc0 hbc1 hbc2 hbf0 hbf1 hbf2 hszb
          obtain ⟨hbc0, hbc1, hbc2, hbf0, hbf1, hbf2⟩ := (hbox.chg hnew (fun h => h)).c3
          have hszb := (hbox.chg hnew (fun h => h)).lt
          by_cases hlt : j < ps.length
          · obtain ⟨b, o, A', c', rfl, hb, q1, q2, q3, q4, q5, q6, q7⟩ := (hps.new_ (hal.new_ hnew)) j ps[j] (List.getElem?_eq_getElem hlt)
            obtain ⟨q, hq⟩ : ∃ q, ps[j] = q := ⟨_, rfl⟩
            rw [hq] at q1 q2 q3 q5 q6 q7
            by_cases hbad : 100 < q.1.size ∨ 5000 < q.2.length
            · go_wp2_with fail
              all_goals
                go_ret
                exact ⟨1000, Nat.le_refl _, rfl, (hal.new_ hnew).alloc _⟩
            · have hb1 : q.1.size ≤ 100 := by omega
              have hb2 : q.2.length ≤ 5000 := by omega
              clear hbad
              go_wp2_with fail
              go_roundw
              case rel => exact ⟨j + 1, by omega, by go_num, hnew.alloc _⟩
              case measure => simp [intOf]; omega
          · obtain rfl : j = ps.length := by omega
            go_wp2_with fail
            go_loopw [1, 56] (fun v i w2 => ∃ (j m : Nat), j ≤ ks.length ∧ m ≤ 400 ∧ v = .int .i64 m ∧ i = .int .i64 j ∧ New (w.alloc (.cells #[.string nm, .slice Ap ps.length cp, .slice Ak ks.length ck] 25)) w2) (fun _ i _ => ks.length - (intOf i).toNat)
            case atStart => exact ⟨0, n + (1 + ps.length), Nat.zero_le _, h2, by go_num, rfl, hnew⟩
            case round =>
              clear hnew hbc0 hbc1 hbc2 hbf0 hbf1 hbf2 hszb hj h2
              obtain ⟨j, m, hj, hm, rfl, rfl, hnew⟩ := hrel
              obtain ⟨hbc0, hbc1, hbc2, hbf0, hbf1, hbf2⟩ := (hbox.chg hnew (fun h => h)).c3
              have hszb := (hbox.chg hnew (fun h => h)).lt
              by_cases hlt : j < ks.length
              · obtain ⟨q, hq⟩ : ∃ q, ks[j] = q := ⟨_, rfl⟩
                have hqm : q ∈ ks := by rw [← hq]; exact List.getElem_mem hlt
                have hw2 := hal.new_ hnew
                obtain ⟨b, o, rfl, hbB, hq0, hq1, hq2⟩ := hcs j hlt
                have htq := (hks j q (by rw [← hq]; exact List.getElem?_eq_getElem hlt)).new_ hw2
                replace hq0 := cell_chg hq0 hbB hw2 (fun _ _ h => h)
                replace hq1 := cell_chg hq1 hbB hw2 (fun _ _ h => h)
                replace hq2 := cell_chg hq2 hbB hw2 (fun _ _ h => h)
                obtain ⟨Aq, Aq2, cq, cq2, e0, e1, e2, hqs⟩ := htq.shape
                rw [e0] at hq0 htq
                rw [e1] at hq1 htq
                rw [e2] at hq2 htq
                clear e0 e1 e2
                have htq2 := Lib.hid (htq.new_ ((Chg.refl (fun _ => False) wr).alloc (.cells #[.string q.name, .slice Aq q.props.length cq, .slice Aq2 q.kids.length cq2] 25)))
                clear htq
                go_wp2_with (first
                  | (go_at_call 31; refine (ih q hqm B m (d + 1) _ _ _ _ htq2.out hm (by omega)).mono ?_; rintro e w5 ⟨r, hr, rfl, hn5⟩)
                  | (with_reducible refine stopAt 66 rfl ?_))
                have hn6 := (hnew.alloc (.cells #[.string q.name, .slice Aq q.props.length cq, .slice Aq2 q.kids.length cq2] 25)).new_ hn5
                by_cases hr4 : 400 < r
                · refine unstop ?_
                  go_wp2_with fail
                  go_ret
                  exact ⟨r, hr, rfl, hal.new_ hn6⟩
                · have hr5 : r ≤ 400 := by omega
                  refine unstop ?_
                  go_wp2_with fail
                  go_roundw
                  case rel => exact ⟨j + 1, r, by omega, hr5, rfl, by go_num, hn6⟩
                  case measure => simp [intOf]; omega
              · obtain rfl : j = ks.length := by omega
                go_wp2_with fail
                go_ret
                exact ⟨m, by omega, rfl, hal.new_ hnew⟩

set_option maxRecDepth 100000 in
set_option maxHeartbeats 1000000 in
theorem few_any (t : TreeD) (v0 v1 v2 : Value) (w : World) (ht : TreeIs w w.heap.size v0 v1 v2 t) :
    Calls Try.prog 12 #[.agg #[v0, v1, v2]] w fun e w' => ∃ b, e = .returned (.bool b) ∧ New w w' := by
  obtain ⟨Aq, Aq2, cq, cq2, rfl, rfl, rfl, hqs⟩ := ht.shape
  have hal : New w (w.alloc (.cells #[.string t.name, .slice Aq t.props.length cq, .slice Aq2 t.kids.length cq2] 25)) := (Chg.refl _ _).alloc _
  have ht2 := Lib.hid (ht.new_ hal)
  go_enter Try.func12, Try.ntmps12
  go_wp2_with (go_at_call 31; refine (size_any t w.heap.size 0 0 _ _ _ _ ht2.out (by omega) (by omega)).mono ?_; rintro e w5 ⟨r, hr, rfl, hn5⟩)
  go_ret
  exact ⟨_, rfl, hal.new_ hn5⟩

def emptyT : TreeD := .mk .empty [] []
theorem emptyIs (w : World) (B : Nat) : TreeIs w B (.string .empty) (.slice none 0 0) (.slice none 0 0) emptyT :=
  .mk .empty [] [] none none 0 0 (fun _ => .int .i64 0) (fun _ => .int .i64 0) (fun _ => .int .i64 0) (by decide) (Nat.le_refl _) (by decide) (Nat.le_refl _) (by decide) (fun i p h => by simp at h) (fun i h => by simp at h) (fun i k h => by simp at h)
theorem put_empty : ∃ l, putF emptyT = (l, 0) ∧ l.length = 72 ∧ l[0]? = some 0xd0 ∧ l[59]? = some 1 ∧ l[67]? = some 2 ∧ l[71]? = some 9 := by
  refine ⟨_, rfl, ?_⟩
  decide +kernel
end Go.Proofs.Ytfmmcjiehpdogaa
