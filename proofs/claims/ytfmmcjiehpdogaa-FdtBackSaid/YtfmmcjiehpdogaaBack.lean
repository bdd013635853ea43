/-
  fdt.Of reads what fdt.Put gives, as functions. No program in sight.
-/
import Derived.Test.YtfmmcjiehpdogaaBackF
import Derived.Test.YtfmmcjiehpdogaaOf
set_option linter.unusedVariables false
set_option linter.unusedSimpArgs false
namespace Go.Proofs.Ytfmmcjiehpdogaa
open Go.RowKit

theorem back_all (t : TreeD) (b : List UInt8) (h : putF t = (b, 0)) : ofF b = some t := by
  have hput := h
  unfold putF at h
  split at h
  · simp at h
  · rename_i hck
    simp only at h
    split at h
    · simp at h
    · rename_i hlen
      have hck2 : checkF t = true := by simpa using hck
      obtain ⟨x, hx⟩ : ∃ x, mayF t 1 0 0 = some x := Option.isSome_iff_exists.1 hck2
      obtain ⟨n', p'⟩ := x
      obtain ⟨st1, hst1⟩ : ∃ st1, nodeF t ⟨[], [], []⟩ = st1 := ⟨_, rfl⟩
      rw [hst1] at h hlen
      obtain ⟨pre, hpre⟩ : ∃ pre, puts32 (headF (num4 [9] st1).b.length (num4 [9] st1).texts.length) false ++ List.replicate 16 0 = pre := ⟨_, rfl⟩
      have hpl : pre.length = 56 := by rw [← hpre]; simp [puts32_length, headF]
      injection h with hb _
      rw [hpre] at hb
      obtain ⟨sb, hsb⟩ : ∃ sb, (num4 [9] st1).b = sb := ⟨_, rfl⟩
      obtain ⟨tx, htx⟩ : ∃ tx, (num4 [9] st1).texts = tx := ⟨_, rfl⟩
      rw [hsb, htx] at hb hlen hpre
      have hbl : b.length = 56 + sb.length + tx.length := by rw [← hb]; simp [hpl]; omega
      have htake : b.take (56 + sb.length) = pre ++ sb := by
        rw [← hb, List.take_left' (by simp [hpl])]
      have hdrop : b.drop (56 + sb.length) = tx := by
        rw [← hb, List.drop_left' (by simp [hpl])]
      have h12 : be32F b 12 = some (56 + sb.length) := by
        refine be32_at (A := puts32 [3490578157, 56 + sb.length + tx.length, 56] false) (C := puts32 [40, 17, 16, 0, tx.length, sb.length] false ++ List.replicate 16 0 ++ sb ++ tx) ?_ (by simp [puts32_length]) (by omega)
        rw [← hb, ← hpre]
        simp [puts32, headF]
      have hbk := back_node (pre := pre) (b := pre ++ sb) (tx := tx) (by omega) (by simp [hpl]; omega) (by omega) t ⟨[], [], []⟩ (b.length + 8) 1 0 0 n' p' rfl (fun x hx => by simp at hx) hx
        (by
          rw [hst1]
          refine ⟨⟨putN 9 4 false, ?_⟩, ⟨[], ?_⟩⟩
          · rw [← hsb]; simp [num4, puts32]
          · rw [← htx]; simp [num4])
      rw [hst1] at hbk
      have hsl : st1.b.length + 4 = sb.length := by rw [← hsb]; simp [num4, puts32_length]
      have hfuel : nodeN t ≤ b.length + 8 := by
        have h1 : BackOk pre (pre ++ sb) tx t := back_node (by omega) (by simp [hpl]; omega) (by omega) t
        have h2 := h1 ⟨[], [], []⟩ (nodeN t) 1 0 0 n' p' rfl (fun x hx => by simp at hx) hx (by
          rw [hst1]
          refine ⟨⟨putN 9 4 false, ?_⟩, ⟨[], ?_⟩⟩
          · rw [← hsb]; simp [num4, puts32]
          · rw [← htx]; simp [num4]) (Nat.le_refl _)
        rw [hst1] at h2
        have := h2.2.2.1
        simp only [List.length_nil] at this
        omega
      obtain ⟨_, _, _, h1, h2⟩ := hbk hfuel
      simp only [List.length_nil, Nat.add_zero, hpl] at h1 h2
      unfold ofF
      simp only [h12]
      rw [if_neg (by omega), htake, hdrop, if_pos h1]
      simp only [Nat.sub_zero] at h2
      rw [h2]
      simp only [hput, if_true]
end Go.Proofs.Ytfmmcjiehpdogaa
