/- Plain laws: forms out of sums. -/
import Derived.Test.YtgmldfmfpodgiaaVp2
set_option linter.unusedVariables false
set_option linter.unusedSimpArgs false
namespace Go.Proofs.Ytgmldfmfpodgiaa
open Go Vc
theorem joined_pos {ds : List Int} {a b : A8} (pa : ∀ i, i < 8 → 0 ≤ a.get i) (pb : ∀ i, i < 8 → 0 ≤ b.get i) : ∀ i, i < 8 → 0 ≤ (joined ds a b).1.get i := by
  intro i hi
  have := pa i hi
  have := pb i hi
  unfold joined; split
  · simp [A8.get_zero]
  · simp only [A8.get_add]; omega
theorem joined_mono {ds : List Int} {a b : A8} (hd : OkDeg ds) (ha : OkMono ds a) (hb : OkMono ds b) (pa : ∀ i, i < 8 → 0 ≤ a.get i) (pb : ∀ i, i < 8 → 0 ≤ b.get i) (hs : (joined ds a b).2 ≠ 0) : OkMono ds (joined ds a b).1 ↔ ∀ i, i < 8 → (joined ds a b).1.get i ≤ 20 := by
  have hnc : ¬ Clash ds a b := fun hc => hs (by simp [joined, hc])
  have he : (joined ds a b).1 = a.add b := by simp [joined, hnc]
  rw [he]
  constructor
  · intro hm i hi
    by_cases hl : i < ds.length
    · exact ((hm i hi).1 hl).1
    · rw [(hm i hi).2 (by omega)]; omega
  · intro hm i hi
    refine ⟨fun hl => ⟨hm i hi, fun ho => ?_⟩, fun hl => ?_⟩
    · rw [A8.get_add]
      have := oddMono ha.wk hd.1 hl ho
      have := oddMono hb.wk hd.1 hl ho
      have := pa i hi
      have := pb i hi
      have : ¬ (0 < a.get i ∧ 0 < b.get i) := fun hq => hnc ⟨i, hl, ho, hq⟩
      omega
    · rw [A8.get_add, (ha i hi).2 hl, (hb i hi).2 hl]; rfl
end Go.Proofs.Ytgmldfmfpodgiaa
