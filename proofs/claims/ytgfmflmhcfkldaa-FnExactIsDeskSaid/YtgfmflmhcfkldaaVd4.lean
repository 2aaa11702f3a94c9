/- Plain laws: the differential of a form. -/
import Derived.Test.YtgfmflmhcfkldaaVe0
set_option linter.unusedVariables false
set_option linter.unusedSimpArgs false
namespace Go.Proofs.Ytgfmflmhcfkldaa
open Go Vc
theorem m_algebraCode1 {a : Alg} {f : List Term} {K : Int → Prop} (hf : FitAlg a) (ff : FitT f) (h1 : OkAlg a → OkForm a.degrees f → K 0) (h2 : ¬ (OkAlg a ∧ OkForm a.degrees f) → K 1) : f_impl_algebraCode a [⟨f⟩] K := by
  unfold f_impl_algebraCode
  refine m_IsAlgebra hf (fun z => ?_) (fun z => ?_)
  · rw [if_neg (by simp)]
    refine m_containsF (Q := fun g => ¬ OkForm a.degrees g.terms) (fun i hi K' c1 c2 => ?_) (fun hex => ?_) (fun hall => ?_)
    · have hi' : i < 1 := hi
      obtain rfl : i = 0 := by omega
      unfold f_impl_algebraCode_1
      refine m_isForm z.deg ff ?_
      by_cases q : OkForm a.degrees f
      · rw [decide_eq_true q]; exact c2 fun n => n q
      · rw [decide_eq_false q]; exact c1 q
    · obtain ⟨i, hi, hq⟩ := hex
      have hi' : i < 1 := hi
      obtain rfl : i = 0 := by omega
      exact m_when (h2 fun y => hq y.2)
    · exact m_when (h1 z (Classical.byContradiction (hall 0 (show 0 < 1 by omega))))
  · rw [if_pos (by simp)]
    exact m_when (h2 fun y => z y.1)
theorem m_l02Both {a : Alg} {f : List Term} {K : Int → Prop} (hf : FitAlg a) (ff : FitT f) (hl : f.length ≤ 1048576) (h1 : OkAlg a → OkForm a.degrees f → K 0) (h2 : ¬ (OkAlg a ∧ OkForm a.degrees f) → K 1) : f_spec_l02Both a ⟨f⟩ K := by
  unfold f_spec_l02Both
  refine m_l02Is hf (fun z => ?_) (fun z => ?_)
  · rw [if_neg (by simp)]
    refine m_l01Is z.deg.1 ff.pos (by omega) ?_
    by_cases q : OkForm a.degrees f
    · rw [decide_eq_true q, if_neg (by simp)]; exact h1 z q
    · rw [decide_eq_false q, if_pos (by simp)]; exact h2 fun y => q y.2
  · rw [if_pos (by simp)]
    exact h2 fun y => z y.1
theorem dmono_ok {a : Alg} {x m : A8} (ha : AlgF a) (hm : OkMono a.degrees m) (pm : ∀ i, i < 8 → 0 ≤ m.get i ∧ m.get i ≤ 255) (h : DMono a.degrees (imgsT a) x m) : (OkMono a.degrees x ↔ Low x) ∧ ∀ q, q < 8 → 0 ≤ x.get q ∧ x.get q ≤ 60 := by
  obtain ⟨i, u, hi8, hp, hu, e, c1, c2⟩ := h
  have hi : i < a.images.length := by
    rcases Nat.lt_or_ge i a.images.length with q | q
    · exact q
    · have := (hm i hi8).2 (by have := ha.len; omega); omega
  rw [imgsT_get a hi] at hu
  have hf := ha.frm i hi
  have ff := ha.fit i hi
  have hum := hf.mono hu
  have hu20 := low_get (monoLow hum) (ff.pos u hu)
  obtain ⟨lb, bb, lbb⟩ := leftA_bd (low_get (monoLow hm) pm) hp
  obtain ⟨wl, wb⟩ := leftA_wk hm hi8 hp
  have w1 := wk_add wl hum.wk (fun q hq => (lb q hq).1) (fun q hq => (hu20 q hq).1) (fun q hq => by have := lb q hq; have := hu20 q hq; omega) c1
  have w2 := wk_add w1 wb (fun q hq => by rw [A8.get_add]; have := lb q hq; have := hu20 q hq; omega) (fun q hq => (bb q hq).1) (fun q hq => by rw [A8.get_add]; have := lb q hq; have := hu20 q hq; have := bb q hq; omega) c2
  rw [← e] at w2
  have hb : ∀ q, q < 8 → 0 ≤ x.get q ∧ x.get q ≤ 60 := fun q hq => by
    rw [e, A8.get_add, A8.get_add]
    have := lb q hq
    have := hu20 q hq
    have := bb q hq
    omega
  refine ⟨⟨fun z => monoLow z, fun z q hq => ⟨fun hl => ⟨z q hq, ((w2 q hq).1 hl).2⟩, (w2 q hq).2⟩⟩, hb⟩
theorem m_szAlgebraB {a : Alg} {K : Int → Prop} (hb : LenAlg a) (h1 : ∀ r, 0 ≤ r → r ≤ 1048576 → a.degrees.length ≤ 1048576 → a.images.length ≤ 1048576 → (∀ i, i < a.images.length → (a.images.getD i default).terms.length ≤ 1048576) → K r) (h2 : ∀ r, r < 0 → K r) : f_laws_szAlgebra a 1048576 K := by
  unfold f_laws_szAlgebra f_laws_szInt64S
  have hd := hb.deg
  unfold Big at hd
  rw [i64_in _ (by omega)]
  split
  · dsimp only; rw [if_pos (by omega)]; exact h2 _ (by omega)
  · dsimp only; rw [if_neg (by omega)]
    refine m_szFormS hb.img hb.trm (by omega) (fun r g1 g2 g3 g4 => ?_) (fun r hr => by rw [if_pos hr]; exact h2 _ (by omega))
    rw [if_neg (by omega)]
    exact h1 r g1 (by omega) (by omega) (by omega) g4
end Go.Proofs.Ytgfmflmhcfkldaa
