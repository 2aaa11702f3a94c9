/- Plain laws: what is drawn from a code. -/
import Derived.Test.YtaagfepgbofmlaaVe0
import Derived.Test.YtaagfepgbofmlaaGL7
set_option linter.unusedVariables false
set_option linter.unusedSimpArgs false
namespace Go.Proofs.Ytaagfepgbofmlaa
open Go Vc
def OkCode (c : List Int) : Prop := c.length ≤ 4096 ∧ ∀ i, i < c.length → 0 ≤ c.getD i default ∧ c.getD i default ≤ 255
theorem band_bd (a : Int) : 0 ≤ bAnd .u64 a 16777215 ∧ bAnd .u64 a 16777215 ≤ 16777215 := by
  unfold bAnd
  have h : (BitVec.ofInt IntKind.u64.bits a &&& BitVec.ofInt IntKind.u64.bits 16777215).toNat ≤ 16777215 := by
    rw [BitVec.toNat_and]
    exact Nat.le_trans Nat.and_le_right (by decide)
  generalize (BitVec.ofInt IntKind.u64.bits a &&& BitVec.ofInt IntKind.u64.bits 16777215).toNat = q at h
  have e : IntKind.u64.wrap ((q : Nat) : Int) = q := by
    rw [IntKind.wrap_u64]; omega
  rw [e]; omega
theorem tmod_range {x n : Int} (hx : 0 ≤ x) (hn : 1 ≤ n) : 0 ≤ Int.tmod x n ∧ Int.tmod x n < n := by
  rw [Int.tmod_eq_emod_of_nonneg hx]
  exact ⟨Int.emod_nonneg _ (by omega), Int.emod_lt_of_pos _ (by omega)⟩
theorem m_next {c : List Int} {at_ h n : Int} {K : Int → Int × Int → Prop} (hc : OkCode c) (ha : 0 ≤ at_ ∧ at_ ≤ c.length) (hK : ∀ r a' h' : Int, (1 ≤ n → 0 ≤ r ∧ r < n) → (n < 1 → r = 0) → 0 ≤ a' ∧ a' ≤ c.length → K r (a', h')) : f_spec_l01Next (c, at_, h) n K := by
  unfold f_spec_l01Next
  dsimp only
  have hl := hc.1
  by_cases h1 : n < 1
  · rw [if_pos h1]; exact hK _ _ _ (fun z => by omega) (fun _ => rfl) ha
  · rw [if_neg h1]
    generalize IntKind.u64.wrap ((IntKind.u64.wrap (h * 6364136223846793005)) + 1442695040888963407) = h'
    have b := band_bd (bShr h' 33)
    generalize bAnd .u64 (bShr h' 33) 16777215 = x at b ⊢
    rw [i64_in x (by omega)]
    by_cases h2 : at_ < (c.length : Int)
    · have hb := hc.2 at_.toNat (by omega)
      rw [if_pos h2, i64_in (c.getD at_.toNat default) (by omega), i64_in _ (by omega), i64_in (at_ + 1) (by omega)]
      refine ⟨⟨ha.1, h2⟩, by omega, hK _ _ _ (fun z => tmod_range (by omega) z) (fun z => by omega) ⟨by omega, by omega⟩⟩
    · rw [if_neg h2]
      exact ⟨by omega, hK _ _ _ (fun z => tmod_range (by omega) z) (fun z => by omega) ha⟩
theorem m_pick {c : List Int} {at_ h : Int} {l : List Int} {K : Int → Int × Int → Prop} (hc : OkCode c) (ha : 0 ≤ at_ ∧ at_ ≤ c.length) (hl : 1 ≤ l.length) (hK : ∀ r a' h' : Int, 0 ≤ a' ∧ a' ≤ c.length → K r (a', h')) : f_spec_l01Pick (c, at_, h) l K := by
  unfold f_spec_l01Pick
  refine m_next hc ha fun r a' h' h1 _ h3 => ?_
  exact ⟨h1 (by omega), hK _ _ _ h3⟩
theorem fit_byte {x : Int} (h : 0 ≤ x ∧ x ≤ 255) : Fit .u8 x := by
  simp only [Fit, Lit.wf, Bool.and_eq_true, decide_eq_true_eq]
  simp [IntKind.min, IntKind.max, IntKind.signed, IntKind.bits]
  omega
theorem fitA_set {a : A8} {j : Nat} {v : Int} (ha : FitA .u8 a) (hj : j < 8) : FitA .u8 (a.set j (IntKind.u8.wrap v)) := fun x hx => by
  obtain ⟨i, hi, rfl⟩ := A8.mem_list.1 hx
  rw [A8.get_set hj]
  split
  · have e := IntKind.wrap_u8 v
    rw [e]
    exact fit_byte (by omega)
  · exact fitA_get ha hi
theorem fitA_zero : FitA .u8 A8.zero := fun x hx => by
  obtain ⟨i, hi, rfl⟩ := A8.mem_list.1 hx
  rw [A8.get_zero]; rfl
theorem m_drawMono {c ds : List Int} {at_ h : Int} {K : A8 → Int × Int → Prop} (hc : OkCode c) (ha : 0 ≤ at_ ∧ at_ ≤ c.length) (hd : ds.length ≤ 100) (hK : ∀ m (a' h' : Int), FitA .u8 m → 0 ≤ a' ∧ a' ≤ c.length → K m (a', h')) : f_spec_l01DrawMono (c, at_, h) ds K := by
  unfold f_spec_l01DrawMono
  dsimp only
  refine whileP_inv (fun (s : Int × Int × A8 × Int) => (0 ≤ s.1 ∧ s.1 ≤ c.length) ∧ FitA .u8 s.2.2.1 ∧ 0 ≤ s.2.2.2) (fun s => ds.length - s.2.2.2.toNat) ?_ ⟨ha, fitA_zero, Int.le_refl _⟩
  rintro ⟨a, q, m, i⟩ next ⟨g1, g2, g3⟩ hn
  dsimp only at g1 g2 g3 hn ⊢
  by_cases h1 : i < (ds.length : Int)
  · by_cases h2 : i < 8
    · refine if_pos' h1 (if_pos' h2 ⟨⟨g3, h1⟩, ?_⟩)
      rw [i64_in (i + 1) (by omega)]
      by_cases h3 : Int.tmod (ds.getD i.toNat default) 2 ≠ 0
      · refine if_pos' h3 (m_next hc g1 fun r a' h' _ _ b => ⟨⟨g3, h2⟩, hn _ ⟨b, fitA_set g2 (by omega), by dsimp only; omega⟩ (by dsimp only; omega)⟩)
      · refine if_neg' h3 (m_next hc g1 fun r a' h' _ _ b => m_pick hc b (by simp) fun r2 a2 h2' b2 => ⟨⟨g3, h2⟩, hn _ ⟨b2, fitA_set g2 (by omega), by dsimp only; omega⟩ (by dsimp only; omega)⟩)
    · refine if_pos' h1 (if_neg' h2 ?_)
      refine if_pos' (by omega) (m_next hc g1 fun r a' h' _ _ b => ?_)
      by_cases h4 : r = 0
      · refine if_pos' h4 ?_
        rw [if_pos (by omega)]
        exact m_next hc b fun r2 a2 h2' z _ b2 => m_pick hc b2 (by simp) fun r3 a3 h3' b3 => ⟨by have := z (by omega); omega, hK _ _ _ (fitA_set g2 (by have := z (by omega); omega)) b3⟩
      · exact if_neg' h4 (hK _ _ _ g2 b)
  · refine if_neg' h1 ?_
    by_cases h5 : (ds.length : Int) > 0
    · refine if_pos' h5 (m_next hc g1 fun r a' h' _ _ b => ?_)
      by_cases h4 : r = 0
      · refine if_pos' h4 (m_next hc b fun r2 a2 h2' z _ b2 => m_pick hc b2 (by simp) fun r3 a3 h3' b3 => ?_)
        have hz := z (by split <;> omega)
        have hz' : 0 ≤ r2 ∧ r2 < 8 := ⟨hz.1, by have := hz.2; split at this <;> omega⟩
        exact ⟨hz', hK _ _ _ (fitA_set g2 (by omega)) b3⟩
      · exact if_neg' h4 (hK _ _ _ g2 b)
    · exact if_neg' h5 (hK _ _ _ g2 g1)
theorem m_drawInverse {c : List Int} {K : Int → Prop} (hc : OkCode c) (hK : ∀ r, K r) : f_spec_DrawInverseNumber c K := by
  unfold f_spec_DrawInverseNumber
  have hl := hc.1
  have h0 : (0 : Int) ≤ 0 ∧ (0 : Int) ≤ c.length := by omega
  refine whileP_inv (fun (s : Int × Int) => 0 ≤ s.2) (fun s => c.length - s.2.toNat) ?_ (Int.le_refl _)
  rintro ⟨h, i⟩ next g hn
  dsimp only at g hn ⊢
  by_cases h1 : i < (c.length : Int)
  · by_cases h2 : i < 4096
    · refine if_pos' h1 (if_pos' h2 ⟨⟨g, h1⟩, ?_⟩)
      rw [i64_in (i + 1) (by omega)]
      exact hn _ (by dsimp only; omega) (by dsimp only; omega)
    · omega
  · refine if_neg' h1 (m_next hc h0 fun r a' h' _ _ b => ?_)
    by_cases h4 : r = 0
    · exact if_pos' h4 (m_pick hc b (by simp) fun r2 _ _ _ => hK r2)
    · exact if_neg' h4 (m_next hc b fun r2 _ _ _ _ _ => hK r2)
theorem m_drawMulti {c : List Int} {K : List Int → A8 → A8 → Prop} (hc : OkCode c) (hK : ∀ ds a b, ds.length ≤ 100 → FitA .u8 a → FitA .u8 b → K ds a b) : f_spec_DrawMultiplyMonomials c K := by
  unfold f_spec_DrawMultiplyMonomials
  have hl := hc.1
  have h0 : (0 : Int) ≤ 0 ∧ (0 : Int) ≤ c.length := by omega
  refine whileP_inv (fun (s : Int × Int) => 0 ≤ s.2) (fun s => c.length - s.2.toNat) ?_ (Int.le_refl _)
  rintro ⟨h, i⟩ next g hn
  dsimp only at g hn ⊢
  by_cases h1 : i < (c.length : Int)
  · by_cases h2 : i < 4096
    · refine if_pos' h1 (if_pos' h2 ⟨⟨g, h1⟩, ?_⟩)
      rw [i64_in (i + 1) (by omega)]
      exact hn _ (by dsimp only; omega) (by dsimp only; omega)
    · omega
  · refine if_neg' h1 (m_next hc h0 fun k a' h' zk _ b => ?_)
    have hk := zk (by decide)
    rw [i64_in (6 + 1) (by decide)] at hk
    refine whileP_inv (fun (s : Int × Int × List Int × Int) => (0 ≤ s.1 ∧ s.1 ≤ c.length) ∧ 0 ≤ s.2.2.2 ∧ (s.2.2.1.length : Int) + s.2.2.2 ≤ 7) (fun s => s.2.2.2.toNat) ?_ ⟨b, hk.1, by simp; omega⟩
    rintro ⟨a, q, out, k⟩ next2 ⟨g1, g2, g3⟩ hn2
    dsimp only at g1 g2 g3 hn2 ⊢
    by_cases h3 : k > 0
    · refine if_pos' h3 (m_next hc g1 fun r2 a2 h2' _ _ b2 => m_pick hc b2 (by simp) fun r3 a3 h3' b3 => ⟨by unfold Room; omega, ?_⟩)
      rw [i64_in (k - 1) (by omega)]
      refine hn2 _ ⟨b3, by dsimp only; omega, ?_⟩ (by dsimp only; omega)
      dsimp only; rw [List.length_append, List.length_singleton]; omega
    · refine if_neg' h3 (m_next hc g1 fun r2 a2 h2' _ _ b2 => ?_)
      by_cases h4 : r2 = 0
      · refine if_pos' h4 (m_pick hc b2 (by simp) fun r3 a3 h3' b3 => ⟨by unfold Room; omega, ?_⟩)
        have hl2 : (out ++ [r3]).length ≤ 100 := by rw [List.length_append, List.length_singleton]; omega
        exact m_drawMono hc b3 hl2 fun m4 a4 h4' f4 b4 => m_drawMono hc b4 hl2 fun m5 a5 h5' f5 b5 => hK _ _ _ hl2 f4 f5
      · refine if_neg' h4 ?_
        by_cases h5 : r2 = 1
        · exact if_pos' h5 (m_drawMono hc b2 (by simp) fun m4 a4 h4' f4 b4 => m_drawMono hc b4 (by simp) fun m5 a5 h5' f5 b5 => hK _ _ _ (by simp) f4 f5)
        · exact if_neg' h5 (m_drawMono hc b2 (by omega) fun m4 a4 h4' f4 b4 => m_drawMono hc b4 (by omega) fun m5 a5 h5' f5 b5 => hK _ _ _ (by omega) f4 f5)
theorem m_drawMonos {c : List Int} {K : List Int → Int → Prop} (hc : OkCode c) (hK : ∀ ds n, ds.length ≤ 100 → K ds n) : f_spec_DrawMonomialsOf c K := by
  unfold f_spec_DrawMonomialsOf
  have hl := hc.1
  have h0 : (0 : Int) ≤ 0 ∧ (0 : Int) ≤ c.length := by omega
  refine whileP_inv (fun (s : Int × Int) => 0 ≤ s.2) (fun s => c.length - s.2.toNat) ?_ (Int.le_refl _)
  rintro ⟨h, i⟩ next g hn
  dsimp only at g hn ⊢
  by_cases h1 : i < (c.length : Int)
  · by_cases h2 : i < 4096
    · refine if_pos' h1 (if_pos' h2 ⟨⟨g, h1⟩, ?_⟩)
      rw [i64_in (i + 1) (by omega)]
      exact hn _ (by dsimp only; omega) (by dsimp only; omega)
    · omega
  · refine if_neg' h1 (m_next hc h0 fun r a' h' _ _ b => ?_)
    by_cases hr : r = 0
    · exact if_pos' hr (m_next hc b fun r2 a2 h2' _ _ b2 => hK _ _ (by simp))
    refine if_neg' hr (m_next hc b fun k a' h' zk _ b => ?_)
    have hk := zk (by decide)
    rw [i64_in (6 + 1) (by decide)] at hk
    refine whileP_inv (fun (s : Int × Int × List Int × Int) => (0 ≤ s.1 ∧ s.1 ≤ c.length) ∧ 0 ≤ s.2.2.2 ∧ (s.2.2.1.length : Int) + s.2.2.2 ≤ 7) (fun s => s.2.2.2.toNat) ?_ ⟨b, hk.1, by simp; omega⟩
    rintro ⟨a, q, out, k⟩ next2 ⟨g1, g2, g3⟩ hn2
    dsimp only at g1 g2 g3 hn2 ⊢
    by_cases h3 : k > 0
    · refine if_pos' h3 (m_next hc g1 fun r2 a2 h2' _ _ b2 => m_pick hc b2 (by simp) fun r3 a3 h3' b3 => ⟨by unfold Room; omega, ?_⟩)
      rw [i64_in (k - 1) (by omega)]
      refine hn2 _ ⟨b3, by dsimp only; omega, ?_⟩ (by dsimp only; omega)
      dsimp only; rw [List.length_append, List.length_singleton]; omega
    · refine if_neg' h3 (m_next hc g1 fun r2 a2 h2' _ _ b2 => ?_)
      have tail : ∀ (a b' : Int) (ds : List Int), (0 ≤ a ∧ a ≤ c.length) → ds.length ≤ 100 → f_spec_l01Next (c, a, b') 8 (fun r3 m3 => f_spec_l01Next (c, m3.1, m3.2) 16 (fun r4 m4 => f_spec_l01Next (c, m4.1, m4.2) 14 (fun r5 m5 => (if r5 = 0 then f_spec_l01Pick (c, m5.1, m5.2) [(-1), IntKind.i64.wrap (40 + 1), 1099511627776, (-4611686018427387904)] (fun r6 m6 => f_spec_l01Pick (c, m6.1, m6.2) [r3, r4, r6] (fun r7 m7 => K ds r7)) else f_spec_l01Next (c, m5.1, m5.2) (IntKind.i64.wrap (40 + 1)) (fun r8 m8 => f_spec_l01Pick (c, m8.1, m8.2) [r3, r4, r8] (fun r9 m9 => K ds r9)))))) := by
        intro a b' ds ha hds
        refine m_next hc ha fun r3 a3 h3' _ _ b3 => m_next hc b3 fun r4 a4 h4' _ _ b4 => m_next hc b4 fun r5 a5 h5' _ _ b5 => ?_
        by_cases e5 : r5 = 0
        · exact if_pos' e5 (m_pick hc b5 (by simp) fun r6 a6 h6' b6 => m_pick hc b6 (by simp) fun r7 a7 h7' b7 => hK _ _ hds)
        · exact if_neg' e5 (m_next hc b5 fun r6 a6 h6' _ _ b6 => m_pick hc b6 (by simp) fun r7 a7 h7' b7 => hK _ _ hds)
      by_cases h4 : r2 = 0
      · refine if_pos' h4 (m_pick hc b2 (by simp) fun r3 a3 h3' b3 => ⟨by unfold Room; omega, ?_⟩)
        exact tail _ _ _ b3 (by rw [List.length_append, List.length_singleton]; omega)
      · refine if_neg' h4 ?_
        by_cases h5 : r2 = 1
        · exact if_pos' h5 (tail _ _ _ b2 (by simp))
        · exact if_neg' h5 (tail _ _ _ b2 (by omega))
end Go.Proofs.Ytaagfepgbofmlaa
