/- Plain laws: forms out of sums. -/
import Derived.Test.YtaagfepgbofmlaaGreatVp2
set_option linter.unusedVariables false
set_option linter.unusedSimpArgs false
namespace Go.Proofs.YtaagfepgbofmlaaGreat
open Go Vc
theorem m_powers {l : List (A8 × Int)} {K : List A8 → Prop} (hl : l.length ≤ 100000) (hok : ∀ p, p ∈ l → OkP p.1) (h : ∀ xs : List A8, xs.Perm (l.map (·.1)) → xs.Pairwise (fun a b => ¬ pcmp b a < 0) → K xs) : f_impl_sum_powers l K := by
  unfold f_impl_sum_powers
  refine mapP_inv (fun l' (s : List A8) => (s ++ l'.map (·.1)).Perm (l.map (·.1)) ∧ s.length + l'.length = l.length) ?_ ?_ l [] ⟨by simp, by simp⟩
  · intro l' p l'' s next hp ⟨h1, h2⟩ hn
    have hpp := pick_perm hp
    have hln := pick_len hp
    refine ⟨by unfold Room; omega, hn _ ⟨?_, by simp; omega⟩⟩
    refine List.Perm.trans ?_ h1
    rw [List.append_assoc]
    refine List.Perm.append_left _ ?_
    exact (hpp.map (·.1)).symm
  · intro s ⟨h1, h2⟩
    rw [List.map_nil, List.append_nil] at h1
    refine ⟨⟨fun x hx => ?_, by simp at h2; omega⟩, fun xs hp hw => h xs (hp.trans h1) hw⟩
    obtain ⟨p, hp, rfl⟩ := List.mem_map.1 (h1.mem_iff.1 hx)
    exact hok p hp
theorem m_form {l : List (A8 × Int)} {K : Vc.Form → Int → Prop} (hl : l.length ≤ 400) (hok : ∀ p, p ∈ l → OkP p.1) (h3 : (∃ p, p ∈ l ∧ ∃ i, i < 8 ∧ p.1.get i > 20) → K ⟨[]⟩ 3)
    (h0 : (∀ p, p ∈ l → ∀ i, i < 8 → p.1.get i ≤ 20) → ∀ xs : List A8, xs.Perm (l.map (·.1)) → xs.Pairwise (fun a b => ¬ pcmp b a < 0) → K ⟨xs.map fun x => ⟨x, (mget l x).getD 0⟩⟩ 0) : f_impl_sum_form l K := by
  unfold f_impl_sum_form
  rw [if_neg (by omega)]
  refine m_powers (by omega) hok fun xs hp hw => ?_
  have hxl : xs.length = l.length := by simpa using hp.length_eq
  have hxm : ∀ i, i < xs.length → ∃ p, p ∈ l ∧ p.1 = xs.getD i default := by
    intro i hi
    have : xs.getD i default ∈ xs := by simp [List.getD, hi]
    obtain ⟨p, hpl, he⟩ := List.mem_map.1 (hp.mem_iff.1 this)
    exact ⟨p, hpl, he⟩
  refine forN_inv (fun i (s : List Term) => (∀ j, j < i → ∀ q, q < 8 → (xs.getD j default).get q ≤ 20) ∧ s = (xs.take i).map fun x => ⟨x, (mget l x).getD 0⟩) xs.length ?_ ?_ _ _ _ (by omega) ⟨by intro j hj; omega, by simp⟩
  · intro i s next hi ⟨h1, h2⟩ hn
    obtain ⟨p, hpl, hpe⟩ := hxm i hi
    refine forN_inv (fun j (t : A8) => (∀ q, q < j → (xs.getD i default).get q ≤ 20) ∧ ∀ q, q < 8 → t.get q = if q < j then (xs.getD i default).get q else 0) 8 ?_ ?_ _ _ _ (by omega) ⟨by intro q hq; omega, by intro q hq; simp [A8.get_zero]⟩
    · intro j t next' hj ⟨g1, g2⟩ hn'
      split
      · rename_i hgt
        exact h3 ⟨p, hpl, j, hj, by rw [hpe]; exact hgt⟩
      · rename_i hgt
        have hnn := (hok p hpl _ (A8.mem_list.2 ⟨j, hj, rfl⟩)).1
        rw [hpe] at hnn
        rw [u8_in _ (by omega)]
        refine hn' _ ⟨fun q hq => ?_, fun q hq => ?_⟩
        · by_cases hqj : q = j
          · subst hqj; omega
          · exact g1 q (by omega)
        · rw [A8.get_set hj]
          by_cases hqj : q = j
          · subst hqj; simp
          · rw [if_neg hqj, g2 q hq]
            by_cases hq2 : q < j
            · rw [if_pos hq2, if_pos (by omega)]
            · rw [if_neg hq2, if_neg (by omega)]
    · intro t ⟨g1, g2⟩
      have ht : t = xs.getD i default := A8.ext_get fun q hq => by rw [g2 q hq, if_pos hq]
      have hsl : s.length = i := by rw [h2]; simp; omega
      refine ⟨by unfold Room; omega, hn _ ⟨fun j hj q hq => ?_, ?_⟩⟩
      · by_cases hji : j = i
        · subst hji; exact g1 q hq
        · exact h1 j (by omega) q hq
      · rw [List.take_add_one, List.map_append, ← h2, ht]
        congr 1
        simp [List.getD, hi]
  · intro s ⟨h1, h2⟩
    rw [h2, List.take_length]
    refine h0 (fun p hpl i hi => ?_) xs hp hw
    have : p.1 ∈ xs := hp.mem_iff.2 (List.mem_map.2 ⟨p, hpl, rfl⟩)
    obtain ⟨j, hj, hje⟩ := List.getElem_of_mem this
    have := h1 j hj i hi
    rwa [show xs.getD j default = p.1 by simp [List.getD, hj, hje]] at this
end Go.Proofs.YtaagfepgbofmlaaGreat
