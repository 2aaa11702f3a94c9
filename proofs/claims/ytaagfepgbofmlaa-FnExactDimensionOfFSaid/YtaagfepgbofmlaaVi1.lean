/- Plain laws: monomials with a word length of at least p. -/
import Derived.Test.YtaagfepgbofmlaaVi0
import Derived.Test.YtaagfepgbofmlaaVh2
set_option linter.unusedVariables false
set_option linter.unusedSimpArgs false
namespace Go.Proofs.Ytaagfepgbofmlaa
open Go Vc
def atLeast (p : Int) (l : List A8) : List A8 := l.filter fun m => decide (p ≤ wdU m 8)
theorem atLeast_step {p : Int} {l : List A8} {i : Nat} (h : i < l.length) : atLeast p (l.take (i + 1)) = if p ≤ wdU (l.getD i default) 8 then atLeast p (l.take i) ++ [l.getD i default] else atLeast p (l.take i) := by
  rw [take_getD h, atLeast, List.filter_append]
  by_cases q : p ≤ wdU (l.getD i default) 8
  · rw [if_pos q, List.filter_cons_of_pos (by simpa using q)]; rfl
  · rw [if_neg q, List.filter_cons_of_neg (by simpa using q), List.filter_nil, List.append_nil]; rfl
theorem atLeast_len (p : Int) (l : List A8) : (atLeast p l).length ≤ l.length := List.length_filter_le _ _
theorem m_l10Of {a : Alg} {p n : Int} (hd : OkDeg a.degrees) (hn : 0 ≤ n ∧ n ≤ 20) (hf : Fits a.degrees n) {K : List A8 → Prop} (h : K (atLeast p (mons a.degrees n))) : f_spec_l10Of a p n K := by
  unfold f_spec_l10Of
  rw [if_pos hn.1]
  have hf' : (mons a.degrees n).length ≤ 120 := hf
  refine m_l01Mons hd (by omega) ?_
  rw [List.take_of_length_le (by omega)]
  refine forN_inv (fun i s => s = atLeast p ((mons a.degrees n).take i)) (mons a.degrees n).length ?_ ?_ _ _ _ (by omega) rfl
  · intro i s next hi hs hnx
    refine m_l02Word (small_get hd hi) ?_
    have hl : s.length ≤ 120 := by
      rw [hs]
      have := atLeast_len p ((mons a.degrees n).take i)
      rw [List.length_take] at this
      omega
    by_cases q : p ≤ wdU ((mons a.degrees n).getD i default) 8
    · refine if_pos' q ⟨by unfold Room; omega, hnx _ ?_⟩
      rw [hs, atLeast_step hi, if_pos q]
    · refine if_neg' q (hnx _ ?_)
      rw [hs, atLeast_step hi, if_neg q]
  · intro s hs; rw [hs, List.take_length]; exact h
end Go.Proofs.Ytaagfepgbofmlaa
