/- Plain law of row 24. -/
import Derived.Test.YtgmldfmfpodgiaaVd4
import Derived.Test.YtgmldfmfpodgiaaVh2
import Derived.Test.YtgmldfmfpodgiaaGL3
set_option linter.unusedVariables false
set_option linter.unusedSimpArgs false
namespace Go.Proofs.Ytgmldfmfpodgiaa
open Go Vc
theorem m_first2 {a b : Int} {K : Int → Prop} (h : K (if a ≠ 0 then a else b)) : f_impl_first [a, b] K := by
  unfold f_impl_first
  have hlen : ([a, b] : List Int).length = 2 := rfl
  rw [hlen]
  simp only [forN, List.getD_cons_zero, List.getD_cons_succ]
  split
  · rename_i q; rw [if_pos q] at h; exact h
  · rename_i q
    rw [if_neg q] at h
    split
    · exact h
    · rename_i q2
      have : b = 0 := by simpa using q2
      rw [this] at h; exact h
theorem m_l02Both {a : Alg} {f : List Term} {K : Int → Prop} (hf : FitAlg a) (ff : FitT f) (hl : f.length ≤ 1048576) (h1 : OkAlg a → OkForm a.degrees f → K 0) (h2 : ¬ (OkAlg a ∧ OkForm a.degrees f) → K 1) : f_spec_l02Both a ⟨f⟩ K := by
  unfold f_spec_l02Both
  refine m_l02Is hf (fun z => ?_) (fun z => ?_)
  · rw [if_neg (by simp)]
    refine m_l01Is z.deg.1 ff.pos (by omega) ?_
    by_cases q : OkForm a.degrees f
    · rw [decide_eq_true q, if_neg (by simp)]; exact h1 z q
    · rw [decide_eq_false q, if_pos (by simp)]; exact h2 fun y => q y.2
  · rw [if_pos (by simp)]
    exact h2 fun y => z y.1
/-! ### Copies -/
theorem m_l02Copy0 {l : List Term} {K : Vc.Form → Prop} (hl : l.length ≤ 1048576) (h : K ⟨l⟩) : f_spec_l02Copy ⟨l⟩ 0 K := by
  unfold f_spec_l02Copy
  dsimp only
  refine whileP_inv (fun (s : List Term × Int) => (0 ≤ s.2 ∧ s.2 ≤ l.length) ∧ s.1 = l.take s.2.toNat) (fun s => l.length - s.2.toNat) ?_ ⟨by dsimp only; omega, rfl⟩
  rintro ⟨s, i⟩ next ⟨g1, g2⟩ hn
  dsimp only at g1 g2 hn ⊢
  split
  · rename_i hi
    have hin : i.toNat < l.length := by omega
    refine whileP_inv (fun (t : A8 × Int) => (0 ≤ t.2 ∧ t.2 ≤ 8) ∧ ∀ q, q < 8 → t.1.get q = if (q : Int) < t.2 then (l.getD i.toNat default).mono.get q else 0) (fun t => 8 - t.2.toNat) ?_ ⟨by dsimp only; omega, fun q hq => by rw [if_neg (by dsimp only; omega), A8.get_zero]⟩
    rintro ⟨m, j⟩ nx ⟨k1, k2⟩ hnx
    dsimp only at k1 k2 hnx ⊢
    rw [i64_in (j + 0) (by omega), Int.add_zero]
    split
    · rename_i hj
      refine ⟨by omega, by omega, by omega, ?_⟩
      rw [i64_in (j + 1) (by omega)]
      refine hnx _ ⟨by dsimp only; omega, fun q hq => ?_⟩ (by dsimp only; omega)
      dsimp only
      rw [A8.get_set (by omega)]
      by_cases e : q = j.toNat
      · subst e; rw [if_pos rfl, if_pos (by omega)]
      · rw [if_neg e, k2 q hq]
        by_cases hh : (q : Int) < j
        · rw [if_pos hh, if_pos (by omega)]
        · rw [if_neg hh, if_neg (by omega)]
    · rename_i hj
      have hm : m = (l.getD i.toNat default).mono := A8.ext_get fun q hq => by rw [k2 q hq, if_pos (by omega)]
      have hsl : s.length = i.toNat := by rw [g2, List.length_take]; omega
      refine ⟨by omega, by unfold Room; omega, ?_⟩
      rw [i64_in (i + 1) (by omega)]
      refine hn _ ⟨by dsimp only; omega, ?_⟩ (by dsimp only; omega)
      dsimp only
      rw [show (i + 1).toNat = i.toNat + 1 by omega, take_getD hin, g2, hm]
  · rename_i hi
    rw [List.take_of_length_le (by omega)] at g2
    rw [g2]; exact h
theorem pasted0 (c : A8) : A8.pasted A8.zero c 0 = c := A8.ext_get fun j hj => by rw [A8.get_pasted _ _ _ hj, if_neg (by omega), Nat.sub_zero]
theorem m_shifted0 {l : List Term} {K : Vc.Form → Prop} (hl : l.length ≤ 1048576) (h : K ⟨l⟩) : f_impl_shifted ⟨l⟩ 0 K := by
  unfold f_impl_shifted
  dsimp only
  refine forN_inv (fun i (s : List Term) => s = l.take i) l.length ?_ ?_ _ _ _ (by omega) rfl
  · intro i s next hi g hn
    have hsl : s.length = i := by rw [g, List.length_take]; omega
    refine ⟨by omega, by unfold Room; omega, hn _ ?_⟩
    rw [take_getD hi, g, show (0 : Int).toNat = 0 from rfl, pasted0]
  · intro s g; rw [g, List.take_length]; exact h
theorem m_l02Own {a : Alg} {K : Alg → Prop} (hf : FitAlg a) (h1 : a.degrees.length ≤ 1048576) (h2 : a.images.length ≤ 1048576) (h : K a) : f_spec_l02Own a K := by
  unfold f_spec_l02Own f_spec_l01Own
  refine ⟨by unfold Room; omega, ?_⟩
  refine whileP_inv (fun (s : List Vc.Form × Int) => (0 ≤ s.2 ∧ s.2 ≤ a.images.length) ∧ s.1 = a.images.take s.2.toNat) (fun s => a.images.length - s.2.toNat) ?_ ⟨by dsimp only; omega, rfl⟩
  rintro ⟨s, i⟩ next ⟨g1, g2⟩ hn
  dsimp only at g1 g2 hn ⊢
  split
  · rename_i hi
    have hin : i.toNat < a.images.length := by omega
    have hL : (⟨(a.images.getD i.toNat default).terms⟩ : Vc.Form) = a.images.getD i.toNat default := rfl
    have hsl : s.length = i.toNat := by rw [g2, List.length_take]; omega
    refine ⟨by omega, ?_⟩
    rw [← hL]
    refine m_l02Copy0 (hf _ hin).2 ⟨by unfold Room; omega, ?_⟩
    rw [i64_in (i + 1) (by omega)]
    refine hn _ ⟨by dsimp only; omega, ?_⟩ (by dsimp only; omega)
    dsimp only
    rw [show (i + 1).toNat = i.toNat + 1 by omega, take_getD hin, g2]
  · rename_i hi
    rw [List.take_of_length_le (by omega)] at g2
    rw [g2]; exact h
theorem m_shiftAll {l : List Vc.Form} {K : List Vc.Form → Prop} (hl : l.length ≤ 1048576) (ht : ∀ i, i < l.length → (l.getD i default).terms.length ≤ 1048576) (h : K l) :
    forN (fun i (s : List Vc.Form) next => f_impl_shifted (l.getD i default) 0 (fun r => (Room (s.length + 1) 24 ∧ next (s ++ [r])))) (fun (s : List Vc.Form) => K s) l.length 0 [] := by
  refine forN_inv (fun i (s : List Vc.Form) => s = l.take i) l.length ?_ ?_ _ _ _ (by omega) rfl
  · intro i s next hi g hn
    have hsl : s.length = i := by rw [g, List.length_take]; omega
    have hL : (⟨(l.getD i default).terms⟩ : Vc.Form) = l.getD i default := rfl
    rw [← hL]
    refine m_shifted0 (ht i hi) ⟨by unfold Room; omega, hn _ ?_⟩
    rw [take_getD hi, g]
  · intro s g; rw [g, List.take_length]; exact h
theorem m_concat {l : List Int} {K : List Int → Prop} (hl : l.length ≤ 8) (h : K l) : f_slices_Concat_int64_int64 [l, []] K := by
  unfold f_slices_Concat_int64_int64
  have h2 : ([l, []] : List (List Int)).length = 2 := rfl
  rw [h2]
  simp only [forN, List.getD_cons_zero, List.getD_cons_succ, List.length_nil]
  rw [i64_in (0 + (l.length : Int)) (by omega), i64_in _ (by omega)]
  refine ⟨by omega, by omega, ?_⟩
  unfold f_slices_Grow_int64_int64
  refine ⟨by omega, ?_⟩
  have e0 : IntKind.i64.wrap ((0 : Int) - 0) = 0 := rfl
  have e1 : (0 + (l.length : Int) + ((0 : Nat) : Int)) - IntKind.i64.wrap (0 - 0) = (l.length : Int) := by rw [e0]; omega
  rw [e1, i64_in _ (by omega)]
  split
  · refine ⟨⟨by omega, by unfold Room; omega⟩, ⟨by omega, by simp⟩, ?_⟩
    rw [List.take_zero]
    refine ⟨by unfold Room; simp; omega, by unfold Room; simp; omega, ?_⟩
    simpa using h
  · refine ⟨by unfold Room; simp; omega, by unfold Room; simp; omega, ?_⟩
    simpa using h
theorem m_copied {a : Alg} {K : Alg → Int → Prop} (ok : OkAlg a) (hf : FitAlg a) (h : K a 0) : f_impl_Algebra_copied a K := by
  have h8 := ok.deg.1
  have hlen := ok.len
  unfold f_impl_Algebra_copied f_impl_productOf
  have e : IntKind.i64.wrap ((a.degrees.length : Int) + ((⟨[], []⟩ : Alg).degrees.length : Int)) = (a.degrees.length : Int) := by
    have e0 : ((⟨[], []⟩ : Alg).degrees.length : Int) = 0 := rfl
    rw [e0, Int.add_zero, i64_in _ (by omega)]
  rw [if_neg (by rw [e]; omega)]
  refine m_concat (l := a.degrees) h8 ?_
  exact m_shiftAll (K := fun s => K ⟨a.degrees, s⟩ 0) (by omega) (fun i hi => (hf i hi).2) h
theorem m_l02With {a : Alg} {n : Int} {f : List Term} {K : Alg → Prop} (ok : OkAlg a) (hf : FitAlg a) (hl : f.length ≤ 1048576) (h : K ⟨a.degrees ++ [n], a.images ++ [⟨f⟩]⟩) : f_spec_l02With a n ⟨f⟩ K := by
  have h8 := ok.deg.1
  have hlen := ok.len
  unfold f_spec_l02With
  refine m_l02Own hf (by omega) (by omega) ⟨by unfold Room; omega, m_l02Copy0 hl ⟨by unfold Room; omega, h⟩⟩
theorem m_withGen {a : Alg} {n : Int} {f : List Term} {K : Alg → Int → Prop} (ok : OkAlg a) (hf : FitAlg a) (hl : f.length ≤ 1048576) (h8' : a.degrees.length = 8 → K ⟨[], []⟩ 3) (h : a.degrees.length ≠ 8 → K ⟨a.degrees ++ [n], a.images ++ [⟨f⟩]⟩ 0) : f_impl_Algebra_withGenerator a n ⟨f⟩ K := by
  have h8 := ok.deg.1
  have hlen := ok.len
  unfold f_impl_Algebra_withGenerator
  split
  · rename_i q; exact h8' (by omega)
  · rename_i q
    unfold f_slices_Clone_int64_int64 f_slices_Clone_impl_Form_impl_Form
    have fin : K ⟨a.degrees ++ [n], a.images ++ [⟨f⟩]⟩ 0 := h (by omega)
    have go : forN (fun i360 (s361 : (List Vc.Form)) next366 => f_impl_shifted ((a.images ++ [(⟨f⟩ : Vc.Form)]).getD i360 default) 0 (fun r390 => (Room (s361.length + 1) 24 ∧ next366 (s361 ++ [r390])))) (fun (s361 : (List Vc.Form)) => K (⟨a.degrees ++ [n], s361⟩ : Alg) 0) ((a.images ++ [(⟨f⟩ : Vc.Form)]).length) 0 [] := by
      refine m_shiftAll (K := fun s => K ⟨a.degrees ++ [n], s⟩ 0) (by simp; omega) (fun i hi => ?_) fin
      by_cases hi2 : i < a.images.length
      · have e : (a.images ++ [(⟨f⟩ : Vc.Form)]).getD i default = a.images.getD i default := by simp [List.getD, List.getElem?_append_left hi2]
        rw [e]; exact (hf i hi2).2
      · have e : (a.images ++ [(⟨f⟩ : Vc.Form)]).getD i default = ⟨f⟩ := by
          simp only [List.length_append, List.length_cons, List.length_nil] at hi
          have : i = a.images.length := by omega
          subst this
          simp [List.getD]
        rw [e]; exact hl
    have tail : (Room (a.degrees.length + 1) 8 ∧ ((a.images = [] → (Room (([] : List Vc.Form).length + 1) 24 ∧ forN (fun i360 (s361 : (List Vc.Form)) next366 => f_impl_shifted ((([] : List Vc.Form) ++ [(⟨f⟩ : Vc.Form)]).getD i360 default) 0 (fun r390 => (Room (s361.length + 1) 24 ∧ next366 (s361 ++ [r390])))) (fun (s361 : (List Vc.Form)) => K (⟨a.degrees ++ [n], s361⟩ : Alg) 0) ((([] : List Vc.Form) ++ [(⟨f⟩ : Vc.Form)]).length) 0 [])) ∧ (Room (0 + a.images.length) 24 ∧ (Room (a.images.length + 1) 24 ∧ forN (fun i360 (s361 : (List Vc.Form)) next366 => f_impl_shifted ((a.images ++ [(⟨f⟩ : Vc.Form)]).getD i360 default) 0 (fun r390 => (Room (s361.length + 1) 24 ∧ next366 (s361 ++ [r390])))) (fun (s361 : (List Vc.Form)) => K (⟨a.degrees ++ [n], s361⟩ : Alg) 0) ((a.images ++ [(⟨f⟩ : Vc.Form)]).length) 0 [])))) :=
      ⟨by unfold Room; omega, ⟨fun e => ⟨by unfold Room; simp, by rw [e] at go; exact go⟩, by unfold Room; omega, by unfold Room; omega, go⟩⟩
    refine ⟨fun e => ?_, by unfold Room; omega, tail⟩
    rw [e] at tail; exact tail
/-- One more generator. -/
theorem res_With {a : Alg} {n : Int} {f : List Term} (hf : FitAlg a) (ff : FitT f) (hl : f.length ≤ 1048576) :
    ∃ x y, (y = 0 → FitAlg x ∧ x.degrees.length ≤ 8 ∧ x.images.length ≤ 8) ∧ (∀ K : Alg → Int → Prop, K (if y = 0 then x else ⟨[], []⟩) y → f_spec_WithGenerator a n ⟨f⟩ K) ∧ (∀ K : Alg → Int → Prop, K (if y = 0 then x else ⟨[], []⟩) y → f_impl_WithGenerator a n ⟨f⟩ K) := by
  by_cases hok : OkAlg a ∧ OkForm a.degrees f
  · obtain ⟨ok, of⟩ := hok
    have hd := ok.deg
    have h8 := hd.1
    have hlen := ok.len
    by_cases hn : 1 ≤ n ∧ n ≤ 12
    · -- the two decisions
      have wn : IntKind.i64.wrap (n + 1) = n + 1 := i64_in _ (by omega)
      -- what both come to
      have specTail : ∀ K : Alg → Int → Prop, (¬ (Hom a.degrees f (n + 1) ∧ ∀ out, IsD a.degrees (imgsT a) f out → out = []) → K ⟨[], []⟩ 5) → (Hom a.degrees f (n + 1) → (∀ out, IsD a.degrees (imgsT a) f out → out = []) → K ⟨[], []⟩ 3 ∧ a.degrees.length = 8 ∨ K ⟨a.degrees ++ [n], a.images ++ [⟨f⟩]⟩ 0 ∧ a.degrees.length ≠ 8) → f_spec_WithGenerator a n ⟨f⟩ K := by
        intro K k1 k2
        unfold f_spec_WithGenerator
        refine m_l02Both hf ff hl (fun _ _ => ?_) (fun no => absurd ⟨ok, of⟩ no)
        show (if (0 : Int) = 0 then _ else _)
        rw [if_pos rfl]
        refine m_l01In ?_
        rw [decide_eq_true hn]
        show (if (!true) = true then _ else _)
        rw [if_neg (by simp), if_neg (by simp)]
        have last : ∀ b : Bool, (b = true → K ⟨[], []⟩ 5) → (b = false → K ⟨[], []⟩ 3 ∧ a.degrees.length = 8 ∨ K ⟨a.degrees ++ [n], a.images ++ [⟨f⟩]⟩ 0 ∧ a.degrees.length ≠ 8) →
            (if b = true then K (⟨[], []⟩ : Alg) 5 else (if (a.degrees.length : Int) = 8 then K (⟨[], []⟩ : Alg) 3 else f_spec_l02With a n ⟨f⟩ (fun r => K r 0))) := by
          intro b c1 c2
          cases b with
          | true => rw [if_pos rfl]; exact c1 rfl
          | false =>
            rw [if_neg (by simp)]
            rcases c2 rfl with ⟨q1, q2⟩ | ⟨q1, q2⟩
            · rw [if_pos (by omega)]; exact q1
            · rw [if_neg (by omega)]; exact m_l02With ok hf hl q1
        have dPart : (∀ out, IsD a.degrees (imgsT a) f out → Hom a.degrees f (n + 1) → (out ≠ [] → K ⟨[], []⟩ 5) ∧ (out = [] → K ⟨[], []⟩ 3 ∧ a.degrees.length = 8 ∨ K ⟨a.degrees ++ [n], a.images ++ [⟨f⟩]⟩ 0 ∧ a.degrees.length ≠ 8)) := by
          intro out ho hh
          refine ⟨fun ne => k1 fun q => ne (q.2 out ho), fun e => k2 hh fun o2 h2 => ?_⟩
          rw [isD_unique h2 ho]; exact e
        refine m_l01Degree hd ff.pos (by omega) (fun e => ?_) (fun e hh => ?_) (fun hno => ?_)
        · have hh : Hom a.degrees f (n + 1) := fun i hi => by omega
          show (if ¬ (true = true) then _ else _)
          rw [if_neg (by simp), if_neg (by dsimp only; omega)]
          refine m_l02D (ok.algF hf) of ff fun out ho _ => last _ (fun q => ?_) (fun q => ?_)
          · exact (dPart out ho hh).1 (by rintro rfl; simp at q)
          · refine (dPart out ho hh).2 ?_
            cases out with
            | nil => rfl
            | cons t l => simp at q
        · show (if ¬ (true = true) then _ else _)
          rw [if_neg (by simp), if_pos (by dsimp only; omega), wn]
          split
          · rename_i q
            refine last true (fun _ => k1 fun z => q ?_) (fun z => by cases z)
            exact z.1 0 e
          · rename_i q
            have hh' : Hom a.degrees f (n + 1) := by
              have e2 : wtU a.degrees (f.getD 0 default).mono a.degrees.length = n + 1 := Decidable.not_not.1 q
              rw [e2] at hh; exact hh
            refine m_l02D (ok.algF hf) of ff fun out ho _ => last _ (fun q => ?_) (fun q => ?_)
            · exact (dPart out ho hh').1 (by rintro rfl; simp at q)
            · refine (dPart out ho hh').2 ?_
              cases out with
              | nil => rfl
              | cons t l => simp at q
        · show (if ¬ (false = true) then _ else _)
          rw [if_pos (by simp)]
          exact last true (fun _ => k1 fun z => hno _ z.1) (fun z => by cases z)
      have implTail : ∀ K : Alg → Int → Prop, (¬ (Hom a.degrees f (n + 1) ∧ ∀ out, IsD a.degrees (imgsT a) f out → out = []) → K ⟨[], []⟩ 5) → (Hom a.degrees f (n + 1) → (∀ out, IsD a.degrees (imgsT a) f out → out = []) → K ⟨[], []⟩ 3 ∧ a.degrees.length = 8 ∨ K ⟨a.degrees ++ [n], a.images ++ [⟨f⟩]⟩ 0 ∧ a.degrees.length ≠ 8) → f_impl_WithGenerator a n ⟨f⟩ K := by
        intro K k1 k2
        unfold f_impl_WithGenerator
        refine m_algebraCode1 hf ff (fun _ _ => ?_) (fun no => absurd ⟨ok, of⟩ no)
        refine m_within ?_
        rw [decide_eq_true hn]
        refine m_when (m_first2 ?_)
        have e0 : (if (0 : Int) ≠ 0 then (0 : Int) else (if (!true) = true then 2 else 0)) = 0 := by simp
        rw [e0]
        show (if (0 : Int) = 0 then _ else _)
        rw [if_pos rfl, wn]
        have fin : (Hom a.degrees f (n + 1)) → (∀ out, IsD a.degrees (imgsT a) f out → out = []) → f_impl_Algebra_withGenerator a n ⟨f⟩ (fun r104 r110 => K r104 r110) := fun q1 q2 => by
          refine m_withGen ok hf hl (fun e => ?_) (fun e => ?_)
          · rcases k2 q1 q2 with ⟨z, _⟩ | ⟨_, z⟩
            · exact z
            · exact absurd e z
          · rcases k2 q1 q2 with ⟨_, z⟩ | ⟨z, _⟩
            · exact absurd z e
            · exact z
        refine m_isOfDegree hd ff ?_
        by_cases hh : Hom a.degrees f (n + 1)
        · rw [decide_eq_true hh, if_neg (by simp)]
          unfold f_impl_Algebra_isClosed
          refine m_sumOf of.canon ff fun s hs => m_d (ok.algF hf) hs of ff fun out' ho' => ?_
          have hc := clo_iff hs of.canon ho'
          by_cases he : out' = []
          · rw [he]
            show (if (!decide ((([] : List (A8 × Int)).length : Int) = 0)) = true then _ else _)
            rw [if_neg (by simp), if_neg (by simp)]
            exact fin hh (hc.1 he)
          · have hne : ¬ ((out'.length : Int) = 0) := fun q => he (List.eq_nil_of_length_eq_zero (by omega))
            rw [decide_eq_false hne]
            show (if (!false) = true then _ else _)
            rw [if_pos (by decide), if_pos (by decide)]
            exact k1 fun z => he (hc.2 z.2)
        · rw [decide_eq_false hh, if_pos (by simp)]
          show (if true = true then _ else _)
          rw [if_pos rfl, if_pos (by decide)]
          exact k1 fun z => hh z.1
      by_cases hg : Hom a.degrees f (n + 1) ∧ ∀ out, IsD a.degrees (imgsT a) f out → out = []
      · by_cases e8 : a.degrees.length = 8
        · exact ⟨⟨[], []⟩, 3, by intro q; omega, fun K hK => specTail K (fun q => absurd hg q) (fun _ _ => .inl ⟨hK, e8⟩), fun K hK => implTail K (fun q => absurd hg q) (fun _ _ => .inl ⟨hK, e8⟩)⟩
        · refine ⟨⟨a.degrees ++ [n], a.images ++ [⟨f⟩]⟩, 0, fun _ => ⟨fun i hi => ?_, ?_, ?_⟩, fun K hK => specTail K (fun q => absurd hg q) (fun _ _ => .inr ⟨by rw [if_pos rfl] at hK; exact hK, e8⟩), fun K hK => implTail K (fun q => absurd hg q) (fun _ _ => .inr ⟨by rw [if_pos rfl] at hK; exact hK, e8⟩)⟩
          · by_cases hi2 : i < a.images.length
            · have e : (a.images ++ [(⟨f⟩ : Vc.Form)]).getD i default = a.images.getD i default := by simp [List.getD, List.getElem?_append_left hi2]
              show FitT ((a.images ++ [(⟨f⟩ : Vc.Form)]).getD i default).terms ∧ _
              rw [e]; exact hf i hi2
            · have hi' : i < (a.images ++ [(⟨f⟩ : Vc.Form)]).length := hi
              simp only [List.length_append, List.length_cons, List.length_nil] at hi'
              have : i = a.images.length := by omega
              subst this
              have e : (a.images ++ [(⟨f⟩ : Vc.Form)]).getD a.images.length default = ⟨f⟩ := by simp [List.getD]
              show FitT ((a.images ++ [(⟨f⟩ : Vc.Form)]).getD a.images.length default).terms ∧ _
              rw [e]; exact ⟨ff, hl⟩
          · show (a.degrees ++ [n]).length ≤ 8
            simp; omega
          · show (a.images ++ [(⟨f⟩ : Vc.Form)]).length ≤ 8
            simp; omega
      · exact ⟨⟨[], []⟩, 5, by intro q; omega, fun K hK => specTail K (fun _ => hK) (fun q1 q2 => absurd ⟨q1, q2⟩ hg), fun K hK => implTail K (fun _ => hK) (fun q1 q2 => absurd ⟨q1, q2⟩ hg)⟩
    · refine ⟨⟨[], []⟩, 2, by intro q; omega, fun K hK => ?_, fun K hK => ?_⟩
      · unfold f_spec_WithGenerator
        refine m_l02Both hf ff hl (fun _ _ => ?_) (fun no => absurd ⟨ok, of⟩ no)
        show (if (0 : Int) = 0 then _ else _)
        rw [if_pos rfl]
        refine m_l01In ?_
        rw [decide_eq_false hn]
        show (if (!false) = true then _ else _)
        rw [if_pos (by decide), if_pos (by decide)]
        exact hK
      · unfold f_impl_WithGenerator
        refine m_algebraCode1 hf ff (fun _ _ => ?_) (fun no => absurd ⟨ok, of⟩ no)
        refine m_within ?_
        rw [decide_eq_false hn]
        refine m_when (m_first2 ?_)
        have e0 : (if (0 : Int) ≠ 0 then (0 : Int) else (if (!false) = true then 2 else 0)) = 2 := by simp
        rw [e0]
        show (if (2 : Int) = 0 then _ else _)
        rw [if_neg (by decide)]
        show (if false = true then _ else _)
        rw [if_neg (by simp), if_pos (by decide)]
        exact hK
  · refine ⟨⟨[], []⟩, 1, by intro q; omega, fun K hK => ?_, fun K hK => ?_⟩
    · unfold f_spec_WithGenerator
      refine m_l02Both hf ff hl (fun z q => absurd ⟨z, q⟩ hok) (fun no => ?_)
      show (if (1 : Int) = 0 then _ else _)
      rw [if_neg (by decide)]
      show (if false = true then _ else _)
      rw [if_neg (by simp), if_pos (by decide)]
      exact hK
    · unfold f_impl_WithGenerator
      refine m_algebraCode1 hf ff (fun z q => absurd ⟨z, q⟩ hok) (fun no => ?_)
      refine m_within (m_when (m_first2 ?_))
      rw [if_pos (by decide)]
      show (if (1 : Int) = 0 then _ else _)
      rw [if_neg (by decide)]
      show (if false = true then _ else _)
      rw [if_neg (by simp), if_pos (by decide)]
      exact hK
/-- One generator after the other. -/
theorem fib_loop {ns : List Int} {fs : List Vc.Form} (hlen : ns.length = fs.length) (hfs : ∀ i, i < fs.length → FitT (fs.getD i default).terms ∧ (fs.getD i default).terms.length ≤ 1048576) : ∀ r i (s : Alg), i + r = ns.length → FitAlg s → s.degrees.length ≤ 8 → s.images.length ≤ 8 →
    ∃ x y, SmallAlg x ∧ (∀ K : Alg → Int → Prop, K x y → forN (fun i307 (s308 : (List Int) × (List Vc.Form)) next315 => ((0 ≤ (i307 : Int) ∧ (i307 : Int) < (fs.length : Int)) ∧ f_spec_WithGenerator (⟨s308.1, s308.2⟩ : Alg) (ns.getD i307 default) (fs.getD i307 default) (fun r395 r401 => (if r401 ≠ 0 then K (⟨[], []⟩ : Alg) r401 else next315 (r395.degrees, r395.images))))) (fun (s308 : (List Int) × (List Vc.Form)) => K (⟨s308.1, s308.2⟩ : Alg) 0) r i (s.degrees, s.images)) ∧
      (∀ K : Alg → Int → Prop, K x y → forN (fun i313 (s314 : (List Int) × (List Vc.Form)) next321 => ((0 ≤ (i313 : Int) ∧ (i313 : Int) < (fs.length : Int)) ∧ f_impl_WithGenerator (⟨s314.1, s314.2⟩ : Alg) (ns.getD i313 default) (fs.getD i313 default) (fun r398 r404 => (if r404 ≠ 0 then K (⟨[], []⟩ : Alg) r404 else next321 (r398.degrees, r398.images))))) (fun (s314 : (List Int) × (List Vc.Form)) => K (⟨s314.1, s314.2⟩ : Alg) 0) r i (s.degrees, s.images)) := by
  intro r
  induction r with
  | zero =>
    intro i s hi hf h1 h2
    refine ⟨s, 0, ⟨by omega, by omega, ?_⟩, fun K hK => hK, fun K hK => hK⟩
    have := cnt_bd (fs := s.images) (B := 1048576) fun i hi => (hf i hi).2
    have h3 : s.images.length * 1048576 ≤ 8 * 1048576 := Nat.mul_le_mul_right _ h2
    omega
  | succ r ih =>
    intro i s hi hf h1 h2
    have hil : i < fs.length := by omega
    obtain ⟨ff, fl⟩ := hfs i hil
    obtain ⟨x, y, w1, w2, w3⟩ := res_With (n := ns.getD i default) hf ff fl
    have hL : (⟨(fs.getD i default).terms⟩ : Vc.Form) = fs.getD i default := rfl
    rw [hL] at w2 w3
    by_cases hy : y = 0
    · obtain ⟨g1, g2, g3⟩ := w1 hy
      obtain ⟨x', y', k1, k2, k3⟩ := ih (i + 1) x (by omega) g1 g2 g3
      rw [if_pos hy] at w2 w3
      refine ⟨x', y', k1, fun K hK => ⟨by omega, w2 _ ?_⟩, fun K hK => ⟨by omega, w3 _ ?_⟩⟩
      · rw [if_neg (by omega)]; exact k2 K hK
      · rw [if_neg (by omega)]; exact k3 K hK
    · rw [if_neg hy] at w2 w3
      refine ⟨⟨[], []⟩, y, ⟨by simp, by simp, by simp [cnt]⟩, fun K hK => ⟨by omega, w2 _ ?_⟩, fun K hK => ⟨by omega, w3 _ ?_⟩⟩
      · rw [if_pos hy]; exact hK
      · rw [if_pos hy]; exact hK
theorem res_Fib {a : Alg} {ns : List Int} {fs : List Vc.Form} (hf : FitAlg a) (hfs : ∀ i, i < fs.length → FitT (fs.getD i default).terms ∧ (fs.getD i default).terms.length ≤ 1048576) :
    ∃ x y, SmallAlg x ∧ (∀ K : Alg → Int → Prop, K x y → f_spec_FibrationOver a ns fs K) ∧ (∀ K : Alg → Int → Prop, K x y → f_impl_FibrationOver a ns fs K) := by
  have sm : SmallAlg ⟨[], []⟩ := ⟨by simp, by simp, by simp [cnt]⟩
  by_cases ok : OkAlg a
  · have h8 := ok.deg.1
    have hl := ok.len
    by_cases hlen : ns.length = fs.length
    · obtain ⟨x, y, k1, k2, k3⟩ := fib_loop hlen hfs ns.length 0 a (by omega) hf h8 (by omega)
      refine ⟨x, y, k1, fun K hK => ?_, fun K hK => ?_⟩
      · unfold f_spec_FibrationOver
        refine m_l02Is hf (fun _ => ?_) (fun no => absurd ok no)
        rw [if_neg (by simp), if_neg (by omega)]
        exact m_l02Own hf (by omega) (by omega) (k2 K hK)
      · unfold f_impl_FibrationOver
        refine m_algebraCode0 hf (fun _ => ?_) (fun no => absurd ok no)
        refine m_when (m_first2 ?_)
        have e0 : decide ((ns.length : Int) ≠ (fs.length : Int)) = false := decide_eq_false (by omega)
        rw [e0, if_neg (by decide)]
        exact m_copied ok hf (k3 K hK)
    · refine ⟨⟨[], []⟩, 2, sm, fun K hK => ?_, fun K hK => ?_⟩
      · unfold f_spec_FibrationOver
        refine m_l02Is hf (fun _ => ?_) (fun no => absurd ok no)
        rw [if_neg (by simp), if_pos (by omega)]
        exact hK
      · unfold f_impl_FibrationOver
        refine m_algebraCode0 hf (fun _ => ?_) (fun no => absurd ok no)
        refine m_when (m_first2 ?_)
        have e0 : decide ((ns.length : Int) ≠ (fs.length : Int)) = true := decide_eq_true (by omega)
        rw [e0, if_pos (by decide)]
        exact hK
  · refine ⟨⟨[], []⟩, 1, sm, fun K hK => ?_, fun K hK => ?_⟩
    · unfold f_spec_FibrationOver
      refine m_l02Is hf (fun z => absurd z ok) (fun no => ?_)
      rw [if_pos (by simp)]
      exact hK
    · unfold f_impl_FibrationOver
      refine m_algebraCode0 hf (fun z => absurd z ok) (fun no => ?_)
      refine m_when (m_first2 ?_)
      have h1 : (1 : Int) ≠ 0 := by decide
      rw [if_pos h1, if_pos h1]
      exact hK
theorem pure_FibrationOver (a : Alg) (ns : List Int) (fs : List Vc.Form) (hg : GoodAlg a) (g1 : ∀ x, x ∈ ns → Fit .i64 x) (g2 : ∀ f, f ∈ fs → ∀ t, t ∈ f.terms → FitA .u8 t.mono ∧ Fit .i64 t.factor) (hb : LenAlg a) (hb2 : Big fs.length ∧ ∀ f, f ∈ fs → Big f.terms.length) : f_laws_FnExactFibrationOver a ns fs (fun r => r = true) := by
  unfold f_laws_FnExactFibrationOver
  by_cases hns : (ns.length : Int) > 1048576
  · rw [if_pos hns]
  · rw [if_neg hns]
    refine m_szAlgebraG (by omega) hb (fun r hr hr2 d1 d2 d3 => ?_) (fun r hr => by rw [if_pos hr])
    rw [if_neg (by omega)]
    refine m_szFormS hb2.1 hb2.2 (by omega) (fun r' q1 q2 q3 q4 => ?_) (fun r hr => by rw [if_pos hr])
    rw [if_neg (by omega)]
    have hf := hg.fit d3
    obtain ⟨x, y, sm, s1, s2⟩ := res_Fib (ns := ns) (fs := fs) hf fun i hi => ⟨fun t ht => (g2 _ (getD_mem hi) t ht).1, q4 i hi⟩
    have n1 : ns.length ≤ 1048576 := by omega
    have f1 : fs.length ≤ 1048576 := by omega
    have hcf := cnt_bd q4
    have hcf2 : fs.length * 1048576 ≤ 1048576 * 1048576 := Nat.mul_le_mul_right _ f1
    refine m_toAlgebra d1 d2 d3 (m_toInt64S n1 (m_toFormS f1 q4 (s1 _ ?_)))
    refine m_toAlgebra d1 d2 d3 (m_toInt64S n1 (m_toFormS f1 q4 (s2 _ ?_)))
    refine same_Algebra (not_no (ne_no ?_))
    refine m_toAlgebra d1 d2 d3 (same_Algebra (not_no ?_))
    refine m_toInt64S n1 (same_Int64S (not_no ?_))
    refine m_toFormS f1 q4 (same_FormS (not_no ?_))
    refine m_markAlgebraN (by omega) d1 d2 d3 fun x0 n0 z1 z2 => ?_
    refine m_markInt64N (by omega) fun x1 => ?_
    refine m_markFormsN (by omega) (fun x2 n2 z3 z4 => ?_) (by omega)
    refine lt_no (by omega) (same_Algebra (not_no ?_))
    refine m_markAlgebra (by omega) sm fun x' n hh hn => ?_
    refine hh _ (lt_no hn (ne_no ?_))
    refine m_toAlgebra (a := a) d1 d2 d3 (m_toInt64S n1 (m_toFormS f1 q4 (s2 _ (same_Algebra (not_no (ne_no ?_))))))
    exact hh _ (lt_no hn (ne_no rfl))
end Go.Proofs.Ytgmldfmfpodgiaa
