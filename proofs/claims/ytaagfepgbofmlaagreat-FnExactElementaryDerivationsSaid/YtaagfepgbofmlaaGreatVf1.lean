/- Plain laws: the reference's forms. -/
import Derived.Test.YtaagfepgbofmlaaGreatVp3
import Derived.Test.YtaagfepgbofmlaaGreatVf0
import Derived.Test.YtaagfepgbofmlaaGreatGC
set_option linter.unusedVariables false
set_option linter.unusedSimpArgs false
namespace Go.Proofs.YtaagfepgbofmlaaGreat
open Go Vc
theorem m_l01Before {a b : A8} {K : Bool → Prop} (h : K (decide (pcmp a b < 0))) : f_spec_l01Before a b K := by
  simp only [f_spec_l01Before, forN, A8.get]
  simp only [pcmp, A8.list, lcmp] at h
  have e : ∀ x y : Int, decide (x - y < 0) = decide (x < y) := fun x y => decide_eq_decide.2 (by omega)
  repeat' split
  all_goals (simp_all)
theorem m_l01Mod {x : Int} {K : Int → Prop} (h : K (x % 10007)) : f_spec_l01Mod x K := by
  unfold f_spec_l01Mod
  have := tmod_bd x
  rw [i64_in _ (by omega), field_eq]
  exact h
theorem m_field {x : Int} {K : Int → Prop} (h : K (x % 10007)) : f_impl_field x K := by
  unfold f_impl_field
  have := tmod_bd x
  rw [i64_in _ (by omega), field_eq]
  exact h
theorem fac_bd {a b : Int} (ha : 0 ≤ a ∧ a ≤ 10006) (hb : 0 ≤ b ∧ b ≤ 10006) : 0 ≤ a * b ∧ a * b ≤ 100120036 :=
  ⟨Int.mul_nonneg ha.1 hb.1, by have := Int.mul_le_mul ha.2 hb.2 hb.1 (by omega : (0 : Int) ≤ 10006); omega⟩
theorem jn_pos {S : Type} {c : Prop} [Decidable c] {A B : (S → Prop) → Prop} {T : S → Prop} (h : c) (k : A T) : joinP (fun J => if c then A J else B J) T := by show if c then A T else B T; rw [if_pos h]; exact k
theorem jn_neg {S : Type} {c : Prop} [Decidable c] {A B : (S → Prop) → Prop} {T : S → Prop} (h : ¬ c) (k : B T) : joinP (fun J => if c then A J else B J) T := by show if c then A T else B T; rw [if_neg h]; exact k
theorem jn_true {A B : Prop} (h : A) : if true = true then A else B := by simpa using h
theorem jn_false {A B : Prop} (h : B) : if false = true then A else B := by simpa using h
theorem if_pos' {c : Prop} [Decidable c] {A B : Prop} (h : c) (k : A) : if c then A else B := by rw [if_pos h]; exact k
theorem if_neg' {c : Prop} [Decidable c] {A B : Prop} (h : ¬ c) (k : B) : if c then A else B := by rw [if_neg h]; exact k
theorem m_l01Add {f g : List Term} {k : Int} {K : Vc.Form → Prop} (cf : Canon f) (cg : Canon g) (hk : 0 ≤ k ∧ k ≤ 10006) (hf : f.length ≤ 100000000) (hg : g.length ≤ 100000000) (h : ∀ out, IsAdd f g k out → K ⟨out⟩) : f_spec_l01Add ⟨f⟩ ⟨g⟩ k K := by
  unfold f_spec_l01Add
  dsimp only
  refine whileP_inv (fun (s : List Term × Int × Int) => 0 ≤ s.2.1 ∧ 0 ≤ s.2.2 ∧ AddI f g k s.1 s.2.1.toNat s.2.2.toNat) (fun s => (f.length - s.2.1.toNat) + (g.length - s.2.2.toNat)) ?_ ⟨Int.le_refl _, Int.le_refl _, AddI.zero f g k⟩
  rintro ⟨out, i, j⟩ next ⟨h1, h2, hI⟩ hn
  have hi := hI.hi
  have hj := hI.hj
  have hln := hI.ln
  have hR : Room (out.length + 1) 16 := by unfold Room; dsimp only at hln hi hj ⊢; omega
  dsimp only at h1 h2 hI hi hj hR hn ⊢
  have ni : (i + 1).toNat = i.toNat + 1 := by omega
  have nj : (j + 1).toNat = j.toNat + 1 := by omega
  have wi : IntKind.i64.wrap (i + 1) = i + 1 := i64_in _ (by omega)
  have wj : IntKind.i64.wrap (j + 1) = j + 1 := i64_in _ (by omega)
  rw [wi, wj]
  have goF : i.toNat < f.length → (j.toNat < g.length → pcmp (f.getD i.toNat default).mono (g.getD j.toNat default).mono < 0) → next (out ++ [f.getD i.toNat default], i + 1, j) := fun a b =>
    hn _ ⟨by dsimp only; omega, by dsimp only; omega, by dsimp only; rw [ni]; exact hI.stepF cf cg a b⟩ (by dsimp only; omega)
  have bg : j.toNat < g.length → 1 ≤ (g.getD j.toNat default).factor ∧ (g.getD j.toNat default).factor ≤ 10006 := fun a => cg.at_range a
  have bf : i.toNat < f.length → 1 ≤ (f.getD i.toNat default).factor ∧ (f.getD i.toNat default).factor ≤ 10006 := fun a => cf.at_range a
  have wk : j.toNat < g.length → IntKind.i64.wrap (k * (g.getD j.toNat default).factor) = k * (g.getD j.toNat default).factor := fun a => by
    have := bg a
    have := fac_bd hk (show 0 ≤ (g.getD j.toNat default).factor ∧ (g.getD j.toNat default).factor ≤ 10006 by omega)
    exact i64_in _ (by omega)
  have goG : j.toNat < g.length → (i.toNat < f.length → pcmp (g.getD j.toNat default).mono (f.getD i.toNat default).mono < 0) →
      f_spec_l01Mod (IntKind.i64.wrap (k * ((g.getD j.toNat default).factor))) (fun r => (if r ≠ 0 then ((0 ≤ j ∧ j < (g.length : Int)) ∧ (Room (out.length + 1) 16 ∧ next (out ++ [(⟨(g.getD j.toNat default).mono, r⟩ : Term)], i, j + 1))) else next (out, i, j + 1))) := by
    intro a b
    refine m_l01Mod ?_
    rw [wk a]
    split
    · rename_i q
      exact ⟨by omega, hR, hn _ ⟨by dsimp only; omega, by dsimp only; omega, by dsimp only; rw [nj]; exact hI.stepG1 cf cg a b rfl q⟩ (by dsimp only; omega)⟩
    · rename_i q
      exact hn _ ⟨by dsimp only; omega, by dsimp only; omega, by dsimp only; rw [nj]; exact hI.stepG0 cf cg a (by omega)⟩ (by dsimp only; omega)
  have goB : i.toNat < f.length → j.toNat < g.length → (f.getD i.toNat default).mono = (g.getD j.toNat default).mono →
      ((0 ≤ i ∧ i < (f.length : Int)) ∧ ((0 ≤ j ∧ j < (g.length : Int)) ∧ f_spec_l01Mod (IntKind.i64.wrap (k * ((g.getD j.toNat default).factor))) (fun r753 => f_spec_l01Mod (IntKind.i64.wrap (((f.getD i.toNat default).factor) + r753)) (fun r758 => (if r758 ≠ 0 then ((0 ≤ i ∧ i < (f.length : Int)) ∧ (Room (out.length + 1) 16 ∧ next (out ++ [(⟨(f.getD i.toNat default).mono, r758⟩ : Term)], i + 1, j + 1))) else next (out, i + 1, j + 1)))))) := by
    intro a b e
    refine ⟨by omega, by omega, m_l01Mod ?_⟩
    rw [wk b]
    have := bf a
    rw [i64_in _ (by omega)]
    refine m_l01Mod ?_
    rw [show ((f.getD i.toNat default).factor + k * (g.getD j.toNat default).factor % 10007) % 10007 = ((f.getD i.toNat default).factor + k * (g.getD j.toNat default).factor) % 10007 by omega]
    split
    · rename_i q
      exact ⟨by omega, hR, hn _ ⟨by dsimp only; omega, by dsimp only; omega, by dsimp only; rw [ni, nj]; exact hI.stepB1 cf cg a b e rfl q⟩ (by dsimp only; omega)⟩
    · rename_i q
      exact hn _ ⟨by dsimp only; omega, by dsimp only; omega, by dsimp only; rw [ni, nj]; exact hI.stepB0 cf cg a b e (by omega)⟩ (by dsimp only; omega)
  by_cases hif : i < (f.length : Int)
  · refine jn_pos hif (jn_true ?_)
    by_cases hjg : j = (g.length : Int)
    · exact jn_pos hjg (jn_true ⟨by omega, hR, goF (by omega) (fun q => by omega)⟩)
    · refine jn_neg hjg (if_pos' hif ⟨by omega, by omega, m_l01Before ?_⟩)
      by_cases hp : pcmp (f.getD i.toNat default).mono (g.getD j.toNat default).mono < 0
      · rw [decide_eq_true hp]
        exact jn_true ⟨by omega, hR, goF (by omega) (fun _ => hp)⟩
      · rw [decide_eq_false hp]
        refine jn_false (jn_neg (by omega) ⟨by omega, by omega, m_l01Before ?_⟩)
        by_cases hq : pcmp (g.getD j.toNat default).mono (f.getD i.toNat default).mono < 0
        · rw [decide_eq_true hq]
          exact jn_true ⟨by omega, goG (by omega) (fun _ => hq)⟩
        · rw [decide_eq_false hq]
          exact jn_false (goB (by omega) (by omega) (pcmp_eq hp hq))
  · refine jn_neg hif ?_
    by_cases hjg : j < (g.length : Int)
    · rw [decide_eq_true hjg]
      refine jn_true (jn_neg (by omega) (if_neg' hif (jn_false (jn_pos (by omega) (jn_true ⟨by omega, goG (by omega) (fun q => by omega)⟩)))))
    · rw [decide_eq_false hjg]
      exact jn_false (h _ (hI.done (by omega) (by omega)))
/-- What a form is, for degrees. -/
def OkForm (ds : List Int) (l : List Term) : Prop := l.length ≤ 400 ∧ ∀ i, i < l.length → OkMono ds (l.getD i default).mono ∧ (1 ≤ (l.getD i default).factor ∧ (l.getD i default).factor ≤ 10006) ∧ (0 < i → pcmp (l.getD (i - 1) default).mono (l.getD i default).mono < 0)
instance (ds : List Int) (l : List Term) : Decidable (OkForm ds l) := inferInstanceAs (Decidable (_ ∧ ∀ i, i < l.length → _))
theorem OkForm.canon {ds : List Int} {l : List Term} (h : OkForm ds l) : Canon l := by
  have step : ∀ n i, i + n + 1 < l.length → pcmp (l.getD i default).mono (l.getD (i + n + 1) default).mono < 0 := by
    intro n
    induction n with
    | zero => intro i hi; have := (h.2 (i + 1) (by omega)).2.2 (by omega); simpa using this
    | succ n ih =>
      intro i hi
      have h1 := ih i (by omega)
      have h2 := (h.2 (i + (n + 1) + 1) (by omega)).2.2 (by omega)
      rw [show i + (n + 1) + 1 - 1 = i + n + 1 by omega] at h2
      exact pcmp_trans h1 h2
  refine ⟨List.pairwise_iff_getElem.2 fun i j hi hj hij => ?_, fun t ht => ?_⟩
  · have := step (j - i - 1) i (by omega)
    rw [show i + (j - i - 1) + 1 = j by omega] at this
    simpa [List.getD, hi, hj] using this
  · obtain ⟨i, hi, rfl⟩ := List.getElem_of_mem ht
    have := (h.2 i hi).2.1
    simpa [List.getD, hi] using this
theorem OkForm.mono {ds : List Int} {l : List Term} (h : OkForm ds l) {t : Term} (ht : t ∈ l) : OkMono ds t.mono := by
  obtain ⟨i, hi, rfl⟩ := List.getElem_of_mem ht
  have := (h.2 i hi).1
  simpa [List.getD, hi] using this
/-- The bytes of monomials. -/
def PosT (l : List Term) : Prop := ∀ t, t ∈ l → ∀ i, i < 8 → 0 ≤ t.mono.get i ∧ t.mono.get i ≤ 255
theorem m_l01Is {ds : List Int} {l : List Term} {K : Bool → Prop} (hd : ds.length ≤ 8) (hp : PosT l) (hl : l.length ≤ 100000000) (h : K (decide (OkForm ds l))) : f_spec_l01Is ds ⟨l⟩ K := by
  unfold f_spec_l01Is
  dsimp only
  refine whileP_inv (fun (s : Int) => 0 ≤ s ∧ s ≤ l.length ∧ ∀ i, i < s.toNat → OkMono ds (l.getD i default).mono ∧ (1 ≤ (l.getD i default).factor ∧ (l.getD i default).factor ≤ 10006) ∧ (0 < i → pcmp (l.getD (i - 1) default).mono (l.getD i default).mono < 0)) (fun s => l.length - s.toNat) ?_ ⟨by omega, by omega, fun i hi => by omega⟩
  rintro i next ⟨h1, h2, h3⟩ hn
  have bad : (i.toNat < l.length) → ¬ (OkMono ds (l.getD i.toNat default).mono ∧ (1 ≤ (l.getD i.toNat default).factor ∧ (l.getD i.toNat default).factor ≤ 10006) ∧ (0 < i.toNat → pcmp (l.getD (i.toNat - 1) default).mono (l.getD i.toNat default).mono < 0)) → K false := by
    intro a b
    have : ¬ OkForm ds l := fun q => b (q.2 _ a)
    rwa [decide_eq_false this] at h
  split
  · rename_i hi
    have a : i.toNat < l.length := by omega
    refine ⟨by omega, m_l01Mono (fun q hq => (hp _ (getD_mem a) q hq).1) hd ?_⟩
    split
    · rename_i q
      exact bad a fun z => q (decide_eq_true z.1)
    · rename_i q1
      have q1 : OkMono ds (l.getD i.toNat default).mono := by simpa using q1
      refine m_l01In ?_
      split
      · rename_i q
        exact bad a fun z => q (decide_eq_true z.2.1)
      · rename_i q2
        have q2 : 1 ≤ (l.getD i.toNat default).factor ∧ (l.getD i.toNat default).factor ≤ 10006 := by simpa using q2
        have w1 : IntKind.i64.wrap (i + 1) = i + 1 := i64_in _ (by omega)
        rw [w1]
        have ok : (0 < i.toNat → pcmp (l.getD (i.toNat - 1) default).mono (l.getD i.toNat default).mono < 0) → next (i + 1) := fun q3 => by
          refine hn _ ⟨by omega, by omega, fun j hj => ?_⟩ (by omega)
          by_cases hji : j = i.toNat
          · subst hji; exact ⟨q1, q2, q3⟩
          · exact h3 j (by omega)
        split
        · have w2 : IntKind.i64.wrap (i - 1) = i - 1 := i64_in _ (by omega)
          rw [w2, show (i - 1).toNat = i.toNat - 1 by omega]
          refine ⟨by omega, m_l01Before ?_⟩
          split
          · rename_i q
            exact bad a fun z => q (decide_eq_true (z.2.2 (by omega)))
          · rename_i q
            exact ok fun _ => by simpa using q
        · exact ok fun q => by omega
  · rename_i hi
    have : OkForm ds l ↔ (l.length : Int) ≤ 400 := ⟨fun q => by have := q.1; omega, fun q => ⟨by omega, fun i hi' => h3 i (by omega)⟩⟩
    rw [decide_eq_decide.2 this] at h
    exact h
theorem mul1_bd {s a b : Int} (hs : s = 1 ∨ s = -1) (ha : 1 ≤ a ∧ a ≤ 10006) (hb : 1 ≤ b ∧ b ≤ 10006) : IntKind.i64.wrap (IntKind.i64.wrap (s * a) * b) = s * (a * b) := by
  have := fac_bd (show 0 ≤ a ∧ a ≤ 10006 by omega) (show 0 ≤ b ∧ b ≤ 10006 by omega)
  rcases hs with rfl | rfl
  · rw [i64_in (1 * a) (by omega), Int.mul_assoc, i64_in _ (by omega)]
  · rw [i64_in (-1 * a) (by omega), Int.mul_assoc, i64_in _ (by omega)]
theorem m_l01Shift {ds : List Int} {t : Term} {g : List Term} {K : Vc.Form → Prop} (hd : OkDeg ds) (ht : WkMono ds t.mono) (htf : 1 ≤ t.factor ∧ t.factor ≤ 10006) (pt : ∀ i, i < 8 → 0 ≤ t.mono.get i) (cg : Canon g) (wg : ∀ u, u ∈ g → WkMono ds u.mono) (pg : PosT g) (hl : g.length ≤ 100000000)
    (h : ∀ out, IsShift ds t g out → K ⟨out⟩) : f_spec_l01Shift ds t ⟨g⟩ K := by
  unfold f_spec_l01Shift
  dsimp only
  refine whileP_inv (fun (s : List Term × Int) => 0 ≤ s.2 ∧ s.2 ≤ g.length ∧ IsShift ds t (g.take s.2.toNat) s.1) (fun s => g.length - s.2.toNat) ?_ ⟨by omega, by omega, by simpa using IsShift.nil ds t⟩
  rintro ⟨out, i⟩ next ⟨h1, h2, hI⟩ hn
  dsimp only at h1 h2 hI hn ⊢
  split
  · rename_i hi
    have a : i.toNat < g.length := by omega
    have hu := getD_mem a
    have ni : (i + 1).toNat = i.toNat + 1 := by omega
    have wi : IntKind.i64.wrap (i + 1) = i + 1 := i64_in _ (by omega)
    rw [wi]
    have hct : Canon (g.take i.toNat ++ [g.getD i.toNat default]) := by
      rw [← take_getD a]
      exact ⟨cg.1.sublist (List.take_sublist _ _), fun s hs => cg.2 s (List.mem_of_mem_take hs)⟩
    refine ⟨by omega, m_l01Joined hd ht (wg _ hu) pt (fun q hq => (pg _ hu q hq).1) ?_⟩
    split
    · rename_i hs
      have hf := cg.at_range a
      have hln := hI.ln
      simp only [List.length_take] at hln
      refine ⟨by omega, m_l01Mod ?_⟩
      rw [mul1_bd (joined_nz hs).2.2 htf hf]
      refine ⟨by unfold Room; omega, hn _ ⟨by dsimp only; omega, by dsimp only; omega, ?_⟩ (by dsimp only; omega)⟩
      dsimp only
      rw [ni, take_getD a]
      exact hI.put hct htf hs rfl
    · rename_i hs
      refine hn _ ⟨by dsimp only; omega, by dsimp only; omega, ?_⟩ (by dsimp only; omega)
      dsimp only
      rw [ni, take_getD a]
      exact hI.skip (by simpa using hs)
  · rename_i hi
    rw [List.take_of_length_le (by omega)] at hI
    exact h _ hI
theorem m_l01Times {ds : List Int} {f g : List Term} {K : Vc.Form → Prop} (hd : OkDeg ds) (cf : Canon f) (wf : ∀ u, u ∈ f → WkMono ds u.mono) (pf : PosT f) (cg : Canon g) (wg : ∀ u, u ∈ g → WkMono ds u.mono) (pg : PosT g) (hf : f.length ≤ 10000) (hg : g.length ≤ 10000)
    (h : ∀ out, IsProd ds f g out → K ⟨out⟩) : f_spec_l01Times ds ⟨f⟩ ⟨g⟩ K := by
  unfold f_spec_l01Times
  dsimp only
  refine whileP_inv (fun (s : List Term × Int) => 0 ≤ s.2 ∧ s.2 ≤ f.length ∧ IsProd ds (f.take s.2.toNat) g s.1) (fun s => f.length - s.2.toNat) ?_ ⟨by omega, by omega, by simpa using IsProd.nil ds g⟩
  rintro ⟨out, i⟩ next ⟨h1, h2, hI⟩ hn
  dsimp only at h1 h2 hI hn ⊢
  split
  · rename_i hi
    have a : i.toNat < f.length := by omega
    have hu := getD_mem a
    have ni : (i + 1).toNat = i.toNat + 1 := by omega
    have wi : IntKind.i64.wrap (i + 1) = i + 1 := i64_in _ (by omega)
    rw [wi]
    refine ⟨by omega, m_l01Shift hd (wf _ hu) (cf.at_range a) (fun q hq => (pf _ hu q hq).1) cg wg pg (by omega) fun sh hsh => ?_⟩
    have hln := hI.ln
    have hls := hsh.ln
    have : (f.take i.toNat).length * g.length ≤ 10000 * 10000 := Nat.mul_le_mul (by rw [List.length_take]; omega) hg
    refine m_l01Add hI.can hsh.can (by omega) (by omega) (by omega) fun out' ho => ?_
    refine hn _ ⟨by dsimp only; omega, by dsimp only; omega, ?_⟩ (by dsimp only; omega)
    dsimp only
    rw [ni, take_getD a]
    exact hI.step hsh ho
  · rename_i hi
    rw [List.take_of_length_le (by omega)] at hI
    exact h _ hI
end Go.Proofs.YtaagfepgbofmlaaGreat
