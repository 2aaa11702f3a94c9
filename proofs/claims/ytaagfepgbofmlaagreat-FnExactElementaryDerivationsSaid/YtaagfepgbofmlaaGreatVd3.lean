/- Plain laws: which algebras are algebras, by the reference and by the program. -/
import Derived.Test.YtaagfepgbofmlaaGreatVd2
set_option linter.unusedVariables false
set_option linter.unusedSimpArgs false
namespace Go.Proofs.YtaagfepgbofmlaaGreat
open Go Vc
theorem m_images {a : Alg} {K : List (Option (List (A8 × Int))) → Prop} (ha : AlgF a) (h : ∀ ls : List (Option (List (A8 × Int))), (∀ i, i < a.images.length → ∃ m, ls[i]? = some (some m) ∧ IsMap (a.images.getD i default).terms m) → K ls) : f_impl_Algebra_images a K := by
  unfold f_impl_Algebra_images
  have h8 : a.images.length ≤ 8 := by have := ha.deg.1; have := ha.len; omega
  refine forN_inv (fun i (s : List (Option (List (A8 × Int)))) => s.length = 8 ∧ ∀ j, j < i → ∃ m, s[j]? = some (some m) ∧ IsMap (a.images.getD j default).terms m) a.images.length ?_ ?_ _ _ _ (by omega) ⟨by simp, by intro j hj; omega⟩
  · intro i s next hi ⟨h1, h2⟩ hn
    have hL : (⟨(a.images.getD i default).terms⟩ : Vc.Form) = a.images.getD i default := rfl
    rw [← hL]
    refine m_sumOf (ha.frm i hi).canon (ha.fit i hi) fun m hm => ⟨by omega, hn _ ⟨by simpa using h1, fun j hj => ?_⟩⟩
    by_cases e : j = i
    · subst e
      exact ⟨m, by rw [List.getElem?_set_self (by omega)], hm⟩
    · rw [List.getElem?_set_ne (fun q => e q.symm)]
      exact h2 j (by omega)
  · intro s ⟨h1, h2⟩
    exact h s h2
theorem mapOk1 (m : A8) : MapOk [(m, 1)] := ⟨by simp, by intro p hp; obtain rfl := List.mem_singleton.1 hp; simp⟩
theorem stepM {a : Alg} {K : List (A8 × Int) → Prop} {m : A8} {n v : Int} {i : Nat} {out ml : List (A8 × Int)} (ha : AlgF a) (hi : i < a.images.length) (hm : OkMono a.degrees m) (pm : ∀ i, i < 8 → 0 ≤ m.get i ∧ m.get i ≤ 255) (hp : 0 < m.get i) (ho : MapOk out) (hml : IsMap (a.images.getD i default).terms ml) (hv : v % 10007 = dK a.degrees m n i)
    (h : ∀ out', MapOk out' → (∀ x, co out' x % 10007 = (co out x + dK a.degrees m n i * triC a.degrees (leftA m i) (backA m i) ((imgsT a).getD i default) x) % 10007) → (∀ y, y ∈ out' → (∃ z, z ∈ out ∧ z.1 = y.1) ∨ DMono a.degrees (imgsT a) y.1 m) → K out') :
    f_impl_sum_times (mset ([] : List (A8 × Int)) (leftA m i) 1) a.degrees ml (fun r => f_impl_sum_times r a.degrees (mset ([] : List (A8 × Int)) (backA m i) 1) (fun r2 => f_impl_field v (fun k => f_impl_sum_addAll out r2 k K))) := by
  have hd := ha.deg
  have hi8 : i < 8 := by have := hd.1; have := ha.len; omega
  have hf := ha.frm i hi
  have ff := ha.fit i hi
  have hm20 := low_get (monoLow hm) pm
  obtain ⟨lb, bb, lbb⟩ := leftA_bd hm20 hp
  obtain ⟨wl, wb⟩ := leftA_wk hm hi8 hp
  have hml20 : ∀ p, p ∈ ml → OkMono a.degrees p.1 ∧ ∃ t, t ∈ (a.images.getD i default).terms ∧ t.mono = p.1 ∧ ∀ q, q < 8 → 0 ≤ p.1.get q ∧ p.1.get q ≤ 20 := fun p hpm => by
    obtain ⟨t, ht, e⟩ := hml.ks p hpm
    rw [← e]
    exact ⟨hf.mono ht, t, ht, rfl, low_get (monoLow (hf.mono ht)) (ff.pos t ht)⟩
  show f_impl_sum_times [(leftA m i, 1)] a.degrees ml _
  refine m_sumTimes hd (mapOk1 _) (fun p hp' => by obtain rfl := List.mem_singleton.1 hp'; exact wl) (fun p hp' q hq => by obtain rfl := List.mem_singleton.1 hp'; exact (lb q hq).1) hml.ok (fun p hpm => (hml20 p hpm).1.wk) (fun p hpm q hq => by obtain ⟨_, t, _, _, b⟩ := hml20 p hpm; exact (b q hq).1) fun own hown => ?_
  have wown : ∀ u, u ∈ own → ∃ z, z ∈ (a.images.getD i default).terms ∧ u.1 = (leftA m i).add z.mono ∧ ¬ Clash a.degrees (leftA m i) z.mono ∧ WkMono a.degrees u.1 ∧ ∀ q, q < 8 → 0 ≤ u.1.get q ∧ u.1.get q ≤ 40 := fun u hu => by
    obtain ⟨t, z, ht, hz, e, hcl⟩ := hown.ks u hu
    obtain rfl := List.mem_singleton.1 ht
    obtain ⟨hzm, tt, htt, ett, hz20⟩ := hml20 z hz
    refine ⟨tt, htt, by rw [ett]; exact e, by rw [ett]; exact hcl, ?_, fun q hq => ?_⟩
    · rw [e]
      exact wk_add wl hzm.wk (fun q hq => (lb q hq).1) (fun q hq => (hz20 q hq).1) (fun q hq => by have := lb q hq; have := hz20 q hq; dsimp only; omega) hcl
    · rw [e, A8.get_add]
      have := lb q hq
      have := hz20 q hq
      dsimp only
      omega
  show f_impl_sum_times own a.degrees [(backA m i, 1)] _
  refine m_sumTimes hd hown.ok (fun u hu => by obtain ⟨_, _, _, _, w, _⟩ := wown u hu; exact w) (fun u hu q hq => by obtain ⟨_, _, _, _, _, b⟩ := wown u hu; exact (b q hq).1) (mapOk1 _) (fun p hp' => by obtain rfl := List.mem_singleton.1 hp'; exact wb) (fun p hp' q hq => by obtain rfl := List.mem_singleton.1 hp'; exact (bb q hq).1) fun prod hpr => ?_
  refine m_field ?_
  rw [hv]
  refine m_addAll ho hpr.ok (dK_bd _ _ _ _) fun out' hout => h out' hout.ok (fun x => ?_) fun y hy => ?_
  · rw [hout.cf, imgsT_get a hi]
    have e1 := tri_map hml hf.canon hown hpr x
    rw [Int.add_emod, Int.mul_emod, e1, ← Int.mul_emod, ← Int.add_emod]
  · obtain ⟨z, hz, e⟩ := hout.ks y hy
    rcases hz with hz | hz
    · exact .inl ⟨z, hz, e⟩
    · obtain ⟨t, b, ht, hb, e2, hcl2⟩ := hpr.ks z hz
      obtain rfl := List.mem_singleton.1 hb
      obtain ⟨u, hu, e3, hcl, _⟩ := wown t ht
      refine .inr ⟨i, u, hi8, hp, by rw [imgsT_get a hi]; exact hu, by rw [← e, e2, e3], hcl, ?_⟩
      rw [← e3]; exact hcl2
theorem front_zero (m : A8) : A8.zero = frontA m 0 := A8.ext_get fun q hq => by rw [A8.get_zero, frontA, A8.get_mkf _ hq, if_neg (by omega)]
theorem front_set {m : A8} {i : Nat} (hi : i < 8) : (frontA m i).set i (m.get i) = frontA m (i + 1) := A8.ext_get fun q hq => by
  rw [A8.get_set hi, frontA, frontA, A8.get_mkf _ hq, A8.get_mkf _ hq]
  by_cases e : q = i
  · subst e; rw [if_pos rfl, if_pos (by omega)]
  · rw [if_neg e]
    by_cases hh : q < i
    · rw [if_pos hh, if_pos (by omega)]
    · rw [if_neg hh, if_neg (by omega)]
theorem sg_step {d e : Int} (hd : 1 ≤ d ∧ d ≤ 12) (he : 0 ≤ e) : sg (d * e) = if Int.tmod d 2 = 1 ∧ Int.tmod e 2 = 1 then -1 else 1 := by
  rw [Int.tmod_eq_emod_of_nonneg (by omega), Int.tmod_eq_emod_of_nonneg he]
  unfold sg
  have h := Int.mul_emod d e 2
  rcases (by omega : d % 2 = 0 ∨ d % 2 = 1) with a | a <;> rcases (by omega : e % 2 = 0 ∨ e % 2 = 1) with b | b <;> rw [a, b] at h <;> simp [h, a, b]
theorem m_d {a : Alg} {f : List Term} {s : List (A8 × Int)} {K : List (A8 × Int) → Prop} (ha : AlgF a) (hs : IsMap f s) (hf : OkForm a.degrees f) (ff : FitT f) (h : ∀ out, IsDM a.degrees (imgsT a) s out → K out) : f_impl_Algebra_d a s K := by
  have hd := ha.deg
  have h8 := hd.1
  have hlen := ha.len
  unfold f_impl_Algebra_d
  refine m_images ha fun ls hls => ?_
  refine mapP_inv (fun l' (out : List (A8 × Int)) => (∀ p, p ∈ l' → p ∈ s) ∧ MapOk out ∧ (∀ x, (co out x + tot (fun p => dT a.degrees (imgsT a) p.1 p.2 x) l') % 10007 = tot (fun p => dT a.degrees (imgsT a) p.1 p.2 x) s % 10007) ∧ (∀ y, y ∈ out → ∃ t, t ∈ s ∧ DMono a.degrees (imgsT a) y.1 t.1)) ?_ ?_ s [] ⟨fun _ h => h, MapOk.nil, fun x => by rw [co_nil, Int.zero_add], by simp⟩
  · intro l' p l'' out next hpk ⟨h0, h1, h2, h3⟩ hn
    have hperm := pick_perm hpk
    have hpm : p ∈ s := h0 p (hperm.mem_iff.2 (by simp))
    have hpf := hs.ok.2 p hpm
    obtain ⟨t, ht, et⟩ := hs.ks p hpm
    have hm : OkMono a.degrees p.1 := by rw [← et]; exact hf.mono ht
    have pm : ∀ i, i < 8 → 0 ≤ p.1.get i ∧ p.1.get i ≤ 255 := by rw [← et]; exact ff.pos t ht
    have e3 : ∀ x, tot (fun p => dT a.degrees (imgsT a) p.1 p.2 x) l' = dT a.degrees (imgsT a) p.1 p.2 x + tot (fun p => dT a.degrees (imgsT a) p.1 p.2 x) l'' := fun x => by rw [tot_perm _ hperm]; rfl
    refine forN_inv (fun i (t : A8 × (List (A8 × Int)) × Int) => t.1 = frontA p.1 i ∧ MapOk t.2.1 ∧ t.2.2 = sg (wtU a.degrees p.1 i) ∧ (∀ x, (co t.2.1 x + dS a.degrees (imgsT a) p.1 p.2 x (8 - i) i) % 10007 = (co out x + dT a.degrees (imgsT a) p.1 p.2 x) % 10007) ∧ (∀ y, y ∈ t.2.1 → ∃ t, t ∈ s ∧ DMono a.degrees (imgsT a) y.1 t.1)) 8 ?_ ?_ _ _ _ (by omega) ⟨front_zero _, h1, rfl, fun x => rfl, h3⟩
    · rintro i ⟨t1, o1, sg1⟩ nx hi ⟨g1, g2, g3, g4, g5⟩ hnx
      dsimp only at g1 g2 g3 g4 g5 ⊢
      subst g1 g3
      have pmi := pm i hi
      have hdS : ∀ x, dS a.degrees (imgsT a) p.1 p.2 x (8 - i) i = (if p.1.get i > 0 then dK a.degrees p.1 p.2 i * triC a.degrees (leftA p.1 i) (backA p.1 i) ((imgsT a).getD i default) x else 0) + dS a.degrees (imgsT a) p.1 p.2 x (8 - (i + 1)) (i + 1) := fun x => by
        rw [show 8 - i = (8 - (i + 1)) + 1 by omega]; rfl
      have hspm := sg_pm (wtU a.degrees p.1 i)
      have tail : ∀ o2 : List (A8 × Int), MapOk o2 → (∀ x, (co o2 x + dS a.degrees (imgsT a) p.1 p.2 x (8 - (i + 1)) (i + 1)) % 10007 = (co out x + dT a.degrees (imgsT a) p.1 p.2 x) % 10007) → (∀ y, y ∈ o2 → ∃ t, t ∈ s ∧ DMono a.degrees (imgsT a) y.1 t.1) →
          (if (i : Int) < (a.degrees.length : Int) then ((0 ≤ (i : Int) ∧ (i : Int) < (a.degrees.length : Int)) ∧ (if Int.tmod (a.degrees.getD i default) 2 = 1 then (if Int.tmod (p.1.get i) 2 = 1 then nx ((frontA p.1 i).set i (p.1.get i), o2, IntKind.i64.wrap (0 - sg (wtU a.degrees p.1 i))) else nx ((frontA p.1 i).set i (p.1.get i), o2, sg (wtU a.degrees p.1 i))) else nx ((frontA p.1 i).set i (p.1.get i), o2, sg (wtU a.degrees p.1 i)))) else nx ((frontA p.1 i).set i (p.1.get i), o2, sg (wtU a.degrees p.1 i))) := by
        intro o2 k1 k2 k3
        rw [front_set hi]
        have go : ∀ z, z = sg (wtU a.degrees p.1 (i + 1)) → nx (frontA p.1 (i + 1), o2, z) := fun z hz => hnx _ ⟨rfl, k1, hz, k2, k3⟩
        have hw : wtU a.degrees p.1 (i + 1) = wtU a.degrees p.1 i + a.degrees.getD i default * p.1.get i := rfl
        split
        · rename_i hin
          have hdi := hd.2 i (by omega)
          have hstep := sg_step hdi pmi.1
          refine ⟨by omega, ?_⟩
          split
          · rename_i q1
            split
            · rename_i q2
              rw [if_pos ⟨q1, q2⟩] at hstep
              rw [i64_in _ (by omega)]
              exact go _ (by rw [hw, sg_add, hstep]; omega)
            · rename_i q2
              rw [if_neg (fun z => q2 z.2)] at hstep
              exact go _ (by rw [hw, sg_add, hstep, Int.mul_one])
          · rename_i q1
            rw [if_neg (fun z => q1 z.1)] at hstep
            exact go _ (by rw [hw, sg_add, hstep, Int.mul_one])
        · rename_i hin
          have := (hm i hi).2 (by omega)
          exact go _ (by rw [hw, this, Int.mul_zero, Int.add_zero])
      split
      · rename_i hp0
        have hp0' : 0 < p.1.get i := hp0
        have hin : i < a.images.length := by
          rcases Nat.lt_or_ge i a.images.length with q | q
          · exact q
          · have := (hm i hi).2 (by omega); omega
        have wi : IntKind.i64.wrap ((i : Int) + 1) = (i : Int) + 1 := i64_in _ (by omega)
        rw [wi]
        refine whileP_inv (fun (t : A8 × Int) => 0 ≤ t.2 ∧ t.2 ≤ i + 1 ∧ ∀ q, q < 8 → t.1.get q = if (q : Int) < t.2 then 0 else p.1.get q) (fun t => i + 1 - t.2.toNat) ?_ ⟨Int.le_refl _, by dsimp only; omega, fun q hq => by rw [if_neg (by dsimp only; omega)]⟩
        rintro ⟨t1, k⟩ nk ⟨b1, b2, b3⟩ hnk
        dsimp only at b1 b2 b3 hnk ⊢
        split
        · rename_i hk
          refine ⟨by omega, ?_⟩
          rw [i64_in (k + 1) (by omega)]
          refine hnk _ ⟨by dsimp only; omega, by dsimp only; omega, fun q hq => ?_⟩ (by dsimp only; omega)
          dsimp only
          rw [A8.get_set (by omega), b3 q hq]
          by_cases e : q = k.toNat
          · rw [if_pos e, if_pos (by omega)]
          · rw [if_neg e]
            by_cases hh : (q : Int) < k
            · rw [if_pos hh, if_pos (by omega)]
            · rw [if_neg hh, if_neg (by omega)]
        · rename_i hk
          have eb : t1 = backA p.1 i := A8.ext_get fun q hq => by
            rw [b3 q hq, backA, A8.get_mkf _ hq]
            by_cases hh : i < q
            · rw [if_neg (by omega), if_pos hh]
            · rw [if_pos (by omega), if_neg hh]
          have hml := monoLow hm i hi
          have el : (frontA p.1 i).set i (IntKind.i64.wrap (p.1.get i - 1)) = leftA p.1 i := A8.ext_get fun q hq => by
            rw [A8.get_set hi, i64_in _ (by omega), frontA, leftA, A8.get_mkf _ hq, A8.get_mkf _ hq]
            by_cases e : q = i
            · subst e; rw [if_pos rfl, if_neg (by omega), if_pos rfl]
            · rw [if_neg e]
              by_cases hh : q < i
              · rw [if_pos hh, if_pos hh]
              · rw [if_neg hh, if_neg hh, if_neg e]
          rw [eb, el]
          obtain ⟨ml, hml1, hml2⟩ := hls i hin
          refine ⟨ml, hml1, ?_⟩
          refine stepM (n := p.2) ha hin hm pm hp0' g2 hml2 ?_ fun o2 k1 k2 k3 => ?_
          · rw [mul1_bd hspm hpf (by omega)]; rfl
          · refine tail o2 k1 (fun x => ?_) fun y hy => ?_
            · have c1 := g4 x
              have c2 := k2 x
              rw [hdS, if_pos hp0] at c1
              omega
            · rcases k3 y hy with ⟨z, hz, e⟩ | hD
              · obtain ⟨t, ht, q⟩ := g5 z hz
                exact ⟨t, ht, e ▸ q⟩
              · exact ⟨p, hpm, hD⟩
      · rename_i hp0
        refine tail o1 g2 (fun x => ?_) g5
        have c1 := g4 x
        rw [hdS, if_neg hp0, Int.zero_add] at c1
        exact c1
    · rintro ⟨t1, o1, sg1⟩ ⟨g1, g2, g3, g4, g5⟩
      dsimp only at g2 g4 g5 ⊢
      refine hn _ ⟨fun q hq => h0 q (hperm.mem_iff.2 (by simp [hq])), g2, fun x => ?_, g5⟩
      have c1 := g4 x
      have c2 := h2 x
      rw [e3] at c2
      simp only [Nat.sub_self, dS] at c1
      omega
  · intro out ⟨_, h1, h2, h3⟩
    exact h _ ⟨h1, fun x => by have := h2 x; simp only [tot, Int.add_zero] at this; exact this, h3⟩
/-- Every map has its sorted list. -/
theorem form_of_map {m : List (A8 × Int)} (hm : MapOk m) : ∃ l, Canon l ∧ (∀ x, coT l x = co m x) ∧ ∀ t, t ∈ l → ∃ p, p ∈ m ∧ p.1 = t.mono := by
  obtain ⟨xs, hxs, hw⟩ := sorted_ex (m.map (·.1))
  obtain ⟨h1, h2⟩ := canon_of_map hm hxs hw
  refine ⟨_, h1, h2, fun t ht => ?_⟩
  obtain ⟨x, hx, rfl⟩ := List.mem_map.1 ht
  obtain ⟨p, hpm, e⟩ := List.mem_map.1 (hxs.mem_iff.1 hx)
  exact ⟨p, hpm, e⟩
theorem clo_iff {ds : List Int} {imgs : List (List Term)} {f : List Term} {s out' : List (A8 × Int)} (hs : IsMap f s) (hc : Canon f) (h' : IsDM ds imgs s out') : out' = [] ↔ ∀ out, IsD ds imgs f out → out = [] := by
  constructor
  · intro e out ho
    exact (isMap_nil (isD_isDM hs hc ho h') ho.can).1 e
  · intro hall
    obtain ⟨l, hl, hcf, hks⟩ := form_of_map h'.ok
    have hd : IsD ds imgs f l := ⟨hl, fun x => by rw [hcf, h'.cf, map_tot hs hc (fun a n => dT ds imgs a n x) (fun a => dT_zero ds imgs a x)], fun y hy => by
      obtain ⟨p, hp, e⟩ := hks y hy
      obtain ⟨t, ht, q⟩ := h'.mo p hp
      obtain ⟨u, hu, e2⟩ := hs.ks t ht
      exact ⟨u, hu, by rw [← e, e2]; exact q⟩⟩
    have e := hall l hd
    have hm : IsMap l out' := isMap_of hl h'.ok fun x => by rw [hcf]
    exact (isMap_nil hm hl).2 e
theorem isD_unique {ds : List Int} {imgs : List (List Term)} {f out out2 : List Term} (h : IsD ds imgs f out) (k : IsD ds imgs f out2) : out = out2 := canon_mod h.can k.can fun x => by rw [h.cf, k.cf]
/-! ### Degrees of forms -/
def Hom (ds : List Int) (l : List Term) (n : Int) : Prop := ∀ i, i < l.length → wtU ds (l.getD i default).mono ds.length = n
instance (ds : List Int) (l : List Term) (n : Int) : Decidable (Hom ds l n) := inferInstanceAs (Decidable (∀ i, i < l.length → _))
theorem m_degreeOf {ds : List Int} {l : List Term} {K : Int → Bool → Prop} (hd : OkDeg ds) (hp : FitT l) (h0 : l.length = 0 → K (-1) true) (h1 : 0 < l.length → Hom ds l (wtU ds (l.getD 0 default).mono ds.length) → K (wtU ds (l.getD 0 default).mono ds.length) true) (h2 : (∀ n, ¬ Hom ds l n) → K 0 false) : f_impl_degreeOf ds ⟨l⟩ K := by
  unfold f_impl_degreeOf
  dsimp only
  refine forN_inv (fun i (s : Int) => (i = 0 ∧ s = -1) ∨ (0 < i ∧ s = wtU ds (l.getD 0 default).mono ds.length ∧ ∀ j, j < i → wtU ds (l.getD j default).mono ds.length = wtU ds (l.getD 0 default).mono ds.length)) l.length ?_ ?_ _ _ _ (by omega) (.inl ⟨rfl, rfl⟩)
  · intro i s next hi hI hn
    have f1 := hp _ (getD_mem hi)
    have b0 := hp.pos _ (getD_mem hi)
    have hw := wtU_bd hd b0 ds.length (Nat.le_refl _)
    refine m_powerOf f1 (m_degree hd b0 ?_)
    rcases hI with ⟨e1, e2⟩ | ⟨e1, e2, e3⟩
    · subst e1 e2
      rw [if_neg (by omega)]
      exact hn _ (.inr ⟨by omega, rfl, fun j hj => by obtain rfl : j = 0 := by omega
                                                      rfl⟩)
    · have hw0 := wtU_bd hd (hp.pos _ (getD_mem (show 0 < l.length by omega))) ds.length (Nat.le_refl _)
      rw [if_pos (by omega)]
      split
      · rename_i q
        refine h2 fun n hn' => q ?_
        rw [hn' i hi, e2, hn' 0 (by omega)]
      · rename_i q
        have q : wtU ds (l.getD i default).mono ds.length = s := Decidable.not_not.1 q
        refine hn _ (.inr ⟨by omega, by rw [q, e2], fun j hj => ?_⟩)
        by_cases e : j = i
        · subst e; rw [q, e2]
        · exact e3 j (by omega)
  · intro s hI
    rcases hI with ⟨e1, e2⟩ | ⟨e1, e2, e3⟩
    · rw [e2]; exact h0 e1
    · rw [e2]; exact h1 e1 e3
theorem m_isOfDegree {ds : List Int} {l : List Term} {n : Int} {K : Bool → Prop} (hd : OkDeg ds) (hp : FitT l) (h : K (decide (Hom ds l n))) : f_impl_isOfDegree ds ⟨l⟩ n K := by
  unfold f_impl_isOfDegree
  refine m_degreeOf hd hp (fun e => ?_) (fun e hh => ?_) (fun hno => ?_)
  · rw [if_pos rfl, if_pos rfl]
    have : Hom ds l n := fun i hi => by omega
    rwa [decide_eq_true this] at h
  · have hw0 := wtU_bd hd (hp.pos _ (getD_mem e)) ds.length (Nat.le_refl _)
    rw [if_pos rfl, if_neg (by omega)]
    have : Hom ds l n ↔ wtU ds (l.getD 0 default).mono ds.length = n := ⟨fun q => q 0 e, fun q => q ▸ hh⟩
    rwa [decide_eq_decide.2 this] at h
  · rw [if_neg (by simp)]
    rwa [decide_eq_false (hno n)] at h
theorem m_l01Degree {ds : List Int} {l : List Term} {K : Int → Bool → Prop} (hd : OkDeg ds) (hp : PosT l) (hl : l.length ≤ 100000000) (h0 : l.length = 0 → K (-1) true) (h1 : 0 < l.length → Hom ds l (wtU ds (l.getD 0 default).mono ds.length) → K (wtU ds (l.getD 0 default).mono ds.length) true) (h2 : (∀ n, ¬ Hom ds l n) → K 0 false) : f_spec_l01Degree ds ⟨l⟩ K := by
  unfold f_spec_l01Degree
  dsimp only
  split
  · exact h0 (by omega)
  · rename_i q0
    have hpos : 0 < l.length := by omega
    refine ⟨by omega, m_l01Weight hd (hp _ (getD_mem hpos)) ?_⟩
    refine whileP_inv (fun (s : Int) => 1 ≤ s ∧ s ≤ l.length ∧ ∀ j : Nat, (j : Int) < s → wtU ds (l.getD j default).mono ds.length = wtU ds (l.getD 0 default).mono ds.length) (fun s => l.length - s.toNat) ?_ ⟨Int.le_refl _, by omega, fun j hj => by
      have hj' : (j : Int) < 1 := hj
      obtain rfl : j = 0 := by omega
      rfl⟩
    rintro i next ⟨g1, g2, g3⟩ hn
    split
    · rename_i hi
      have a : i.toNat < l.length := by omega
      refine ⟨by omega, m_l01Weight hd (hp _ (getD_mem a)) ?_⟩
      split
      · rename_i q
        refine h2 fun n hn' => q ?_
        rw [hn' _ a, hn' 0 hpos]
      · rename_i q
        have q := Decidable.not_not.1 q
        rw [i64_in _ (by omega)]
        refine hn _ ⟨by omega, by omega, fun j hj => ?_⟩ (by omega)
        by_cases e : j = i.toNat
        · subst e; exact q
        · exact g3 j (by omega)
    · exact h1 hpos fun j hj => g3 j (by omega)
/-! ### Algebras -/
structure OkAlg (a : Alg) : Prop where
  deg : OkDeg a.degrees
  len : a.images.length = a.degrees.length
  frm : ∀ i, i < a.images.length → OkForm a.degrees (a.images.getD i default).terms
  hom : ∀ i, i < a.images.length → Hom a.degrees (a.images.getD i default).terms (a.degrees.getD i default + 1)
  clo : ∀ i, i < a.images.length → ∀ out, IsD a.degrees (imgsT a) (a.images.getD i default).terms out → out = []
def FitAlg (a : Alg) : Prop := ∀ i, i < a.images.length → FitT (a.images.getD i default).terms ∧ (a.images.getD i default).terms.length ≤ 1048576
theorem m_l02Is {a : Alg} {K : Bool → Prop} (hf : FitAlg a) (h1 : OkAlg a → K true) (h2 : ¬ OkAlg a → K false) : f_spec_l02Is a K := by
  unfold f_spec_l02Is
  refine m_l01Degrees ?_
  split
  · rename_i q; exact h2 fun z => q (decide_eq_true z.deg)
  · rename_i q1
    have q1 := of_decide_eq_true (Decidable.not_not.1 q1)
    have h8 := q1.1
    split
    · rename_i q; exact h2 fun z => q (by rw [z.len])
    · rename_i q2
      have q2 : a.images.length = a.degrees.length := by have := Decidable.not_not.1 q2; omega
      refine whileP_inv (fun (s : Int) => 0 ≤ s ∧ s ≤ a.images.length ∧ ∀ i : Nat, (i : Int) < s → OkForm a.degrees (a.images.getD i default).terms ∧ Hom a.degrees (a.images.getD i default).terms (a.degrees.getD i default + 1)) (fun s => a.images.length - s.toNat) ?_ ⟨Int.le_refl _, by omega, fun i hi => by omega⟩
      rintro i next ⟨g1, g2, g3⟩ hn
      split
      · rename_i hi
        have hin : i.toNat < a.images.length := by omega
        obtain ⟨hft, hfl⟩ := hf i.toNat hin
        have hL : (⟨(a.images.getD i.toNat default).terms⟩ : Vc.Form) = a.images.getD i.toNat default := rfl
        have hdi := q1.2 i.toNat (by omega)
        have wi : IntKind.i64.wrap (i + 1) = i + 1 := i64_in _ (by omega)
        rw [wi, ← hL]
        refine ⟨by omega, m_l01Is h8 hft.pos (by omega) ?_⟩
        split
        · rename_i q; exact h2 fun z => q (decide_eq_true (z.frm _ hin))
        · rename_i q3
          have q3 := of_decide_eq_true (Decidable.not_not.1 q3)
          have good : Hom a.degrees (a.images.getD i.toNat default).terms (a.degrees.getD i.toNat default + 1) → next (i + 1) := fun hh => hn _ ⟨by omega, by omega, fun j hj => by
            by_cases e : j = i.toNat
            · subst e; exact ⟨q3, hh⟩
            · exact g3 j (by omega)⟩ (by omega)
          have hwd : IntKind.i64.wrap (a.degrees.getD i.toNat default + 1) = a.degrees.getD i.toNat default + 1 := i64_in _ (by omega)
          rw [hwd]
          refine ⟨by omega, m_l01Degree q1 hft.pos (by omega) (fun e => ?_) (fun e hh => ?_) (fun hno => ?_)⟩
          · rw [if_neg (by simp)]
            dsimp only
            refine ⟨by omega, ?_⟩
            rw [if_neg (by omega)]
            exact good fun j hj => by omega
          · rw [if_neg (by simp)]
            dsimp only
            refine ⟨by omega, ?_⟩
            rw [if_pos (by omega)]
            refine ⟨by omega, ?_⟩
            split
            · rename_i q
              exact h2 fun z => q (z.hom _ hin 0 e)
            · rename_i q
              have q := Decidable.not_not.1 q
              exact good (q ▸ hh)
          · rw [if_pos (by simp)]
            exact h2 fun z => hno _ (z.hom _ hin)
      · rename_i hi
        have hF : AlgF a := ⟨q1, q2, fun i hi => (g3 i (by omega)).1, fun i hi => (hf i hi).1⟩
        refine whileP_inv (fun (s : Int) => 0 ≤ s ∧ s ≤ a.images.length ∧ ∀ i : Nat, (i : Int) < s → ∀ out, IsD a.degrees (imgsT a) (a.images.getD i default).terms out → out = []) (fun s => a.images.length - s.toNat) ?_ ⟨Int.le_refl _, by omega, fun i hi => by omega⟩
        rintro k next' ⟨k1, k2, k3⟩ hn'
        split
        · rename_i hk
          have hkn : k.toNat < a.images.length := by omega
          have hL : (⟨(a.images.getD k.toNat default).terms⟩ : Vc.Form) = a.images.getD k.toNat default := rfl
          rw [← hL]
          refine ⟨by omega, m_l02D hF (hF.frm _ hkn) (hF.fit _ hkn) fun out ho _ => ?_⟩
          dsimp only
          split
          · rename_i q
            refine h2 fun z => ?_
            have := z.clo _ hkn out ho
            rw [this] at q; simp at q
          · rename_i q
            rw [i64_in _ (by omega)]
            have e : out = [] := List.length_eq_zero_iff.1 (by omega)
            refine hn' _ ⟨by omega, by omega, fun j hj => ?_⟩ (by omega)
            by_cases ej : j = k.toNat
            · subst ej; intro o2 ho2; rw [isD_unique ho2 ho, e]
            · exact k3 j (by omega)
        · rename_i hk
          exact h1 ⟨q1, q2, hF.frm, fun i hi => (g3 i (by omega)).2, fun i hi => k3 i (by omega)⟩
theorem m_containsF {l : List Vc.Form} {p : Vc.Form → (Bool → Prop) → Prop} {K : Bool → Prop} {Q : Vc.Form → Prop} (hp : ∀ i, i < l.length → ∀ K' : Bool → Prop, (Q (l.getD i default) → K' true) → (¬ Q (l.getD i default) → K' false) → p (l.getD i default) K')
    (h1 : (∃ i, i < l.length ∧ Q (l.getD i default)) → K true) (h2 : (∀ i, i < l.length → ¬ Q (l.getD i default)) → K false) : f_slices_ContainsFunc_impl_Form_impl_Form l p K := by
  unfold f_slices_ContainsFunc_impl_Form_impl_Form f_slices_IndexFunc_impl_Form_impl_Form
  refine forN_inv (fun i (_ : Unit) => ∀ j, j < i → ¬ Q (l.getD j default)) l.length ?_ ?_ _ _ _ (by omega) (by intro j hj; omega)
  · intro i s next hi hI hn
    refine hp i hi _ (fun q => ?_) (fun q => ?_)
    · rw [if_pos rfl]
      show K (decide ((i : Int) ≥ 0))
      rw [decide_eq_true (show (i : Int) ≥ 0 by omega)]
      exact h1 ⟨i, hi, q⟩
    · rw [if_neg (by simp)]
      refine hn _ fun j hj => ?_
      by_cases e : j = i
      · subst e; exact q
      · exact hI j (by omega)
  · intro s hI
    show K (decide ((-1 : Int) ≥ 0))
    rw [decide_eq_false (show ¬ (-1 : Int) ≥ 0 by omega)]
    exact h2 hI
theorem m_IsAlgebra {a : Alg} {K : Bool → Prop} (hf : FitAlg a) (h1 : OkAlg a → K true) (h2 : ¬ OkAlg a → K false) : f_impl_IsAlgebra a K := by
  unfold f_impl_IsAlgebra
  refine m_AreDegrees ?_
  split
  · rename_i q; exact h2 fun z => q (decide_eq_true z.deg)
  · rename_i q1
    have q1 := of_decide_eq_true (Decidable.not_not.1 q1)
    have h8 := q1.1
    split
    · rename_i q; exact h2 fun z => q (by rw [z.len])
    · rename_i q2
      have q2 : a.images.length = a.degrees.length := by have := Decidable.not_not.1 q2; omega
      refine forN_inv (fun i (_ : Unit) => ∀ j : Nat, j < i → OkForm a.degrees (a.images.getD j default).terms ∧ Hom a.degrees (a.images.getD j default).terms (a.degrees.getD j default + 1)) a.images.length ?_ ?_ _ _ _ (by omega) (by intro j hj; omega)
      · intro i s next hi hI hn
        obtain ⟨hft, hfl⟩ := hf i hi
        have hL : (⟨(a.images.getD i default).terms⟩ : Vc.Form) = a.images.getD i default := rfl
        have hdi := q1.2 i (by omega)
        rw [← hL]
        refine m_isForm q1 hft ?_
        split
        · rename_i q; exact h2 fun z => q (decide_eq_true (z.frm _ hi))
        · rename_i q3
          have q3 := of_decide_eq_true (Decidable.not_not.1 q3)
          rw [i64_in _ (by omega)]
          refine ⟨by omega, m_isOfDegree q1 hft ?_⟩
          split
          · rename_i q; exact h2 fun z => q (decide_eq_true (z.hom _ hi))
          · rename_i q4
            have q4 := of_decide_eq_true (Decidable.not_not.1 q4)
            refine hn _ fun j hj => ?_
            by_cases e : j = i
            · subst e; exact ⟨q3, q4⟩
            · exact hI j (by omega)
      · intro s hI
        have hF : AlgF a := ⟨q1, q2, fun i hi => (hI i hi).1, fun i hi => (hf i hi).1⟩
        refine m_containsF (Q := fun f => ¬ ∀ out, IsD a.degrees (imgsT a) f.terms out → out = []) (fun i hi K' c1 c2 => ?_) (fun hex => ?_) (fun hall => ?_)
        · unfold f_impl_IsAlgebra_1
          have hL : (⟨(a.images.getD i default).terms⟩ : Vc.Form) = a.images.getD i default := rfl
          rw [← hL]
          refine m_sumOf (hF.frm i hi).canon (hF.fit i hi) fun m hm => m_d hF hm (hF.frm i hi) (hF.fit i hi) fun out ho => ?_
          have hiff := clo_iff hm (hF.frm i hi).canon ho
          by_cases e : out = []
          · subst e
            rw [decide_eq_false (by simp)]
            exact c2 fun z => z (hiff.1 rfl)
          · have hlen : 0 < out.length := List.length_pos_iff.2 e
            rw [decide_eq_true (by omega)]
            exact c1 fun z => e (hiff.2 z)
        · obtain ⟨i, hi, hq⟩ := hex
          exact h2 fun z => hq (z.clo i hi)
        · exact h1 ⟨q1, q2, hF.frm, fun i hi => (hI i hi).2, fun i hi => Classical.byContradiction (hall i hi)⟩
theorem m_algebraCode0 {a : Alg} {K : Int → Prop} (hf : FitAlg a) (h1 : OkAlg a → K 0) (h2 : ¬ OkAlg a → K 1) : f_impl_algebraCode a [] K := by
  unfold f_impl_algebraCode
  refine m_IsAlgebra hf (fun z => ?_) (fun z => ?_)
  · rw [if_neg (by simp)]
    refine m_containsF (Q := fun _ => True) (fun i hi => by simp at hi) (fun hex => by obtain ⟨i, hi, _⟩ := hex; simp at hi) (fun _ => ?_)
    exact m_when (h1 z)
  · rw [if_pos (by simp)]
    exact m_when (h2 z)
end Go.Proofs.YtaagfepgbofmlaaGreat
