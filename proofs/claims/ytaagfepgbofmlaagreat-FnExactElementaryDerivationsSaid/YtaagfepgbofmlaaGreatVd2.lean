/- Plain laws: the differential of the reference and of the program. -/
import Derived.Test.YtaagfepgbofmlaaGreatVd1
import Derived.Test.YtaagfepgbofmlaaGreatVf3
set_option linter.unusedVariables false
set_option linter.unusedSimpArgs false
namespace Go.Proofs.YtaagfepgbofmlaaGreat
open Go Vc
def imgsT (a : Alg) : List (List Term) := a.images.map Vc.Form.terms
theorem imgsT_get (a : Alg) {i : Nat} (h : i < a.images.length) : (imgsT a).getD i default = (a.images.getD i default).terms := by
  simp [imgsT, List.getD, h]
/-- What an algebra's shape is: the images are forms. -/
structure AlgF (a : Alg) : Prop where
  deg : OkDeg a.degrees
  len : a.images.length = a.degrees.length
  frm : ∀ i, i < a.images.length → OkForm a.degrees (a.images.getD i default).terms
  fit : ∀ i, i < a.images.length → FitT (a.images.getD i default).terms
theorem m_l01Single1 {m : A8} {K : Vc.Form → Prop} (h : K ⟨[⟨m, 1⟩]⟩) : f_spec_l01Single m 1 K := by
  unfold f_spec_l01Single
  refine m_l01Mod ?_
  rw [if_neg (by decide)]
  exact m_l01Mod h
theorem wtU_bd {ds : List Int} {m : A8} (hd : OkDeg ds) (hm : ∀ i, i < 8 → 0 ≤ m.get i ∧ m.get i ≤ 255) : ∀ k, k ≤ ds.length → 0 ≤ wtU ds m k ∧ wtU ds m k ≤ 3060 * k := by
  intro k
  induction k with
  | zero => intro _; simp [wtU]
  | succ k ih =>
    intro hk
    have h1 := ih (by omega)
    have h2 := hd.2 k (by omega)
    have h3 := hm k (by have := hd.1; omega)
    have h4 : 0 ≤ ds.getD k default * m.get k := Int.mul_nonneg (by omega) h3.1
    have h5 : ds.getD k default * m.get k ≤ 12 * 255 := Int.mul_le_mul h2.2 h3.2 h3.1 (by omega)
    simp only [wtU]
    omega
theorem wtU_prod {ds : List Int} {m : A8} (hd : OkDeg ds) (hm : ∀ i, i < 8 → 0 ≤ m.get i ∧ m.get i ≤ 255) {k : Nat} (hk : k < ds.length) : 0 ≤ ds.getD k default * m.get k ∧ ds.getD k default * m.get k ≤ 3060 := by
  have h2 := hd.2 k hk
  have h3 := hm k (by have := hd.1; omega)
  exact ⟨Int.mul_nonneg (by omega) h3.1, Int.mul_le_mul h2.2 h3.2 h3.1 (by omega)⟩
theorem m_l01Weight {ds : List Int} {m : A8} {K : Int → Prop} (hd : OkDeg ds) (hm : ∀ i, i < 8 → 0 ≤ m.get i ∧ m.get i ≤ 255) (h : K (wtU ds m ds.length)) : f_spec_l01Weight ds m K := by
  unfold f_spec_l01Weight
  have h8 := hd.1
  refine forN_inv (fun i (s : Int) => s = wtU ds m i) ds.length ?_ ?_ _ _ _ (by omega) rfl
  · intro i s next hi hs hn
    have h1 := hm i (by omega)
    have h2 := wtU_prod hd hm hi
    have h3 := wtU_bd hd hm i (by omega)
    refine ⟨by omega, ?_⟩
    rw [i64_in (m.get i) (by omega), i64_in (ds.getD i default * m.get i) (by omega), i64_in _ (by omega)]
    exact hn _ (by simp only [wtU]; rw [hs])
  · intro s hs; rw [hs]; exact h
theorem m_degree {ds : List Int} {m : A8} {K : Int → Prop} (hd : OkDeg ds) (hm : ∀ i, i < 8 → 0 ≤ m.get i ∧ m.get i ≤ 255) (h : K (wtU ds m ds.length)) : f_impl_power_degree m ds K := by
  unfold f_impl_power_degree
  have h8 := hd.1
  refine forN_inv (fun i (s : Int) => s = wtU ds m i) ds.length ?_ ?_ _ _ _ (by omega) rfl
  · intro i s next hi hs hn
    have h2 := wtU_prod hd hm hi
    have h3 := wtU_bd hd hm i (by omega)
    refine ⟨by omega, ?_⟩
    rw [i64_in (ds.getD i default * m.get i) (by omega), i64_in _ (by omega)]
    exact hn _ (by simp only [wtU]; rw [hs])
  · intro s hs; rw [hs]; exact h
theorem wtU_front {ds : List Int} {m : A8} {i : Nat} (h8 : ds.length ≤ 8) : ∀ k, k ≤ ds.length → wtU ds (frontA m i) k = wtU ds m (min i k) := by
  intro k
  induction k with
  | zero => intro _; simp [wtU]
  | succ k ih =>
    intro hk
    simp only [wtU]
    rw [ih (by omega), frontA, A8.get_mkf _ (by omega)]
    by_cases h : k < i
    · rw [if_pos h, show min i (k + 1) = k + 1 by omega, show min i k = k by omega]
      simp only [wtU]
    · rw [if_neg h, show min i (k + 1) = i by omega, show min i k = i by omega]
      simp
theorem canon1 (m : A8) : Canon [⟨m, 1⟩] := ⟨by simp, by intro t ht; obtain rfl := List.mem_singleton.1 ht; simp⟩
theorem len_mul1 {l g : List Term} {m : A8} (h : l.length ≤ ([⟨m, 1⟩] : List Term).length * g.length) : l.length ≤ g.length := by simpa using h
theorem low_get {a : A8} (h : Low a) (p : ∀ i, i < 8 → 0 ≤ a.get i ∧ a.get i ≤ 255) : ∀ i, i < 8 → 0 ≤ a.get i ∧ a.get i ≤ 20 := fun i hi => ⟨(p i hi).1, h i hi⟩
theorem leftA_bd {m : A8} {i : Nat} (hm : ∀ i, i < 8 → 0 ≤ m.get i ∧ m.get i ≤ 20) (hp : 0 < m.get i) : (∀ j, j < 8 → 0 ≤ (leftA m i).get j ∧ (leftA m i).get j ≤ 20) ∧ (∀ j, j < 8 → 0 ≤ (backA m i).get j ∧ (backA m i).get j ≤ 20) ∧ ∀ j, j < 8 → (leftA m i).get j + (backA m i).get j ≤ 20 := by
  refine ⟨fun j hj => ?_, fun j hj => ?_, fun j hj => ?_⟩
  · rw [leftA, A8.get_mkf _ hj]
    have := hm j hj
    split
    · exact this
    · split
      · rename_i e; subst e; omega
      · omega
  · rw [backA, A8.get_mkf _ hj]
    have := hm j hj
    split <;> omega
  · rw [leftA, backA, A8.get_mkf _ hj, A8.get_mkf _ hj]
    have := hm j hj
    split
    · rw [if_neg (by omega)]; omega
    · split
      · rename_i e; subst e; rw [if_neg (by omega)]; omega
      · split <;> omega
theorem dK_bd (ds : List Int) (m : A8) (n : Int) (i : Nat) : 0 ≤ dK ds m n i ∧ dK ds m n i ≤ 10006 := by unfold dK; omega
theorem sg_even {w : Int} (hw : 0 ≤ w) : (Int.tmod w 2 ≠ 0 ∧ sg w = -1) ∨ (¬ Int.tmod w 2 ≠ 0 ∧ sg w = 1) := by
  rw [Int.tmod_eq_emod_of_nonneg hw]
  unfold sg
  by_cases h : w % 2 = 0
  · right; rw [if_pos h]; exact ⟨by omega, rfl⟩
  · left; rw [if_neg h]; exact ⟨h, rfl⟩
/-- The middle of a step: from the accumulator out to out'. -/
structure StepD (ds : List Int) (imgs : List (List Term)) (m : A8) (n : Int) (i : Nat) (out out' : List Term) : Prop where
  can : Canon out'
  cf : ∀ x, coT out' x % 10007 = (coT out x + dK ds m n i * triC ds (leftA m i) (backA m i) (imgs.getD i default) x) % 10007
  mo : ∀ y, y ∈ out' → (∃ z, z ∈ out ∧ z.mono = y.mono) ∨ DMono ds imgs y.mono m
  ln : out'.length ≤ out.length + 400
theorem stepD {a : Alg} {K : Vc.Form → Prop} {m : A8} {n v : Int} {i : Nat} {out : List Term} (ha : AlgF a) (hi : i < a.images.length) (hm : OkMono a.degrees m) (pm : ∀ i, i < 8 → 0 ≤ m.get i ∧ m.get i ≤ 255) (hp : 0 < m.get i) (hc : Canon out) (hl : out.length ≤ 50000000) (hv : v % 10007 = dK a.degrees m n i)
    (h : ∀ out', StepD a.degrees (imgsT a) m n i out out' → K ⟨out'⟩) :
    f_spec_l01Single (leftA m i) 1 (fun r => f_spec_l01Times a.degrees r (a.images.getD i default) (fun r' => f_spec_l01Single (backA m i) 1 (fun r2 => f_spec_l01Times a.degrees r' r2 (fun r3 => f_spec_l01Mod v (fun k => f_spec_l01Add ⟨out⟩ r3 k K))))) := by
  have hd := ha.deg
  have hi8 : i < 8 := by have := hd.1; have := ha.len; omega
  have hf := ha.frm i hi
  have ff := ha.fit i hi
  have hm20 := low_get (monoLow hm) pm
  obtain ⟨lb, bb, lbb⟩ := leftA_bd hm20 hp
  obtain ⟨wl, wb⟩ := leftA_wk hm hi8 hp
  refine m_l01Single1 ?_
  have hL : (⟨(a.images.getD i default).terms⟩ : Vc.Form) = a.images.getD i default := rfl
  rw [← hL]
  refine m_l01Times hd (canon1 _) (fun u hu => by obtain rfl := List.mem_singleton.1 hu; exact wl) (fun u hu q hq => by obtain rfl := List.mem_singleton.1 hu; have := lb q hq; dsimp only; omega) hf.canon (fun u hu => (hf.mono hu).wk) ff.pos (by simp) (by have := hf.1; omega) fun own ho => ?_
  refine m_l01Single1 ?_
  have hown : ∀ u, u ∈ own → ∃ z, z ∈ (a.images.getD i default).terms ∧ u.mono = (leftA m i).add z.mono ∧ ¬ Clash a.degrees (leftA m i) z.mono ∧ (∀ q, q < 8 → 0 ≤ z.mono.get q ∧ z.mono.get q ≤ 20) := fun u hu => by
    obtain ⟨t, z, ht, hz, e, hcl⟩ := ho.mo u hu
    obtain rfl := List.mem_singleton.1 ht
    exact ⟨z, hz, e, hcl, low_get (monoLow (hf.mono hz)) (ff.pos z hz)⟩
  have wown : ∀ u, u ∈ own → WkMono a.degrees u.mono ∧ ∀ q, q < 8 → 0 ≤ u.mono.get q ∧ u.mono.get q ≤ 40 := fun u hu => by
    obtain ⟨z, hz, e, hcl, hz20⟩ := hown u hu
    rw [e]
    refine ⟨wk_add wl (hf.mono hz).wk (fun q hq => (lb q hq).1) (fun q hq => (hz20 q hq).1) (fun q hq => by have := lb q hq; have := hz20 q hq; omega) hcl, fun q hq => ?_⟩
    rw [A8.get_add]
    have := lb q hq
    have := hz20 q hq
    omega
  have lo := len_mul1 ho.ln
  refine m_l01Times hd ho.can (fun u hu => (wown u hu).1) (fun u hu q hq => by have := (wown u hu).2 q hq; omega) (canon1 _) (fun u hu => by obtain rfl := List.mem_singleton.1 hu; exact wb) (fun u hu q hq => by obtain rfl := List.mem_singleton.1 hu; have := bb q hq; dsimp only; omega) (by have := hf.1; omega) (by simp) fun prod hpr => ?_
  have lp : prod.length ≤ 400 := by have h1 := hpr.ln; have := hf.1; simp at h1; omega
  refine m_l01Mod ?_
  rw [hv]
  refine m_l01Add hc hpr.can (dK_bd _ _ _ _) (by omega) (by omega) fun out' hout => h out' ⟨hout.can, fun x => ?_, fun y hy => ?_, by have := hout.ln; omega⟩
  · rw [hout.cf]
    have e1 := tri_of (ds := a.degrees) (l := leftA m i) (b := backA m i) (img := (a.images.getD i default).terms) (own := own) (prod := prod) (fun y => by rw [ho.cf]; simp [prC, tot]) (fun x => hpr.cf x) x
    rw [imgsT_get a hi, Int.add_emod, Int.mul_emod, e1, ← Int.mul_emod, ← Int.add_emod]
  · obtain ⟨z, hz, e⟩ := hout.mo y hy
    rcases hz with hz | hz
    · exact .inl ⟨z, hz, e⟩
    · obtain ⟨t, b, ht, hb, e2, hcl2⟩ := hpr.mo z hz
      obtain rfl := List.mem_singleton.1 hb
      obtain ⟨u, hu, e3, hcl, _⟩ := hown t ht
      refine .inr ⟨i, u, hi8, hp, by rw [imgsT_get a hi]; exact hu, by rw [← e, e2, e3], hcl, ?_⟩
      rw [← e3]; exact hcl2
theorem m_l02D {a : Alg} {f : List Term} {K : Vc.Form → Prop} (ha : AlgF a) (hf : OkForm a.degrees f) (ff : FitT f) (h : ∀ out, IsD a.degrees (imgsT a) f out → out.length ≤ 1280000 → K ⟨out⟩) : f_spec_l02D a ⟨f⟩ K := by
  have hd := ha.deg
  have h8 := hd.1
  have hlen := ha.len
  have hl4 := hf.1
  unfold f_spec_l02D
  dsimp only
  refine whileP_inv (fun (s : List Term × Int) => 0 ≤ s.2 ∧ s.2 ≤ f.length ∧ IsD a.degrees (imgsT a) (f.take s.2.toNat) s.1 ∧ s.1.length ≤ 3200 * s.2.toNat) (fun s => f.length - s.2.toNat) ?_ ⟨Int.le_refl _, by dsimp only; omega, ⟨Canon.nil, by intro x; rfl, by intro y hy; cases hy⟩, by simp⟩
  rintro ⟨out0, k⟩ next ⟨h1, h2, hI, hL⟩ hn
  dsimp only at h1 h2 hI hL hn ⊢
  split
  · rename_i hk
    have kn : k.toNat < f.length := by omega
    refine ⟨by omega, ?_⟩
    have tm := getD_mem kn
    have hm := hf.mono tm
    have pm := ff.pos _ tm
    have hfac := hf.canon.at_range kn
    generalize hgm : (f.getD k.toNat default).mono = m at hm pm ⊢
    generalize hgn : (f.getD k.toNat default).factor = n at hfac ⊢
    have nk : (k + 1).toNat = k.toNat + 1 := by omega
    have wk1 : IntKind.i64.wrap (k + 1) = k + 1 := i64_in _ (by omega)
    refine whileP_inv (fun (s : List Term × Int) => 0 ≤ s.2 ∧ s.2 ≤ a.degrees.length ∧ Canon s.1 ∧ (∀ x, (coT s.1 x + dS a.degrees (imgsT a) m n x (8 - s.2.toNat) s.2.toNat) % 10007 = (tot (fun t => dT a.degrees (imgsT a) t.mono t.factor x) (f.take k.toNat) + dT a.degrees (imgsT a) m n x) % 10007) ∧ (∀ y, y ∈ s.1 → ∃ t, t ∈ f.take (k.toNat + 1) ∧ DMono a.degrees (imgsT a) y.mono t.mono) ∧ s.1.length ≤ 3200 * k.toNat + 400 * s.2.toNat)
      (fun s => a.degrees.length - s.2.toNat) ?_ ⟨Int.le_refl _, by dsimp only; omega, hI.can, fun x => ?_, fun y hy => ?_, by dsimp only; omega⟩
    · rintro ⟨out, i⟩ next' ⟨g1, g2, gc, gf, gm, gl⟩ hn'
      dsimp only at g1 g2 gc gf gm gl hn' ⊢
      have ni : (i + 1).toNat = i.toNat + 1 := by omega
      have wi : IntKind.i64.wrap (i + 1) = i + 1 := i64_in _ (by omega)
      rw [wi, wk1]
      split
      · rename_i hi
        have hin : i.toNat < a.degrees.length := by omega
        have hi8 : i.toNat < 8 := by omega
        have pmi := pm i.toNat hi8
        have hdS : ∀ x, dS a.degrees (imgsT a) m n x (8 - i.toNat) i.toNat = (if m.get i.toNat > 0 then dK a.degrees m n i.toNat * triC a.degrees (leftA m i.toNat) (backA m i.toNat) ((imgsT a).getD i.toNat default) x else 0) + dS a.degrees (imgsT a) m n x (8 - (i.toNat + 1)) (i.toNat + 1) := fun x => by
          rw [show 8 - i.toNat = (8 - (i.toNat + 1)) + 1 by omega]; rfl
        refine ⟨by omega, ?_⟩
        split
        · rename_i he
          refine hn' _ ⟨by dsimp only; omega, by dsimp only; omega, gc, fun x => ?_, gm, by dsimp only; omega⟩ (by dsimp only; omega)
          dsimp only
          rw [ni]
          have := gf x
          rw [hdS, if_neg (by omega), Int.zero_add] at this
          exact this
        · rename_i he
          have hp : 0 < m.get i.toNat := by omega
          refine forN_inv (fun j (s : A8 × A8) => ∀ q, q < 8 → (s.1.get q = if q < j ∧ i.toNat ≤ q then 0 else m.get q) ∧ (s.2.get q = if q < j ∧ q ≤ i.toNat then 0 else m.get q)) 8 ?_ ?_ _ _ _ (by omega) (fun q hq => ⟨by rw [if_neg (by omega)], by rw [if_neg (by omega)]⟩)
          · rintro j ⟨s1, s2⟩ nx hj hs hnx
            dsimp only at hs ⊢
            have fin : ∀ t1 t2 : A8, (∀ q, q < 8 → t1.get q = if q = j ∧ i.toNat ≤ j then 0 else s1.get q) → (∀ q, q < 8 → t2.get q = if q = j ∧ j ≤ i.toNat then 0 else s2.get q) → nx (t1, t2) := fun t1 t2 e1 e2 => hnx _ fun q hq => by
              obtain ⟨a1, a2⟩ := hs q hq
              dsimp only
              rw [e1 q hq, e2 q hq]
              constructor
              · by_cases c1 : q = j ∧ i.toNat ≤ j
                · rw [if_pos c1, if_pos ⟨by omega, by omega⟩]
                · rw [if_neg c1, a1]
                  by_cases c2 : q < j ∧ i.toNat ≤ q
                  · rw [if_pos c2, if_pos ⟨by omega, c2.2⟩]
                  · rw [if_neg c2, if_neg (by omega)]
              · by_cases c1 : q = j ∧ j ≤ i.toNat
                · rw [if_pos c1, if_pos ⟨by omega, by omega⟩]
                · rw [if_neg c1, a2]
                  by_cases c2 : q < j ∧ q ≤ i.toNat
                  · rw [if_pos c2, if_pos ⟨by omega, c2.2⟩]
                  · rw [if_neg c2, if_neg (by omega)]
            have z0 : ∀ (s : A8) q, (s.set j 0).get q = if q = j then 0 else s.get q := fun s q => A8.get_set hj
            split
            · rename_i hge
              split
              · rename_i hle
                exact fin _ _ (fun q hq => by rw [z0]; by_cases e : q = j <;> simp [e]; omega) (fun q hq => by rw [z0]; by_cases e : q = j <;> simp [e]; omega)
              · rename_i hle
                exact fin _ _ (fun q hq => by rw [z0]; by_cases e : q = j <;> simp [e]; omega) (fun q hq => by rw [if_neg (by omega)])
            · rename_i hge
              split
              · rename_i hle
                exact fin _ _ (fun q hq => by rw [if_neg (by omega)]) (fun q hq => by rw [z0]; by_cases e : q = j <;> simp [e]; omega)
              · rename_i hle
                exact fin _ _ (fun q hq => by rw [if_neg (by omega)]) (fun q hq => by rw [if_neg (by omega)])
          · rintro ⟨s1, s2⟩ hs
            have e1 : s1 = frontA m i.toNat := A8.ext_get fun q hq => by
              rw [(hs q hq).1, frontA, A8.get_mkf _ hq]
              by_cases hh : q < i.toNat
              · rw [if_neg (by omega), if_pos hh]
              · rw [if_pos ⟨hq, by omega⟩, if_neg hh]
            have e2 : s2 = backA m i.toNat := A8.ext_get fun q hq => by
              rw [(hs q hq).2, backA, A8.get_mkf _ hq]
              by_cases hh : i.toNat < q
              · rw [if_neg (by omega), if_pos hh]
              · rw [if_pos ⟨hq, by omega⟩, if_neg hh]
            dsimp only
            rw [e1, e2]
            have hw : ∀ q, q < 8 → 0 ≤ (frontA m i.toNat).get q ∧ (frontA m i.toNat).get q ≤ 255 := fun q hq => by
              rw [frontA, A8.get_mkf _ hq]
              have := pm q hq
              split <;> omega
            have hwt : wtU a.degrees (frontA m i.toNat) a.degrees.length = wtU a.degrees m i.toNat := by rw [wtU_front h8 _ (Nat.le_refl _), show min i.toNat a.degrees.length = i.toNat by omega]
            have hwb := wtU_bd hd pm i.toNat (by omega)
            have hml := monoLow hm i.toNat hi8
            have hset : (frontA m i.toNat).set i.toNat (IntKind.u8.wrap (m.get i.toNat - 1)) = leftA m i.toNat := A8.ext_get fun q hq => by
              rw [A8.get_set hi8, u8_in _ (by omega), frontA, leftA, A8.get_mkf _ hq, A8.get_mkf _ hq]
              by_cases e : q = i.toNat
              · subst e; rw [if_pos rfl, if_neg (by omega), if_pos rfl]
              · rw [if_neg e]
                by_cases hh : q < i.toNat
                · rw [if_pos hh, if_pos hh]
                · rw [if_neg hh, if_neg hh, if_neg e]
            rw [hset]
            have hwm : IntKind.i64.wrap (m.get i.toNat) = m.get i.toNat := i64_in _ (by omega)
            have hpb : 0 ≤ n * m.get i.toNat ∧ n * m.get i.toNat ≤ 100120036 := fac_bd (by omega) (by omega)
            rw [hwm, i64_in (n * m.get i.toNat) (by omega), i64_in (0 - n * m.get i.toNat) (by omega)]
            refine ⟨by omega, by omega, by omega, by omega, m_l01Weight hd hw ?_⟩
            rw [hwt]
            have key : ∀ v, v % 10007 = dK a.degrees m n i.toNat → f_spec_l01Single (leftA m i.toNat) 1 (fun r => f_spec_l01Times a.degrees r (a.images.getD i.toNat default) (fun r' => f_spec_l01Single (backA m i.toNat) 1 (fun r2 => f_spec_l01Times a.degrees r' r2 (fun r3 => f_spec_l01Mod v (fun k => f_spec_l01Add ⟨out⟩ r3 k (fun r => next' (r.terms, i + 1))))))) := fun v hv =>
              stepD ha (by omega) hm pm hp gc (by omega) hv fun out' hs' => by
                refine hn' _ ⟨by dsimp only; omega, by dsimp only; omega, hs'.can, fun x => ?_, fun y hy => ?_, by have := hs'.ln; dsimp only; omega⟩ (by dsimp only; omega)
                · dsimp only
                  rw [ni]
                  have b1 := gf x
                  have b2 := hs'.cf x
                  rw [hdS, if_pos (by omega)] at b1
                  omega
                · rcases hs'.mo y hy with ⟨z, hz, e⟩ | hD
                  · obtain ⟨t, ht, q⟩ := gm z hz
                    exact ⟨t, ht, e ▸ q⟩
                  · exact ⟨f.getD k.toNat default, by rw [take_getD kn]; exact List.mem_append_right _ (List.mem_singleton.2 rfl), by rw [hgm]; exact hD⟩
            rcases sg_even hwb.1 with ⟨q1, q2⟩ | ⟨q1, q2⟩
            · rw [if_pos q1]
              refine ⟨by omega, key _ ?_⟩
              unfold dK; rw [q2]; congr 1; omega
            · rw [if_neg q1]
              refine ⟨by omega, key _ ?_⟩
              unfold dK; rw [q2]; congr 1; omega
      · rename_i hi
        refine hn _ ⟨by dsimp only; omega, by dsimp only; omega, ⟨gc, fun x => ?_, fun y hy => ?_⟩, by dsimp only; omega⟩ (by dsimp only; omega)
        · dsimp only
          rw [nk, take_getD kn, tot_append]
          simp only [tot]
          rw [hgm, hgn]
          have := gf x
          rw [dS_end _ _ (fun j hj1 hj2 => (hm j (by omega)).2 (by omega))] at this
          omega
        · dsimp only
          rw [nk]; exact gm y hy
    · dsimp only
      have := hI.cf x
      show (coT out0 x + dT a.degrees (imgsT a) m n x) % 10007 = _
      omega
    · obtain ⟨t, ht, q⟩ := hI.mo y hy
      exact ⟨t, List.mem_of_mem_take (i := k.toNat) (by rw [List.take_take, show min k.toNat (k.toNat + 1) = k.toNat by omega]; exact ht), q⟩
  · rename_i hk
    rw [List.take_of_length_le (by omega)] at hI
    exact h _ hI (by omega)
end Go.Proofs.YtaagfepgbofmlaaGreat
