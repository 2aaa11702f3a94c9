/- Plain law of row 42. -/
import Derived.Test.YtaagfepgbofmlaaGreatVj0
set_option linter.unusedVariables false
set_option linter.unusedSimpArgs false
namespace Go.Proofs.YtaagfepgbofmlaaGreat
open Go Vc
/-! ### Marks of derivations -/
theorem m_eqDer {a b : Der} {K : Bool → Prop} (h : K (decide (a = b))) : f_laws_eqDerivation a b K := by
  unfold f_laws_eqDerivation
  by_cases q : a.drop = b.drop
  · refine if_neg' (by simpa using q) (m_eqFormS ?_)
    by_cases r : a.images = b.images
    · rw [decide_eq_true r]
      have e : a = b := by cases a; cases b; simp at q r; simp [q, r]
      rw [decide_eq_true e] at h
      exact if_neg' (by simp) h
    · rw [decide_eq_false r]
      have e : ¬ a = b := fun z => r (by rw [z])
      rw [decide_eq_false e] at h
      exact if_pos' (by simp) h
  · have e : ¬ a = b := fun z => q (by rw [z])
    rw [decide_eq_false e] at h
    exact if_pos' q h
theorem m_eqDers {a b : List Der} {K : Bool → Prop} (h : K (decide (a = b))) : f_laws_eqDerivationS a b K := eq_rows (fun _ _ _ h => m_eqDer h) h
theorem same_Ders {l : List Der} {K : Bool → Prop} (h : K true) : f_laws_eqDerivationS l l K := m_eqDers (by simpa using h)
def SmallDer (d : Der) : Prop := d.images.length ≤ 1000 ∧ cnt d.images ≤ 1000
theorem m_markDers {l : List Der} {m : Int} {K : Int → List Der → Prop} (hm : 0 ≤ m ∧ m ≤ 1000000) (hl : l.length ≤ 1000) (hs : ∀ j, j < l.length → SmallDer (l.getD j default)) (h : ∀ x' n, (∀ K' : Int → Prop, K' n → f_laws_heldDerivationS x' m K') → 0 ≤ n → K n x') : f_laws_markDerivationS l m K := by
  unfold f_laws_markDerivationS
  refine whileP_inv (fun (s : List Der × Int × Int) => s.1.length = l.length ∧ (0 ≤ s.2.2 ∧ s.2.2 ≤ l.length) ∧ (0 ≤ s.2.1 ∧ s.2.1 ≤ 1000000 + 10000 * s.2.2) ∧ (∃ C : Nat → Int, C 0 = m ∧ C s.2.2.toNat = s.2.1 ∧ ∀ j : Nat, (j : Int) < s.2.2 → (0 ≤ C j ∧ C j ≤ 100000000 ∧ 0 ≤ C (j + 1)) ∧ (s.1.getD j default).drop = C j ∧ ∀ K' : Int → Prop, K' (C (j + 1)) → f_laws_heldFormS (s.1.getD j default).images (C j + 1) K') ∧ ∀ j : Nat, s.2.2 ≤ (j : Int) → s.1.getD j default = l.getD j default) (fun s => l.length - s.2.2.toNat) ?_ ⟨rfl, by dsimp only; omega, by dsimp only; omega, ⟨fun _ => m, rfl, rfl, by intro j hj; dsimp only at hj; omega⟩, fun _ _ => rfl⟩
  rintro ⟨x, c, i⟩ next ⟨h1, h2, h3, ⟨C, hC0, hCi, h4⟩, h5⟩ hn
  dsimp only at h1 h2 h3 hCi h4 h5 hn ⊢
  by_cases hi : i < (x.length : Int)
  · refine if_pos' hi ⟨⟨h2.1, hi⟩, ⟨h2.1, by rw [List.length_set]; exact hi⟩, ?_⟩
    have hin : i.toNat < x.length := by omega
    have e1 : (x.set i.toNat (⟨c, (x.getD i.toNat default).images⟩ : Der)).getD i.toNat default = ⟨c, (x.getD i.toNat default).images⟩ := by rw [set_getD hin, if_pos rfl]
    rw [e1]
    dsimp only
    have hx := h5 i.toNat (by omega)
    obtain ⟨s1, s2⟩ := hs i.toNat (by omega)
    rw [hx, i64_in (c + 1) (by omega)]
    refine m_markForms (by omega) (fun y n n0 n1 hh => ?_) (by omega)
    rw [List.set_set, i64_in (i + 1) (by omega)]
    refine hn _ ⟨by simpa using h1, by dsimp only; omega, by dsimp only; omega, ⟨fun q => if q ≤ i.toNat then C q else n, ?_, ?_, fun j hj => ?_⟩, fun j hj => ?_⟩ (by dsimp only; omega)
    · dsimp only; rw [if_pos (by omega)]; exact hC0
    · dsimp only; rw [if_neg (by omega)]
    · dsimp only at hj ⊢
      rw [set_getD hin]
      by_cases e : j = i.toNat
      · subst e
        rw [if_pos rfl, if_pos (Nat.le_refl _), if_neg (by omega), hCi]
        exact ⟨⟨by omega, by omega, n0⟩, rfl, hh⟩
      · rw [if_neg e, if_pos (by omega), if_pos (by omega)]
        exact h4 j (by omega)
    · dsimp only at hj ⊢
      rw [set_getD hin, if_neg (by omega)]
      exact h5 j (by omega)
  · refine if_neg' hi (h x c (fun K' hK' => ?_) h3.1)
    unfold f_laws_heldDerivationS
    refine forN_inv (fun j (s : Int) => s = C j) x.length ?_ ?_ _ _ _ (by omega) hC0.symm
    · intro j s next hj hsj hn'
      obtain ⟨g0, g1, g2⟩ := h4 j (by omega)
      rw [hsj]
      refine if_neg' (by rw [g1]; simp) ?_
      rw [i64_in (C j + 1) (by omega)]
      refine g2 _ (if_neg' (by omega) (hn' _ rfl))
    · intro s hsj
      rw [hsj, show x.length = i.toNat by omega, hCi]; exact hK'
theorem m_form1 {p : A8} {K : Vc.Form → Int → Prop} (hp : ∀ i, i < 8 → 0 ≤ p.get i ∧ p.get i ≤ 20) (h : K ⟨[⟨p, 1⟩]⟩ 0) : f_impl_sum_form (mset ([] : List (A8 × Int)) p 1) K := by
  refine m_form (by simp [mset]) ?_ ?_ ?_
  · intro q hq
    obtain rfl : q = (p, 1) := by simpa [mset] using hq
    intro x hx
    obtain ⟨i, hi, rfl⟩ := A8.mem_list.1 hx
    have := hp i hi
    dsimp only; omega
  · rintro ⟨q, hq, i, hi, hgt⟩
    obtain rfl : q = (p, 1) := by simpa [mset] using hq
    have := hp i hi
    dsimp only at hgt; omega
  · intro hle xs hperm hw
    obtain rfl : xs = [p] := by simpa [mset] using hperm
    simpa [mset, mget] using h
/-! ### The list of elementary derivations -/
theorem m_first2 {a b : Int} {K : Int → Prop} (h : K (if a ≠ 0 then a else b)) : f_impl_first [a, b] K := by
  simp only [f_impl_first, forN, List.length_cons, List.length_nil, List.getD_cons_zero, List.getD_cons_succ]
  split
  · rename_i q; rwa [if_pos q] at h
  · rename_i q
    rw [if_neg q] at h
    split
    · exact h
    · rename_i q2
      have q2 : b = 0 := Decidable.not_not.1 q2
      rwa [q2] at h
def monsK (ds : List Int) (k : Int) (j : Nat) : List A8 := mons ds (ds.getD j default - k)
def totE (ds : List Int) (k : Int) : Nat → Nat
  | 0 => 0
  | j + 1 => totE ds k j + (monsK ds k j).length
def elemsE (ds : List Int) (k : Int) : Nat → List Elem
  | 0 => []
  | j + 1 => elemsE ds k j ++ (monsK ds k j).map fun m => ⟨(j : Int), m⟩
theorem elems_len (ds : List Int) (k : Int) : ∀ j, (elemsE ds k j).length = totE ds k j
  | 0 => rfl
  | j + 1 => by rw [elemsE, totE, List.length_append, List.length_map, elems_len ds k j]
theorem tot_mono (ds : List Int) (k : Int) (j : Nat) : ∀ n, j ≤ n → totE ds k j ≤ totE ds k n := by
  intro n
  induction n with
  | zero => intro h; obtain rfl : j = 0 := by omega
            exact Nat.le_refl _
  | succ n ih =>
    intro h
    by_cases e : j = n + 1
    · subst e; exact Nat.le_refl _
    · have := ih (by omega); rw [totE]; omega
theorem elems_mem (ds : List Int) (k : Int) (hd : OkDeg ds) : ∀ n, n ≤ ds.length → ∀ e, e ∈ elemsE ds k n → (0 ≤ e.gen ∧ e.gen < n) ∧ Small e.mono := by
  intro n
  induction n with
  | zero => intro _ e he; simp [elemsE] at he
  | succ n ih =>
    intro hn e he
    rw [elemsE] at he
    rcases List.mem_append.1 he with q | q
    · obtain ⟨a1, a2⟩ := ih (by omega) e q; exact ⟨⟨a1.1, by omega⟩, a2⟩
    · obtain ⟨m, hm, rfl⟩ := List.mem_map.1 q
      exact ⟨⟨by dsimp only; omega, by dsimp only; omega⟩, mons_small hd m hm⟩
theorem degK {ds : List Int} (hd : OkDeg ds) {k : Int} (hk : 0 ≤ k ∧ k ≤ 12) {j : Nat} (hj : j < ds.length) : IntKind.i64.wrap (ds.getD j default - k) = ds.getD j default - k := by
  have := hd.2 j hj; exact i64_in _ (by omega)
theorem map_take_step {α β : Type} [Inhabited α] (f : α → β) {l : List α} {i : Nat} (h : i < l.length) : (l.take (i + 1)).map f = (l.take i).map f ++ [f (l.getD i default)] := by
  rw [take_getD h, List.map_append]; rfl
theorem m_elementaries {a : Alg} {k : Int} {K : List Elem → Int → Prop} (hd : OkDeg a.degrees) (hk : 0 ≤ k ∧ k ≤ 12) (h1 : totE a.degrees k a.degrees.length ≤ 120 → K (elemsE a.degrees k a.degrees.length) 0) (h2 : ¬ totE a.degrees k a.degrees.length ≤ 120 → K [] 3) : f_impl_Algebra_elementaries a k K := by
  unfold f_impl_Algebra_elementaries
  have h8 := hd.1
  refine forN_inv (fun i s => s = elemsE a.degrees k i ∧ totE a.degrees k i ≤ 120) a.degrees.length ?_ ?_ _ _ _ (by omega) ⟨rfl, by simp [totE]⟩
  · rintro i s next hi ⟨rfl, ht⟩ hn
    have hdi := hd.2 i hi
    have hm := tot_mono a.degrees k (i + 1) a.degrees.length (by omega)
    rw [totE] at hm
    rw [degK hd hk hi]
    refine m_mons120 hd (by omega) (fun hf => ?_) (fun no l => ?_)
    · have hf' : (monsK a.degrees k i).length ≤ 120 := hf
      refine if_neg' (by simp) ?_
      rw [elems_len]
      show if IntKind.i64.wrap (((totE a.degrees k i : Nat) : Int) + ((monsK a.degrees k i).length : Int)) > 120 then _ else _
      rw [i64_in _ (by omega)]
      by_cases q : ((totE a.degrees k i : Nat) : Int) + ((monsK a.degrees k i).length : Int) > 120
      · exact if_pos' q (h2 (by omega))
      · refine if_neg' q ?_
        refine forN_inv (fun j s => s = elemsE a.degrees k i ++ ((monsK a.degrees k i).take j).map fun m => ⟨(i : Int), m⟩) (monsK a.degrees k i).length ?_ ?_ _ _ _ (Nat.zero_add _) (by simp)
        · rintro j s nx hj rfl hnx
          refine ⟨?_, hnx _ ?_⟩
          · rw [List.length_append, List.length_map, List.length_take, elems_len]; unfold Room; omega
          · rw [map_take_step _ hj, ← List.append_assoc]; rfl
        · rintro s rfl
          rw [List.take_length]
          exact hn _ ⟨rfl, by rw [totE]; omega⟩
    · have no' : ¬ (monsK a.degrees k i).length ≤ 120 := no
      exact if_pos' (by simp) (h2 (by omega))
  · rintro s ⟨rfl, ht⟩; exact h1 ht
def cmin (ds : List Int) (k : Int) : Nat → Nat
  | 0 => 0
  | j + 1 => cmin ds k j + min 401 (monsK ds k j).length
theorem cmin_bd (ds : List Int) (k : Int) : ∀ j, cmin ds k j ≤ 401 * j
  | 0 => Nat.le_refl _
  | j + 1 => by have := cmin_bd ds k j; rw [cmin]; omega
theorem cmin_iff (ds : List Int) (k : Int) : ∀ j, cmin ds k j ≤ 120 ↔ totE ds k j ≤ 120
  | 0 => Iff.rfl
  | j + 1 => by
    have h := cmin_iff ds k j
    have : cmin ds k j ≤ totE ds k j := by
      clear h
      induction j with
      | zero => exact Nat.le_refl _
      | succ j ih => rw [cmin, totE]; omega
    have eq : totE ds k j ≤ 120 → cmin ds k j = totE ds k j := by
      clear h this
      induction j with
      | zero => intro _; rfl
      | succ j ih => intro q; rw [totE] at q; rw [cmin, totE, ih (by omega)]; omega
    rw [cmin, totE]
    by_cases q : totE ds k j ≤ 120
    · rw [eq q]; omega
    · have : ¬ cmin ds k j ≤ 120 := fun z => q (h.1 z)
      omega
theorem m_l09Count {a : Alg} {k : Int} {K : Int → Prop} (hd : OkDeg a.degrees) (hk : 0 ≤ k ∧ k ≤ 12) (h : K (cmin a.degrees k a.degrees.length)) : f_spec_l09Count a k K := by
  unfold f_spec_l09Count
  have h8 := hd.1
  refine whileP_inv (fun (s : Int × Int) => (0 ≤ s.2 ∧ s.2 ≤ a.degrees.length) ∧ s.1 = cmin a.degrees k s.2.toNat) (fun s => a.degrees.length - s.2.toNat) ?_ ⟨by dsimp only; omega, rfl⟩
  rintro ⟨c, i⟩ next ⟨g1, g2⟩ hn
  dsimp only at g1 g2 hn ⊢
  subst g2
  have hb := cmin_bd a.degrees k i.toNat
  by_cases hi : i < (a.degrees.length : Int)
  · refine if_pos' hi ⟨⟨g1.1, hi⟩, ?_⟩
    have hdi := hd.2 i.toNat (by omega)
    rw [i64_in (i + 1) (by omega)]
    have hstep : cmin a.degrees k (i + 1).toNat = cmin a.degrees k i.toNat + min 401 (monsK a.degrees k i.toNat).length := by
      rw [show (i + 1).toNat = i.toNat + 1 by omega, cmin]
    by_cases q : a.degrees.getD i.toNat default ≥ k
    · refine if_pos' q ⟨⟨g1.1, hi⟩, ?_⟩
      rw [degK hd hk (by omega)]
      refine m_l01Mons hd (by omega) ?_
      show next (IntKind.i64.wrap (((cmin a.degrees k i.toNat : Nat) : Int) + (((monsK a.degrees k i.toNat).take 401).length : Int)), i + 1)
      rw [List.length_take, i64_in _ (by omega)]
      exact hn _ ⟨by dsimp only; omega, by dsimp only; rw [hstep]; omega⟩ (by dsimp only; omega)
    · refine if_neg' q (hn _ ⟨by dsimp only; omega, ?_⟩ (by dsimp only; omega))
      dsimp only
      have e : monsK a.degrees k i.toNat = [] := by unfold monsK mons; rw [if_pos (by omega)]
      rw [hstep, e]; rfl
  · refine if_neg' hi ?_
    rw [show i.toNat = a.degrees.length by omega]; exact h
theorem m_l09Code {a : Alg} {k : Int} {K : Int → Prop} (hf : FitAlg a) (h1 : ¬ OkAlg a → K 1) (h2 : OkAlg a → ¬ (0 ≤ k ∧ k ≤ 12) → K 2) (h3 : OkAlg a → (0 ≤ k ∧ k ≤ 12) → ¬ totE a.degrees k a.degrees.length ≤ 120 → K 3) (h0 : OkAlg a → (0 ≤ k ∧ k ≤ 12) → totE a.degrees k a.degrees.length ≤ 120 → K 0) : f_spec_l09Code a k 0 12 0 K := by
  unfold f_spec_l09Code
  refine m_l02Is hf (fun ok => ?_) (fun no => if_pos' (by simp) (h1 no))
  refine if_neg' (by simp) (m_l01In ?_)
  by_cases hk : 0 ≤ k ∧ k ≤ 12
  · rw [decide_eq_true hk]
    refine if_neg' (by simp) ?_
    rw [i64_in (k - 1) (by omega), i64_in (k + 0) (by omega)]
    have ht := cmin_iff a.degrees k a.degrees.length
    refine whileP_inv (fun (s : Int) => (0 ≤ s ∧ k - 1 ≤ s ∧ s ≤ k + 1) ∧ (s = k + 1 → totE a.degrees k a.degrees.length ≤ 120)) (fun s => (k + 2 - s).toNat) ?_ ?_
    · rintro s next ⟨g1, g2⟩ hn
      by_cases q : s ≤ k + 0
      · refine if_pos' q ?_
        rw [i64_in (s + 1) (by omega)]
        by_cases q2 : s ≥ k
        · obtain rfl : s = k := by omega
          refine if_pos' q2 (m_l09Count ok.deg hk ?_)
          by_cases q3 : ((cmin a.degrees s a.degrees.length : Nat) : Int) > 120
          · exact if_pos' q3 (h3 ok hk (fun z => by have := ht.2 z; omega))
          · exact if_neg' q3 (hn _ ⟨by omega, fun _ => ht.1 (by omega)⟩ (by omega))
        · exact if_neg' q2 (if_neg' (by decide) (hn _ ⟨by omega, fun z => by omega⟩ (by omega)))
      · exact if_neg' q (h0 ok hk (g2 (by omega)))
    · by_cases q : k - 1 < 0
      · rw [if_pos q]; exact ⟨by omega, fun z => by omega⟩
      · rw [if_neg q]; exact ⟨by omega, fun z => by omega⟩
  · rw [decide_eq_false hk]
    exact if_pos' (by simp) (h2 ok hk)
def derE (n : Nat) (k : Int) (e : Elem) : Der := ⟨k, (List.replicate n (⟨[]⟩ : Vc.Form)).set e.gen.toNat ⟨[⟨e.mono, 1⟩]⟩⟩
theorem m_l09Elementary {a : Alg} {k : Int} {K : List Der → Prop} (hd : OkDeg a.degrees) (hk : 0 ≤ k ∧ k ≤ 12) (ht : totE a.degrees k a.degrees.length ≤ 120) (h : K ((elemsE a.degrees k a.degrees.length).map (derE a.degrees.length k))) : f_spec_l09Elementary a k K := by
  unfold f_spec_l09Elementary
  have h8 := hd.1
  refine whileP_inv (fun (s : List Der × Int) => (0 ≤ s.2 ∧ s.2 ≤ a.degrees.length) ∧ s.1 = (elemsE a.degrees k s.2.toNat).map (derE a.degrees.length k)) (fun s => a.degrees.length - s.2.toNat) ?_ ⟨by dsimp only; omega, rfl⟩
  rintro ⟨c, i⟩ next ⟨g1, g2⟩ hn
  dsimp only at g1 g2 hn ⊢
  subst g2
  by_cases hi : i < (a.degrees.length : Int)
  · refine if_pos' hi ⟨⟨g1.1, hi⟩, ?_⟩
    have hdi := hd.2 i.toNat (by omega)
    rw [i64_in (i + 1) (by omega)]
    have hstep : (elemsE a.degrees k (i + 1).toNat).map (derE a.degrees.length k) = (elemsE a.degrees k i.toNat).map (derE a.degrees.length k) ++ (monsK a.degrees k i.toNat).map (fun m => derE a.degrees.length k ⟨((i.toNat : Nat) : Int), m⟩) := by
      rw [show (i + 1).toNat = i.toNat + 1 by omega, elemsE, List.map_append, List.map_map]; rfl
    have hm1 := tot_mono a.degrees k (i.toNat + 1) a.degrees.length (by omega)
    rw [totE] at hm1
    by_cases q : a.degrees.getD i.toNat default < k
    · refine if_pos' q (hn _ ⟨by dsimp only; omega, ?_⟩ (by dsimp only; omega))
      dsimp only
      have e : monsK a.degrees k i.toNat = [] := by unfold monsK mons; rw [if_pos (by omega)]
      rw [hstep, e, List.map_nil, List.append_nil]
    · refine if_neg' q ⟨⟨g1.1, hi⟩, ?_⟩
      rw [degK hd hk (by omega)]
      refine m_l01Mons hd (by omega) ?_
      have et : (mons a.degrees (a.degrees.getD i.toNat default - k)).take 401 = monsK a.degrees k i.toNat := List.take_of_length_le (by show (monsK a.degrees k i.toNat).length ≤ 401; omega)
      rw [et]
      refine forN_inv (fun j s => s = (elemsE a.degrees k i.toNat).map (derE a.degrees.length k) ++ ((monsK a.degrees k i.toNat).take j).map (fun m => derE a.degrees.length k ⟨((i.toNat : Nat) : Int), m⟩)) (monsK a.degrees k i.toNat).length ?_ ?_ _ _ _ (by omega) (by simp)
      · rintro j s nx hj rfl hnx
        refine ⟨⟨by omega, by omega⟩, m_l01Single1 ⟨⟨g1.1, ?_⟩, ?_, hnx _ ?_⟩⟩
        · rw [List.length_replicate]; omega
        · rw [List.length_append, List.length_map, List.length_map, List.length_take, elems_len]; unfold Room; omega
        · rw [map_take_step _ hj, ← List.append_assoc, Int.toNat_natCast]
          simp only [derE, Int.toNat_natCast]
      · rintro s rfl
        rw [List.take_length]
        exact hn _ ⟨by dsimp only; omega, by dsimp only; rw [hstep]⟩ (by dsimp only; omega)
  · refine if_neg' hi ?_
    rw [show i.toNat = a.degrees.length by omega]; exact h
theorem m_formNil {K : Vc.Form → Int → Prop} (h : K ⟨[]⟩ 0) : f_impl_sum_form ([] : List (A8 × Int)) K := by
  refine m_formG MapOk.nil (by simp) fun l cl cc _ => ?_
  obtain rfl : l = [] := canon_ext _ _ cl Canon.nil (fun m => cc m)
  exact h
def sumsE (n : Nat) (e : Elem) : List (List (A8 × Int)) := (List.range n).map fun (i : Nat) => if (i : Int) = e.gen then mset ([] : List (A8 × Int)) e.mono 1 else []
def formsE (n : Nat) (e : Elem) : List Vc.Form := (List.range n).map fun (i : Nat) => if (i : Int) = e.gen then ⟨[⟨e.mono, 1⟩]⟩ else ⟨[]⟩
theorem formsE_set {n : Nat} {e : Elem} (h : 0 ≤ e.gen ∧ e.gen < n) : formsE n e = (List.replicate n (⟨[]⟩ : Vc.Form)).set e.gen.toNat ⟨[⟨e.mono, 1⟩]⟩ := by
  refine List.ext_getElem (by simp [formsE]) fun i h1 h2 => ?_
  simp only [formsE, List.getElem_map, List.getElem_range, List.getElem_set, List.getElem_replicate]
  by_cases q : (i : Int) = e.gen
  · rw [if_pos q, if_pos (by omega)]
  · rw [if_neg q, if_neg (by omega)]
theorem range_step {β : Type} (f : Nat → β) (i : Nat) : (List.range (i + 1)).map f = (List.range i).map f ++ [f i] := by
  rw [List.range_succ, List.map_append]; rfl
theorem m_deriveForms {n : Nat} {a : Alg} {k : Int} {e : Elem} {K : Der → Int → Prop} (hn : n ≤ 8) (he : 0 ≤ e.gen ∧ e.gen < n) (hs : Small e.mono) (hk : k ≤ 12) (h : K (derE n k e) 0) : f_impl_derive_forms (⟨a, k, sumsE n e⟩ : Vc.Derive) K := by
  unfold f_impl_derive_forms
  have hl : (sumsE n e).length = n := by simp [sumsE]
  dsimp only
  rw [hl]
  refine forN_inv (fun i s => s = (List.range i).map fun (i : Nat) => if (i : Int) = e.gen then (⟨[⟨e.mono, 1⟩]⟩ : Vc.Form) else ⟨[]⟩) n ?_ ?_ _ _ _ (by omega) rfl
  · rintro i s next hi rfl hnx
    have hg : (sumsE n e).getD i default = if (i : Int) = e.gen then mset ([] : List (A8 × Int)) e.mono 1 else [] := by
      simp [sumsE, List.getD, hi]
    rw [hg]
    by_cases q : (i : Int) = e.gen
    · rw [if_pos q]
      refine m_form1 hs (if_neg' (by decide) ⟨?_, hnx _ ?_⟩)
      · simp [Room]; omega
      · rw [range_step, if_pos q]
    · rw [if_neg q]
      refine m_formNil (if_neg' (by decide) ⟨?_, hnx _ ?_⟩)
      · simp [Room]; omega
      · rw [range_step, if_neg q]
  · rintro s rfl
    refine m_when ?_
    rw [decide_eq_false (by omega)]
    have : (⟨k, formsE n e⟩ : Der) = derE n k e := by rw [formsE_set he]; rfl
    rw [← this] at h
    exact h
theorem m_implElem {a : Alg} {k : Int} {K : List Der → Int → Prop} (hf : FitAlg a) (h1 : ¬ OkAlg a → K [] 1) (h2 : OkAlg a → ¬ (0 ≤ k ∧ k ≤ 12) → K [] 2) (h3 : OkAlg a → (0 ≤ k ∧ k ≤ 12) → ¬ totE a.degrees k a.degrees.length ≤ 120 → K [] 3) (h0 : OkAlg a → (0 ≤ k ∧ k ≤ 12) → totE a.degrees k a.degrees.length ≤ 120 → K ((elemsE a.degrees k a.degrees.length).map (derE a.degrees.length k)) 0) : f_impl_ElementaryDerivations a k K := by
  unfold f_impl_ElementaryDerivations
  refine m_algebraCode0 hf (fun ok => ?_) (fun no => ?_)
  · refine m_within (m_when (m_first2 ?_))
    by_cases hk : 0 ≤ k ∧ k ≤ 12
    · have e : (if (0 : Int) ≠ 0 then (0 : Int) else if (!decide (0 ≤ k ∧ k ≤ 12)) = true then 2 else 0) = 0 := by rw [decide_eq_true hk]; rfl
      rw [e]
      refine if_neg' (by decide) (m_elementaries ok.deg hk (fun ht => ?_) (fun nt => if_pos' (by decide) (h3 ok hk nt)))
      refine if_neg' (by decide) ?_
      have h8 := ok.deg.1
      have hlen := elems_len a.degrees k a.degrees.length
      refine forN_inv (fun i s => s = ((elemsE a.degrees k a.degrees.length).take i).map (derE a.degrees.length k)) (elemsE a.degrees k a.degrees.length).length ?_ ?_ _ _ _ (by omega) rfl
      · rintro i s next hi rfl hn
        obtain ⟨hg, hsm⟩ := elems_mem a.degrees k ok.deg a.degrees.length (Nat.le_refl _) _ (getD_mem hi)
        refine forN_inv (fun j (t : List (List (A8 × Int))) => t = (List.range j).map fun (q : Nat) => if (q : Int) = ((elemsE a.degrees k a.degrees.length).getD i default).gen then mset ([] : List (A8 × Int)) ((elemsE a.degrees k a.degrees.length).getD i default).mono 1 else []) a.degrees.length ?_ ?_ _ _ _ (by omega) rfl
        · rintro j t nx hj rfl hnx
          by_cases q : (j : Int) = ((elemsE a.degrees k a.degrees.length).getD i default).gen
          · refine if_pos' q ⟨by simp [Room]; omega, hnx _ ?_⟩
            rw [range_step, if_pos q]
          · refine if_neg' q ⟨by simp [Room]; omega, hnx _ ?_⟩
            rw [range_step, if_neg q]
        · rintro t rfl
          refine m_deriveForms h8 hg hsm hk.2 ⟨?_, hn _ ?_⟩
          · rw [List.length_map, List.length_take]; unfold Room; omega
          · rw [map_take_step _ hi]
      · rintro s rfl
        rw [List.take_length]; exact h0 ok hk ht
    · have e : (if (0 : Int) ≠ 0 then (0 : Int) else if (!decide (0 ≤ k ∧ k ≤ 12)) = true then 2 else 0) = 2 := by rw [decide_eq_false hk]; rfl
      rw [e]
      exact if_pos' (by decide) (h2 ok hk)
  · refine m_within (m_when (m_first2 ?_))
    have e : (if (1 : Int) ≠ 0 then (1 : Int) else if (!decide (0 ≤ k ∧ k ≤ 12)) = true then 2 else 0) = 1 := if_pos (by decide)
    rw [e]
    exact if_pos' (by decide) (h1 no)
theorem m_specElem {a : Alg} {k : Int} {K : List Der → Int → Prop} (hf : FitAlg a) (h1 : ¬ OkAlg a → K [] 1) (h2 : OkAlg a → ¬ (0 ≤ k ∧ k ≤ 12) → K [] 2) (h3 : OkAlg a → (0 ≤ k ∧ k ≤ 12) → ¬ totE a.degrees k a.degrees.length ≤ 120 → K [] 3) (h0 : OkAlg a → (0 ≤ k ∧ k ≤ 12) → totE a.degrees k a.degrees.length ≤ 120 → K ((elemsE a.degrees k a.degrees.length).map (derE a.degrees.length k)) 0) : f_spec_ElementaryDerivations a k K := by
  unfold f_spec_ElementaryDerivations
  refine m_l09Code hf (fun no => if_pos' (by decide) (h1 no)) (fun ok no => if_pos' (by decide) (h2 ok no)) (fun ok hk no => if_pos' (by decide) (h3 ok hk no)) (fun ok hk ht => ?_)
  exact if_neg' (by decide) (m_l09Elementary ok.deg hk ht (h0 ok hk ht))
theorem cnt_derE {n : Nat} {k : Int} {e : Elem} (hn : n ≤ 8) : SmallDer (derE n k e) := by
  refine ⟨?_, ?_⟩
  · show ((List.replicate n _).set _ _).length ≤ 1000
    rw [List.length_set, List.length_replicate]; omega
  · have := cnt_bd (fs := (derE n k e).images) (B := 1) (fun i hi => ?_)
    · have hl : (derE n k e).images.length = n := by show ((List.replicate n _).set _ _).length = n; rw [List.length_set, List.length_replicate]
      rw [hl] at this; omega
    · show (((List.replicate n (⟨[]⟩ : Vc.Form)).set e.gen.toNat ⟨[⟨e.mono, 1⟩]⟩).getD i default).terms.length ≤ 1
      have hi' : i < ((List.replicate n (⟨[]⟩ : Vc.Form)).set e.gen.toNat ⟨[⟨e.mono, 1⟩]⟩).length := hi
      rw [List.getD, List.getElem?_eq_getElem hi', Option.getD_some, List.getElem_set, List.getElem_replicate]
      split <;> simp
theorem p_ElementaryDerivations (a0 : Alg) (a1 : Int) (hg : GoodAlg a0) (g1 : (Lit.int .i64 a1).wf = true) (hb : LenAlg a0) : f_laws_FnExactElementaryDerivations a0 a1 (fun r => r = true) := by
  unfold f_laws_FnExactElementaryDerivations
  refine m_szAlgebra hb (fun r hr d1 d2 d3 => ?_) (fun r hr => by rw [if_pos hr])
  rw [if_neg (by omega)]
  have hf := hg.fit d3
  obtain ⟨x, y, s1, s2, s3, s4⟩ : ∃ x y, (∀ K : List Der → Int → Prop, K x y → f_spec_ElementaryDerivations a0 a1 K) ∧ (∀ K : List Der → Int → Prop, K x y → f_impl_ElementaryDerivations a0 a1 K) ∧ x.length ≤ 1000 ∧ ∀ j, j < x.length → SmallDer (x.getD j default) := by
    by_cases ok : OkAlg a0
    · by_cases hk : 0 ≤ a1 ∧ a1 ≤ 12
      · by_cases ht : totE a0.degrees a1 a0.degrees.length ≤ 120
        · refine ⟨_, 0, fun K h => m_specElem hf (fun z => absurd ok z) (fun _ z => absurd hk z) (fun _ _ z => absurd ht z) (fun _ _ _ => h), fun K h => m_implElem hf (fun z => absurd ok z) (fun _ z => absurd hk z) (fun _ _ z => absurd ht z) (fun _ _ _ => h), ?_, fun j hj => ?_⟩
          · rw [List.length_map, elems_len]; omega
          · rw [List.getD, List.getElem?_eq_getElem hj, Option.getD_some, List.getElem_map]
            exact cnt_derE ok.deg.1
        · exact ⟨[], 3, fun K h => m_specElem hf (fun z => absurd ok z) (fun _ z => absurd hk z) (fun _ _ _ => h) (fun _ _ z => absurd z ht), fun K h => m_implElem hf (fun z => absurd ok z) (fun _ z => absurd hk z) (fun _ _ _ => h) (fun _ _ z => absurd z ht), by simp, by simp⟩
      · exact ⟨[], 2, fun K h => m_specElem hf (fun z => absurd ok z) (fun _ _ => h) (fun _ z => absurd z hk) (fun _ z => absurd z hk), fun K h => m_implElem hf (fun z => absurd ok z) (fun _ _ => h) (fun _ z => absurd z hk) (fun _ z => absurd z hk), by simp, by simp⟩
    · exact ⟨[], 1, fun K h => m_specElem hf (fun _ => h) (fun z => absurd z ok) (fun z => absurd z ok) (fun z => absurd z ok), fun K h => m_implElem hf (fun _ => h) (fun z => absurd z ok) (fun z => absurd z ok) (fun z => absurd z ok), by simp, by simp⟩
  refine m_toAlgebra d1 d2 d3 (s1 _ (m_toAlgebra d1 d2 d3 (s2 _ (same_Ders (not_no (ne_no (m_toAlgebra d1 d2 d3 (same_Algebra (not_no ?_)))))))))
  refine m_markAlgebraN (by omega) d1 d2 d3 fun x0 n0 n1 n2 => ?_
  refine lt_no (by omega) (same_Ders (not_no ?_))
  refine m_markDers (by omega) s3 s4 fun x' n hh hn => ?_
  refine hh _ (lt_no hn (ne_no ?_))
  refine m_toAlgebra (a := a0) d1 d2 d3 (s2 _ (same_Ders (not_no (ne_no ?_))))
  exact hh _ (lt_no hn (ne_no rfl))
end Go.Proofs.YtaagfepgbofmlaaGreat
