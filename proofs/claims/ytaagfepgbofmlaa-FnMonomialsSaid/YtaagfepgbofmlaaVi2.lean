/- Plain laws: products of monomials and their lists (as in rows 1 and 3). -/
import Derived.Test.YtaagfepgbofmlaaVi6
set_option linter.unusedVariables false
set_option linter.unusedSimpArgs false
namespace Go.Proofs.Ytaagfepgbofmlaa
open Go Vc
theorem m_IsMonomial {ds : List Int} {a : A8} {K : Bool → Prop} (ha : ∀ i, i < 8 → 0 ≤ a.get i) (h : K (decide (OkDeg ds ∧ OkMono ds a))) : f_impl_IsMonomial ds a K := by
  unfold f_impl_IsMonomial
  refine m_AreDegrees ?_
  split
  · rename_i hd
    have hd : OkDeg ds := by simpa using hd
    refine m_isMonomial hd ha ?_
    simpa [hd] using h
  · rename_i hd
    have hd : ¬ OkDeg ds := by simpa using hd
    simpa [hd] using h
def mulRes (ds : List Int) (a b : A8) : A8 × Int × Int :=
  if OkDeg ds ∧ OkMono ds a ∧ OkMono ds b then (if (joined ds a b).2 ≠ 0 ∧ ¬ OkMono ds (joined ds a b).1 then (A8.zero, 0, 3) else ((joined ds a b).1, (joined ds a b).2, 0)) else (A8.zero, 0, 1)
theorem m_specMul {ds : List Int} {a b : A8} {K : A8 → Int → Int → Prop} (pa : ∀ i, i < 8 → 0 ≤ a.get i) (pb : ∀ i, i < 8 → 0 ≤ b.get i) (h : K (mulRes ds a b).1 (mulRes ds a b).2.1 (mulRes ds a b).2.2) : f_spec_MultiplyMonomials ds a b K := by
  unfold f_spec_MultiplyMonomials
  refine m_l01Degrees ?_
  split
  · rename_i hd
    have hd : ¬ OkDeg ds := by simpa using hd
    simpa [mulRes, hd] using h
  · rename_i hd
    have hd : OkDeg ds := by simpa using hd
    refine m_l01Mono pa hd.1 ?_
    split
    · rename_i ha
      have ha : ¬ OkMono ds a := by simpa using ha
      simpa [mulRes, ha] using h
    · rename_i ha
      have ha : OkMono ds a := by simpa using ha
      refine m_l01Mono pb hd.1 ?_
      split
      · rename_i hb
        have hb : ¬ OkMono ds b := by simpa using hb
        simpa [mulRes, hb] using h
      · rename_i hb
        have hb : OkMono ds b := by simpa using hb
        refine m_l01Joined hd ha.wk hb.wk pa pb ?_
        split
        · rename_i hs
          refine m_l01Mono (joined_pos pa pb) hd.1 ?_
          split
          · rename_i hm
            have hm : ¬ OkMono ds (joined ds a b).1 := by simpa using hm
            simpa [mulRes, hd, ha, hb, hs, hm] using h
          · rename_i hm
            have hm : OkMono ds (joined ds a b).1 := by simpa using hm
            simpa [mulRes, hd, ha, hb, hs, hm] using h
        · rename_i hs
          simpa [mulRes, hd, ha, hb, hs] using h
theorem m_implMul {ds : List Int} {a b : A8} {K : A8 → Int → Int → Prop} (fa : FitA .u8 a) (fb : FitA .u8 b) (h : K (mulRes ds a b).1 (mulRes ds a b).2.1 (mulRes ds a b).2.2) : f_impl_MultiplyMonomials ds a b K := by
  have pa : ∀ i, i < 8 → 0 ≤ a.get i := fun i hi => (fit_u8 (fitA_get fa hi)).1
  have pb : ∀ i, i < 8 → 0 ≤ b.get i := fun i hi => (fit_u8 (fitA_get fb hi)).1
  unfold f_impl_MultiplyMonomials
  refine m_IsMonomial pa ?_
  split
  · rename_i hda
    have hda : ¬ (OkDeg ds ∧ OkMono ds a) := by simpa using hda
    have : ¬ (OkDeg ds ∧ OkMono ds a ∧ OkMono ds b) := fun q => hda ⟨q.1, q.2.1⟩
    simpa only [mulRes, if_neg this] using h
  · rename_i hda
    have hda : OkDeg ds ∧ OkMono ds a := by simpa using hda
    refine m_IsMonomial pb ?_
    split
    · rename_i hdb
      have hdb : ¬ (OkDeg ds ∧ OkMono ds b) := by simpa using hdb
      have : ¬ (OkDeg ds ∧ OkMono ds a ∧ OkMono ds b) := fun q => hdb ⟨q.1, q.2.2⟩
      simpa only [mulRes, if_neg this] using h
    · rename_i hdb
      have hdb : OkDeg ds ∧ OkMono ds b := by simpa using hdb
      obtain ⟨hd, ha⟩ := hda
      have hb := hdb.2
      have hall : OkDeg ds ∧ OkMono ds a ∧ OkMono ds b := ⟨hd, ha, hb⟩
      refine m_powerOf fa (m_powerOf fb (m_times hd ha.wk hb.wk pa pb ?_))
      split
      · rename_i hs
        have hnil : (joined ds a b).1 = A8.zero := by
          unfold joined at hs ⊢; split
          · rfl
          · rename_i hnc; rw [if_neg hnc] at hs; rcases sg_pm (totF ds a b ds.length 0) with e | e <;> (rw [e] at hs; cases hs)
        simpa [mulRes, hall, hs, hnil] using h
      · rename_i hs
        have hm := joined_mono hd ha hb pa pb hs
        have pj := joined_pos (ds := ds) pa pb
        have up : ∀ i, i < 8 → (joined ds a b).1.get i ≤ 1000 := by
          intro i hi
          have := fit_u8 (fitA_get fa hi)
          have := fit_u8 (fitA_get fb hi)
          unfold joined; split
          · simp [A8.get_zero]
          · simp only [A8.get_add]; omega
        refine m_form (by simp [mset]) ?_ ?_ ?_
        · intro p hp
          obtain rfl : p = ((joined ds a b).1, 1) := by simpa [mset] using hp
          intro x hx
          obtain ⟨i, hi, rfl⟩ := A8.mem_list.1 hx
          have := pj i hi
          have := up i hi
          dsimp only; omega
        · rintro ⟨p, hp, i, hi, hgt⟩
          obtain rfl : p = ((joined ds a b).1, 1) := by simpa [mset] using hp
          have hno : ¬ OkMono ds (joined ds a b).1 := fun q => by have := hm.1 q i hi; dsimp only at hgt; omega
          rw [if_pos (by omega)]
          simpa only [mulRes, if_pos hall, if_pos (And.intro hs hno)] using h
        · intro hle xs hp hw
          have hok : OkMono ds (joined ds a b).1 := hm.2 fun i hi => hle ((joined ds a b).1, 1) (by simp [mset]) i hi
          obtain rfl : xs = [(joined ds a b).1] := by simpa [mset] using hp
          rw [if_neg (by omega)]
          refine ⟨by simp, ?_⟩
          simpa [mulRes, hall, hs, hok] using h
theorem m_form1 {p : A8} {K : Vc.Form → Int → Prop} (hp : ∀ i, i < 8 → 0 ≤ p.get i ∧ p.get i ≤ 20) (h : K ⟨[⟨p, 1⟩]⟩ 0) : f_impl_sum_form (mset ([] : List (A8 × Int)) p 1) K := by
  refine m_form (by simp [mset]) ?_ ?_ ?_
  · intro q hq
    obtain rfl : q = (p, 1) := by simpa [mset] using hq
    intro x hx
    obtain ⟨i, hi, rfl⟩ := A8.mem_list.1 hx
    have := hp i hi
    dsimp only; omega
  · rintro ⟨q, hq, i, hi, hgt⟩
    obtain rfl : q = (p, 1) := by simpa [mset] using hq
    have := hp i hi
    dsimp only at hgt; omega
  · intro hle xs hperm hw
    obtain rfl : xs = [p] := by simpa [mset] using hperm
    simpa [mset, mget] using h
/-! ### The list -/
def enumK (g : Int → List A8) : Nat → List A8
  | 0 => []
  | k + 1 => g k ++ enumK g k
def topE (d n : Int) : Int := if d % 2 = 1 then (if 1 < (if 20 < n / d then 20 else n / d) then 1 else (if 20 < n / d then 20 else n / d)) else (if 20 < n / d then 20 else n / d)
def enum (ds : List Int) : Nat → Nat → A8 → Int → List A8
  | 0, _, m, n => if n = 0 then [m] else []
  | f + 1, i, m, n => enumK (fun k => enum ds f (i + 1) (m.set i k) (n - k * ds.getD i default)) ((topE (ds.getD i default) n).toNat + 1)
theorem topE_bd {d n : Int} (hd : 1 ≤ d) (hn : 0 ≤ n) : 0 ≤ topE d n ∧ topE d n ≤ 20 ∧ topE d n * d ≤ n := by
  have h0 : 0 ≤ n / d := Int.ediv_nonneg hn (by omega)
  have h1 : n / d * d ≤ n := Int.ediv_mul_le n (by omega)
  have key : ∀ x : Int, 0 ≤ x → x ≤ n / d → x * d ≤ n := fun x _ hx => Int.le_trans (Int.mul_le_mul_of_nonneg_right hx (by omega)) h1
  have hb : 0 ≤ topE d n ∧ topE d n ≤ 20 ∧ topE d n ≤ n / d := by
    unfold topE
    generalize n / d = q at *
    repeat' split
    all_goals omega
  exact ⟨hb.1, hb.2.1, key _ hb.1 hb.2.2⟩
theorem take_step {g rest l : List A8} (hl : l.length ≤ 401) : l ++ g.take (401 - l.length) ++ rest.take (401 - (l ++ g.take (401 - l.length)).length) = l ++ (g ++ rest).take (401 - l.length) := by
  rw [List.append_assoc, List.take_append, List.length_append, List.length_take]
  congr 3
  omega
theorem set_set {m : A8} {i : Nat} {a b : Int} (hi : i < 8) : (m.set i a).set i b = m.set i b := by
  refine A8.ext_get fun q hq => ?_
  rw [A8.get_set hi, A8.get_set hi, A8.get_set hi]
  split <;> rfl
theorem u8_in' {k : Int} (h : 0 ≤ k ∧ k ≤ 20) : IntKind.u8.wrap k = k := u8_in _ (by omega)
theorem tdiv_top {d n : Int} (hn : 0 ≤ n) : Int.tdiv n d = n / d := Int.tdiv_eq_ediv_of_nonneg hn
theorem m_fill {ds : List Int} (hd : OkDeg ds) : ∀ (f F i : Nat) (m : A8) (n : Int) (l : List A8) (K : List A8 → Prop), i + f = ds.length → f < F → (0 ≤ n ∧ n ≤ 40) → l.length ≤ 400 → K (l ++ (enum ds f i m n).take (401 - l.length)) → f_spec_l01Fill F ds m i n l K := by
  intro f
  induction f with
  | zero =>
    intro F i m n l K hi hF hn hl h
    obtain ⟨F, rfl⟩ : ∃ G, F = G + 1 := ⟨F - 1, by omega⟩
    rw [f_spec_l01Fill.eq_2, if_pos (by omega)]
    unfold enum at h
    split
    · rename_i q
      rw [if_pos q] at h
      refine ⟨by unfold Room; omega, ?_⟩
      rwa [List.take_of_length_le (by simp; omega)] at h
    · rename_i q
      rw [if_neg q] at h
      simpa using h
  | succ f ih =>
    intro F i m n l K hi hF hn hl h
    obtain ⟨F, rfl⟩ : ∃ G, F = G + 1 := ⟨F - 1, by omega⟩
    have h8 := hd.1
    have hdi := hd.2 i (by omega)
    obtain ⟨t0, t20, tn⟩ := topE_bd (d := ds.getD i default) (n := n) hdi.1 hn.1
    have hq0 : 0 ≤ n / ds.getD i default := Int.ediv_nonneg hn.1 (by omega)
    have hq1 : n / ds.getD i default ≤ n := Int.ediv_le_self _ hn.1
    rw [f_spec_l01Fill.eq_2, if_neg (by omega)]
    rw [Int.toNat_natCast, tdiv_top hn.1, i64_in (n / ds.getD i default) (by omega), i64_in ((i : Int) + 1) (by omega)]
    have loop : ∀ (t : Int), topE (ds.getD i default) n = t → whileP (fun (s80 : A8 × (List A8) × Int) next82 => (if s80.2.2 ≥ 0 then (if (s80.2.1.length : Int) ≤ 400 then ((0 ≤ (i : Int) ∧ (i : Int) < 8) ∧ ((0 ≤ (i : Int) ∧ (i : Int) < (ds.length : Int)) ∧ f_spec_l01Fill F ds (s80.1.set i (IntKind.u8.wrap s80.2.2)) ((i : Int) + 1) (IntKind.i64.wrap (n - (IntKind.i64.wrap (s80.2.2 * (ds.getD i default))))) s80.2.1 (fun r105 => next82 (s80.1.set i (IntKind.u8.wrap s80.2.2), r105, IntKind.i64.wrap (s80.2.2 - 1))))) else K s80.2.1) else K s80.2.1)) (m, l, t) := by
      rintro t rfl
      rw [enum] at h
      refine whileP_inv (fun (s : A8 × List A8 × Int) => (∀ b, s.1.set i b = m.set i b) ∧ s.2.1.length ≤ 401 ∧ (-1 ≤ s.2.2 ∧ s.2.2 ≤ topE (ds.getD i default) n) ∧ s.2.1 ++ (enumK (fun k => enum ds f (i + 1) (m.set i k) (n - k * ds.getD i default)) (s.2.2 + 1).toNat).take (401 - s.2.1.length) = l ++ (enumK (fun k => enum ds f (i + 1) (m.set i k) (n - k * ds.getD i default)) ((topE (ds.getD i default) n).toNat + 1)).take (401 - l.length)) (fun s => (s.2.2 + 1).toNat) ?_ ⟨fun _ => rfl, by dsimp only; omega, by dsimp only; omega, by dsimp only; rw [show (topE (ds.getD i default) n + 1).toNat = (topE (ds.getD i default) n).toNat + 1 by omega]⟩
      rintro ⟨x, y, k⟩ next ⟨k1, k2, k3, k4⟩ hx
      dsimp only at k1 k2 k3 k4 hx ⊢
      split
      · rename_i hk
        have hkd0 : 0 ≤ k * ds.getD i default := Int.mul_nonneg hk (by omega)
        have hkd : k * ds.getD i default ≤ n := Int.le_trans (Int.mul_le_mul_of_nonneg_right k3.2 (by omega)) tn
        split
        · rename_i hy
          refine ⟨by omega, by omega, ?_⟩
          rw [u8_in' ⟨hk, by omega⟩, i64_in (k * ds.getD i default) (by omega), i64_in (n - k * ds.getD i default) (by omega), i64_in (k - 1) (by omega), k1 k]
          have e : ((i : Int) + 1) = ((i + 1 : Nat) : Int) := by omega
          rw [e]
          refine ih F (i + 1) _ _ _ _ (by omega) (by omega) (by omega) (by omega) (hx _ ⟨fun b => by dsimp only; rw [set_set (by omega)], ?_, by dsimp only; omega, ?_⟩ (by dsimp only; omega))
          · dsimp only; rw [List.length_append, List.length_take]; omega
          · dsimp only
            rw [← k4, show (k + 1).toNat = k.toNat + 1 by omega, enumK, show (k - 1 + 1).toNat = k.toNat by omega, show ((k.toNat : Nat) : Int) = k by omega]
            exact take_step k2
        · rename_i hy
          have e : y.length = 401 := by omega
          rw [← k4, e] at h
          simpa using h
      · rename_i hk
        rw [← k4, show (k + 1).toNat = 0 by omega] at h
        simpa [enumK] using h
    have ht : Int.tmod (ds.getD i default) 2 = ds.getD i default % 2 := Int.tmod_eq_emod_of_nonneg (by omega)
    rw [ht]
    refine ⟨by omega, by omega, by omega, ?_⟩
    split
    · rename_i q
      refine loop _ ?_
      unfold topE
      rw [if_pos (by omega)]
      clear loop h ih
      generalize n / ds.getD i default = q at *
      repeat' split
      all_goals omega
    · rename_i q
      refine loop _ ?_
      unfold topE
      rw [if_neg (by omega)]
theorem m_from {ds : List Int} (hd : OkDeg ds) : ∀ (f F i : Nat) (m : A8) (n : Int) (l : List A8) (K : List A8 → Prop), i + f = ds.length → f < F → (0 ≤ n ∧ n ≤ 40) → l.length ≤ 401 → K (l ++ (enum ds f i m n).take (401 - l.length)) → f_impl_lister_from F (ds, 400, l) i m n K := by
  intro f
  induction f with
  | zero =>
    intro F i m n l K hi hF hn hl h
    obtain ⟨F, rfl⟩ : ∃ G, F = G + 1 := ⟨F - 1, by omega⟩
    rw [f_impl_lister_from.eq_2]
    dsimp only
    unfold enum at h
    split
    · rename_i q
      rw [show 401 - l.length = 0 by omega] at h
      simpa using h
    · rename_i q
      rw [if_pos (by omega)]
      split
      · rename_i q
        rw [if_pos q] at h
        refine ⟨by unfold Room; omega, ?_⟩
        rwa [List.take_of_length_le (by simp; omega)] at h
      · rename_i q
        rw [if_neg q] at h
        simpa using h
  | succ f ih =>
    intro F i m n l K hi hF hn hl h
    obtain ⟨F, rfl⟩ : ∃ G, F = G + 1 := ⟨F - 1, by omega⟩
    have h8 := hd.1
    have hdi := hd.2 i (by omega)
    obtain ⟨t0, t20, tn⟩ := topE_bd (d := ds.getD i default) (n := n) hdi.1 hn.1
    have hq0 : 0 ≤ n / ds.getD i default := Int.ediv_nonneg hn.1 (by omega)
    have hq1 : n / ds.getD i default ≤ n := Int.ediv_le_self _ hn.1
    rw [f_impl_lister_from.eq_2]
    dsimp only
    split
    · rename_i q
      rw [show 401 - l.length = 0 by omega] at h
      simpa using h
    rw [if_neg (by omega)]
    rw [Int.toNat_natCast, tdiv_top hn.1, i64_in (n / ds.getD i default) (by omega), i64_in ((i : Int) + 1) (by omega)]
    have loop : ∀ (t : Int), topE (ds.getD i default) n = t → whileP (fun (s65 : A8 × (List A8) × Int) next67 => (if s65.2.2 ≥ 0 then ((0 ≤ (i : Int) ∧ (i : Int) < 8) ∧ f_impl_lister_from F (ds, 400, s65.2.1) ((i : Int) + 1) (s65.1.set i s65.2.2) (IntKind.i64.wrap (n - (IntKind.i64.wrap (s65.2.2 * (ds.getD i default))))) (fun m79 => next67 (s65.1.set i s65.2.2, m79, IntKind.i64.wrap (s65.2.2 - 1)))) else K s65.2.1)) (m, l, t) := by
      rintro t rfl
      rw [enum] at h
      refine whileP_inv (fun (s : A8 × List A8 × Int) => (∀ b, s.1.set i b = m.set i b) ∧ s.2.1.length ≤ 401 ∧ (-1 ≤ s.2.2 ∧ s.2.2 ≤ topE (ds.getD i default) n) ∧ s.2.1 ++ (enumK (fun k => enum ds f (i + 1) (m.set i k) (n - k * ds.getD i default)) (s.2.2 + 1).toNat).take (401 - s.2.1.length) = l ++ (enumK (fun k => enum ds f (i + 1) (m.set i k) (n - k * ds.getD i default)) ((topE (ds.getD i default) n).toNat + 1)).take (401 - l.length)) (fun s => (s.2.2 + 1).toNat) ?_ ⟨fun _ => rfl, by dsimp only; omega, by dsimp only; omega, by dsimp only; rw [show (topE (ds.getD i default) n + 1).toNat = (topE (ds.getD i default) n).toNat + 1 by omega]⟩
      rintro ⟨x, y, k⟩ next ⟨k1, k2, k3, k4⟩ hx
      dsimp only at k1 k2 k3 k4 hx ⊢
      split
      · rename_i hk
        have hkd0 : 0 ≤ k * ds.getD i default := Int.mul_nonneg hk (by omega)
        have hkd : k * ds.getD i default ≤ n := Int.le_trans (Int.mul_le_mul_of_nonneg_right k3.2 (by omega)) tn
        refine ⟨by omega, ?_⟩
        rw [i64_in (k * ds.getD i default) (by omega), i64_in (n - k * ds.getD i default) (by omega), i64_in (k - 1) (by omega), k1 k]
        have e : ((i : Int) + 1) = ((i + 1 : Nat) : Int) := by omega
        rw [e]
        refine ih F (i + 1) _ _ _ _ (by omega) (by omega) (by omega) k2 (hx _ ⟨fun b => by dsimp only; rw [set_set (by omega)], ?_, by dsimp only; omega, ?_⟩ (by dsimp only; omega))
        · dsimp only; rw [List.length_append, List.length_take]; omega
        · dsimp only
          rw [← k4, show (k + 1).toNat = k.toNat + 1 by omega, enumK, show (k - 1 + 1).toNat = k.toNat by omega, show ((k.toNat : Nat) : Int) = k by omega]
          exact take_step k2
      · rename_i hk
        rw [← k4, show (k + 1).toNat = 0 by omega] at h
        simpa [enumK] using h
    have ht : Int.tmod (ds.getD i default) 2 = ds.getD i default % 2 := Int.tmod_eq_emod_of_nonneg (by omega)
    rw [ht]
    refine ⟨by omega, by omega, ?_⟩
    split
    · rename_i q
      refine loop _ ?_
      unfold topE
      rw [if_pos q]
    · rename_i q
      refine loop _ ?_
      unfold topE
      rw [if_neg q]
/-! ### The law -/
def Small (p : A8) : Prop := ∀ q, q < 8 → 0 ≤ p.get q ∧ p.get q ≤ 20
theorem enumK_mem {g : Int → List A8} {p : A8} : ∀ {t : Nat}, p ∈ enumK g t → ∃ k : Nat, k < t ∧ p ∈ g k := by
  intro t
  induction t with
  | zero => intro h; simp [enumK] at h
  | succ t ih =>
    intro h
    rw [enumK] at h
    rcases List.mem_append.1 h with h | h
    · exact ⟨t, by omega, h⟩
    · obtain ⟨k, hk, hp⟩ := ih h
      exact ⟨k, by omega, hp⟩
theorem enum_small {ds : List Int} (hd : OkDeg ds) : ∀ (f i : Nat) (m : A8) (n : Int), i + f = ds.length → 0 ≤ n → Small m → ∀ p, p ∈ enum ds f i m n → Small p := by
  intro f
  induction f with
  | zero =>
    intro i m n hi hn hm p hp
    unfold enum at hp
    split at hp
    · rw [List.mem_singleton.1 hp]; exact hm
    · simp at hp
  | succ f ih =>
    intro i m n hi hn hm p hp
    have h8 := hd.1
    have hdi := hd.2 i (by omega)
    obtain ⟨t0, t20, tn⟩ := topE_bd (d := ds.getD i default) (n := n) hdi.1 hn
    rw [enum] at hp
    obtain ⟨k, hk, hp⟩ := enumK_mem hp
    have hkd : (k : Int) * ds.getD i default ≤ n := Int.le_trans (Int.mul_le_mul_of_nonneg_right (by omega) (by omega)) tn
    refine ih (i + 1) _ _ (by omega) (by omega) (fun q hq => ?_) p hp
    rw [A8.get_set (by omega)]
    split
    · omega
    · exact hm q hq
def monoR (ds : List Int) (n : Int) : List A8 := (enum ds ds.length 0 A8.zero n).take 401
theorem monoR_small {ds : List Int} (hd : OkDeg ds) {n : Int} (hn : 0 ≤ n) : ∀ p, p ∈ monoR ds n → Small p := fun p hp => enum_small hd _ _ _ _ (by omega) hn (fun q hq => by rw [A8.get_zero]; omega) p (List.mem_of_mem_take hp)
theorem monoR_len (ds : List Int) (n : Int) : (monoR ds n).length ≤ 401 := by rw [monoR, List.length_take]; omega
theorem m_spec3 {ds : List Int} {n : Int} {K : List A8 → Int → Prop} (h1 : ¬ OkDeg ds → K [] 1) (h2 : OkDeg ds → ¬ (0 ≤ n ∧ n ≤ 40) → K [] 2) (h3 : OkDeg ds → (0 ≤ n ∧ n ≤ 40) → 400 < (monoR ds n).length → K [] 3) (h0 : OkDeg ds → (0 ≤ n ∧ n ≤ 40) → (monoR ds n).length ≤ 400 → K (monoR ds n) 0) : f_spec_MonomialsOf ds n K := by
  unfold f_spec_MonomialsOf f_spec_l01Monomials
  refine m_l01Degrees ?_
  by_cases hd : OkDeg ds
  · rw [if_neg (by simp [hd])]
    refine m_l01In ?_
    by_cases hn : 0 ≤ n ∧ n ≤ 40
    · rw [if_neg (by simp [hn])]
      have h8 := hd.1
      refine m_fill hd ds.length 9 0 A8.zero n [] _ (by omega) (by omega) hn (by simp) ?_
      show if ((monoR ds n).length : Int) > 400 then K [] 3 else K (monoR ds n) 0
      split
      · exact h3 hd hn (by omega)
      · exact h0 hd hn (by omega)
    · rw [if_pos (by simpa using hn)]; exact h2 hd hn
  · rw [if_pos (by simp [hd])]; exact h1 hd
theorem m_first2v {a b v : Int} {K : Int → Prop} (e : (if a ≠ 0 then a else b) = v) (h : K v) : f_impl_first [a, b] K := by
  subst e
  simp only [f_impl_first, forN, List.length_cons, List.length_nil, List.getD_cons_zero, List.getD_cons_succ]
  split
  · rename_i q; rwa [if_pos q] at h
  · rename_i q
    rw [if_neg q] at h
    split
    · exact h
    · rename_i q2; simp only [ne_eq, Decidable.not_not] at q2; rw [← q2]; exact h
theorem m_when0 {b : Bool} {c : Int} {K : Int → Prop} (h : K (if b = true then c else 0)) : f_impl_when b c K := by
  unfold f_impl_when
  split
  · rename_i q; rwa [if_pos q] at h
  · rename_i q; rwa [if_neg q] at h
theorem m_copyAll {R : List A8} {K : List A8 → Prop} (hsm : ∀ p, p ∈ R → Small p) (hR : R.length ≤ 400) (h : K R) : forN (fun i139 (s140 : (List A8)) next143 => f_impl_sum_form (mset ([] : List (A8 × Int)) (R.getD i139 default) 1) (fun r162 r167 => ((0 ≤ (0 : Int) ∧ (0 : Int) < (r162.terms.length : Int)) ∧ (Room (s140.length + 1) 8 ∧ next143 (s140 ++ [(r162.terms.getD 0 default).mono]))))) K R.length 0 [] := by
  refine forN_inv (fun i (s : List A8) => s = R.take i) R.length ?_ ?_ _ _ _ (by omega) (by rfl)
  · intro i s next hi hs hnx
    have hp : Small (R.getD i default) := hsm _ (by rw [List.getD, List.getElem?_eq_getElem hi]; exact List.getElem_mem hi)
    refine m_form1 hp ⟨by simp, by rw [hs, List.length_take]; unfold Room; omega, hnx _ ?_⟩
    rw [hs, List.take_add_one, List.getElem?_eq_getElem hi]
    refine congrArg (List.take i R ++ ·) ?_
    simp [List.getD, List.getElem?_eq_getElem hi]
  · intro s hs
    rw [hs, List.take_length]; exact h
theorem m_monomials {ds : List Int} (hd : OkDeg ds) {n : Int} (hn : 0 ≤ n ∧ n ≤ 40) {K : List A8 → Bool → Prop} (h : K (monoR ds n) (decide (((monoR ds n).length : Int) ≤ 400))) : f_impl_monomials ds n 400 K := by
  unfold f_impl_monomials
  rw [if_pos hn.1]
  have h8 := hd.1
  exact m_from hd ds.length 9 0 A8.zero n [] _ (by omega) (by omega) hn (by simp) h
theorem m_impl3 {ds : List Int} {n : Int} {K : List A8 → Int → Prop} (h1 : ¬ OkDeg ds → K [] 1) (h2 : OkDeg ds → ¬ (0 ≤ n ∧ n ≤ 40) → K [] 2) (h3 : OkDeg ds → (0 ≤ n ∧ n ≤ 40) → 400 < (monoR ds n).length → K [] 3) (h0 : OkDeg ds → (0 ≤ n ∧ n ≤ 40) → (monoR ds n).length ≤ 400 → K (monoR ds n) 0) : f_impl_MonomialsOf ds n K := by
  unfold f_impl_MonomialsOf
  refine m_AreDegrees (m_when0 (m_within (m_when0 ?_)))
  by_cases hd : OkDeg ds
  · by_cases hn : 0 ≤ n ∧ n ≤ 40
    · refine m_first2v (v := 0) (by simp [hd, hn]) ?_
      rw [if_neg (by omega)]
      refine m_monomials hd hn ?_
      have hsm := monoR_small hd hn.1
      by_cases hR : (monoR ds n).length ≤ 400
      · rw [if_neg (by simp; omega)]
        exact m_copyAll hsm hR (h0 hd hn hR)
      · rw [if_pos (by simp; omega)]
        exact h3 hd hn (by omega)
    · refine m_first2v (v := 2) (by simp [hd, hn]) ?_
      rw [if_pos (by omega)]; exact h2 hd hn
  · refine m_first2v (v := 1) (by simp [hd]) ?_
    rw [if_pos (by omega)]; exact h1 hd
end Go.Proofs.Ytaagfepgbofmlaa
