/- Plain laws: the monomials of a degree, listed up to a bound. -/
import Derived.Test.YtaagfepgbofmlaaGreatVh2
import Derived.Test.YtaagfepgbofmlaaGreatVd4
import Derived.Test.YtaagfepgbofmlaaGreatGL3
set_option linter.unusedVariables false
set_option linter.unusedSimpArgs false
namespace Go.Proofs.YtaagfepgbofmlaaGreat
open Go Vc
/-! ### The list -/
def enumK (g : Int → List A8) : Nat → List A8
  | 0 => []
  | k + 1 => g k ++ enumK g k
def topE (d n : Int) : Int := if d % 2 = 1 then (if 1 < (if 20 < n / d then 20 else n / d) then 1 else (if 20 < n / d then 20 else n / d)) else (if 20 < n / d then 20 else n / d)
def enum (ds : List Int) : Nat → Nat → A8 → Int → List A8
  | 0, _, m, n => if n = 0 then [m] else []
  | f + 1, i, m, n => enumK (fun k => enum ds f (i + 1) (m.set i k) (n - k * ds.getD i default)) ((topE (ds.getD i default) n).toNat + 1)
theorem topE_bd {d n : Int} (hd : 1 ≤ d) (hn : 0 ≤ n) : 0 ≤ topE d n ∧ topE d n ≤ 20 ∧ topE d n * d ≤ n := by
  have h0 : 0 ≤ n / d := Int.ediv_nonneg hn (by omega)
  have h1 : n / d * d ≤ n := Int.ediv_mul_le n (by omega)
  have key : ∀ x : Int, 0 ≤ x → x ≤ n / d → x * d ≤ n := fun x _ hx => Int.le_trans (Int.mul_le_mul_of_nonneg_right hx (by omega)) h1
  have hb : 0 ≤ topE d n ∧ topE d n ≤ 20 ∧ topE d n ≤ n / d := by
    unfold topE
    generalize n / d = q at *
    repeat' split
    all_goals omega
  exact ⟨hb.1, hb.2.1, key _ hb.1 hb.2.2⟩
theorem take_step {c : Nat} {g rest l : List A8} (hl : l.length ≤ c + 1) : l ++ g.take ((c + 1) - l.length) ++ rest.take ((c + 1) - (l ++ g.take ((c + 1) - l.length)).length) = l ++ (g ++ rest).take ((c + 1) - l.length) := by
  rw [List.append_assoc, List.take_append, List.length_append, List.length_take]
  congr 3
  omega
theorem set_set {m : A8} {i : Nat} {a b : Int} (hi : i < 8) : (m.set i a).set i b = m.set i b := by
  refine A8.ext_get fun q hq => ?_
  rw [A8.get_set hi, A8.get_set hi, A8.get_set hi]
  split <;> rfl
theorem u8_in' {k : Int} (h : 0 ≤ k ∧ k ≤ 20) : IntKind.u8.wrap k = k := u8_in _ (by omega)
theorem tdiv_top {d n : Int} (hn : 0 ≤ n) : Int.tdiv n d = n / d := Int.tdiv_eq_ediv_of_nonneg hn
theorem m_fill {ds : List Int} (hd : OkDeg ds) : ∀ (f F i : Nat) (m : A8) (n : Int) (l : List A8) (K : List A8 → Prop), i + f = ds.length → f < F → (0 ≤ n ∧ n ≤ 40) → l.length ≤ 400 → K (l ++ (enum ds f i m n).take (401 - l.length)) → f_spec_l01Fill F ds m i n l K := by
  intro f
  induction f with
  | zero =>
    intro F i m n l K hi hF hn hl h
    obtain ⟨F, rfl⟩ : ∃ G, F = G + 1 := ⟨F - 1, by omega⟩
    rw [f_spec_l01Fill.eq_2, if_pos (by omega)]
    unfold enum at h
    split
    · rename_i q
      rw [if_pos q] at h
      refine ⟨by unfold Room; omega, ?_⟩
      rwa [List.take_of_length_le (by simp; omega)] at h
    · rename_i q
      rw [if_neg q] at h
      simpa using h
  | succ f ih =>
    intro F i m n l K hi hF hn hl h
    obtain ⟨F, rfl⟩ : ∃ G, F = G + 1 := ⟨F - 1, by omega⟩
    have h8 := hd.1
    have hdi := hd.2 i (by omega)
    obtain ⟨t0, t20, tn⟩ := topE_bd (d := ds.getD i default) (n := n) hdi.1 hn.1
    have hq0 : 0 ≤ n / ds.getD i default := Int.ediv_nonneg hn.1 (by omega)
    have hq1 : n / ds.getD i default ≤ n := Int.ediv_le_self _ hn.1
    rw [f_spec_l01Fill.eq_2, if_neg (by omega)]
    rw [Int.toNat_natCast, tdiv_top hn.1, i64_in (n / ds.getD i default) (by omega), i64_in ((i : Int) + 1) (by omega)]
    have loop : ∀ (t : Int), topE (ds.getD i default) n = t → whileP (fun (s80 : A8 × (List A8) × Int) next82 => (if s80.2.2 ≥ 0 then (if (s80.2.1.length : Int) ≤ 400 then ((0 ≤ (i : Int) ∧ (i : Int) < 8) ∧ ((0 ≤ (i : Int) ∧ (i : Int) < (ds.length : Int)) ∧ f_spec_l01Fill F ds (s80.1.set i (IntKind.u8.wrap s80.2.2)) ((i : Int) + 1) (IntKind.i64.wrap (n - (IntKind.i64.wrap (s80.2.2 * (ds.getD i default))))) s80.2.1 (fun r105 => next82 (s80.1.set i (IntKind.u8.wrap s80.2.2), r105, IntKind.i64.wrap (s80.2.2 - 1))))) else K s80.2.1) else K s80.2.1)) (m, l, t) := by
      rintro t rfl
      rw [enum] at h
      refine whileP_inv (fun (s : A8 × List A8 × Int) => (∀ b, s.1.set i b = m.set i b) ∧ s.2.1.length ≤ 401 ∧ (-1 ≤ s.2.2 ∧ s.2.2 ≤ topE (ds.getD i default) n) ∧ s.2.1 ++ (enumK (fun k => enum ds f (i + 1) (m.set i k) (n - k * ds.getD i default)) (s.2.2 + 1).toNat).take (401 - s.2.1.length) = l ++ (enumK (fun k => enum ds f (i + 1) (m.set i k) (n - k * ds.getD i default)) ((topE (ds.getD i default) n).toNat + 1)).take (401 - l.length)) (fun s => (s.2.2 + 1).toNat) ?_ ⟨fun _ => rfl, by dsimp only; omega, by dsimp only; omega, by dsimp only; rw [show (topE (ds.getD i default) n + 1).toNat = (topE (ds.getD i default) n).toNat + 1 by omega]⟩
      rintro ⟨x, y, k⟩ next ⟨k1, k2, k3, k4⟩ hx
      dsimp only at k1 k2 k3 k4 hx ⊢
      split
      · rename_i hk
        have hkd0 : 0 ≤ k * ds.getD i default := Int.mul_nonneg hk (by omega)
        have hkd : k * ds.getD i default ≤ n := Int.le_trans (Int.mul_le_mul_of_nonneg_right k3.2 (by omega)) tn
        split
        · rename_i hy
          refine ⟨by omega, by omega, ?_⟩
          rw [u8_in' ⟨hk, by omega⟩, i64_in (k * ds.getD i default) (by omega), i64_in (n - k * ds.getD i default) (by omega), i64_in (k - 1) (by omega), k1 k]
          have e : ((i : Int) + 1) = ((i + 1 : Nat) : Int) := by omega
          rw [e]
          refine ih F (i + 1) _ _ _ _ (by omega) (by omega) (by omega) (by omega) (hx _ ⟨fun b => by dsimp only; rw [set_set (by omega)], ?_, by dsimp only; omega, ?_⟩ (by dsimp only; omega))
          · dsimp only; rw [List.length_append, List.length_take]; omega
          · dsimp only
            rw [← k4, show (k + 1).toNat = k.toNat + 1 by omega, enumK, show (k - 1 + 1).toNat = k.toNat by omega, show ((k.toNat : Nat) : Int) = k by omega]
            exact take_step (c := 400) k2
        · rename_i hy
          have e : y.length = 401 := by omega
          rw [← k4, e] at h
          simpa using h
      · rename_i hk
        rw [← k4, show (k + 1).toNat = 0 by omega] at h
        simpa [enumK] using h
    have ht : Int.tmod (ds.getD i default) 2 = ds.getD i default % 2 := Int.tmod_eq_emod_of_nonneg (by omega)
    rw [ht]
    refine ⟨by omega, by omega, by omega, ?_⟩
    split
    · rename_i q
      refine loop _ ?_
      unfold topE
      rw [if_pos (by omega)]
      clear loop h ih
      generalize n / ds.getD i default = q at *
      repeat' split
      all_goals omega
    · rename_i q
      refine loop _ ?_
      unfold topE
      rw [if_neg (by omega)]
theorem m_from {ds : List Int} (hd : OkDeg ds) (c : Nat) (hc : c ≤ 1000) : ∀ (f F i : Nat) (m : A8) (n : Int) (l : List A8) (K : List A8 → Prop), i + f = ds.length → f < F → (0 ≤ n ∧ n ≤ 40) → l.length ≤ (c + 1) → K (l ++ (enum ds f i m n).take ((c + 1) - l.length)) → f_impl_lister_from F (ds, (c : Int), l) i m n K := by
  intro f
  induction f with
  | zero =>
    intro F i m n l K hi hF hn hl h
    obtain ⟨F, rfl⟩ : ∃ G, F = G + 1 := ⟨F - 1, by omega⟩
    rw [f_impl_lister_from.eq_2]
    dsimp only
    unfold enum at h
    split
    · rename_i q
      rw [show (c + 1) - l.length = 0 by omega] at h
      simpa using h
    · rename_i q
      rw [if_pos (by omega)]
      split
      · rename_i q
        rw [if_pos q] at h
        refine ⟨by unfold Room; omega, ?_⟩
        rwa [List.take_of_length_le (by simp; omega)] at h
      · rename_i q
        rw [if_neg q] at h
        simpa using h
  | succ f ih =>
    intro F i m n l K hi hF hn hl h
    obtain ⟨F, rfl⟩ : ∃ G, F = G + 1 := ⟨F - 1, by omega⟩
    have h8 := hd.1
    have hdi := hd.2 i (by omega)
    obtain ⟨t0, t20, tn⟩ := topE_bd (d := ds.getD i default) (n := n) hdi.1 hn.1
    have hq0 : 0 ≤ n / ds.getD i default := Int.ediv_nonneg hn.1 (by omega)
    have hq1 : n / ds.getD i default ≤ n := Int.ediv_le_self _ hn.1
    rw [f_impl_lister_from.eq_2]
    dsimp only
    split
    · rename_i q
      rw [show (c + 1) - l.length = 0 by omega] at h
      simpa using h
    rw [if_neg (by omega)]
    rw [Int.toNat_natCast, tdiv_top hn.1, i64_in (n / ds.getD i default) (by omega), i64_in ((i : Int) + 1) (by omega)]
    have loop : ∀ (t : Int), topE (ds.getD i default) n = t → whileP (fun (s65 : A8 × (List A8) × Int) next67 => (if s65.2.2 ≥ 0 then ((0 ≤ (i : Int) ∧ (i : Int) < 8) ∧ f_impl_lister_from F (ds, (c : Int), s65.2.1) ((i : Int) + 1) (s65.1.set i s65.2.2) (IntKind.i64.wrap (n - (IntKind.i64.wrap (s65.2.2 * (ds.getD i default))))) (fun m79 => next67 (s65.1.set i s65.2.2, m79, IntKind.i64.wrap (s65.2.2 - 1)))) else K s65.2.1)) (m, l, t) := by
      rintro t rfl
      rw [enum] at h
      refine whileP_inv (fun (s : A8 × List A8 × Int) => (∀ b, s.1.set i b = m.set i b) ∧ s.2.1.length ≤ (c + 1) ∧ (-1 ≤ s.2.2 ∧ s.2.2 ≤ topE (ds.getD i default) n) ∧ s.2.1 ++ (enumK (fun k => enum ds f (i + 1) (m.set i k) (n - k * ds.getD i default)) (s.2.2 + 1).toNat).take ((c + 1) - s.2.1.length) = l ++ (enumK (fun k => enum ds f (i + 1) (m.set i k) (n - k * ds.getD i default)) ((topE (ds.getD i default) n).toNat + 1)).take ((c + 1) - l.length)) (fun s => (s.2.2 + 1).toNat) ?_ ⟨fun _ => rfl, by dsimp only; omega, by dsimp only; omega, by dsimp only; rw [show (topE (ds.getD i default) n + 1).toNat = (topE (ds.getD i default) n).toNat + 1 by omega]⟩
      rintro ⟨x, y, k⟩ next ⟨k1, k2, k3, k4⟩ hx
      dsimp only at k1 k2 k3 k4 hx ⊢
      split
      · rename_i hk
        have hkd0 : 0 ≤ k * ds.getD i default := Int.mul_nonneg hk (by omega)
        have hkd : k * ds.getD i default ≤ n := Int.le_trans (Int.mul_le_mul_of_nonneg_right k3.2 (by omega)) tn
        refine ⟨by omega, ?_⟩
        rw [i64_in (k * ds.getD i default) (by omega), i64_in (n - k * ds.getD i default) (by omega), i64_in (k - 1) (by omega), k1 k]
        have e : ((i : Int) + 1) = ((i + 1 : Nat) : Int) := by omega
        rw [e]
        refine ih F (i + 1) _ _ _ _ (by omega) (by omega) (by omega) k2 (hx _ ⟨fun b => by dsimp only; rw [set_set (by omega)], ?_, by dsimp only; omega, ?_⟩ (by dsimp only; omega))
        · dsimp only; rw [List.length_append, List.length_take]; omega
        · dsimp only
          rw [← k4, show (k + 1).toNat = k.toNat + 1 by omega, enumK, show (k - 1 + 1).toNat = k.toNat by omega, show ((k.toNat : Nat) : Int) = k by omega]
          exact take_step k2
      · rename_i hk
        rw [← k4, show (k + 1).toNat = 0 by omega] at h
        simpa [enumK] using h
    have ht : Int.tmod (ds.getD i default) 2 = ds.getD i default % 2 := Int.tmod_eq_emod_of_nonneg (by omega)
    rw [ht]
    refine ⟨by omega, by omega, ?_⟩
    split
    · rename_i q
      refine loop _ ?_
      unfold topE
      rw [if_pos q]
    · rename_i q
      refine loop _ ?_
      unfold topE
      rw [if_neg q]
def Small (p : A8) : Prop := ∀ q, q < 8 → 0 ≤ p.get q ∧ p.get q ≤ 20
theorem enumK_mem {g : Int → List A8} {p : A8} : ∀ {t : Nat}, p ∈ enumK g t → ∃ k : Nat, k < t ∧ p ∈ g k := by
  intro t
  induction t with
  | zero => intro h; simp [enumK] at h
  | succ t ih =>
    intro h
    rw [enumK] at h
    rcases List.mem_append.1 h with h | h
    · exact ⟨t, by omega, h⟩
    · obtain ⟨k, hk, hp⟩ := ih h
      exact ⟨k, by omega, hp⟩
theorem enum_small {ds : List Int} (hd : OkDeg ds) : ∀ (f i : Nat) (m : A8) (n : Int), i + f = ds.length → 0 ≤ n → Small m → ∀ p, p ∈ enum ds f i m n → Small p := by
  intro f
  induction f with
  | zero =>
    intro i m n hi hn hm p hp
    unfold enum at hp
    split at hp
    · rw [List.mem_singleton.1 hp]; exact hm
    · simp at hp
  | succ f ih =>
    intro i m n hi hn hm p hp
    have h8 := hd.1
    have hdi := hd.2 i (by omega)
    obtain ⟨t0, t20, tn⟩ := topE_bd (d := ds.getD i default) (n := n) hdi.1 hn
    rw [enum] at hp
    obtain ⟨k, hk, hp⟩ := enumK_mem hp
    have hkd : (k : Int) * ds.getD i default ≤ n := Int.le_trans (Int.mul_le_mul_of_nonneg_right (by omega) (by omega)) tn
    refine ih (i + 1) _ _ (by omega) (by omega) (fun q hq => ?_) p hp
    rw [A8.get_set (by omega)]
    split
    · omega
    · exact hm q hq
def mons (ds : List Int) (n : Int) : List A8 := if n < 0 then [] else enum ds ds.length 0 A8.zero n
theorem mons_small {ds : List Int} (hd : OkDeg ds) {n : Int} : ∀ p, p ∈ mons ds n → Small p := fun p hp => by
  unfold mons at hp
  split at hp
  · simp at hp
  · exact enum_small hd _ _ _ _ (by omega) (by omega) (fun q hq => by rw [A8.get_zero]; omega) p hp
def Fits (ds : List Int) (n : Int) : Prop := (mons ds n).length ≤ 120
instance (ds : List Int) (n : Int) : Decidable (Fits ds n) := inferInstanceAs (Decidable (_ ≤ _))
theorem kb {K : List A8 → Bool → Prop} {a c : List A8} {b d : Bool} (h : K a b) (e1 : c = a) (e2 : d = b) : K c d := by rw [e1, e2]; exact h
theorem m_mons120 {ds : List Int} (hd : OkDeg ds) {n : Int} (hn : n ≤ 40) {K : List A8 → Bool → Prop} (h1 : Fits ds n → K (mons ds n) true) (h2 : ¬ Fits ds n → ∀ l, K l false) : f_impl_monomials ds n 120 K := by
  unfold f_impl_monomials
  by_cases h0 : n ≥ 0
  · rw [if_pos h0]
    have h8 := hd.1
    have e : mons ds n = enum ds ds.length 0 A8.zero n := by unfold mons; rw [if_neg (by omega)]
    refine m_from hd 120 (by omega) ds.length 9 0 A8.zero n [] _ (by omega) (by omega) (by omega) (by simp) ?_
    rw [← e]
    have et : ([] : List A8) ++ (mons ds n).take (120 + 1 - ([] : List A8).length) = (mons ds n).take 121 := by simp
    by_cases hf : Fits ds n
    · have hf' : (mons ds n).length ≤ 120 := hf
      exact kb (h1 hf) (by rw [et, List.take_of_length_le (by omega)]) (decide_eq_true (by rw [et, List.length_take]; omega))
    · have hf' : ¬ (mons ds n).length ≤ 120 := hf
      exact kb (h2 hf _) rfl (decide_eq_false (by rw [et, List.length_take]; omega))
  · rw [if_neg h0]
    have e : mons ds n = [] := by unfold mons; rw [if_pos (by omega)]
    have := h1 (by unfold Fits; rw [e]; simp)
    rw [e] at this
    exact this
theorem m_l01Mons {ds : List Int} (hd : OkDeg ds) {n : Int} (hn : 0 ≤ n ∧ n ≤ 40) {K : List A8 → Prop} (h : K ((mons ds n).take 401)) : f_spec_l01Monomials ds n K := by
  unfold f_spec_l01Monomials
  have h8 := hd.1
  have e : mons ds n = enum ds ds.length 0 A8.zero n := by unfold mons; rw [if_neg (by omega)]
  rw [e] at h
  exact m_fill hd ds.length 9 0 A8.zero n [] _ (by omega) (by omega) hn (by simp) h
end Go.Proofs.YtaagfepgbofmlaaGreat
