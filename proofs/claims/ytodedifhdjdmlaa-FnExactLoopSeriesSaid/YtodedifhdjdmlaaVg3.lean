/- Plain law of row 15. -/
import Derived.Test.YtodedifhdjdmlaaVg1
import Derived.Test.YtodedifhdjdmlaaGL3
set_option linter.unusedVariables false
set_option linter.unusedSimpArgs false
namespace Go.Proofs.Ytodedifhdjdmlaa
open Go Vc
theorem m_markInt64S {l : List Int} {m : Int} {K : Int → List Int → Prop} (hm : 0 ≤ m ∧ m + l.length ≤ 4611686018427387904) (h : ∀ x', x'.length = l.length → (∀ K' : Int → Prop, K' (m + l.length) → f_laws_heldInt64S x' m K') → K (m + l.length) x') : f_laws_markInt64S l m K := by
  unfold f_laws_markInt64S
  refine whileP_inv (fun (s : List Int × Int × Int) => s.1.length = l.length ∧ (0 ≤ s.2.2 ∧ s.2.2 ≤ l.length) ∧ s.2.1 = m + s.2.2 ∧ ∀ j : Nat, (j : Int) < s.2.2 → s.1.getD j default = m + j) (fun s => l.length - s.2.2.toNat) ?_ ⟨rfl, by dsimp only; omega, by simp, by intro j hj; dsimp only at hj; omega⟩
  rintro ⟨x, c, i⟩ next ⟨h1, h2, h3, h4⟩ hn
  dsimp only at h1 h2 h3 h4 ⊢
  split
  · rename_i hi
    refine ⟨by omega, ?_⟩
    rw [i64_in (c + 1) (by omega), i64_in (i + 1) (by omega)]
    refine hn _ ⟨by simpa using h1, by dsimp only; omega, by dsimp only; omega, fun j hj => ?_⟩ (by dsimp only; omega)
    dsimp only at hj ⊢
    rw [set_getD (by omega)]
    split
    · omega
    · exact h4 j (by omega)
  · rename_i hi
    have hc : c = m + l.length := by omega
    rw [hc]
    refine h x h1 fun K' hK' => ?_
    unfold f_laws_heldInt64S
    refine forN_inv (fun i (s : Int) => s = m + i) x.length ?_ ?_ _ _ _ (by omega) (by simp)
    · intro j s next hj hs hn'
      rw [if_neg (by rw [h4 j (by omega), hs]; simp), i64_in (s + 1) (by omega)]
      exact hn' _ (by omega)
    · intro s hs
      rw [hs, h1]; exact hK'
def stp (d : Int) (l : List Int) (k : Int) : List Int := l.set k.toNat (IntKind.i64.wrap (l.getD k.toNat default + l.getD (k - d).toNat default))
def upL (d : Int) : Nat → Int → List Int → List Int
  | 0, _, l => l
  | f + 1, k, l => upL d f (k + 1) (stp d l k)
def dnL (d : Int) : Nat → Int → List Int → List Int
  | 0, _, l => l
  | f + 1, k, l => dnL d f (k - 1) (stp d l k)
theorem stp_len (d : Int) (l : List Int) (k : Int) : (stp d l k).length = l.length := by simp [stp]
theorem upL_len (d : Int) (f : Nat) : ∀ k l, (upL d f k l).length = l.length := by
  induction f with
  | zero => intro k l; rfl
  | succ f ih => intro k l; rw [upL, ih, stp_len]
theorem dnL_len (d : Int) (f : Nat) : ∀ k l, (dnL d f k l).length = l.length := by
  induction f with
  | zero => intro k l; rfl
  | succ f ih => intro k l; rw [dnL, ih, stp_len]
theorem up_loop {m d : Int} {l0 : List Int} {next : List Int → Prop} (hd : 1 ≤ d ∧ d ≤ 12) (hm : 0 ≤ m ∧ m ≤ 40) (hl : (l0.length : Int) = m + 1) (h : next (upL d (m + 1 - d).toNat d l0)) :
    whileP (fun (s : (List Int) × Int) nx => (if s.2 ≤ m then ((0 ≤ s.2 ∧ s.2 < (s.1.length : Int)) ∧ ((0 ≤ IntKind.i64.wrap (s.2 - d) ∧ IntKind.i64.wrap (s.2 - d) < (s.1.length : Int)) ∧ ((0 ≤ s.2 ∧ s.2 < (s.1.length : Int)) ∧ nx (s.1.set s.2.toNat (IntKind.i64.wrap ((s.1.getD s.2.toNat default) + (s.1.getD ((IntKind.i64.wrap (s.2 - d)).toNat) default))), IntKind.i64.wrap (s.2 + 1))))) else next s.1)) (l0, d) := by
  refine whileP_inv (fun (s : List Int × Int) => (s.1.length : Int) = m + 1 ∧ (d ≤ s.2 ∧ s.2 ≤ 100) ∧ upL d (m + 1 - s.2).toNat s.2 s.1 = upL d (m + 1 - d).toNat d l0) (fun s => (m + 1 - s.2).toNat) ?_ ⟨hl, by dsimp only; omega, rfl⟩
  rintro ⟨s, k⟩ nx ⟨h1, h2, h3⟩ hn
  dsimp only at h1 h2 h3 hn ⊢
  split
  · rename_i hk
    rw [i64_in (k - d) (by omega), i64_in (k + 1) (by omega)]
    refine ⟨by omega, by omega, by omega, hn _ ⟨?_, by dsimp only; omega, ?_⟩ (by dsimp only; omega)⟩
    · dsimp only; rw [List.length_set]; exact h1
    · dsimp only
      rw [← h3, show (m + 1 - k).toNat = (m + 1 - (k + 1)).toNat + 1 by omega]
      rfl
  · rename_i hk
    rw [show (m + 1 - k).toNat = 0 by omega] at h3
    rw [← h3] at h; exact h
theorem dn_loop {m d : Int} {l0 : List Int} {next : List Int → Prop} (hd : 1 ≤ d ∧ d ≤ 12) (hm : 0 ≤ m ∧ m ≤ 40) (hl : (l0.length : Int) = m + 1) (h : next (dnL d (m + 1 - d).toNat m l0)) :
    whileP (fun (s : (List Int) × Int) nx => (if s.2 ≥ d then ((0 ≤ s.2 ∧ s.2 < (s.1.length : Int)) ∧ ((0 ≤ IntKind.i64.wrap (s.2 - d) ∧ IntKind.i64.wrap (s.2 - d) < (s.1.length : Int)) ∧ ((0 ≤ s.2 ∧ s.2 < (s.1.length : Int)) ∧ nx (s.1.set s.2.toNat (IntKind.i64.wrap ((s.1.getD s.2.toNat default) + (s.1.getD ((IntKind.i64.wrap (s.2 - d)).toNat) default))), IntKind.i64.wrap (s.2 - 1))))) else next s.1)) (l0, m) := by
  refine whileP_inv (fun (s : List Int × Int) => (s.1.length : Int) = m + 1 ∧ (-1 ≤ s.2 ∧ s.2 ≤ m) ∧ dnL d (s.2 + 1 - d).toNat s.2 s.1 = dnL d (m + 1 - d).toNat m l0) (fun s => (s.2 + 1).toNat) ?_ ⟨hl, by dsimp only; omega, rfl⟩
  rintro ⟨s, k⟩ nx ⟨h1, h2, h3⟩ hn
  dsimp only at h1 h2 h3 hn ⊢
  split
  · rename_i hk
    rw [i64_in (k - d) (by omega), i64_in (k - 1) (by omega)]
    refine ⟨by omega, by omega, by omega, hn _ ⟨?_, by dsimp only; omega, ?_⟩ (by dsimp only; omega)⟩
    · dsimp only; rw [List.length_set]; exact h1
    · dsimp only
      rw [← h3, show (k + 1 - d).toNat = (k - 1 + 1 - d).toNat + 1 by omega]
      rfl
  · rename_i hk
    rw [show (k + 1 - d).toNat = 0 by omega] at h3
    rw [← h3] at h; exact h
def oneD (m d : Int) (l : List Int) : List Int := if d % 2 = 0 then upL d (m + 1 - d).toNat d l else dnL d (m + 1 - d).toNat m l
theorem oneD_len (m d : Int) (l : List Int) : (oneD m d l).length = l.length := by
  unfold oneD; split
  · exact upL_len ..
  · exact dnL_len ..
def base (m : Int) : List Int := (List.replicate (m + 1).toNat (0 : Int)).set 0 1
def ser (ds : List Int) (m : Int) : List Int := ds.foldl (fun l d => oneD m d l) (base m)
theorem fold_len (m : Int) (ds : List Int) : ∀ l : List Int, (ds.foldl (fun l d => oneD m d l) l).length = l.length := by
  induction ds with
  | nil => intro l; rfl
  | cons d ds ih => intro l; rw [List.foldl_cons, ih, oneD_len]
theorem ser_len {ds : List Int} {m : Int} (hm : 0 ≤ m) : ((ser ds m).length : Int) = m + 1 := by
  rw [ser, fold_len, base, List.length_set, List.length_replicate]; omega
theorem take_ser {ds : List Int} {m : Int} {i : Nat} (hi : i < ds.length) : oneD m (ds.getD i default) (ser (ds.take i) m) = ser (ds.take (i + 1)) m := by
  rw [List.take_add_one, List.getElem?_eq_getElem hi, ser, ser, Option.toList_some, List.foldl_append]
  simp [List.getD, List.getElem?_eq_getElem hi]
theorem m_specSeries {ds : List Int} {m : Int} {K : List Int → Prop} (hd : ∀ i, i < ds.length → 1 ≤ ds.getD i default ∧ ds.getD i default ≤ 12) (hm : 0 ≤ m ∧ m ≤ 40) (h : K (ser ds m)) : f_spec_l08Series ds m K := by
  unfold f_spec_l08Series
  rw [i64_in (m + 1) (by omega)]
  refine ⟨by omega, by rw [List.length_replicate]; omega, ?_⟩
  refine forN_inv (fun i (s : List Int) => s = ser (ds.take i) m) ds.length ?_ ?_ _ _ _ (by omega) (by rfl)
  · intro i s next hi hs hn
    have hb := hd i hi
    have ht : Int.tmod (ds.getD i default) 2 = ds.getD i default % 2 := Int.tmod_eq_emod_of_nonneg (by omega)
    have hl : (s.length : Int) = m + 1 := by rw [hs]; exact ser_len hm.1
    have hk := hn _ (take_ser hi)
    rw [← hs] at hk
    unfold oneD at hk
    rw [ht]
    split
    · rename_i q; rw [if_pos q] at hk; exact up_loop hb hm hl hk
    · rename_i q; rw [if_neg q] at hk; exact dn_loop hb hm hl hk
  · intro s hs
    rw [hs, List.take_length]; exact h
theorem m_implSeries {ds : List Int} {m : Int} {K : List Int → Prop} (hd : ∀ i, i < ds.length → 1 ≤ ds.getD i default ∧ ds.getD i default ≤ 12) (hm : 0 ≤ m ∧ m ≤ 40) (h : K (ser ds m)) : f_impl_series ds m K := by
  unfold f_impl_series
  rw [i64_in (m + 1) (by omega)]
  refine ⟨by omega, by rw [List.length_replicate]; omega, ?_⟩
  refine forN_inv (fun i (s : List Int) => s = ser (ds.take i) m) ds.length ?_ ?_ _ _ _ (by omega) (by rfl)
  · intro i s next hi hs hn
    have hb := hd i hi
    have ht : Int.tmod (ds.getD i default) 2 = ds.getD i default % 2 := Int.tmod_eq_emod_of_nonneg (by omega)
    have hl : (s.length : Int) = m + 1 := by rw [hs]; exact ser_len hm.1
    have hk := hn _ (take_ser hi)
    rw [← hs] at hk
    unfold oneD at hk
    rw [ht]
    split
    · rename_i q; rw [if_neg (by omega)] at hk; exact dn_loop hb hm hl hk
    · rename_i q; rw [if_pos (by omega)] at hk; exact up_loop hb hm hl hk
  · intro s hs
    rw [hs, List.take_length]; exact h
theorem m_contains {l : List Int} {x : Int} {K : Bool → Prop} (h1 : (∃ i, i < l.length ∧ l.getD i default = x) → K true) (h0 : (∀ i, i < l.length → l.getD i default ≠ x) → K false) : f_slices_Contains_int64_int64 l x K := by
  unfold f_slices_Contains_int64_int64 f_slices_Index_int64_int64
  refine forN_inv (fun i (_ : Unit) => ∀ j, j < i → l.getD j default ≠ x) l.length ?_ ?_ _ _ _ (by omega) (fun j hj => by omega)
  · intro i s next hi hs hn
    split
    · rename_i q
      have e : decide ((i : Int) ≥ 0) = true := decide_eq_true (by omega)
      show K (decide ((i : Int) ≥ 0))
      rw [e]; exact h1 ⟨i, hi, q.symm⟩
    · rename_i q
      refine hn _ fun j hj => ?_
      by_cases c : j = i
      · rw [c]; exact fun z => q z.symm
      · exact hs j (by omega)
  · intro s hs
    exact h0 hs
theorem m_first3v {a b c v : Int} {K : Int → Prop} (e : (if a ≠ 0 then a else if b ≠ 0 then b else c) = v) (h : K v) : f_impl_first [a, b, c] K := m_first3 (e ▸ h)
def lessD (a : Alg) : List Int := a.degrees.map (fun n => n - 1)
theorem lessD_ok {a : Alg} (ok : OkDeg a.degrees) (no : ∀ i, i < a.degrees.length → a.degrees.getD i default ≠ 1) : ∀ i, i < (lessD a).length → 1 ≤ (lessD a).getD i default ∧ (lessD a).getD i default ≤ 12 := by
  intro i hi
  have hi' : i < a.degrees.length := by simpa [lessD] using hi
  have h1 := ok.2 i hi'
  have h2 := no i hi'
  have e : (lessD a).getD i default = a.degrees.getD i default - 1 := by simp [lessD, List.getD, List.getElem?_eq_getElem hi']
  rw [e]; omega
theorem lessD_take {a : Alg} {i : Nat} (hi : i < a.degrees.length) : (lessD a).take i ++ [a.degrees.getD i default - 1] = (lessD a).take (i + 1) := by
  have hi' : i < (lessD a).length := by simpa [lessD] using hi
  rw [List.take_add_one, List.getElem?_eq_getElem hi']
  refine congrArg ((lessD a).take i ++ ·) ?_
  simp [lessD, List.getD, List.getElem?_eq_getElem hi]
theorem m_specLoop {a : Alg} {m : Int} {K : List Int → Int → Prop} (hf : FitAlg a) (h1 : ¬ OkAlg a → K [] 1) (h2 : OkAlg a → ¬ (0 ≤ m ∧ m ≤ 40) → K [] 2) (h5 : OkAlg a → (0 ≤ m ∧ m ≤ 40) → (∃ i, i < a.degrees.length ∧ a.degrees.getD i default = 1) → K [] 5)
    (h0 : OkAlg a → (0 ≤ m ∧ m ≤ 40) → (∀ i, i < a.degrees.length → a.degrees.getD i default ≠ 1) → K (ser (lessD a) m) 0) : f_spec_LoopSeries a m K := by
  unfold f_spec_LoopSeries
  refine m_l02Is hf (fun ok => ?_) (fun no => ?_)
  · rw [if_neg (by simp)]
    refine m_l01In ?_
    by_cases q : 0 ≤ m ∧ m ≤ 40
    · rw [if_neg (by simp [q])]
      have h8 := ok.deg.1
      have hln : (lessD a).length = a.degrees.length := by simp [lessD]
      refine whileP_inv (fun (s : List Int × Int) => (0 ≤ s.2 ∧ s.2 ≤ a.degrees.length) ∧ s.1 = (lessD a).take s.2.toNat ∧ ∀ j : Nat, (j : Int) < s.2 → a.degrees.getD j default ≠ 1) (fun s => a.degrees.length - s.2.toNat) ?_ ⟨by dsimp only; omega, by rfl, fun j hj => by dsimp only at hj; omega⟩
      rintro ⟨s, i⟩ next ⟨k1, k2, k3⟩ hn
      dsimp only at k1 k2 k3 hn ⊢
      split
      · rename_i hi
        have hin : i.toNat < a.degrees.length := by omega
        refine ⟨by omega, ?_⟩
        split
        · rename_i e; exact h5 ok q ⟨i.toNat, hin, e⟩
        · rename_i e
          have hd := ok.deg.2 i.toNat hin
          refine ⟨by omega, by rw [k2, List.length_take]; unfold Room; omega, ?_⟩
          rw [i64_in (i + 1) (by omega), i64_in (a.degrees.getD i.toNat default - 1) (by omega)]
          refine hn _ ⟨by dsimp only; omega, ?_, fun j hj => ?_⟩ (by dsimp only; omega)
          · dsimp only
            rw [k2, lessD_take hin, show (i + 1).toNat = i.toNat + 1 by omega]
          · dsimp only at hj
            by_cases c : (j : Int) = i
            · rw [show j = i.toNat by omega]; exact e
            · exact k3 j (by omega)
      · rename_i hi
        have hno : ∀ j, j < a.degrees.length → a.degrees.getD j default ≠ 1 := fun j hj => k3 j (by omega)
        rw [k2, List.take_of_length_le (by omega)]
        exact m_specSeries (lessD_ok ok.deg hno) q (h0 ok q hno)
    · rw [if_pos (by simpa using q)]
      exact h2 ok q
  · rw [if_pos (by simp)]; exact h1 no
theorem m_implLoop {a : Alg} {m : Int} {K : List Int → Int → Prop} (hf : FitAlg a) (h1 : ¬ OkAlg a → K [] 1) (h2 : OkAlg a → ¬ (0 ≤ m ∧ m ≤ 40) → K [] 2) (h5 : OkAlg a → (0 ≤ m ∧ m ≤ 40) → (∃ i, i < a.degrees.length ∧ a.degrees.getD i default = 1) → K [] 5)
    (h0 : OkAlg a → (0 ≤ m ∧ m ≤ 40) → (∀ i, i < a.degrees.length → a.degrees.getD i default ≠ 1) → K (ser (lessD a) m) 0) : f_impl_LoopSeries a m K := by
  unfold f_impl_LoopSeries f_impl_isLong
  refine m_algebraCode0 hf (fun ok => ?_) (fun no => ?_)
  · refine m_within (m_when ?_)
    by_cases q : 0 ≤ m ∧ m ≤ 40
    · rw [decide_eq_true q, if_neg (by simp)]
      refine m_contains (fun he => m_when (m_first3v (v := 5) (by simp) ?_)) (fun hno => m_when (m_first3v (v := 0) (by simp) ?_))
      · rw [if_pos (by omega)]
        exact h5 ok q he
      · rw [if_neg (by omega)]
        have h8 := ok.deg.1
        have hln : (lessD a).length = a.degrees.length := by simp [lessD]
        refine forN_inv (fun i (s : List Int) => s = (lessD a).take i) a.degrees.length ?_ ?_ _ _ _ (by omega) (by rfl)
        · intro i s next hi hs hn
          have hd := ok.deg.2 i hi
          refine ⟨by rw [hs, List.length_take]; unfold Room; omega, ?_⟩
          rw [i64_in (a.degrees.getD i default - 1) (by omega)]
          exact hn _ (by rw [hs, lessD_take hi])
        · intro s hs
          rw [hs, List.take_of_length_le (by omega)]
          exact m_implSeries (lessD_ok ok.deg hno) q (h0 ok q hno)
    · rw [decide_eq_false q, if_pos (by simp)]
      refine m_contains (fun he => m_when (m_first3v (v := 2) (by simp) ?_)) (fun hno => m_when (m_first3v (v := 2) (by simp) ?_))
      · rw [if_pos (by omega)]
        exact h2 ok q
      · rw [if_pos (by omega)]
        exact h2 ok q
  · refine m_within (m_when ?_)
    refine m_contains (fun he => m_when (m_first3v (v := 1) (by simp) ?_)) (fun hno => m_when (m_first3v (v := 1) (by simp) ?_))
    · rw [if_pos (by omega)]; exact h1 no
    · rw [if_pos (by omega)]; exact h1 no
theorem pure_LoopSeries (a : Alg) (m : Int) (hg : GoodAlg a) (hm : Fit .i64 m) (hb : LenAlg a) : f_laws_FnExactLoopSeries a m (fun r => r = true) := by
  unfold f_laws_FnExactLoopSeries
  refine m_szAlgebraG (by omega) hb (fun r hr hr2 d1 d2 d3 => ?_) (fun r hr => by rw [if_pos hr])
  rw [if_neg (by omega)]
  have hf := hg.fit d3
  refine m_toAlgebra d1 d2 d3 ?_
  obtain ⟨F, c, hsp, him, hsm⟩ : ∃ F c, (∀ K : List Int → Int → Prop, K F c → f_spec_LoopSeries a m K) ∧ (∀ K : List Int → Int → Prop, K F c → f_impl_LoopSeries a m K) ∧ F.length ≤ 41 := by
    by_cases ok : OkAlg a
    · by_cases q : 0 ≤ m ∧ m ≤ 40
      · by_cases e : ∃ i, i < a.degrees.length ∧ a.degrees.getD i default = 1
        · exact ⟨[], 5, fun K hK => m_specLoop hf (fun n => absurd ok n) (fun _ n => absurd q n) (fun _ _ _ => hK) (fun _ _ z => by obtain ⟨i, hi, he⟩ := e; exact absurd he (z i hi)),
            fun K hK => m_implLoop hf (fun n => absurd ok n) (fun _ n => absurd q n) (fun _ _ _ => hK) (fun _ _ z => by obtain ⟨i, hi, he⟩ := e; exact absurd he (z i hi)), by simp⟩
        · refine ⟨ser (lessD a) m, 0, fun K hK => m_specLoop hf (fun n => absurd ok n) (fun _ n => absurd q n) (fun _ _ z => absurd z e) (fun _ _ _ => hK), fun K hK => m_implLoop hf (fun n => absurd ok n) (fun _ n => absurd q n) (fun _ _ z => absurd z e) (fun _ _ _ => hK), ?_⟩
          have := ser_len (ds := lessD a) q.1
          omega
      · exact ⟨[], 2, fun K hK => m_specLoop hf (fun n => absurd ok n) (fun _ _ => hK) (fun _ z => absurd z q) (fun _ z => absurd z q), fun K hK => m_implLoop hf (fun n => absurd ok n) (fun _ _ => hK) (fun _ z => absurd z q) (fun _ z => absurd z q), by simp⟩
    · exact ⟨[], 1, fun K hK => m_specLoop hf (fun _ => hK) (fun z => absurd z ok) (fun z => absurd z ok) (fun z => absurd z ok), fun K hK => m_implLoop hf (fun _ => hK) (fun z => absurd z ok) (fun z => absurd z ok) (fun z => absurd z ok), by simp⟩
  refine hsp _ (m_toAlgebra d1 d2 d3 (him _ ?_))
  refine same_Int64S (not_no (ne_no ?_))
  refine m_toAlgebra d1 d2 d3 (same_Algebra (not_no ?_))
  refine m_markAlgebraN (by omega) d1 d2 d3 fun x0 n0 n1 n2 => ?_
  refine lt_no (by omega) ?_
  refine same_Int64S (not_no ?_)
  refine m_markInt64S (by omega) fun x3 n3 hh => ?_
  refine hh _ (lt_no (by omega) (ne_no ?_))
  refine m_toAlgebra (a := a) d1 d2 d3 (him _ (same_Int64S (not_no (ne_no ?_))))
  exact hh _ (lt_no (by omega) (ne_no rfl))
end Go.Proofs.Ytodedifhdjdmlaa
