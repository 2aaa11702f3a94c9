import Derived.Test.YtaagfepgbofmlaaQ6
set_option linter.unusedVariables false
set_option linter.unusedSimpArgs false
namespace Go.Proofs.Ytaagfepgbofmlaa
open Go Vc
theorem Zuj {l : List Int} {m : Int} {K : Int → List Int → Prop} (hm : 0 ≤ m ∧ m + l.length ≤ 4611686018427387904) (h : ∀ x', x'.length = l.length → (∀ K' : Int → Prop, K' (m + l.length) → Zdy x' m K') → K (m + l.length) x') : Zcd l m K := by
  unfold Zcd
  refine X1 (fun (s : List Int × Int × Int) => s.1.length = l.length ∧ (0 ≤ s.2.2 ∧ s.2.2 ≤ l.length) ∧ s.2.1 = m + s.2.2 ∧ ∀ j : Nat, (j : Int) < s.2.2 → s.1.getD j default = m + j) (fun s => l.length - s.2.2.toNat) ?_ ⟨rfl, by dsimp only; omega, by simp, by intro j hj; dsimp only at hj; omega⟩
  rintro ⟨x, c, i⟩ next ⟨h1, h2, h3, h4⟩ hn
  dsimp only at h1 h2 h3 h4 ⊢
  split
  · rename_i hi
    refine ⟨by omega, ?_⟩
    rw [i64_in (c + 1) (by omega), i64_in (i + 1) (by omega)]
    refine hn _ ⟨by simpa using h1, by dsimp only; omega, by dsimp only; omega, fun j hj => ?_⟩ (by dsimp only; omega)
    dsimp only at hj ⊢
    rw [Zbo (by omega)]
    split
    · omega
    · exact h4 j (by omega)
  · rename_i hi
    have hc : c = m + l.length := by omega
    rw [hc]
    refine h x h1 fun K' hK' => ?_
    unfold Zdy
    refine Xg (fun i (s : Int) => s = m + i) x.length ?_ ?_ _ _ _ (by omega) (by simp)
    · intro j s next hj hs hn'
      rw [if_neg (by rw [h4 j (by omega), hs]; simp), i64_in (s + 1) (by omega)]
      exact hn' _ (by omega)
    · intro s hs
      rw [hs, h1]; exact hK'
def cnt (fs : List Vc.Form) : Nat := (fs.map (fun f => f.terms.length)).sum
theorem Zuk {l : List Int} {m : Int} {K : Int → List Int → Prop} (hm : 0 ≤ m ∧ m + l.length ≤ 4611686018427387904) (h : ∀ x', K (m + l.length) x') : Zcd l m K := by
  unfold Zcd
  refine X1 (fun (s : List Int × Int × Int) => s.1.length = l.length ∧ (0 ≤ s.2.2 ∧ s.2.2 ≤ l.length) ∧ s.2.1 = m + s.2.2) (fun s => l.length - s.2.2.toNat) ?_ ⟨rfl, by dsimp only; omega, by simp⟩
  rintro ⟨x, c, i⟩ next ⟨h1, h2, h3⟩ hn
  dsimp only at h1 h2 h3 ⊢
  split
  · rename_i hi
    refine ⟨by omega, ?_⟩
    rw [i64_in (c + 1) (by omega), i64_in (i + 1) (by omega)]
    exact hn _ ⟨by simpa using h1, by dsimp only; omega, by dsimp only; omega⟩ (by dsimp only; omega)
  · rename_i hi
    have hc : c = m + l.length := by omega
    rw [hc]
    exact h x
theorem Zul {fs : List Vc.Form} {B : Nat} (h : ∀ i, i < fs.length → (fs.getD i default).terms.length ≤ B) : cnt fs ≤ fs.length * B := by
  induction fs with
  | nil => simp [cnt]
  | cons f fs ih =>
    have h0 := h 0 (by simp)
    have h1 := ih fun i hi => by have := h (i + 1) (by simpa using hi); simpa using this
    simp only [List.getD_cons_zero] at h0
    simp only [cnt, List.map_cons, List.sum_cons, List.length_cons, Nat.add_mul, Nat.one_mul] at h1 ⊢
    omega
theorem Zum {fs : List Vc.Form} {m : Int} {K : Int → List Vc.Form → Prop} (hm : 0 ≤ m ∧ m + 9 * cnt fs ≤ 4611686018427387904) (h : ∀ x' n, 0 ≤ n → n ≤ m + 9 * cnt fs → K n x') (hl : fs.length ≤ 1048576) : Zfx fs m K := by
  unfold Zfx
  let part (i : Nat) : Int := m + 9 * cnt (fs.take i)
  have hp0 : part 0 = m := by simp [part, cnt]
  have hps : ∀ i, i < fs.length → part (i + 1) = part i + 9 * (fs.getD i default).terms.length := by
    intro i hi
    simp only [part, cnt, List.take_add_one, List.getElem?_eq_getElem hi, Option.toList_some, List.map_append, List.sum_append, List.map_cons, List.map_nil, List.sum_cons, List.sum_nil, List.getD, Option.getD_some]
    omega
  have hpl : part fs.length = m + 9 * cnt fs := by simp [part]
  have hmono : ∀ i, i ≤ fs.length → m ≤ part i ∧ part i ≤ m + 9 * cnt fs := by
    intro i hi
    have : cnt fs = cnt (fs.take i) + cnt (fs.drop i) := by
      unfold cnt; rw [← List.sum_append, ← List.map_append, List.take_append_drop]
    simp only [part]; omega
  refine X1 (fun (s : List Vc.Form × Int × Int) => s.1.length = fs.length ∧ (0 ≤ s.2.2 ∧ s.2.2 ≤ fs.length) ∧ s.2.1 = part s.2.2.toNat ∧ ∀ j : Nat, s.2.2 ≤ (j : Int) → s.1.getD j default = fs.getD j default) (fun s => fs.length - s.2.2.toNat) ?_ ⟨rfl, by dsimp only; omega, by dsimp only; exact hp0.symm, fun _ _ => rfl⟩
  rintro ⟨x, c, i⟩ next ⟨h1, h2, h3, h5⟩ hn
  dsimp only at h1 h2 h3 h5 ⊢
  split
  · rename_i hi
    refine ⟨by omega, ?_⟩
    have hin : i.toNat < fs.length := by omega
    have hxi : x.getD i.toNat default = fs.getD i.toNat default := h5 _ (by omega)
    have hs := hps i.toNat hin
    have hb := hmono (i.toNat + 1) (by omega)
    have hb0 := hmono i.toNat (by omega)
    rw [hxi]
    refine Zr9 (by rw [h3]; omega) fun y hy ht => ?_
    rw [i64_in (i + 1) (by omega)]
    refine hn _ ⟨by simpa using h1, by dsimp only; omega, by dsimp only; rw [show (i + 1).toNat = i.toNat + 1 by omega, hs, h3], fun j hj => ?_⟩ (by dsimp only; omega)
    · dsimp only at hj ⊢
      rw [Zbo (by omega), if_neg (by omega)]
      exact h5 j (by omega)
  · rename_i hi
    have hie : i.toNat = fs.length := by omega
    have hc : c = part fs.length := by rw [h3, hie]
    have hb := hmono fs.length (Nat.le_refl _)
    rw [hc]
    exact h x _ (by omega) hb.2
theorem Zun {a : Alg} {m : Int} {K : Int → Alg → Prop} (hm : 0 ≤ m ∧ m ≤ 100000000000000000) (h1 : a.degrees.length ≤ 1048576) (h2 : a.images.length ≤ 1048576) (h3 : ∀ i, i < a.images.length → (a.images.getD i default).terms.length ≤ 1048576) (h : ∀ x' n, 0 ≤ n → n ≤ m + 10000000000000 → K n x') : Zfy a m K := by
  unfold Zfy
  have hc := Zul h3
  have hc2 : a.images.length * 1048576 ≤ 1048576 * 1048576 := Nat.mul_le_mul_right _ h2
  refine Zuk (by omega) fun d => ?_
  exact Zum (by omega) (fun fs n h0 hn => h _ n h0 (by omega)) (by omega)
end Go.Proofs.Ytaagfepgbofmlaa
set_option linter.unusedVariables false
set_option linter.unusedSimpArgs false
namespace Go.Proofs.Ytaagfepgbofmlaa
open Go Vc
def Zag (g : Int → List A8) : Nat → List A8
  | 0 => []
  | k + 1 => g k ++ Zag g k
def X8 (d n : Int) : Int := if d % 2 = 1 then (if 1 < (if 20 < n / d then 20 else n / d) then 1 else (if 20 < n / d then 20 else n / d)) else (if 20 < n / d then 20 else n / d)
def Xy (ds : List Int) : Nat → Nat → A8 → Int → List A8
  | 0, _, m, n => if n = 0 then [m] else []
  | f + 1, i, m, n => Zag (fun k => Xy ds f (i + 1) (m.set i k) (n - k * ds.getD i default)) ((X8 (ds.getD i default) n).toNat + 1)
theorem Zia {d n : Int} (hd : 1 ≤ d) (hn : 0 ≤ n) : 0 ≤ X8 d n ∧ X8 d n ≤ 20 ∧ X8 d n * d ≤ n := by
  have h0 : 0 ≤ n / d := Int.ediv_nonneg hn (by omega)
  have h1 : n / d * d ≤ n := Int.ediv_mul_le n (by omega)
  have key : ∀ x : Int, 0 ≤ x → x ≤ n / d → x * d ≤ n := fun x _ hx => Int.le_trans (Int.mul_le_mul_of_nonneg_right hx (by omega)) h1
  have hb : 0 ≤ X8 d n ∧ X8 d n ≤ 20 ∧ X8 d n ≤ n / d := by
    unfold X8
    generalize n / d = q at *
    repeat' split
    all_goals omega
  exact ⟨hb.1, hb.2.1, key _ hb.1 hb.2.2⟩
theorem Zm2 {c : Nat} {g rest l : List A8} (hl : l.length ≤ c + 1) : l ++ g.take ((c + 1) - l.length) ++ rest.take ((c + 1) - (l ++ g.take ((c + 1) - l.length)).length) = l ++ (g ++ rest).take ((c + 1) - l.length) := by
  rw [List.append_assoc, List.take_append, List.length_append, List.length_take]
  congr 3
  omega
theorem Zm3 {m : A8} {i : Nat} {a b : Int} (hi : i < 8) : (m.set i a).set i b = m.set i b := by
  refine A8.ext_get fun q hq => ?_
  rw [A8.get_set hi, A8.get_set hi, A8.get_set hi]
  split <;> rfl
theorem Zuo {k : Int} (h : 0 ≤ k ∧ k ≤ 20) : IntKind.u8.wrap k = k := Zg4 _ (by omega)
theorem Zm4 {d n : Int} (hn : 0 ≤ n) : Int.tdiv n d = n / d := Int.tdiv_eq_ediv_of_nonneg hn
theorem Zup {ds : List Int} (hd : OkDeg ds) : ∀ (f F i : Nat) (m : A8) (n : Int) (l : List A8) (K : List A8 → Prop), i + f = ds.length → f < F → (0 ≤ n ∧ n ≤ 40) → l.length ≤ 400 → K (l ++ (Xy ds f i m n).take (401 - l.length)) → f_spec_l01Fill F ds m i n l K := by
  intro f
  induction f with
  | zero =>
    intro F i m n l K hi hF hn hl h
    obtain ⟨F, rfl⟩ : ∃ G, F = G + 1 := ⟨F - 1, by omega⟩
    rw [f_spec_l01Fill.eq_2, if_pos (by omega)]
    unfold Xy at h
    split
    · rename_i q
      rw [if_pos q] at h
      refine ⟨by unfold Xp; omega, ?_⟩
      rwa [List.take_of_length_le (by simp; omega)] at h
    · rename_i q
      rw [if_neg q] at h
      simpa using h
  | succ f ih =>
    intro F i m n l K hi hF hn hl h
    obtain ⟨F, rfl⟩ : ∃ G, F = G + 1 := ⟨F - 1, by omega⟩
    have h8 := hd.1
    have hdi := hd.2 i (by omega)
    obtain ⟨t0, t20, tn⟩ := Zia (d := ds.getD i default) (n := n) hdi.1 hn.1
    have hq0 : 0 ≤ n / ds.getD i default := Int.ediv_nonneg hn.1 (by omega)
    have hq1 : n / ds.getD i default ≤ n := Int.ediv_le_self _ hn.1
    rw [f_spec_l01Fill.eq_2, if_neg (by omega)]
    rw [Int.toNat_natCast, Zm4 hn.1, i64_in (n / ds.getD i default) (by omega), i64_in ((i : Int) + 1) (by omega)]
    have loop : ∀ (t : Int), X8 (ds.getD i default) n = t → Xf (fun (s80 : A8 × (List A8) × Int) next82 => (if s80.2.2 ≥ 0 then (if (s80.2.1.length : Int) ≤ 400 then ((0 ≤ (i : Int) ∧ (i : Int) < 8) ∧ ((0 ≤ (i : Int) ∧ (i : Int) < (ds.length : Int)) ∧ f_spec_l01Fill F ds (s80.1.set i (IntKind.u8.wrap s80.2.2)) ((i : Int) + 1) (IntKind.i64.wrap (n - (IntKind.i64.wrap (s80.2.2 * (ds.getD i default))))) s80.2.1 (fun r105 => next82 (s80.1.set i (IntKind.u8.wrap s80.2.2), r105, IntKind.i64.wrap (s80.2.2 - 1))))) else K s80.2.1) else K s80.2.1)) (m, l, t) := by
      rintro t rfl
      rw [Xy] at h
      refine X1 (fun (s : A8 × List A8 × Int) => (∀ b, s.1.set i b = m.set i b) ∧ s.2.1.length ≤ 401 ∧ (-1 ≤ s.2.2 ∧ s.2.2 ≤ X8 (ds.getD i default) n) ∧ s.2.1 ++ (Zag (fun k => Xy ds f (i + 1) (m.set i k) (n - k * ds.getD i default)) (s.2.2 + 1).toNat).take (401 - s.2.1.length) = l ++ (Zag (fun k => Xy ds f (i + 1) (m.set i k) (n - k * ds.getD i default)) ((X8 (ds.getD i default) n).toNat + 1)).take (401 - l.length)) (fun s => (s.2.2 + 1).toNat) ?_ ⟨fun _ => rfl, by dsimp only; omega, by dsimp only; omega, by dsimp only; rw [show (X8 (ds.getD i default) n + 1).toNat = (X8 (ds.getD i default) n).toNat + 1 by omega]⟩
      rintro ⟨x, y, k⟩ next ⟨k1, k2, k3, k4⟩ hx
      dsimp only at k1 k2 k3 k4 hx ⊢
      split
      · rename_i hk
        have hkd0 : 0 ≤ k * ds.getD i default := Int.mul_nonneg hk (by omega)
        have hkd : k * ds.getD i default ≤ n := Int.le_trans (Int.mul_le_mul_of_nonneg_right k3.2 (by omega)) tn
        split
        · rename_i hy
          refine ⟨by omega, by omega, ?_⟩
          rw [Zuo ⟨hk, by omega⟩, i64_in (k * ds.getD i default) (by omega), i64_in (n - k * ds.getD i default) (by omega), i64_in (k - 1) (by omega), k1 k]
          have e : ((i : Int) + 1) = ((i + 1 : Nat) : Int) := by omega
          rw [e]
          refine ih F (i + 1) _ _ _ _ (by omega) (by omega) (by omega) (by omega) (hx _ ⟨fun b => by dsimp only; rw [Zm3 (by omega)], ?_, by dsimp only; omega, ?_⟩ (by dsimp only; omega))
          · dsimp only; rw [List.length_append, List.length_take]; omega
          · dsimp only
            rw [← k4, show (k + 1).toNat = k.toNat + 1 by omega, Zag, show (k - 1 + 1).toNat = k.toNat by omega, show ((k.toNat : Nat) : Int) = k by omega]
            exact Zm2 (c := 400) k2
        · rename_i hy
          have e : y.length = 401 := by omega
          rw [← k4, e] at h
          simpa using h
      · rename_i hk
        rw [← k4, show (k + 1).toNat = 0 by omega] at h
        simpa [Zag] using h
    have ht : Int.tmod (ds.getD i default) 2 = ds.getD i default % 2 := Int.tmod_eq_emod_of_nonneg (by omega)
    rw [ht]
    refine ⟨by omega, by omega, by omega, ?_⟩
    split
    · rename_i q
      refine loop _ ?_
      unfold X8
      rw [if_pos (by omega)]
      clear loop h ih
      generalize n / ds.getD i default = q at *
      repeat' split
      all_goals omega
    · rename_i q
      refine loop _ ?_
      unfold X8
      rw [if_neg (by omega)]
theorem Zuq {ds : List Int} (hd : OkDeg ds) (c : Nat) (hc : c ≤ 1000) : ∀ (f F i : Nat) (m : A8) (n : Int) (l : List A8) (K : List A8 → Prop), i + f = ds.length → f < F → (0 ≤ n ∧ n ≤ 40) → l.length ≤ (c + 1) → K (l ++ (Xy ds f i m n).take ((c + 1) - l.length)) → f_impl_lister_from F (ds, (c : Int), l) i m n K := by
  intro f
  induction f with
  | zero =>
    intro F i m n l K hi hF hn hl h
    obtain ⟨F, rfl⟩ : ∃ G, F = G + 1 := ⟨F - 1, by omega⟩
    rw [f_impl_lister_from.eq_2]
    dsimp only
    unfold Xy at h
    split
    · rename_i q
      rw [show (c + 1) - l.length = 0 by omega] at h
      simpa using h
    · rename_i q
      rw [if_pos (by omega)]
      split
      · rename_i q
        rw [if_pos q] at h
        refine ⟨by unfold Xp; omega, ?_⟩
        rwa [List.take_of_length_le (by simp; omega)] at h
      · rename_i q
        rw [if_neg q] at h
        simpa using h
  | succ f ih =>
    intro F i m n l K hi hF hn hl h
    obtain ⟨F, rfl⟩ : ∃ G, F = G + 1 := ⟨F - 1, by omega⟩
    have h8 := hd.1
    have hdi := hd.2 i (by omega)
    obtain ⟨t0, t20, tn⟩ := Zia (d := ds.getD i default) (n := n) hdi.1 hn.1
    have hq0 : 0 ≤ n / ds.getD i default := Int.ediv_nonneg hn.1 (by omega)
    have hq1 : n / ds.getD i default ≤ n := Int.ediv_le_self _ hn.1
    rw [f_impl_lister_from.eq_2]
    dsimp only
    split
    · rename_i q
      rw [show (c + 1) - l.length = 0 by omega] at h
      simpa using h
    rw [if_neg (by omega)]
    rw [Int.toNat_natCast, Zm4 hn.1, i64_in (n / ds.getD i default) (by omega), i64_in ((i : Int) + 1) (by omega)]
    have loop : ∀ (t : Int), X8 (ds.getD i default) n = t → Xf (fun (s65 : A8 × (List A8) × Int) next67 => (if s65.2.2 ≥ 0 then ((0 ≤ (i : Int) ∧ (i : Int) < 8) ∧ f_impl_lister_from F (ds, (c : Int), s65.2.1) ((i : Int) + 1) (s65.1.set i s65.2.2) (IntKind.i64.wrap (n - (IntKind.i64.wrap (s65.2.2 * (ds.getD i default))))) (fun m79 => next67 (s65.1.set i s65.2.2, m79, IntKind.i64.wrap (s65.2.2 - 1)))) else K s65.2.1)) (m, l, t) := by
      rintro t rfl
      rw [Xy] at h
      refine X1 (fun (s : A8 × List A8 × Int) => (∀ b, s.1.set i b = m.set i b) ∧ s.2.1.length ≤ (c + 1) ∧ (-1 ≤ s.2.2 ∧ s.2.2 ≤ X8 (ds.getD i default) n) ∧ s.2.1 ++ (Zag (fun k => Xy ds f (i + 1) (m.set i k) (n - k * ds.getD i default)) (s.2.2 + 1).toNat).take ((c + 1) - s.2.1.length) = l ++ (Zag (fun k => Xy ds f (i + 1) (m.set i k) (n - k * ds.getD i default)) ((X8 (ds.getD i default) n).toNat + 1)).take ((c + 1) - l.length)) (fun s => (s.2.2 + 1).toNat) ?_ ⟨fun _ => rfl, by dsimp only; omega, by dsimp only; omega, by dsimp only; rw [show (X8 (ds.getD i default) n + 1).toNat = (X8 (ds.getD i default) n).toNat + 1 by omega]⟩
      rintro ⟨x, y, k⟩ next ⟨k1, k2, k3, k4⟩ hx
      dsimp only at k1 k2 k3 k4 hx ⊢
      split
      · rename_i hk
        have hkd0 : 0 ≤ k * ds.getD i default := Int.mul_nonneg hk (by omega)
        have hkd : k * ds.getD i default ≤ n := Int.le_trans (Int.mul_le_mul_of_nonneg_right k3.2 (by omega)) tn
        refine ⟨by omega, ?_⟩
        rw [i64_in (k * ds.getD i default) (by omega), i64_in (n - k * ds.getD i default) (by omega), i64_in (k - 1) (by omega), k1 k]
        have e : ((i : Int) + 1) = ((i + 1 : Nat) : Int) := by omega
        rw [e]
        refine ih F (i + 1) _ _ _ _ (by omega) (by omega) (by omega) k2 (hx _ ⟨fun b => by dsimp only; rw [Zm3 (by omega)], ?_, by dsimp only; omega, ?_⟩ (by dsimp only; omega))
        · dsimp only; rw [List.length_append, List.length_take]; omega
        · dsimp only
          rw [← k4, show (k + 1).toNat = k.toNat + 1 by omega, Zag, show (k - 1 + 1).toNat = k.toNat by omega, show ((k.toNat : Nat) : Int) = k by omega]
          exact Zm2 k2
      · rename_i hk
        rw [← k4, show (k + 1).toNat = 0 by omega] at h
        simpa [Zag] using h
    have ht : Int.tmod (ds.getD i default) 2 = ds.getD i default % 2 := Int.tmod_eq_emod_of_nonneg (by omega)
    rw [ht]
    refine ⟨by omega, by omega, ?_⟩
    split
    · rename_i q
      refine loop _ ?_
      unfold X8
      rw [if_pos q]
    · rename_i q
      refine loop _ ?_
      unfold X8
      rw [if_neg q]
def Zgj (p : A8) : Prop := ∀ q, q < 8 → 0 ≤ p.get q ∧ p.get q ≤ 20
theorem Zib {g : Int → List A8} {p : A8} : ∀ {t : Nat}, p ∈ Zag g t → ∃ k : Nat, k < t ∧ p ∈ g k := by
  intro t
  induction t with
  | zero => intro h; simp [Zag] at h
  | succ t ih =>
    intro h
    rw [Zag] at h
    rcases List.mem_append.1 h with h | h
    · exact ⟨t, by omega, h⟩
    · obtain ⟨k, hk, hp⟩ := ih h
      exact ⟨k, by omega, hp⟩
theorem Zur {ds : List Int} (hd : OkDeg ds) : ∀ (f i : Nat) (m : A8) (n : Int), i + f = ds.length → 0 ≤ n → Zgj m → ∀ p, p ∈ Xy ds f i m n → Zgj p := by
  intro f
  induction f with
  | zero =>
    intro i m n hi hn hm p hp
    unfold Xy at hp
    split at hp
    · rw [List.mem_singleton.1 hp]; exact hm
    · simp at hp
  | succ f ih =>
    intro i m n hi hn hm p hp
    have h8 := hd.1
    have hdi := hd.2 i (by omega)
    obtain ⟨t0, t20, tn⟩ := Zia (d := ds.getD i default) (n := n) hdi.1 hn
    rw [Xy] at hp
    obtain ⟨k, hk, hp⟩ := Zib hp
    have hkd : (k : Int) * ds.getD i default ≤ n := Int.le_trans (Int.mul_le_mul_of_nonneg_right (by omega) (by omega)) tn
    refine ih (i + 1) _ _ (by omega) (by omega) (fun q hq => ?_) p hp
    rw [A8.get_set (by omega)]
    split
    · omega
    · exact hm q hq
def mons (ds : List Int) (n : Int) : List A8 := if n < 0 then [] else Xy ds ds.length 0 A8.zero n
theorem Zus {ds : List Int} (hd : OkDeg ds) {n : Int} : ∀ p, p ∈ mons ds n → Zgj p := fun p hp => by
  unfold mons at hp
  split at hp
  · simp at hp
  · exact Zur hd _ _ _ _ (by omega) (by omega) (fun q hq => by rw [A8.get_zero]; omega) p hp
def Fits (ds : List Int) (n : Int) : Prop := (mons ds n).length ≤ 120
instance (ds : List Int) (n : Int) : Decidable (Fits ds n) := inferInstanceAs (Decidable (_ ≤ _))
theorem kb {K : List A8 → Bool → Prop} {a c : List A8} {b d : Bool} (h : K a b) (e1 : c = a) (e2 : d = b) : K c d := by rw [e1, e2]; exact h
theorem Zut {ds : List Int} (hd : OkDeg ds) {n : Int} (hn : n ≤ 40) {K : List A8 → Bool → Prop} (h1 : Fits ds n → K (mons ds n) true) (h2 : ¬ Fits ds n → ∀ l, K l false) : Zgd ds n 120 K := by
  unfold Zgd
  by_cases h0 : n ≥ 0
  · rw [if_pos h0]
    have h8 := hd.1
    have e : mons ds n = Xy ds ds.length 0 A8.zero n := by unfold mons; rw [if_neg (by omega)]
    refine Zuq hd 120 (by omega) ds.length 9 0 A8.zero n [] _ (by omega) (by omega) (by omega) (by simp) ?_
    rw [← e]
    have et : ([] : List A8) ++ (mons ds n).take (120 + 1 - ([] : List A8).length) = (mons ds n).take 121 := by simp
    by_cases hf : Fits ds n
    · have hf' : (mons ds n).length ≤ 120 := hf
      exact kb (h1 hf) (by rw [et, List.take_of_length_le (by omega)]) (decide_eq_true (by rw [et, List.length_take]; omega))
    · have hf' : ¬ (mons ds n).length ≤ 120 := hf
      exact kb (h2 hf _) rfl (decide_eq_false (by rw [et, List.length_take]; omega))
  · rw [if_neg h0]
    have e : mons ds n = [] := by unfold mons; rw [if_pos (by omega)]
    have := h1 (by unfold Fits; rw [e]; simp)
    rw [e] at this
    exact this
theorem Zj6 {ds : List Int} (hd : OkDeg ds) {n : Int} (hn : 0 ≤ n ∧ n ≤ 40) {K : List A8 → Prop} (h : K ((mons ds n).take 401)) : Zc6 ds n K := by
  unfold Zc6
  have h8 := hd.1
  have e : mons ds n = Xy ds ds.length 0 A8.zero n := by unfold mons; rw [if_neg (by omega)]
  rw [e] at h
  exact Zup hd ds.length 9 0 A8.zero n [] _ (by omega) (by omega) hn (by simp) h
end Go.Proofs.Ytaagfepgbofmlaa
set_option linter.unusedVariables false
set_option linter.unusedSimpArgs false
namespace Go.Proofs.Ytaagfepgbofmlaa
open Go Vc
theorem Zcf : ∀ (l xs ys : List Int) (x y : Int), y < x → Jr (l ++ x :: xs) (l ++ y :: ys) < 0 := by
  intro l
  induction l with
  | nil => intro xs ys x y h; simp only [List.nil_append, Jr]; split <;> (try split) <;> omega
  | cons a l ih => intro xs ys x y h; simp only [List.cons_append, Jr]; split <;> (try split) <;> first | omega | exact ih xs ys x y h
theorem Zuu {a b : A8} {i : Nat} (hi : i < 8) (h : ∀ q, q < i → a.get q = b.get q) (hg : b.get i < a.get i) : pcmp a b < 0 := by
  have hl : ∀ c : A8, c.list = [c.get 0, c.get 1, c.get 2, c.get 3, c.get 4, c.get 5, c.get 6, c.get 7] := fun _ => rfl
  unfold pcmp
  rw [hl a, hl b]
  match i, hi with
  | 0, _ => exact Zcf [] _ _ _ _ hg
  | 1, _ => rw [h 0 (by omega)]; exact Zcf [_] _ _ _ _ hg
  | 2, _ => rw [h 0 (by omega), h 1 (by omega)]; exact Zcf [_, _] _ _ _ _ hg
  | 3, _ => rw [h 0 (by omega), h 1 (by omega), h 2 (by omega)]; exact Zcf [_, _, _] _ _ _ _ hg
  | 4, _ => rw [h 0 (by omega), h 1 (by omega), h 2 (by omega), h 3 (by omega)]; exact Zcf [_, _, _, _] _ _ _ _ hg
  | 5, _ => rw [h 0 (by omega), h 1 (by omega), h 2 (by omega), h 3 (by omega), h 4 (by omega)]; exact Zcf [_, _, _, _, _] _ _ _ _ hg
  | 6, _ => rw [h 0 (by omega), h 1 (by omega), h 2 (by omega), h 3 (by omega), h 4 (by omega), h 5 (by omega)]; exact Zcf [_, _, _, _, _, _] _ _ _ _ hg
  | 7, _ => rw [h 0 (by omega), h 1 (by omega), h 2 (by omega), h 3 (by omega), h 4 (by omega), h 5 (by omega), h 6 (by omega)]; exact Zcf [_, _, _, _, _, _, _] _ _ _ _ hg
theorem Zj7 {ds : List Int} : ∀ (f i : Nat) (m : A8) (n : Int), i + f = ds.length → ds.length ≤ 8 → ∀ p, p ∈ Xy ds f i m n → ∀ q, q < i → p.get q = m.get q := by
  intro f
  induction f with
  | zero =>
    intro i m n hi h8 p hp q hq
    unfold Xy at hp
    split at hp
    · rw [List.mem_singleton.1 hp]
    · simp at hp
  | succ f ih =>
    intro i m n hi h8 p hp q hq
    rw [Xy] at hp
    obtain ⟨k, hk, hp⟩ := Zib hp
    have := ih (i + 1) _ _ (by omega) h8 p hp q (by omega)
    rw [this, A8.get_set (by omega), if_neg (by omega)]
theorem Zuv {ds : List Int} {f i : Nat} {m : A8} {n k : Int} (hi : i + (f + 1) = ds.length) (h8 : ds.length ≤ 8) {p : A8} (hp : p ∈ Xy ds f (i + 1) (m.set i k) n) : p.get i = k := by
  have := Zj7 f (i + 1) (m.set i k) n (by omega) h8 p hp i (by omega)
  rw [this, A8.get_set (by omega), if_pos rfl]
theorem Zuw {g : Int → List A8} {i : Nat} (hi : i < 8) (hag : ∀ k k' : Int, ∀ a, a ∈ g k → ∀ b, b ∈ g k' → ∀ q, q < i → a.get q = b.get q) (hat : ∀ k : Int, ∀ a, a ∈ g k → a.get i = k) (hs : ∀ k : Int, (g k).Pairwise (fun a b => pcmp a b < 0)) :
    ∀ t, (Zag g t).Pairwise (fun a b => pcmp a b < 0) := by
  intro t
  induction t with
  | zero => exact List.Pairwise.nil
  | succ t ih =>
    rw [Zag]
    refine List.pairwise_append.2 ⟨hs _, ih, fun a ha b hb => ?_⟩
    obtain ⟨k, hk, hb⟩ := Zib hb
    refine Zuu hi (hag _ _ a ha b hb) ?_
    rw [hat _ a ha, hat _ b hb]; omega
theorem Zux {ds : List Int} (h8 : ds.length ≤ 8) : ∀ (f i : Nat) (m : A8) (n : Int), i + f = ds.length → (Xy ds f i m n).Pairwise (fun a b => pcmp a b < 0) := by
  intro f
  induction f with
  | zero =>
    intro i m n hi
    unfold Xy
    split
    · exact List.pairwise_singleton _ _
    · exact List.Pairwise.nil
  | succ f ih =>
    intro i m n hi
    rw [Xy]
    refine Zuw (i := i) (by omega) (fun k k' a ha b hb q hq => ?_) (fun k a ha => Zuv hi h8 ha) (fun k => ih (i + 1) _ _ (by omega)) _
    have e1 := Zj7 f (i + 1) _ _ (by omega) h8 a ha q (by omega)
    have e2 := Zj7 f (i + 1) _ _ (by omega) h8 b hb q (by omega)
    rw [e1, e2, A8.get_set (by omega), A8.get_set (by omega), if_neg (by omega), if_neg (by omega)]
theorem Zuy {ds : List Int} (h8 : ds.length ≤ 8) (n : Int) : (mons ds n).Pairwise (fun a b => pcmp a b < 0) := by
  unfold mons
  split
  · exact List.Pairwise.nil
  · exact Zux h8 _ _ _ _ (by omega)
def Za6 (ds : List Int) (p : A8) : Nat → Nat → Int
  | 0, _ => 0
  | r + 1, j => ds.getD j default * p.get j + Za6 ds p r (j + 1)
theorem Zm5 {ds : List Int} (hd : OkDeg ds) {p : A8} (hp : ∀ i, i < 8 → 0 ≤ p.get i) : ∀ r j, j + r = ds.length → 0 ≤ Za6 ds p r j := by
  intro r
  induction r with
  | zero => intro j _; exact Int.le_refl _
  | succ r ih =>
    intro j hj
    have h8 := hd.1
    have := ih (j + 1) (by omega)
    have h1 := Int.mul_nonneg (a := ds.getD j default) (b := p.get j) (by have := hd.2 j (by omega); omega) (hp j (by omega))
    simp only [Za6]; omega
theorem Zuz {g : Int → List A8} {p : A8} {k : Nat} (hp : p ∈ g k) : ∀ t, k < t → p ∈ Zag g t := by
  intro t
  induction t with
  | zero => intro h; omega
  | succ t ih =>
    intro h
    rw [Zag]
    by_cases e : k = t
    · subst e; exact List.mem_append_left _ hp
    · exact List.mem_append_right _ (ih (by omega))
theorem Zu0 {ds : List Int} (hd : OkDeg ds) {p : A8} (hp : ∀ i, i < 8 → 0 ≤ p.get i) (hm : OkMono ds p) : ∀ (f i : Nat) (m : A8) (n : Int), i + f = ds.length → (∀ q, q < 8 → m.get q = if q < i then p.get q else 0) → Za6 ds p f i = n → p ∈ Xy ds f i m n := by
  intro f
  induction f with
  | zero =>
    intro i m n hi hag hn
    unfold Xy
    simp only [Za6] at hn
    rw [if_pos hn.symm, List.mem_singleton]
    refine A8.ext_get fun q hq => ?_
    rw [hag q hq]
    split
    · rfl
    · exact (hm q hq).2 (by omega)
  | succ f ih =>
    intro i m n hi hag hn
    have h8 := hd.1
    have hdi := hd.2 i (by omega)
    have hpi := hp i (by omega)
    have hmi := (hm i (by omega)).1 (by omega)
    simp only [Za6] at hn
    have hr := Zm5 hd hp f (i + 1) (by omega)
    rw [Xy]
    have hk : p.get i ≤ n / ds.getD i default := Int.le_ediv_of_mul_le (by omega) (by rw [Int.mul_comm]; omega)
    have htop : p.get i ≤ X8 (ds.getD i default) n := by
      unfold X8
      by_cases o : ds.getD i default % 2 = 1
      · have h1 := hmi.2 (by rw [Int.tmod_eq_emod_of_nonneg (by omega)]; omega)
        rw [if_pos o]
        generalize n / ds.getD i default = t at *
        repeat' split
        all_goals omega
      · rw [if_neg o]
        generalize n / ds.getD i default = t at *
        repeat' split
        all_goals omega
    refine Zuz (k := (p.get i).toNat) ?_ _ (by omega)
    have e : (((p.get i).toNat : Nat) : Int) = p.get i := by omega
    rw [e]
    refine ih (i + 1) _ _ (by omega) (fun q hq => ?_) ?_
    · rw [A8.get_set (by omega)]
      by_cases c : q = i
      · subst c; rw [if_pos rfl, if_pos (by omega)]
      · rw [if_neg c, hag q hq]
        by_cases c2 : q < i
        · rw [if_pos c2, if_pos (by omega)]
        · rw [if_neg c2, if_neg (by omega)]
    · rw [Int.mul_comm (p.get i)]; omega
theorem Zu1 (ds : List Int) (p : A8) : ∀ (r j : Nat), Za6 ds p (r + 1) j = Za6 ds p r j + ds.getD (j + r) default * p.get (j + r) := by
  intro r
  induction r with
  | zero => intro j; simp [Za6]
  | succ r ih =>
    intro j
    rw [Za6, ih (j + 1), show j + 1 + r = j + (r + 1) by omega]
    simp only [Za6]; omega
theorem Zm6 (ds : List Int) (p : A8) : ∀ k, Za6 ds p k 0 = wtU ds p k := by
  intro k
  induction k with
  | zero => rfl
  | succ k ih => rw [Zu1, ih, Nat.zero_add, wtU]
theorem Zu2 {ds : List Int} (hd : OkDeg ds) {p : A8} (hp : ∀ i, i < 8 → 0 ≤ p.get i) (hm : OkMono ds p) : p ∈ mons ds (wtU ds p ds.length) := by
  have h0 := Zm5 hd hp ds.length 0 (by omega)
  rw [Zm6] at h0
  unfold mons
  rw [if_neg (by omega)]
  exact Zu0 hd hp hm _ _ _ _ (by omega) (fun q hq => by rw [A8.get_zero, if_neg (by omega)]) (Zm6 ds p _)
end Go.Proofs.Ytaagfepgbofmlaa
set_option linter.unusedVariables false
set_option linter.unusedSimpArgs false
namespace Go.Proofs.Ytaagfepgbofmlaa
open Go Vc
theorem Zd5 {a b : Int} {K : Int → Prop} (h : K (if a ≠ 0 then a else b)) : Zdx [a, b] K := by
  simp only [Zdx, Yy, List.length_cons, List.length_nil, List.getD_cons_zero, List.getD_cons_succ]
  split
  · rename_i q; rwa [if_pos q] at h
  · rename_i q
    rw [if_neg q] at h
    split
    · exact h
    · rename_i q2
      have q2 : b = 0 := Decidable.not_not.1 q2
      rwa [q2] at h
def Jb (ds : List Int) (k : Int) (j : Nat) : List A8 := mons ds (ds.getD j default - k)
def Y2 (ds : List Int) (k : Int) : Nat → Nat
  | 0 => 0
  | j + 1 => Y2 ds k j + (Jb ds k j).length
def Xz (ds : List Int) (k : Int) : Nat → List Elem
  | 0 => []
  | j + 1 => Xz ds k j ++ (Jb ds k j).map fun m => ⟨(j : Int), m⟩
theorem Zbq (ds : List Int) (k : Int) : ∀ j, (Xz ds k j).length = Y2 ds k j
  | 0 => rfl
  | j + 1 => by rw [Xz, Y2, List.length_append, List.length_map, Zbq ds k j]
theorem Zj8 (ds : List Int) (k : Int) (j : Nat) : ∀ n, j ≤ n → Y2 ds k j ≤ Y2 ds k n := by
  intro n
  induction n with
  | zero => intro h; obtain rfl : j = 0 := by omega
            exact Nat.le_refl _
  | succ n ih =>
    intro h
    by_cases e : j = n + 1
    · subst e; exact Nat.le_refl _
    · have := ih (by omega); rw [Y2]; omega
theorem Zic {ds : List Int} (hd : OkDeg ds) {k : Int} (hk : 0 ≤ k ∧ k ≤ 12) {j : Nat} (hj : j < ds.length) : IntKind.i64.wrap (ds.getD j default - k) = ds.getD j default - k := by
  have := hd.2 j hj; exact i64_in _ (by omega)
theorem Zgk {α β : Type} [Inhabited α] (f : α → β) {l : List α} {i : Nat} (h : i < l.length) : (l.take (i + 1)).map f = (l.take i).map f ++ [f (l.getD i default)] := by
  rw [Zal h, List.map_append]; rfl
theorem Zj9 {a : Alg} {k : Int} {K : List Elem → Int → Prop} (hd : OkDeg a.degrees) (hk : 0 ≤ k ∧ k ≤ 12) (h1 : Y2 a.degrees k a.degrees.length ≤ 120 → K (Xz a.degrees k a.degrees.length) 0) (h2 : ¬ Y2 a.degrees k a.degrees.length ≤ 120 → K [] 3) : Zd2 a k K := by
  unfold Zd2
  have h8 := hd.1
  refine Xg (fun i s => s = Xz a.degrees k i ∧ Y2 a.degrees k i ≤ 120) a.degrees.length ?_ ?_ _ _ _ (by omega) ⟨rfl, by simp [Y2]⟩
  · rintro i s next hi ⟨rfl, ht⟩ hn
    have hdi := hd.2 i hi
    have hm := Zj8 a.degrees k (i + 1) a.degrees.length (by omega)
    rw [Y2] at hm
    rw [Zic hd hk hi]
    refine Zut hd (by omega) (fun hf => ?_) (fun no l => ?_)
    · have hf' : (Jb a.degrees k i).length ≤ 120 := hf
      refine Xn (by simp) ?_
      rw [Zbq]
      show if IntKind.i64.wrap (((Y2 a.degrees k i : Nat) : Int) + ((Jb a.degrees k i).length : Int)) > 120 then _ else _
      rw [i64_in _ (by omega)]
      by_cases q : ((Y2 a.degrees k i : Nat) : Int) + ((Jb a.degrees k i).length : Int) > 120
      · exact Xh q (h2 (by omega))
      · refine Xn q ?_
        refine Xg (fun j s => s = Xz a.degrees k i ++ ((Jb a.degrees k i).take j).map fun m => ⟨(i : Int), m⟩) (Jb a.degrees k i).length ?_ ?_ _ _ _ (Nat.zero_add _) (by simp)
        · rintro j s nx hj rfl hnx
          refine ⟨?_, hnx _ ?_⟩
          · rw [List.length_append, List.length_map, List.length_take, Zbq]; unfold Xp; omega
          · rw [Zgk _ hj, ← List.append_assoc]; rfl
        · rintro s rfl
          rw [List.take_length]
          exact hn _ ⟨rfl, by rw [Y2]; omega⟩
    · have no' : ¬ (Jb a.degrees k i).length ≤ 120 := no
      exact Xh (by simp) (h2 (by omega))
  · rintro s ⟨rfl, ht⟩; exact h1 ht
def Zah (ds : List Int) (k : Int) : Nat → Nat
  | 0 => 0
  | j + 1 => Zah ds k j + min 401 (Jb ds k j).length
theorem Zm7 (ds : List Int) (k : Int) : ∀ j, Zah ds k j ≤ 401 * j
  | 0 => Nat.le_refl _
  | j + 1 => by have := Zm7 ds k j; rw [Zah]; omega
theorem Zm8 (ds : List Int) (k : Int) : ∀ j, Zah ds k j ≤ 120 ↔ Y2 ds k j ≤ 120
  | 0 => Iff.rfl
  | j + 1 => by
    have h := Zm8 ds k j
    have : Zah ds k j ≤ Y2 ds k j := by
      clear h
      induction j with
      | zero => exact Nat.le_refl _
      | succ j ih => rw [Zah, Y2]; omega
    have eq : Y2 ds k j ≤ 120 → Zah ds k j = Y2 ds k j := by
      clear h this
      induction j with
      | zero => intro _; rfl
      | succ j ih => intro q; rw [Y2] at q; rw [Zah, Y2, ih (by omega)]; omega
    rw [Zah, Y2]
    by_cases q : Y2 ds k j ≤ 120
    · rw [eq q]; omega
    · have : ¬ Zah ds k j ≤ 120 := fun z => q (h.1 z)
      omega
theorem Zu3 {a : Alg} {k : Int} {K : Int → Prop} (hd : OkDeg a.degrees) (hk : 0 ≤ k ∧ k ≤ 12) (h : K (Zah a.degrees k a.degrees.length)) : Zc7 a k K := by
  unfold Zc7
  have h8 := hd.1
  refine X1 (fun (s : Int × Int) => (0 ≤ s.2 ∧ s.2 ≤ a.degrees.length) ∧ s.1 = Zah a.degrees k s.2.toNat) (fun s => a.degrees.length - s.2.toNat) ?_ ⟨by dsimp only; omega, rfl⟩
  rintro ⟨c, i⟩ next ⟨g1, g2⟩ hn
  dsimp only at g1 g2 hn ⊢
  subst g2
  have hb := Zm7 a.degrees k i.toNat
  by_cases hi : i < (a.degrees.length : Int)
  · refine Xh hi ⟨⟨g1.1, hi⟩, ?_⟩
    have hdi := hd.2 i.toNat (by omega)
    rw [i64_in (i + 1) (by omega)]
    have hstep : Zah a.degrees k (i + 1).toNat = Zah a.degrees k i.toNat + min 401 (Jb a.degrees k i.toNat).length := by
      rw [show (i + 1).toNat = i.toNat + 1 by omega, Zah]
    by_cases q : a.degrees.getD i.toNat default ≥ k
    · refine Xh q ⟨⟨g1.1, hi⟩, ?_⟩
      rw [Zic hd hk (by omega)]
      refine Zj6 hd (by omega) ?_
      show next (IntKind.i64.wrap (((Zah a.degrees k i.toNat : Nat) : Int) + (((Jb a.degrees k i.toNat).take 401).length : Int)), i + 1)
      rw [List.length_take, i64_in _ (by omega)]
      exact hn _ ⟨by dsimp only; omega, by dsimp only; rw [hstep]; omega⟩ (by dsimp only; omega)
    · refine Xn q (hn _ ⟨by dsimp only; omega, ?_⟩ (by dsimp only; omega))
      dsimp only
      have e : Jb a.degrees k i.toNat = [] := by unfold Jb mons; rw [if_pos (by omega)]
      rw [hstep, e]; rfl
  · refine Xn hi ?_
    rw [show i.toNat = a.degrees.length by omega]; exact h
def Zac (n : Nat) (k : Int) (e : Elem) : Der := ⟨k, (List.replicate n (⟨[]⟩ : Vc.Form)).set e.gen.toNat ⟨[⟨e.mono, 1⟩]⟩⟩
theorem Zu4 {a : Alg} {k : Int} {K : List Der → Prop} (hd : OkDeg a.degrees) (hk : 0 ≤ k ∧ k ≤ 12) (ht : Y2 a.degrees k a.degrees.length ≤ 120) (h : K ((Xz a.degrees k a.degrees.length).map (Zac a.degrees.length k))) : Zf5 a k K := by
  unfold Zf5
  have h8 := hd.1
  refine X1 (fun (s : List Der × Int) => (0 ≤ s.2 ∧ s.2 ≤ a.degrees.length) ∧ s.1 = (Xz a.degrees k s.2.toNat).map (Zac a.degrees.length k)) (fun s => a.degrees.length - s.2.toNat) ?_ ⟨by dsimp only; omega, rfl⟩
  rintro ⟨c, i⟩ next ⟨g1, g2⟩ hn
  dsimp only at g1 g2 hn ⊢
  subst g2
  by_cases hi : i < (a.degrees.length : Int)
  · refine Xh hi ⟨⟨g1.1, hi⟩, ?_⟩
    have hdi := hd.2 i.toNat (by omega)
    rw [i64_in (i + 1) (by omega)]
    have hstep : (Xz a.degrees k (i + 1).toNat).map (Zac a.degrees.length k) = (Xz a.degrees k i.toNat).map (Zac a.degrees.length k) ++ (Jb a.degrees k i.toNat).map (fun m => Zac a.degrees.length k ⟨((i.toNat : Nat) : Int), m⟩) := by
      rw [show (i + 1).toNat = i.toNat + 1 by omega, Xz, List.map_append, List.map_map]; rfl
    have hm1 := Zj8 a.degrees k (i.toNat + 1) a.degrees.length (by omega)
    rw [Y2] at hm1
    by_cases q : a.degrees.getD i.toNat default < k
    · refine Xh q (hn _ ⟨by dsimp only; omega, ?_⟩ (by dsimp only; omega))
      dsimp only
      have e : Jb a.degrees k i.toNat = [] := by unfold Jb mons; rw [if_pos (by omega)]
      rw [hstep, e, List.map_nil, List.append_nil]
    · refine Xn q ⟨⟨g1.1, hi⟩, ?_⟩
      rw [Zic hd hk (by omega)]
      refine Zj6 hd (by omega) ?_
      have et : (mons a.degrees (a.degrees.getD i.toNat default - k)).take 401 = Jb a.degrees k i.toNat := List.take_of_length_le (by show (Jb a.degrees k i.toNat).length ≤ 401; omega)
      rw [et]
      refine Xg (fun j s => s = (Xz a.degrees k i.toNat).map (Zac a.degrees.length k) ++ ((Jb a.degrees k i.toNat).take j).map (fun m => Zac a.degrees.length k ⟨((i.toNat : Nat) : Int), m⟩)) (Jb a.degrees k i.toNat).length ?_ ?_ _ _ _ (by omega) (by simp)
      · rintro j s nx hj rfl hnx
        refine ⟨⟨by omega, by omega⟩, Zh4 ⟨⟨g1.1, ?_⟩, ?_, hnx _ ?_⟩⟩
        · rw [List.length_replicate]; omega
        · rw [List.length_append, List.length_map, List.length_map, List.length_take, Zbq]; unfold Xp; omega
        · rw [Zgk _ hj, ← List.append_assoc, Int.toNat_natCast]
          simp only [Zac, Int.toNat_natCast]
      · rintro s rfl
        rw [List.take_length]
        exact hn _ ⟨by dsimp only; omega, by dsimp only; rw [hstep]⟩ (by dsimp only; omega)
  · refine Xn hi ?_
    rw [show i.toNat = a.degrees.length by omega]; exact h
def Zd6 (n : Nat) (e : Elem) : List (List (A8 × Int)) := (List.range n).map fun (i : Nat) => if (i : Int) = e.gen then Zy ([] : List (A8 × Int)) e.mono 1 else []
theorem Zm9 {β : Type} (f : Nat → β) (i : Nat) : (List.range (i + 1)).map f = (List.range i).map f ++ [f i] := by
  rw [List.range_succ, List.map_append]; rfl
end Go.Proofs.Ytaagfepgbofmlaa
set_option linter.unusedVariables false
set_option linter.unusedSimpArgs false
namespace Go.Proofs.Ytaagfepgbofmlaa
open Go Vc
theorem Zu5 {ds : List Int} {m : A8} {i : Nat} {k : Int} (hi : i < 8) : ∀ j, j ≤ i → wtU ds (m.set i k) j = wtU ds m j := by
  intro j
  induction j with
  | zero => intro _; rfl
  | succ j ih => intro hj; simp only [wtU]; rw [ih (by omega), A8.get_set hi, if_neg (by omega)]
theorem Zna {ds : List Int} (hd : OkDeg ds) : ∀ (f i : Nat) (m : A8) (n : Int), i + f = ds.length → 0 ≤ n → (∀ q, q < 8 → i ≤ q → m.get q = 0) → (∀ q, q < i → m.get q ≤ 20 ∧ (Int.tmod (ds.getD q default) 2 ≠ 0 → m.get q ≤ 1)) → ∀ p, p ∈ Xy ds f i m n → OkMono ds p ∧ wtU ds p ds.length = wtU ds m i + n := by
  intro f
  induction f with
  | zero =>
    intro i m n hi hn h0 h1 p hp
    unfold Xy at hp
    split at hp
    · rename_i e
      rw [List.mem_singleton.1 hp]
      refine ⟨fun q hq => ⟨fun hl => h1 q (by omega), fun hl => h0 q hq (by omega)⟩, ?_⟩
      rw [show ds.length = i by omega, e, Int.add_zero]
    · simp at hp
  | succ f ih =>
    intro i m n hi hn h0 h1 p hp
    have h8 := hd.1
    have hdi := hd.2 i (by omega)
    obtain ⟨t0, t20, tn⟩ := Zia (d := ds.getD i default) (n := n) hdi.1 hn
    rw [Xy] at hp
    obtain ⟨k, hk, hp⟩ := Zib hp
    have hkt : (k : Int) ≤ X8 (ds.getD i default) n := by omega
    have hkd : (k : Int) * ds.getD i default ≤ n := Int.le_trans (Int.mul_le_mul_of_nonneg_right hkt (by omega)) tn
    have odd1 : Int.tmod (ds.getD i default) 2 ≠ 0 → (k : Int) ≤ 1 := fun o => by
      rw [Int.tmod_eq_emod_of_nonneg (by omega)] at o
      have : X8 (ds.getD i default) n ≤ 1 := by
        unfold X8
        rw [if_pos (by omega)]
        clear hkt hkd hp t0 t20 tn hk
        generalize n / ds.getD i default = q at *
        repeat' split
        all_goals omega
      omega
    obtain ⟨r1, r2⟩ := ih (i + 1) (m.set i k) (n - k * ds.getD i default) (by omega) (by omega) (fun q hq hq2 => by rw [A8.get_set (by omega), if_neg (by omega)]; exact h0 q hq (by omega)) (fun q hq => by
      rw [A8.get_set (by omega)]
      by_cases e : q = i
      · subst e; rw [if_pos rfl]; exact ⟨by omega, odd1⟩
      · rw [if_neg e]; exact h1 q (by omega)) p hp
    refine ⟨r1, ?_⟩
    rw [r2, wtU, Zu5 (by omega) i (Nat.le_refl _), A8.get_set (by omega), if_pos rfl, Int.mul_comm (k : Int)]
    omega
theorem Znb {ds : List Int} (hd : OkDeg ds) {n : Int} {p : A8} (h : p ∈ mons ds n) : OkMono ds p ∧ wtU ds p ds.length = n ∧ Zgj p := by
  refine ⟨?_, ?_, Zus hd p h⟩ <;> (unfold mons at h; split at h; · simp at h)
  · exact (Zna hd _ _ _ _ (by omega) (by omega) (fun q hq _ => A8.get_zero ..) (fun q hq => by omega) p h).1
  · have := (Zna hd _ _ _ _ (by omega) (by omega) (fun q hq _ => A8.get_zero ..) (fun q hq => by omega) p h).2
    rw [this]; simp [wtU]
theorem Zu6 {p : A8} (h : Zgj p) : Zao .u8 p := fun x hx => by
  obtain ⟨i, hi, rfl⟩ := A8.mem_list.1 hx
  have := h i hi
  simp only [Fit, Lit.wf, Bool.and_eq_true, decide_eq_true_eq]
  simp [IntKind.min, IntKind.max, IntKind.signed, IntKind.bits]
  omega
theorem Zu7 {m : A8} {j : Nat} : (leftA m j).add (backA m j) = (frontA m j).add (restA m j) := A8.ext_get fun q hq => by
  rw [A8.get_add, A8.get_add, leftA, backA, frontA, restA, A8.get_mkf _ hq, A8.get_mkf _ hq, A8.get_mkf _ hq, A8.get_mkf _ hq]
  by_cases a : q < j
  · rw [if_pos a, if_pos a, if_neg (by omega), if_neg (by omega), if_neg (by omega)]
  · by_cases b : q = j
    · subst b; rw [if_neg a, if_pos rfl, if_neg (by omega)]; omega
    · rw [if_neg a, if_neg b, if_pos (by omega), if_neg a]
theorem Zu8 {ds : List Int} {imgs : List (List Term)} {y m : A8} (h8 : ds.length ≤ 8) (hm : OkMono ds m) (h : DMono ds imgs y m) : ∃ j u, j < ds.length ∧ 0 < m.get j ∧ u ∈ imgs.getD j default ∧ wtU ds y ds.length = wtU ds m ds.length - ds.getD j default + wtU ds u.mono ds.length := by
  obtain ⟨j, u, h1, h2, h3, rfl, _, _⟩ := h
  have hj : j < ds.length := Nat.lt_of_not_le fun z => by have := (hm j h1).2 z; omega
  refine ⟨j, u, hj, h2, h3, ?_⟩
  have e := Zm1 ds m j ds.length h8
  rw [← Zu7, Zd4, if_pos hj] at e
  rw [Zd4, Zd4]
  omega
theorem Zu9 {ds : List Int} {imgs : List (List Term)} {y m : A8} (h8 : ds.length ≤ 8) (hm : OkMono ds m) (pm : ∀ i, i < 8 → 0 ≤ m.get i ∧ m.get i ≤ 20) (hI : ∀ j u, u ∈ imgs.getD j default → OkMono ds u.mono ∧ ∀ i, i < 8 → 0 ≤ u.mono.get i ∧ u.mono.get i ≤ 20) (h : DMono ds imgs y m) : Xs ds y ∧ ∀ q, q < 8 → 0 ≤ y.get q := by
  obtain ⟨j, u, h1, h2, h3, rfl, c1, c2⟩ := h
  obtain ⟨lb, bb, lbb⟩ := Zh6 pm h2
  obtain ⟨wl, wb⟩ := Zg9 hm h1 h2
  obtain ⟨ou, bu⟩ := hI j u h3
  have w1 := Zb6 wl ou.wk (fun q hq => (lb q hq).1) (fun q hq => (bu q hq).1) (fun q hq => by have := lb q hq; have := bu q hq; omega) c1
  have b1 : ∀ q, q < 8 → 0 ≤ ((leftA m j).add u.mono).get q ∧ ((leftA m j).add u.mono).get q ≤ 40 := fun q hq => by rw [A8.get_add]; have := lb q hq; have := bu q hq; omega
  exact ⟨Zb6 w1 wb (fun q hq => (b1 q hq).1) (fun q hq => (bb q hq).1) (fun q hq => by have := b1 q hq; have := bb q hq; omega) c2, fun q hq => by rw [A8.get_add]; have := b1 q hq; have := bb q hq; omega⟩
theorem Zva {ds : List Int} {imgs : List (List Term)} {y m : A8} (h8 : ds.length ≤ 8) (hm : OkMono ds m) (pm : ∀ i, i < 8 → 0 ≤ m.get i ∧ m.get i ≤ 20) (hI : ∀ j u, u ∈ imgs.getD j default → OkMono ds u.mono ∧ ∀ i, i < 8 → 0 ≤ u.mono.get i ∧ u.mono.get i ≤ 20) (h : AMono ds imgs y m) : Xs ds y ∧ ∀ q, q < 8 → 0 ≤ y.get q := by
  obtain ⟨j, u, h1, h2, h3, rfl, c1, c2⟩ := h
  obtain ⟨wl, lb⟩ := Zj5 (i := j) hm pm
  obtain ⟨wb, bb⟩ := Zm0 hm (by omega) h2 pm
  obtain ⟨ou, bu⟩ := hI j u h3
  have w1 := Zb6 wl ou.wk (fun q hq => (lb q hq).1) (fun q hq => (bu q hq).1) (fun q hq => by have := lb q hq; have := bu q hq; omega) c1
  have b1 : ∀ q, q < 8 → 0 ≤ ((frontA m j).add u.mono).get q ∧ ((frontA m j).add u.mono).get q ≤ 40 := fun q hq => by rw [A8.get_add]; have := lb q hq; have := bu q hq; omega
  exact ⟨Zb6 w1 wb (fun q hq => (b1 q hq).1) (fun q hq => (bb q hq).1) (fun q hq => by have := b1 q hq; have := bb q hq; omega) c2, fun q hq => by rw [A8.get_add]; have := b1 q hq; have := bb q hq; omega⟩
theorem Znc {ds : List Int} (hd : OkDeg ds) {y : A8} {n : Int} (hw : Xs ds y) (hp : ∀ q, q < 8 → 0 ≤ y.get q) (h : wtU ds y ds.length = n) (hn : n ≤ 20) : y ∈ mons ds n := by
  rw [← h]; exact Zu2 hd hp (Zui hd hw hp (by omega))
theorem Znd : ∀ {l : List Term}, Canon l → ∀ {t : Term}, t ∈ l → coT l t.mono = t.factor
  | [], _, t, ht => by simp at ht
  | s :: l, hc, t, ht => by
    rcases List.mem_cons.1 ht with e | ht'
    · rw [e]; exact hc.at_head
    · rw [Zcp, if_neg (Zbu (hc.head t ht')), Int.zero_add]; exact Znd hc.tail ht'
theorem Zne {l : List A8} (hs : l.Pairwise (fun a b => pcmp a b < 0)) {k : Nat} {a b : A8} (ha : a ∈ l.take k) (hb : b ∈ l.drop k) : pcmp a b < 0 := by
  rw [← List.take_append_drop k l] at hs
  exact (List.pairwise_append.1 hs).2.2 a ha b hb
theorem Znf {α : Type} [Inhabited α] {l : List α} {k : Nat} (hk : k < l.length) : l.drop k = l.getD k default :: l.drop (k + 1) := by
  rw [List.drop_eq_getElem_cons hk]; simp [List.getD, hk]
theorem Zvb {f : List Term} {l : List A8} {K : List Int → Prop} (hc : Canon f) (hs : l.Pairwise (fun a b => pcmp a b < 0)) (hin : ∀ t, t ∈ f → t.mono ∈ l) (hl : l.length ≤ 1000000) (h : K (l.map (coT f))) : Zf6 ⟨f⟩ l K := by
  have hfl : f.length ≤ 1000000 := by
    have hn : (f.map Term.mono).Nodup := by
      refine List.pairwise_map.2 (hc.1.imp fun q => Zbu q)
    have := hn.length_le_of_subset (l₂ := l) (fun x hx => by obtain ⟨t, ht, rfl⟩ := List.mem_map.1 hx; exact hin t ht)
    rw [List.length_map] at this; omega
  unfold Zf6
  dsimp only
  refine ⟨by omega, ?_⟩
  rw [Int.toNat_natCast]
  refine X1 (fun (s : List Int × Int × Int) => (0 ≤ s.2.1 ∧ s.2.1 ≤ f.length) ∧ (0 ≤ s.2.2 ∧ s.2.2 ≤ l.length) ∧ s.1.length = l.length ∧ (∀ j, j < l.length → s.1.getD j default = if j < s.2.2.toNat then coT f (l.getD j default) else 0) ∧ (∀ t, t ∈ f.take s.2.1.toNat → t.mono ∈ l.take s.2.2.toNat) ∧ ∀ t, t ∈ f.drop s.2.1.toNat → t.mono ∈ l.drop s.2.2.toNat) (fun s => l.length - s.2.2.toNat) ?_ ⟨by dsimp only; omega, by dsimp only; omega, by simp, fun j hj => by simp [List.getD, hj], by simp, by simpa using hin⟩
  rintro ⟨out, at1, k⟩ next ⟨g1, g2, g3, g4, g5, g6⟩ hn
  dsimp only at g1 g2 g3 g4 g5 g6 hn ⊢
  have fin : (∀ j, j < l.length → ¬ j < k.toNat → coT f (l.getD j default) = 0) → K out := fun q => by
    have e : out = l.map (coT f) := by
      refine List.ext_getElem (by simp [g3]) fun j h1 h2 => ?_
      have hj : j < l.length := by omega
      have := g4 j hj
      rw [show out.getD j default = out[j] by simp [List.getD, h1]] at this
      rw [this, List.getElem_map, show l[j] = l.getD j default by simp [List.getD, hj]]
      split
      · rfl
      · rename_i z; exact (q j hj z).symm
    rw [e]; exact h
  by_cases hk : k < (l.length : Int)
  · have hkn : k.toNat < l.length := by omega
    refine Xh hk ?_
    have ki : (k + 1).toNat = k.toNat + 1 := by omega
    by_cases ha : at1 < (f.length : Int)
    · have han : at1.toNat < f.length := by omega
      have ai : (at1 + 1).toNat = at1.toNat + 1 := by omega
      refine Xh ha ⟨⟨g1.1, ha⟩, ⟨g2.1, hk⟩, ?_⟩
      rw [i64_in (k + 1) (by omega), i64_in (at1 + 1) (by omega)]
      have hdl := Znf hkn
      have hdf := Znf han
      have hlk : l.getD k.toNat default ∈ l.drop k.toNat := by rw [hdl]; simp
      have hfa : f.getD at1.toNat default ∈ f.drop at1.toNat := by rw [hdf]; simp
      have hfm : f.getD at1.toNat default ∈ f := List.mem_of_mem_drop hfa
      have tk : ∀ t, t ∈ f.take at1.toNat → t.mono ≠ l.getD k.toNat default := fun t ht => Zbu (Zne hs (g5 t ht) hlk)
      have t2 : ∀ t, t ∈ f.drop (at1.toNat + 1) → pcmp (f.getD at1.toNat default).mono t.mono < 0 := fun t ht => by
        have hp := hc.1.sublist (List.drop_sublist at1.toNat f)
        rw [hdf] at hp
        exact (List.pairwise_cons.1 hp).1 t ht
      have step : ∀ t : Term, t.mono ∈ l.drop k.toNat → t.mono ≠ l.getD k.toNat default → t.mono ∈ l.drop (k.toNat + 1) := fun t h1 h2 => by
        rw [hdl] at h1
        rcases List.mem_cons.1 h1 with q | q
        · exact absurd q h2
        · exact q
      have takeS : ∀ t : Term, t.mono ∈ l.take k.toNat → t.mono ∈ l.take (k.toNat + 1) := fun t h1 => by
        rw [Zal hkn]; exact List.mem_append_left _ h1
      by_cases q : (f.getD at1.toNat default).mono = l.getD k.toNat default
      · refine Xh q ⟨⟨g1.1, ha⟩, ⟨g2.1, by rw [g3]; exact hk⟩, hn _ ⟨by dsimp only; omega, by dsimp only; omega, by dsimp only; rw [List.length_set]; exact g3, fun j hj => ?_, fun t ht => ?_, fun t ht => ?_⟩ (by dsimp only; omega)⟩
        · dsimp only
          rw [Zbo (by omega), ki]
          by_cases e : j = k.toNat
          · subst e
            rw [if_pos rfl, if_pos (by omega), ← q, Znd hc hfm]
          · rw [if_neg e, g4 j hj]
            by_cases c : j < k.toNat
            · rw [if_pos c, if_pos (by omega)]
            · rw [if_neg c, if_neg (by omega)]
        · dsimp only at ht ⊢
          rw [ai, Zal han] at ht
          rw [ki]
          rcases List.mem_append.1 ht with z | z
          · exact takeS t (g5 t z)
          · obtain rfl := List.mem_singleton.1 z
            rw [Zal hkn, q]; simp
        · dsimp only at ht ⊢
          rw [ai] at ht
          rw [ki]
          exact step t (g6 t (by rw [hdf]; exact List.mem_cons_of_mem _ ht)) (fun z => Zbu (t2 t ht) (by rw [q, z]))
      · have hz : ∀ t, t ∈ f → t.mono ≠ l.getD k.toNat default := fun t ht => by
          rw [← List.take_append_drop at1.toNat f] at ht
          rcases List.mem_append.1 ht with z | z
          · exact tk t z
          · rw [hdf] at z
            rcases List.mem_cons.1 z with rfl | z
            · exact q
            · intro e
              have h1 := step _ (g6 _ hfa) q
              have h2 : pcmp (l.getD k.toNat default) (f.getD at1.toNat default).mono < 0 := by
                have hp := hs.sublist (List.drop_sublist k.toNat l)
                rw [hdl] at hp
                exact (List.pairwise_cons.1 hp).1 _ h1
              have h3 := t2 t z
              rw [e] at h3
              exact Ziw h2 h3
        refine Xn q (hn _ ⟨by dsimp only; omega, by dsimp only; omega, g3, fun j hj => ?_, fun t ht => ?_, fun t ht => ?_⟩ (by dsimp only; omega))
        · dsimp only
          rw [g4 j hj, ki]
          by_cases e : j = k.toNat
          · subst e
            rw [if_neg (by omega), if_pos (by omega), Zcr hz]
          · by_cases c : j < k.toNat
            · rw [if_pos c, if_pos (by omega)]
            · rw [if_neg c, if_neg (by omega)]
        · dsimp only at ht ⊢
          rw [ki]; exact takeS t (g5 t ht)
        · dsimp only at ht ⊢
          rw [ki]; exact step t (g6 t ht) (hz t (List.mem_of_mem_drop ht))
    · refine Xn ha (fin fun j hj hjk => Zcr fun t ht => ?_)
      have : t ∈ f.take at1.toNat := by rw [List.take_of_length_le (by omega)]; exact ht
      refine Zbu (Zne hs (g5 t this) ?_)
      rw [List.mem_iff_getElem]
      exact ⟨j - k.toNat, by rw [List.length_drop]; omega, by rw [List.getElem_drop]; simp [List.getD, hj, show k.toNat + (j - k.toNat) = j by omega]⟩
  · exact Xn hk (fin fun j hj hjk => by omega)
end Go.Proofs.Ytaagfepgbofmlaa
set_option linter.unusedVariables false
set_option linter.unusedSimpArgs false
namespace Go.Proofs.Ytaagfepgbofmlaa
open Go Vc
def Ti (e : Elem) (i : Nat) : List Term := if (i : Int) = e.gen then [⟨e.mono, 1⟩] else []
def Za7 (n : Nat) (e : Elem) : List (List Term) := (List.range n).map (Ti e)
def sgK (k : Int) : Int := if k % 2 = 1 then 1 else 10006
def ze (a : Alg) (k : Int) (e : Elem) (i : Nat) (x : A8) : Int :=
  (tot (fun t => dT a.degrees (imgsT a) t.mono t.factor x) (Ti e i) + sgK k * aT1 a.degrees k (Za7 a.degrees.length e) (a.images.getD i default).terms x) % 10007
theorem Zng {a b c d : Int} (k : Int) (h1 : a % 10007 = b % 10007) (h2 : c % 10007 = d % 10007) : (a + k * c) % 10007 = (b + k * d) % 10007 := by
  rw [Int.add_emod, Int.mul_emod k c, h1, h2, ← Int.mul_emod, ← Int.add_emod]
theorem Zvc {l : List Term} {q : Nat} (hq : q < l.length) : l.getD q default = l[q] := by simp [List.getD, hq]
theorem Znh (k : Int) : 0 ≤ sgK k ∧ sgK k ≤ 10006 := by unfold sgK; split <;> omega
theorem Zni {n : Nat} {e : Elem} {i : Nat} (h : i < n) : (Za7 n e).getD i default = Ti e i := by simp [Za7, List.getD, h]
theorem Zda (n : Nat) (k : Int) (e : Elem) : (Zac n k e).images.length = n := by show ((List.replicate n _).set _ _).length = n; rw [List.length_set, List.length_replicate]
theorem Zka {n : Nat} {k : Int} {e : Elem} (he : 0 ≤ e.gen ∧ e.gen < n) {i : Nat} (h : i < n) : (Zac n k e).images.getD i default = ⟨Ti e i⟩ := by
  show ((List.replicate n (⟨[]⟩ : Vc.Form)).set e.gen.toNat ⟨[⟨e.mono, 1⟩]⟩).getD i default = _
  simp only [List.getD]
  by_cases q : (i : Int) = e.gen
  · have : i = e.gen.toNat := by omega
    rw [← this, List.getElem?_set_self (by simpa using h)]
    simp [Ti, q]
  · rw [List.getElem?_set_ne (by omega)]
    simp [Ti, q, h]
theorem Zvd {n : Nat} {k : Int} {e : Elem} (he : 0 ≤ e.gen ∧ e.gen < n) : (Zac n k e).images.map (·.terms) = Za7 n e := by
  refine List.ext_getElem (by rw [List.length_map, Zda]; simp [Za7]) fun i h1 h2 => ?_
  have hi : i < n := by rw [List.length_map, Zda] at h1; exact h1
  have := Zka (k := k) he hi
  rw [List.getElem_map]
  rw [show (Zac n k e).images.getD i default = (Zac n k e).images[i]'(by rw [Zda]; exact hi) by simp [List.getD, Zda, hi]] at this
  rw [this]; simp [Za7]
structure OkE (ds : List Int) (k : Int) (e : Elem) : Prop where
  gen : 0 ≤ e.gen ∧ e.gen < ds.length
  mem : e.mono ∈ mons ds (ds.getD e.gen.toNat default - k)
theorem Zkb {ds : List Int} {k : Int} (hd : OkDeg ds) : ∀ n, n ≤ ds.length → ∀ e, e ∈ Xz ds k n → OkE ds k e := by
  intro n
  induction n with
  | zero => intro _ e he; simp [Xz] at he
  | succ n ih =>
    intro hn e he
    rw [Xz] at he
    rcases List.mem_append.1 he with q | q
    · exact ih (by omega) e q
    · obtain ⟨m, hm, rfl⟩ := List.mem_map.1 q
      exact ⟨⟨by dsimp only; omega, by dsimp only; omega⟩, by dsimp only; rw [Int.toNat_natCast]; exact hm⟩
theorem Zgl {ds : List Int} {k : Int} {e : Elem} (hd : OkDeg ds) (he : OkE ds k e) (i : Nat) : OkForm ds (Ti e i) ∧ FitT (Ti e i) := by
  obtain ⟨o1, o2, o3⟩ := Znb hd he.mem
  unfold Ti
  split
  · refine ⟨⟨by simp, fun j hj => ?_⟩, fun t ht => ?_⟩
    · obtain rfl : j = 0 := by simpa using hj
      exact ⟨o1, by simp, fun h => absurd h (by omega)⟩
    · obtain rfl := List.mem_singleton.1 ht; exact Zu6 o3
  · exact ⟨⟨by simp, fun j hj => by simp at hj⟩, fun t ht => by simp at ht⟩
theorem Znj {e : Elem} {i : Nat} {t : Term} (h : t ∈ Ti e i) : (i : Int) = e.gen ∧ t.mono = e.mono := by
  unfold Ti at h
  split at h
  · rename_i q; obtain rfl := List.mem_singleton.1 h; exact ⟨q, rfl⟩
  · simp at h
theorem Znk {n : Nat} {e : Elem} {j : Nat} {u : Term} (h : u ∈ (Za7 n e).getD j default) : j < n ∧ (j : Int) = e.gen ∧ u.mono = e.mono := by
  by_cases hj : j < n
  · rw [Zni hj] at h
    exact ⟨hj, Znj h⟩
  · simp [Za7, List.getD, hj] at h
    cases h
structure ZF (a : Alg) (k : Int) (e : Elem) (i : Nat) (l : List Term) : Prop where
  can : Canon l
  cf : ∀ x, coT l x = ze a k e i x
  mem : ∀ t, t ∈ l → t.mono ∈ mons a.degrees (a.degrees.getD i default - (k - 1))
theorem Zve {a : Alg} {k : Int} {e : Elem} {K : Der → Prop} (ok : OkAlg a) (hf : Zbp a) (hk : 1 ≤ k ∧ k ≤ 12) (he : OkE a.degrees k e) (h : ∀ fs : List Vc.Form, fs.length = a.degrees.length → (∀ i, i < a.degrees.length → ZF a k e i (fs.getD i default).terms) → K ⟨k - 1, fs⟩) : Zgb a (Zac a.degrees.length k e) K := by
  have hd := ok.deg
  have h8 := hd.1
  have ha := ok.algF hf
  have hl := ok.len
  obtain ⟨o1, o2, o3⟩ := Znb hd he.mem
  unfold Zgb
  rw [Zda]
  have hdr : (Zac a.degrees.length k e).drop = k := rfl
  rw [hdr, i64_in (k - 1) (by omega)]
  refine X1 (fun (s : List Vc.Form × Int) => (0 ≤ s.2 ∧ s.2 ≤ a.degrees.length) ∧ s.1.length = s.2.toNat ∧ ∀ i, i < s.2.toNat → ZF a k e i (s.1.getD i default).terms) (fun s => a.degrees.length - s.2.toNat) ?_ ⟨by dsimp only; omega, rfl, fun i hi => absurd hi (by dsimp only; omega)⟩
  rintro ⟨fs, i⟩ next ⟨g1, g2, g3⟩ hn
  dsimp only at g1 g2 g3 hn ⊢
  by_cases hi : i < (a.degrees.length : Int)
  · have hin : i.toNat < a.degrees.length := by omega
    have hii : i.toNat < a.images.length := by omega
    have hdi := hd.2 i.toNat hin
    refine Xh hi ⟨⟨g1.1, hi⟩, ⟨g1.1, by omega⟩, ?_⟩
    rw [Zka he.gen hin, i64_in (i + 1) (by omega)]
    obtain ⟨tf, tt⟩ := Zgl hd he i.toNat
    refine Zmi ha tf tt fun dout hD lD => ?_
    have hfi := ok.frm i.toNat hii
    have ffi := (hf i.toNat hii).1
    have eI : a.images.getD i.toNat default = ⟨(a.images.getD i.toNat default).terms⟩ := rfl
    rw [eI]
    refine Zt5 (t := Zac a.degrees.length k e) hd (Zda _ _ _) (fun j hj => ?_) hfi ffi (by rw [hdr]; omega) fun aout hA => ?_
    · rw [Zda] at hj
      rw [Zka he.gen hj]; exact Zgl hd he j
    rw [Zvd he.gen, hdr] at hA
    refine Zue (by omega) ?_
    have lA := hA.ln
    have l4 := hfi.1
    refine Zfz (k := sgK k) hD.can hA.can (Znh k) (by omega) (by omega) fun out ho => ⟨?_, hn _ ⟨by dsimp only; omega, by dsimp only; rw [List.length_append, List.length_singleton]; omega, fun j hj => ?_⟩ (by dsimp only; omega)⟩
    · unfold Xp; omega
    · dsimp only at hj ⊢
      by_cases q : j < i.toNat
      · have : (fs ++ [(⟨out⟩ : Vc.Form)]).getD j default = fs.getD j default := by simp only [List.getD]; rw [List.getElem?_append_left (by omega)]
        rw [this]; exact g3 j q
      · obtain rfl : j = i.toNat := by omega
        have : (fs ++ [(⟨out⟩ : Vc.Form)]).getD i.toNat default = ⟨out⟩ := by simp only [List.getD]; rw [List.getElem?_append_right (by omega), g2]; simp
        rw [this]
        refine ⟨ho.can, fun x => ?_, fun t ht => ?_⟩
        · have hr := ho.can.range x
          have e1 := ho.cf x
          show coT out x = _
          unfold ze
          rw [Zng (sgK k) (hD.cf x).symm (hA.cf x).symm, ← e1]; omega
        · have small : ∀ j u, u ∈ (Za7 a.degrees.length e).getD j default → OkMono a.degrees u.mono ∧ ∀ i, i < 8 → 0 ≤ u.mono.get i ∧ u.mono.get i ≤ 20 := fun j u hu => by
            rw [(Znk hu).2.2]; exact ⟨o1, o3⟩
          have smallI : ∀ j u, u ∈ (imgsT a).getD j default → OkMono a.degrees u.mono ∧ ∀ i, i < 8 → 0 ≤ u.mono.get i ∧ u.mono.get i ≤ 20 := fun j u hu => by
            by_cases hj : j < a.images.length
            · rw [Zc4 a hj] at hu
              have := (ok.frm j hj).mono hu
              exact ⟨this, Zbg (Za0 this) ((ha.fit j hj).pos u hu)⟩
            · simp [imgsT, List.getD, hj] at hu; cases hu
          have hgn : e.gen.toNat < a.degrees.length := by have := he.gen; omega
          have homI : ∀ j u, u ∈ (imgsT a).getD j default → j < a.degrees.length → wtU a.degrees u.mono a.degrees.length = a.degrees.getD j default + 1 := fun j u hu hj => by
            rw [Zc4 a (by omega)] at hu
            obtain ⟨q, hq, rfl⟩ := List.getElem_of_mem hu
            have := ok.hom j (by omega) q hq
            rwa [Zvc hq] at this
          obtain ⟨y, hy, ey⟩ := ho.mo t ht
          rw [← ey]
          rcases hy with hy | hy
          · obtain ⟨s, hs, hm⟩ := hD.mo y hy
            obtain ⟨eg, em⟩ := Znj hs
            rw [em] at hm
            obtain ⟨w1, w2⟩ := Zu9 h8 o1 o3 smallI hm
            obtain ⟨j, u, hj, _, hu, ew⟩ := Zu8 h8 o1 hm
            rw [homI j u hu hj, o2] at ew
            refine Znc hd w1 w2 ?_ (by omega)
            rw [ew, show e.gen.toNat = i.toNat by omega]; omega
          · obtain ⟨s, hs, hm⟩ := hA.mo y hy
            have sm := hfi.mono hs
            have s20 := Zbg (Za0 sm) (ffi.pos s hs)
            obtain ⟨w1, w2⟩ := Zva h8 sm s20 small hm
            obtain ⟨j, u, hj, hu, ew⟩ := Zug h8 hm
            obtain ⟨_, ej, eu⟩ := Znk hu
            have hw := homI i.toNat s (by rw [Zc4 a hii]; exact hs) hin
            rw [eu, o2, hw, show e.gen.toNat = j by omega] at ew
            exact Znc hd w1 w2 (by rw [ew]; omega) (by omega)
  · refine Xn hi (h fs (by rw [g2]; omega) fun j hj => g3 j (by omega))
theorem Znl {n : Nat} {e : Elem} {i : Nat} (h : i < n) : IsMap (Ti e i) ((Zd6 n e).getD i default) := by
  have : (Zd6 n e).getD i default = if (i : Int) = e.gen then Zy ([] : List (A8 × Int)) e.mono 1 else [] := by simp [Zd6, List.getD, h]
  rw [this]
  unfold Ti
  split
  · exact Zjq (Zh5 _) (Zf1 _) fun x => by show co [(e.mono, 1)] x % 10007 = _; simp [co, coT, tot]
  · exact ⟨MapOk.nil, fun x => rfl, by simp⟩
theorem Zvf {m : List (A8 × Int)} (h : MapOk m) (x : A8) : 0 ≤ co m x ∧ co m x ≤ 10006 := by
  obtain ⟨l, hl, e, _⟩ := Zmj h
  rw [← e]; exact hl.range x
theorem Zvg {a : Alg} {k : Int} {e : Elem} {K : Int → List (List (A8 × Int)) → Prop} (ok : OkAlg a) (hf : Zbp a) (hk : 1 ≤ k ∧ k ≤ 12) (he : OkE a.degrees k e) (h : ∀ ms : List (List (A8 × Int)), ms.length = a.degrees.length → (∀ i, i < a.degrees.length → MapOk (ms.getD i []) ∧ ∀ x, co (ms.getD i []) x = ze a k e i x) → K (k - 1) ms) : Zgg (⟨a, k, Zd6 a.degrees.length e⟩ : Vc.Derive) K := by
  have hd := ok.deg
  have h8 := hd.1
  have ha := ok.algF hf
  have hl := ok.len
  have hsl : (Zd6 a.degrees.length e).length = a.degrees.length := by simp [Zd6]
  unfold Zgg
  dsimp only
  rw [i64_in (k - 1) (by omega), hsl]
  refine Xg (fun i (s : List (List (A8 × Int))) => s.length = i ∧ ∀ j, j < i → MapOk (s.getD j []) ∧ ∀ x, co (s.getD j []) x = ze a k e j x) a.degrees.length ?_ ?_ _ _ _ (by omega) ⟨rfl, fun j hj => absurd hj (by omega)⟩
  · rintro i s next hi ⟨g1, g2⟩ hn
    have hii : i < a.images.length := by omega
    obtain ⟨tf, tt⟩ := Zgl hd he i
    have hfi := ok.frm i hii
    have ffi := (hf i hii).1
    have mT := Znl (n := a.degrees.length) (e := e) hi
    refine m_d ha mT tf tt fun dm hD => ⟨by omega, ?_⟩
    have eI : a.images.getD i default = ⟨(a.images.getD i default).terms⟩ := rfl
    rw [eI]
    refine Zjn hfi.canon ffi fun fm hfm => ?_
    refine Zt7 (imgs := Za7 a.degrees.length e) hd (by omega) hsl (fun j hj => ?_) hfm hfi ffi fun am hA => ?_
    · rw [Zni hj]
      exact ⟨(Zgl hd he j).1, (Zgl hd he j).2, Znl hj⟩
    refine Zuf (by omega) (Zjo (k := sgK k) hD.ok hA.ok (Znh k) fun out ho => ⟨by unfold Xp; omega, hn _ ⟨by rw [List.length_append, g1]; rfl, fun j hj => ?_⟩⟩)
    by_cases q : j < i
    · have : (s ++ [out]).getD j [] = s.getD j [] := by simp only [List.getD]; rw [List.getElem?_append_left (by omega)]
      rw [this]; exact g2 j q
    · obtain rfl : j = i := by omega
      have : (s ++ [out]).getD j [] = out := by simp only [List.getD]; rw [List.getElem?_append_right (by omega), g1]; simp
      rw [this]
      refine ⟨ho.ok, fun x => ?_⟩
      have hr := Zvf ho.ok x
      have e1 := ho.cf x
      have e2 : co dm x % 10007 = tot (fun t => dT a.degrees (imgsT a) t.mono t.factor x) (Ti e j) % 10007 := by
        rw [hD.cf, Zf0 mT tf.canon (fun m n => dT a.degrees (imgsT a) m n x) (fun m => Zi1 _ _ _ _)]
      have e3 : co am x % 10007 = aT1 a.degrees k (Za7 a.degrees.length e) (a.images.getD j default).terms x % 10007 := by
        rw [hA.cf, aT1, Zf0 hfm hfi.canon (fun m n => n * aP a.degrees k (Za7 a.degrees.length e) m x a.degrees.length) (fun m => Int.zero_mul _)]
      unfold ze
      rw [Zng (sgK k) e2.symm e3.symm, ← e1]; omega
  · rintro s ⟨g1, g2⟩
    exact h s g1 g2
def Za1 (a : Alg) (k : Int) (e : Elem) (n : Nat) : List Int := (Xz a.degrees (k - 1) n).map fun f => ze a k e f.gen.toNat f.mono
def Zbr (a : Alg) (k : Int) : List (List Int) := (Xz a.degrees k a.degrees.length).map fun e => Za1 a k e a.degrees.length
theorem Zvh {a : Alg} {k : Int} {e : Elem} {fs : List Vc.Form} {K : List Int → Prop} (ok : OkAlg a) (hk : 1 ≤ k ∧ k ≤ 12) (ht : Y2 a.degrees (k - 1) a.degrees.length ≤ 120) (hl : fs.length = a.degrees.length) (hz : ∀ i, i < a.degrees.length → ZF a k e i (fs.getD i default).terms) (h : K (Za1 a k e a.degrees.length)) : Zf7 a (⟨k - 1, fs⟩ : Der) K := by
  have hd := ok.deg
  have h8 := hd.1
  unfold Zf7
  dsimp only
  refine X1 (fun (s : List Int × Int) => (0 ≤ s.2 ∧ s.2 ≤ a.degrees.length) ∧ s.1 = Za1 a k e s.2.toNat) (fun s => a.degrees.length - s.2.toNat) ?_ ⟨by dsimp only; omega, rfl⟩
  rintro ⟨row, i⟩ next ⟨g1, g2⟩ hn
  dsimp only at g1 g2 hn ⊢
  subst g2
  by_cases hi : i < (a.degrees.length : Int)
  · have hin : i.toNat < a.degrees.length := by omega
    have hdi := hd.2 i.toNat hin
    have hm1 := Zj8 a.degrees (k - 1) (i.toNat + 1) a.degrees.length (by omega)
    rw [Y2] at hm1
    refine Xh hi ⟨⟨g1.1, hi⟩, ?_⟩
    rw [i64_in (i + 1) (by omega), Zic hd (k := k - 1) (by omega) hin]
    have hstep : Za1 a k e (i + 1).toNat = Za1 a k e i.toNat ++ (Jb a.degrees (k - 1) i.toNat).map (fun m => ze a k e i.toNat m) := by
      rw [show (i + 1).toNat = i.toNat + 1 by omega, Za1, Xz, List.map_append, List.map_map]
      congr 1
    have hlen : (Za1 a k e i.toNat).length = Y2 a.degrees (k - 1) i.toNat := by rw [Za1, List.length_map, Zbq]
    by_cases q : a.degrees.getD i.toNat default ≥ k - 1
    · refine Xh q ⟨⟨g1.1, by rw [hl]; exact hi⟩, ⟨g1.1, hi⟩, Zj6 hd (by omega) ?_⟩
      have hmk : (Jb a.degrees (k - 1) i.toNat).length ≤ 120 := by omega
      have et : (mons a.degrees (a.degrees.getD i.toNat default - (k - 1))).take 401 = Jb a.degrees (k - 1) i.toNat := List.take_of_length_le (by show (Jb a.degrees (k - 1) i.toNat).length ≤ 401; omega)
      rw [et]
      have z := hz i.toNat hin
      have eF : fs.getD i.toNat default = ⟨(fs.getD i.toNat default).terms⟩ := rfl
      rw [eF]
      refine Zvb z.can (Zuy h8 _) z.mem (by omega) ⟨?_, hn _ ⟨by dsimp only; omega, ?_⟩ (by dsimp only; omega)⟩
      · rw [List.length_map, hlen]; unfold Xp; omega
      · dsimp only; rw [hstep]; congr 1
        exact List.map_congr_left fun m _ => z.cf m
    · refine Xn q (hn _ ⟨by dsimp only; omega, ?_⟩ (by dsimp only; omega))
      dsimp only
      have e0 : Jb a.degrees (k - 1) i.toNat = [] := by unfold Jb mons; rw [if_pos (by omega)]
      rw [hstep, e0, List.map_nil, List.append_nil]
  · refine Xn hi ?_
    rw [show i.toNat = a.degrees.length by omega]; exact h
theorem Zvi {a : Alg} {k : Int} {K : List (List Int) → Prop} (ok : OkAlg a) (hf : Zbp a) (hk : 1 ≤ k ∧ k ≤ 12) (ht0 : Y2 a.degrees k a.degrees.length ≤ 120) (ht : Y2 a.degrees (k - 1) a.degrees.length ≤ 120) (h : K (Zbr a k)) : Zgc a k K := by
  have hd := ok.deg
  unfold Zgc
  refine Zu4 hd (by omega) ht0 ?_
  have hlen := Zbq a.degrees k a.degrees.length
  refine Xg (fun i s => s = ((Xz a.degrees k a.degrees.length).take i).map (fun e => Za1 a k e a.degrees.length)) (Xz a.degrees k a.degrees.length).length ?_ ?_ _ _ _ (by rw [List.length_map]; omega) (by simp)
  · rintro i s next hi rfl hn
    have he : ((Xz a.degrees k a.degrees.length).map (Zac a.degrees.length k)).getD i default = Zac a.degrees.length k ((Xz a.degrees k a.degrees.length).getD i default) := by simp [List.getD, hi]
    rw [he]
    have oe := Zkb (k := k) hd _ (Nat.le_refl _) _ (Jp hi)
    refine Zve (a := ⟨a.degrees, a.images⟩) ok hf hk oe fun fs hl hz => Zvh (a := ⟨a.degrees, a.images⟩) ok hk ht hl hz ⟨?_, hn _ ?_⟩
    · rw [List.length_map, List.length_take]; unfold Xp; omega
    · rw [Zgk _ hi]
  · rintro s rfl
    rw [List.take_of_length_le (Nat.le_refl _)]; exact h
theorem Zvj {a : Alg} {k : Int} {K : List (List Int) → Int → Prop} (ok : OkAlg a) (hf : Zbp a) (hk : 1 ≤ k ∧ k ≤ 12) (h0 : Y2 a.degrees k a.degrees.length ≤ 120 → Y2 a.degrees (k - 1) a.degrees.length ≤ 120 → K (Zbr a k) 0) (h1 : ¬ (Y2 a.degrees k a.degrees.length ≤ 120 ∧ Y2 a.degrees (k - 1) a.degrees.length ≤ 120) → K [] 3) : Zgh a k K := by
  have hd := ok.deg
  have h8 := hd.1
  unfold Zgh
  rw [i64_in (k - 1) (by omega)]
  refine Zj9 hd (by omega) (fun t0 => ?_) (fun n0 => ?_)
  · refine Zj9 hd (by omega) (fun t1 => Zd5 ?_) (fun n1 => Zd5 ?_)
    · refine Xn (by decide) ?_
      have hlen := Zbq a.degrees k a.degrees.length
      have hlen1 := Zbq a.degrees (k - 1) a.degrees.length
      refine Xg (fun i s => s = ((Xz a.degrees k a.degrees.length).take i).map (fun e => Za1 a k e a.degrees.length)) (Xz a.degrees k a.degrees.length).length ?_ ?_ _ _ _ (by omega) (by simp)
      · rintro i s next hi rfl hn
        have oe := Zkb (k := k) hd _ (Nat.le_refl _) _ (Jp hi)
        generalize hE : (Xz a.degrees k a.degrees.length).getD i default = e at oe ⊢
        refine Xg (fun j (t : List (List (A8 × Int))) => t = (List.range j).map fun (q : Nat) => if (q : Int) = e.gen then Zy ([] : List (A8 × Int)) e.mono 1 else []) a.degrees.length ?_ ?_ _ _ _ (by omega) rfl
        · rintro j t nx hj rfl hnx
          by_cases q : (j : Int) = e.gen
          · refine Xh q ⟨by simp [Xp]; omega, hnx _ ?_⟩
            rw [Zm9, if_pos q]
          · refine Xn q ⟨by simp [Xp]; omega, hnx _ ?_⟩
            rw [Zm9, if_neg q]
        · rintro t rfl
          refine Zvg ok hf hk oe fun ms hml hms => ?_
          refine Xg (fun j (r : List Int) => r = ((Xz a.degrees (k - 1) a.degrees.length).take j).map fun f => ze a k e f.gen.toNat f.mono) (Xz a.degrees (k - 1) a.degrees.length).length ?_ ?_ _ _ _ (by omega) (by simp)
          · rintro j r nx hj rfl hnx
            have of := Zkb (k := k - 1) hd _ (Nat.le_refl _) _ (Jp hj)
            have hg := of.gen
            refine ⟨⟨hg.1, by rw [hml]; exact hg.2⟩, ?_, hnx _ ?_⟩
            · rw [List.length_map, List.length_take]; unfold Xp; omega
            · obtain ⟨mo, mc⟩ := hms _ (show ((Xz a.degrees (k - 1) a.degrees.length).getD j default).gen.toNat < a.degrees.length by omega)
              rw [Zgk _ hj, Zcs mo.1, mc]
          · rintro r rfl
            rw [List.take_length]
            refine ⟨?_, hn _ ?_⟩
            · rw [List.length_map, List.length_take]; unfold Xp; omega
            · rw [Zgk _ hi, hE]; rfl
      · rintro s rfl
        rw [List.take_length]; exact h0 t0 t1
    · exact Xh (by decide) (h1 (fun z => n1 z.2))
  · refine Zj9 hd (by omega) (fun t1 => Zd5 ?_) (fun n1 => Zd5 ?_) <;> exact Xh (by decide) (h1 (fun z => n0 z.1))
theorem Zvk {a : Alg} {k hi : Int} {more : Int} {K : Int → Prop} (hf : Zbp a) (hh : 1 ≤ hi ∧ hi + more ≤ 12) (hm : 0 ≤ more) (h1 : ¬ OkAlg a → K 1) (h2 : OkAlg a → ¬ (1 ≤ k ∧ k ≤ hi) → K 2) (h3 : OkAlg a → (1 ≤ k ∧ k ≤ hi) → ¬ (∀ n : Int, k - 1 ≤ n → n ≤ k + more → Y2 a.degrees n a.degrees.length ≤ 120) → K 3) (h0 : OkAlg a → (1 ≤ k ∧ k ≤ hi) → (∀ n : Int, k - 1 ≤ n → n ≤ k + more → Y2 a.degrees n a.degrees.length ≤ 120) → K 0) : Zf4 a k 1 hi more K := by
  unfold Zf4
  refine Zso hf (fun ok => ?_) (fun no => Xh (by simp) (h1 no))
  refine Xn (by simp) (Zjh ?_)
  by_cases hk : 1 ≤ k ∧ k ≤ hi
  · rw [decide_eq_true hk]
    refine Xn (by simp) ?_
    rw [i64_in (k - 1) (by omega), i64_in (k + more) (by omega), if_neg (by omega)]
    refine X1 (fun (s : Int) => (k - 1 ≤ s ∧ s ≤ k + more + 1) ∧ ∀ n : Int, k - 1 ≤ n → n < s → Y2 a.degrees n a.degrees.length ≤ 120) (fun s => (k + more + 2 - s).toNat) ?_ ⟨by omega, fun n q1 q2 => by omega⟩
    rintro s next ⟨g1, g2⟩ hn
    by_cases q : s ≤ k + more
    · refine Xh q ?_
      rw [i64_in (s + 1) (by omega)]
      have go : Zc7 a s (fun r => if r > 120 then K 3 else next (s + 1)) := by
        refine Zu3 ok.deg (by omega) ?_
        have ht := Zm8 a.degrees s a.degrees.length
        by_cases q3 : ((Zah a.degrees s a.degrees.length : Nat) : Int) > 120
        · refine Xh q3 (h3 ok hk fun z => ?_)
          have := ht.2 (z s g1.1 q); omega
        · refine Xn q3 (hn _ ⟨by omega, fun n q1 q2 => ?_⟩ (by omega))
          by_cases c : n = s
          · subst c; exact ht.1 (by omega)
          · exact g2 n q1 (by omega)
      by_cases q2 : s ≥ k
      · exact Xh q2 go
      · exact Xn q2 (Xh (by decide) go)
    · exact Xn q (h0 ok hk fun n q1 q2 => g2 n q1 (by omega))
  · rw [decide_eq_false hk]
    exact Xh (by simp) (h2 ok hk)
end Go.Proofs.Ytaagfepgbofmlaa
set_option linter.unusedVariables false
set_option linter.unusedSimpArgs false
namespace Go.Proofs.Ytaagfepgbofmlaa
open Go Vc
theorem Zvl {a b : List (List Int)} {K : Bool → Prop} (h : K (decide (a = b))) : Zc9 a b K := Zjr (fun _ _ _ h => Zl7 h) h
theorem Zkc {l : List (List Int)} {K : Bool → Prop} (h : K true) : Zc9 l l K := Zvl (by simpa using h)
theorem Zvm {l : List (List Int)} {m : Int} {K : Int → List (List Int) → Prop} (hm : 0 ≤ m ∧ m ≤ 1000000) (hl : l.length ≤ 1000) (hs : ∀ j, j < l.length → (l.getD j default).length ≤ 1000) (h : ∀ x' n, (∀ K' : Int → Prop, K' n → Zd3 x' m K') → 0 ≤ n → K n x') : Zgi l m K := by
  unfold Zgi
  refine X1 (fun (s : List (List Int) × Int × Int) => s.1.length = l.length ∧ (0 ≤ s.2.2 ∧ s.2.2 ≤ l.length) ∧ (0 ≤ s.2.1 ∧ s.2.1 ≤ 1000000 + 1000 * s.2.2) ∧ (∃ C : Nat → Int, C 0 = m ∧ C s.2.2.toNat = s.2.1 ∧ ∀ j : Nat, (j : Int) < s.2.2 → 0 ≤ C (j + 1) ∧ ∀ K' : Int → Prop, K' (C (j + 1)) → Zdy (s.1.getD j default) (C j) K') ∧ ∀ j : Nat, s.2.2 ≤ (j : Int) → s.1.getD j default = l.getD j default) (fun s => l.length - s.2.2.toNat) ?_ ⟨rfl, by dsimp only; omega, by dsimp only; omega, ⟨fun _ => m, rfl, rfl, by intro j hj; dsimp only at hj; omega⟩, fun _ _ => rfl⟩
  rintro ⟨x, c, i⟩ next ⟨h1, h2, h3, ⟨C, hC0, hCi, h4⟩, h5⟩ hn
  dsimp only at h1 h2 h3 hCi h4 h5 hn ⊢
  by_cases hi : i < (x.length : Int)
  · refine Xh hi ⟨⟨h2.1, hi⟩, ?_⟩
    have hin : i.toNat < x.length := by omega
    have hx := h5 i.toNat (by omega)
    have s1 := hs i.toNat (by omega)
    rw [hx, i64_in (i + 1) (by omega)]
    refine Zuj (by omega) fun y hyl hh => ?_
    refine hn _ ⟨by simpa using h1, by dsimp only; omega, by dsimp only; omega, ⟨fun q => if q ≤ i.toNat then C q else c + (l.getD i.toNat default).length, ?_, ?_, fun j hj => ?_⟩, fun j hj => ?_⟩ (by dsimp only; omega)
    · dsimp only; rw [if_pos (by omega)]; exact hC0
    · dsimp only; rw [if_neg (by omega)]
    · dsimp only at hj ⊢
      rw [Zbo hin]
      by_cases e : j = i.toNat
      · subst e
        rw [if_pos rfl, if_pos (Nat.le_refl _), if_neg (by omega), hCi]
        exact ⟨by omega, hh⟩
      · rw [if_neg e, if_pos (by omega), if_pos (by omega)]
        exact h4 j (by omega)
    · dsimp only at hj ⊢
      rw [Zbo hin, if_neg (by omega)]
      exact h5 j (by omega)
  · refine Xn hi (h x c (fun K' hK' => ?_) h3.1)
    unfold Zd3
    refine Xg (fun j (s : Int) => s = C j) x.length ?_ ?_ _ _ _ (by omega) hC0.symm
    · intro j s next hj hsj hn'
      obtain ⟨g0, g2⟩ := h4 j (by omega)
      rw [hsj]
      exact g2 _ (Xn (by omega) (hn' _ rfl))
    · intro s hsj
      rw [hsj, show x.length = i.toNat by omega, hCi]; exact hK'
end Go.Proofs.Ytaagfepgbofmlaa
set_option linter.unusedVariables false
set_option linter.unusedSimpArgs false
namespace Go.Proofs.Ytaagfepgbofmlaa
open Go Vc
theorem Zvn (a : Alg) (k : Int) (h0 : Y2 a.degrees k a.degrees.length ≤ 120) (h1 : Y2 a.degrees (k - 1) a.degrees.length ≤ 120) : (Zbr a k).length ≤ 1000 ∧ ∀ j, j < (Zbr a k).length → ((Zbr a k).getD j default).length ≤ 1000 := by
  have hl : (Zbr a k).length = Y2 a.degrees k a.degrees.length := by rw [Zbr, List.length_map, Zbq]
  refine ⟨by omega, fun j hj => ?_⟩
  rw [Zbr] at hj ⊢
  have : ((Xz a.degrees k a.degrees.length).map fun e => Za1 a k e a.degrees.length).getD j default = Za1 a k ((Xz a.degrees k a.degrees.length).getD j default) a.degrees.length := by
    rw [List.length_map] at hj; simp [List.getD, hj]
  rw [this, Za1, List.length_map, Zbq]; omega
theorem Zvo (a0 : Alg) (a1 : Int) (hg : GoodAlg a0) (g1 : (Lit.int .i64 a1).wf = true) (hb : LenAlg a0) : Zh8 a0 a1 (fun r => r = true) := by
  unfold Zh8
  refine Zub hb (fun r hr d1 d2 d3 => ?_) (fun r hr => by rw [if_pos hr])
  rw [if_neg (by omega)]
  have hf := hg.fit d3
  obtain ⟨x, y, s1, s2, s3, s4⟩ : ∃ x y, (∀ K : List (List Int) → Int → Prop, K x y → Zd1 a0 a1 K) ∧ (∀ K : List (List Int) → Int → Prop, K x y → Zc8 a0 a1 K) ∧ x.length ≤ 1000 ∧ ∀ j, j < x.length → (x.getD j default).length ≤ 1000 := by
    have spec : ∀ (K : List (List Int) → Int → Prop), (¬ OkAlg a0 → K [] 1) → (OkAlg a0 → ¬ (1 ≤ a1 ∧ a1 ≤ 12) → K [] 2) → (OkAlg a0 → (1 ≤ a1 ∧ a1 ≤ 12) → ¬ (Y2 a0.degrees a1 a0.degrees.length ≤ 120 ∧ Y2 a0.degrees (a1 - 1) a0.degrees.length ≤ 120) → K [] 3) → (OkAlg a0 → (1 ≤ a1 ∧ a1 ≤ 12) → Y2 a0.degrees a1 a0.degrees.length ≤ 120 → Y2 a0.degrees (a1 - 1) a0.degrees.length ≤ 120 → K (Zbr a0 a1) 0) → Zd1 a0 a1 K := fun K k1 k2 k3 k0 => by
      unfold Zd1
      refine Zvk hf (by omega) (by omega) (fun no => Xh (by decide) (k1 no)) (fun ok no => Xh (by decide) (k2 ok no)) (fun ok hk no => Xh (by decide) (k3 ok hk fun z => no fun n q1 q2 => ?_)) (fun ok hk t => Xn (by decide) (Zvi ok hf hk (t a1 (by omega) (by omega)) (t (a1 - 1) (by omega) (by omega)) (k0 ok hk (t a1 (by omega) (by omega)) (t (a1 - 1) (by omega) (by omega)))))
      by_cases c : n = a1
      · subst c; exact z.1
      · rw [show n = a1 - 1 by omega]; exact z.2
    have impl : ∀ (K : List (List Int) → Int → Prop), (¬ OkAlg a0 → K [] 1) → (OkAlg a0 → ¬ (1 ≤ a1 ∧ a1 ≤ 12) → K [] 2) → (OkAlg a0 → (1 ≤ a1 ∧ a1 ≤ 12) → ¬ (Y2 a0.degrees a1 a0.degrees.length ≤ 120 ∧ Y2 a0.degrees (a1 - 1) a0.degrees.length ≤ 120) → K [] 3) → (OkAlg a0 → (1 ≤ a1 ∧ a1 ≤ 12) → Y2 a0.degrees a1 a0.degrees.length ≤ 120 → Y2 a0.degrees (a1 - 1) a0.degrees.length ≤ 120 → K (Zbr a0 a1) 0) → Zc8 a0 a1 K := fun K k1 k2 k3 k0 => by
      unfold Zc8
      refine Zsq hf (fun ok => ?_) (fun no => ?_)
      · refine Zho (Zh1 (Zd5 ?_))
        by_cases hk : 1 ≤ a1 ∧ a1 ≤ 12
        · have e : (if (0 : Int) ≠ 0 then (0 : Int) else if (!decide (1 ≤ a1 ∧ a1 ≤ 12)) = true then 2 else 0) = 0 := by rw [decide_eq_true hk]; rfl
          rw [e]
          exact Xn (by decide) (Zvj ok hf hk (fun t0 t1 => k0 ok hk t0 t1) (fun no => k3 ok hk no))
        · have e : (if (0 : Int) ≠ 0 then (0 : Int) else if (!decide (1 ≤ a1 ∧ a1 ≤ 12)) = true then 2 else 0) = 2 := by rw [decide_eq_false hk]; rfl
          rw [e]
          exact Xh (by decide) (k2 ok hk)
      · refine Zho (Zh1 (Zd5 ?_))
        have e : (if (1 : Int) ≠ 0 then (1 : Int) else if (!decide (1 ≤ a1 ∧ a1 ≤ 12)) = true then 2 else 0) = 1 := if_pos (by decide)
        rw [e]
        exact Xh (by decide) (k1 no)
    by_cases ok : OkAlg a0
    · by_cases hk : 1 ≤ a1 ∧ a1 ≤ 12
      · by_cases ht : Y2 a0.degrees a1 a0.degrees.length ≤ 120 ∧ Y2 a0.degrees (a1 - 1) a0.degrees.length ≤ 120
        · have sm := Zvn a0 a1 ht.1 ht.2
          exact ⟨_, 0, fun K h => spec K (fun z => absurd ok z) (fun _ z => absurd hk z) (fun _ _ z => absurd ht z) (fun _ _ _ _ => h), fun K h => impl K (fun z => absurd ok z) (fun _ z => absurd hk z) (fun _ _ z => absurd ht z) (fun _ _ _ _ => h), sm.1, sm.2⟩
        · exact ⟨[], 3, fun K h => spec K (fun z => absurd ok z) (fun _ z => absurd hk z) (fun _ _ _ => h) (fun _ _ z z' => absurd ⟨z, z'⟩ ht), fun K h => impl K (fun z => absurd ok z) (fun _ z => absurd hk z) (fun _ _ _ => h) (fun _ _ z z' => absurd ⟨z, z'⟩ ht), by simp, by simp⟩
      · exact ⟨[], 2, fun K h => spec K (fun z => absurd ok z) (fun _ _ => h) (fun _ z => absurd z hk) (fun _ z => absurd z hk), fun K h => impl K (fun z => absurd ok z) (fun _ _ => h) (fun _ z => absurd z hk) (fun _ z => absurd z hk), by simp, by simp⟩
    · exact ⟨[], 1, fun K h => spec K (fun _ => h) (fun z => absurd z ok) (fun z => absurd z ok) (fun z => absurd z ok), fun K h => impl K (fun _ => h) (fun z => absurd z ok) (fun z => absurd z ok) (fun z => absurd z ok), by simp, by simp⟩
  refine Zh9 d1 d2 d3 (s1 _ (Zh9 d1 d2 d3 (s2 _ (Zkc (Zh2 (Zh3 (Zh9 d1 d2 d3 (Zud (Zh2 ?_)))))))))
  refine Zun (by omega) d1 d2 d3 fun x0 n0 n1 n2 => ?_
  refine Zjt (by omega) (Zkc (Zh2 ?_))
  refine Zvm (by omega) s3 s4 fun x' n hh hn => ?_
  refine hh _ (Zjt hn (Zh3 ?_))
  refine Zh9 (a := a0) d1 d2 d3 (s2 _ (Zkc (Zh2 (Zh3 ?_))))
  exact hh _ (Zjt hn (Zh3 rfl))
end Go.Proofs.Ytaagfepgbofmlaa
set_option linter.unusedVariables false
namespace Go.Proofs.Ytaagfepgbofmlaa
end Go.Proofs.Ytaagfepgbofmlaa
