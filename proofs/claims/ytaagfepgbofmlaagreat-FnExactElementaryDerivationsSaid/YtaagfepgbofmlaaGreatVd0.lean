/- The differential as coefficients. -/
import Derived.Test.YtaagfepgbofmlaaGreatVf0
set_option linter.unusedVariables false
set_option linter.unusedSimpArgs false
namespace Vc
open Go
def A8.mkf (f : Nat → Int) : A8 := ⟨f 0, f 1, f 2, f 3, f 4, f 5, f 6, f 7⟩
theorem A8.get_mkf (f : Nat → Int) {i : Nat} (hi : i < 8) : (A8.mkf f).get i = f i := by
  match i, hi with
  | 0, _ | 1, _ | 2, _ | 3, _ | 4, _ | 5, _ | 6, _ | 7, _ => rfl
def frontA (m : A8) (i : Nat) : A8 := A8.mkf fun j => if j < i then m.get j else 0
def leftA (m : A8) (i : Nat) : A8 := A8.mkf fun j => if j < i then m.get j else if j = i then m.get i - 1 else 0
def backA (m : A8) (i : Nat) : A8 := A8.mkf fun j => if i < j then m.get j else 0
/-- The degree of the first generators' part. -/
def wtU (ds : List Int) (m : A8) : Nat → Int
  | 0 => 0
  | i + 1 => wtU ds m i + ds.getD i default * m.get i
/-- Sums over lists with one coefficient function agree. -/
theorem tot_keys (F : A8 → Int) (S : List A8) (hS : S.Nodup) : ∀ l : List Term, (∀ t, t ∈ l → t.mono ∈ S) → tot (fun t => F t.mono * t.factor) l = tot (fun x => F x * coT l x) S := by
  intro l
  induction l with
  | nil => intro _; simp only [tot]; rw [tot_zero]; intro x _; rw [coT_nil, Int.mul_zero]
  | cons t l ih =>
    intro h
    simp only [tot]
    rw [ih fun s hs => h s (by simp [hs])]
    have e : ∀ x, F x * coT (t :: l) x = (if t.mono = x then F x * t.factor else 0) + F x * coT l x := fun x => by
      rw [coT_cons, Int.mul_add]
      congr 1
      split
      · rfl
      · rw [Int.mul_zero]
    rw [tot_congr (fun x _ => e x), tot_add]
    congr 1
    have ht := h t (by simp)
    clear ih h e
    induction S with
    | nil => cases ht
    | cons s S ihS =>
      simp only [tot]
      have hn := List.nodup_cons.1 hS
      by_cases hs : t.mono = s
      · subst hs
        rw [if_pos rfl, tot_zero]
        · omega
        · intro x hx
          rw [if_neg]
          rintro rfl
          exact hn.1 hx
      · rw [if_neg hs, Int.zero_add]
        refine ihS hn.2 ?_
        rcases List.mem_cons.1 ht with q | q
        · exact absurd q hs
        · exact q
def dedup : List A8 → List A8
  | [] => []
  | a :: l => if a ∈ dedup l then dedup l else a :: dedup l
theorem dedup_mem {a : A8} : ∀ l, a ∈ l → a ∈ dedup l
  | b :: l, h => by
    simp only [dedup]
    rcases List.mem_cons.1 h with rfl | h
    · split
      · assumption
      · simp
    · have := dedup_mem l h
      split
      · exact this
      · simp [this]
theorem dedup_nodup : ∀ l, (dedup l).Nodup
  | [] => List.nodup_nil
  | a :: l => by
    simp only [dedup]
    split
    · exact dedup_nodup l
    · exact List.nodup_cons.2 ⟨by assumption, dedup_nodup l⟩
theorem lin (F : A8 → Int) {l k : List Term} (h : ∀ x, coT l x % 10007 = coT k x % 10007) : tot (fun t => F t.mono * t.factor) l % 10007 = tot (fun t => F t.mono * t.factor) k % 10007 := by
  have S := dedup (l.map Term.mono ++ k.map Term.mono)
  rw [tot_keys F (dedup (l.map Term.mono ++ k.map Term.mono)) (dedup_nodup _) l fun t ht => dedup_mem _ (by simp; exact .inl ⟨t, ht, rfl⟩),
    tot_keys F (dedup (l.map Term.mono ++ k.map Term.mono)) (dedup_nodup _) k fun t ht => dedup_mem _ (by simp; exact .inr ⟨t, ht, rfl⟩)]
  refine tot_emod fun x _ => ?_
  rw [Int.mul_emod, h x, ← Int.mul_emod]
/-- A term of an image between what stands ahead and what stands behind. -/
def tri (ds : List Int) (l b u : A8) (n : Int) (x : A8) : Int := if (joined ds (joined ds l u).1 b).1 = x then (joined ds (joined ds l u).1 b).2 * ((joined ds l u).2 * n) else 0
def triC (ds : List Int) (l b : A8) (img : List Term) (x : A8) : Int := tot (fun u => tri ds l b u.mono u.factor x) img
theorem tri_of {ds : List Int} {l b : A8} {img own prod : List Term} (h1 : ∀ y, coT own y % 10007 = shC ds ⟨l, 1⟩ img y % 10007) (h2 : ∀ x, coT prod x % 10007 = prC ds own [⟨b, 1⟩] x % 10007) (x : A8) : coT prod x % 10007 = triC ds l b img x % 10007 := by
  rw [h2]
  have e1 : prC ds own [⟨b, 1⟩] x = tot (fun t => (if (joined ds t.mono b).1 = x then (joined ds t.mono b).2 else 0) * t.factor) own := by
    refine tot_congr fun t _ => ?_
    unfold shC pr1
    simp only [tot, Int.mul_one, Int.add_zero]
    split <;> simp
  have hL : ∀ y, coT own y % 10007 = coT (img.map fun u => (⟨(joined ds l u.mono).1, (joined ds l u.mono).2 * u.factor⟩ : Term)) y % 10007 := fun y => by
    rw [h1 y, shC, coT, tot_map]
    congr 1
    refine tot_congr fun u _ => ?_
    unfold pr1
    simp only [Int.one_mul]
  rw [e1, lin (fun y => if (joined ds y b).1 = x then (joined ds y b).2 else 0) hL, tot_map]
  congr 1
  refine tot_congr fun u _ => ?_
  unfold tri
  dsimp only
  split <;> simp
/-- What the differential of one term gives. -/
def dK (ds : List Int) (m : A8) (n : Int) (i : Nat) : Int := (sg (wtU ds m i) * (n * m.get i)) % 10007
def dS (ds : List Int) (imgs : List (List Term)) (m : A8) (n : Int) (x : A8) : Nat → Nat → Int
  | 0, _ => 0
  | r + 1, i => (if m.get i > 0 then dK ds m n i * triC ds (leftA m i) (backA m i) (imgs.getD i default) x else 0) + dS ds imgs m n x r (i + 1)
def dT (ds : List Int) (imgs : List (List Term)) (m : A8) (n : Int) (x : A8) : Int := dS ds imgs m n x 8 0
theorem dK_zero (ds : List Int) (m : A8) (i : Nat) : dK ds m 0 i = 0 := by simp [dK]
theorem dT_zero (ds : List Int) (imgs : List (List Term)) (m x : A8) : dT ds imgs m 0 x = 0 := by
  have : ∀ r i, dS ds imgs m 0 x r i = 0 := by
    intro r
    induction r with
    | zero => intro i; rfl
    | succ r ih => intro i; simp only [dS, ih, dK_zero]; split <;> simp
  exact this 8 0
theorem dS_end {ds : List Int} {imgs : List (List Term)} {m : A8} {n : Int} {x : A8} : ∀ r i, (∀ j, i ≤ j → j < i + r → m.get j = 0) → dS ds imgs m n x r i = 0 := by
  intro r
  induction r with
  | zero => intro i _; rfl
  | succ r ih => intro i h; simp only [dS]; rw [h i (by omega) (by omega), if_neg (by omega), ih (i + 1) fun j h1 h2 => h j (by omega) (by omega)]; rfl
/-- Which monomials it has. -/
def DMono (ds : List Int) (imgs : List (List Term)) (x m : A8) : Prop := ∃ i u, i < 8 ∧ 0 < m.get i ∧ u ∈ imgs.getD i default ∧ x = ((leftA m i).add u.mono).add (backA m i) ∧ ¬ Clash ds (leftA m i) u.mono ∧ ¬ Clash ds ((leftA m i).add u.mono) (backA m i)
/-- What the differential of a form is. -/
structure IsD (ds : List Int) (imgs : List (List Term)) (f out : List Term) : Prop where
  can : Canon out
  cf : ∀ x, coT out x % 10007 = tot (fun t => dT ds imgs t.mono t.factor x) f % 10007
  mo : ∀ y, y ∈ out → ∃ t, t ∈ f ∧ DMono ds imgs y.mono t.mono
theorem leftA_wk {ds : List Int} {m : A8} {i : Nat} (h : OkMono ds m) (hi : i < 8) (hp : 0 < m.get i) : WkMono ds (leftA m i) ∧ WkMono ds (backA m i) := by
  constructor
  · intro j hj
    rw [leftA, A8.get_mkf _ hj]
    have hm := h j hj
    refine ⟨fun hl => ?_, fun hl => ?_⟩
    · have h1 := hm.1 hl
      split
      · exact ⟨by omega, h1.2⟩
      · split
        · rename_i e; subst e; exact ⟨by omega, fun q => by have := h1.2 q; omega⟩
        · exact ⟨by omega, fun _ => by omega⟩
    · have h1 := hm.2 hl
      split
      · exact h1
      · split
        · rename_i e; subst e; omega
        · rfl
  · intro j hj
    rw [backA, A8.get_mkf _ hj]
    have hm := h j hj
    refine ⟨fun hl => ?_, fun hl => ?_⟩
    · have h1 := hm.1 hl
      split
      · exact ⟨by omega, h1.2⟩
      · exact ⟨by omega, fun _ => by omega⟩
    · have h1 := hm.2 hl
      split
      · exact h1
      · rfl
/-- A product of monomials that do not clash. -/
theorem wk_add {ds : List Int} {a b : A8} (ha : WkMono ds a) (hb : WkMono ds b) (pa : ∀ i, i < 8 → 0 ≤ a.get i) (pb : ∀ i, i < 8 → 0 ≤ b.get i) (hs : ∀ i, i < 8 → a.get i + b.get i ≤ 100) (hc : ¬ Clash ds a b) : WkMono ds (a.add b) := by
  intro j hj
  rw [A8.get_add]
  have h1 := ha j hj
  have h2 := hb j hj
  refine ⟨fun hl => ⟨hs j hj, fun ho => ?_⟩, fun hl => by rw [h1.2 hl, h2.2 hl]; rfl⟩
  have g1 := (h1.1 hl).2 ho
  have g2 := (h2.1 hl).2 ho
  have := pa j hj
  have := pb j hj
  have : ¬ (0 < a.get j ∧ 0 < b.get j) := fun q => hc ⟨j, hl, ho, q⟩
  omega
end Vc
