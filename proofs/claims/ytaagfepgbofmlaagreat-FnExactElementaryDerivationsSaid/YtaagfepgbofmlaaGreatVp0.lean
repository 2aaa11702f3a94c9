/- Plain laws on rounds, arrays of eight, signs. -/
import Derived.Test.YtaagfepgbofmlaaGreatVc14
set_option linter.unusedVariables false
set_option linter.unusedSimpArgs false
namespace Vc
open Go
theorem forN_inv {S : Type} {body : Nat → S → (S → Prop) → Prop} {exit : S → Prop} (I : Nat → S → Prop) (N : Nat)
    (step : ∀ i s next, i < N → I i s → (∀ s', I (i + 1) s' → next s') → body i s next) (fin : ∀ s, I N s → exit s) : ∀ r i s, i + r = N → I i s → forN body exit r i s := by
  intro r
  induction r with
  | zero => intro i s hi h; obtain rfl : i = N := by omega
            exact fin s h
  | succ r ih => intro i s hi h; exact step i s _ (by omega) h (fun s' h' => ih (i + 1) s' (by omega) h')
theorem whileP_inv {S : Type} {body : S → (S → Prop) → Prop} (I : S → Prop) (μ : S → Nat) (step : ∀ s next, I s → (∀ s', I s' → μ s' < μ s → next s') → body s next) {s : S} (h : I s) : whileP body s := by
  have L : ∀ k s, I s → μ s < k → whileK body k s := by
    intro k
    induction k with
    | zero => intro s _ hk; omega
    | succ k ih => intro s hs hk; exact step s _ hs (fun s' h' hm => ih s' h' (by omega))
  exact ⟨μ s + 1, L _ s h (Nat.lt_succ_self _)⟩
theorem mapP_inv {α β S : Type} [DecidableEq α] {body : α × β → S → (S → Prop) → Prop} {exit : S → Prop} (I : List (α × β) → S → Prop)
    (step : ∀ l p l' s next, Pick l p l' → I l s → (∀ s', I l' s' → next s') → body p s next) (fin : ∀ s, I [] s → exit s) : ∀ l s, I l s → mapP body exit l.length l s := by
  have L : ∀ k l s, l.length = k → I l s → mapP body exit k l s := by
    intro k
    induction k with
    | zero => intro l s hl h; obtain rfl := List.length_eq_zero_iff.1 hl; exact fin s h
    | succ k ih =>
      intro l s hl h p l' hp
      exact step l p l' s _ hp h (fun s' h' => ih l' s' (by have := pick_len hp; omega) h')
  exact fun l s h => L _ l s rfl h
theorem pick_perm {α β : Type} [DecidableEq α] {l l' : List (α × β)} {p : α × β} (h : Pick l p l') : l.Perm (p :: l') := by
  obtain ⟨i, hi, rfl, rfl⟩ := h
  induction l generalizing i with
  | nil => simp at hi
  | cons a l ih =>
    cases i with
    | zero => simp
    | succ i =>
      have := ih i (by simpa using hi)
      simp only [List.getElem_cons_succ, List.eraseIdx_cons_succ]
      exact (this.cons a).trans (List.Perm.swap _ _ _)
namespace A8
theorem ext_get {a b : A8} (h : ∀ i, i < 8 → a.get i = b.get i) : a = b := by
  have h0 := h 0 (by omega); have h1 := h 1 (by omega); have h2 := h 2 (by omega); have h3 := h 3 (by omega)
  have h4 := h 4 (by omega); have h5 := h 5 (by omega); have h6 := h 6 (by omega); have h7 := h 7 (by omega)
  cases a; cases b
  simp only [get] at *
  simp only [A8.mk.injEq]
  exact ⟨h0, h1, h2, h3, h4, h5, h6, h7⟩
theorem get_set {a : A8} {i j : Nat} {v : Int} (hi : i < 8) : (a.set i v).get j = if j = i then v else a.get j := by
  match i, hi with
  | 0, _ => match j with
    | 0 | 1 | 2 | 3 | 4 | 5 | 6 | 7 => rfl
    | j + 8 => simp [set, get]
  | 1, _ => match j with
    | 0 | 1 | 2 | 3 | 4 | 5 | 6 | 7 => rfl
    | j + 8 => simp [set, get]
  | 2, _ => match j with
    | 0 | 1 | 2 | 3 | 4 | 5 | 6 | 7 => rfl
    | j + 8 => simp [set, get]
  | 3, _ => match j with
    | 0 | 1 | 2 | 3 | 4 | 5 | 6 | 7 => rfl
    | j + 8 => simp [set, get]
  | 4, _ => match j with
    | 0 | 1 | 2 | 3 | 4 | 5 | 6 | 7 => rfl
    | j + 8 => simp [set, get]
  | 5, _ => match j with
    | 0 | 1 | 2 | 3 | 4 | 5 | 6 | 7 => rfl
    | j + 8 => simp [set, get]
  | 6, _ => match j with
    | 0 | 1 | 2 | 3 | 4 | 5 | 6 | 7 => rfl
    | j + 8 => simp [set, get]
  | 7, _ => match j with
    | 0 | 1 | 2 | 3 | 4 | 5 | 6 | 7 => rfl
    | j + 8 => simp [set, get]
theorem get_zero (i : Nat) : zero.get i = 0 := by
  match i with
  | 0 | 1 | 2 | 3 | 4 | 5 | 6 | 7 => rfl
  | i + 8 => rfl
theorem mem_list {a : A8} {x : Int} : x ∈ a.list ↔ ∃ i, i < 8 ∧ a.get i = x := by
  constructor
  · intro h
    simp only [list, List.mem_cons, List.not_mem_nil, or_false] at h
    rcases h with rfl | rfl | rfl | rfl | rfl | rfl | rfl | rfl
    · exact ⟨0, by omega, rfl⟩
    · exact ⟨1, by omega, rfl⟩
    · exact ⟨2, by omega, rfl⟩
    · exact ⟨3, by omega, rfl⟩
    · exact ⟨4, by omega, rfl⟩
    · exact ⟨5, by omega, rfl⟩
    · exact ⟨6, by omega, rfl⟩
    · exact ⟨7, by omega, rfl⟩
  · rintro ⟨i, hi, rfl⟩
    match i, hi with
    | 0, _ => simp [list, get]
    | 1, _ => simp [list, get]
    | 2, _ => simp [list, get]
    | 3, _ => simp [list, get]
    | 4, _ => simp [list, get]
    | 5, _ => simp [list, get]
    | 6, _ => simp [list, get]
    | 7, _ => simp [list, get]
def add (a b : A8) : A8 := ⟨a.x0 + b.x0, a.x1 + b.x1, a.x2 + b.x2, a.x3 + b.x3, a.x4 + b.x4, a.x5 + b.x5, a.x6 + b.x6, a.x7 + b.x7⟩
theorem get_add (a b : A8) (i : Nat) : (a.add b).get i = a.get i + b.get i := by
  match i with
  | 0 | 1 | 2 | 3 | 4 | 5 | 6 | 7 => rfl
  | i + 8 => rfl
end A8
theorem fit_u8 {x : Int} (h : Fit .u8 x) : 0 ≤ x ∧ x ≤ 255 := by
  simp only [Fit, Lit.wf, Bool.and_eq_true, decide_eq_true_eq] at h
  simp [IntKind.min, IntKind.max, IntKind.signed, IntKind.bits] at h
  omega
theorem fitA_get {k : IntKind} {a : A8} (h : FitA k a) {i : Nat} (hi : i < 8) : Fit k (a.get i) := h _ (A8.mem_list.2 ⟨i, hi, rfl⟩)
theorem u8_in (x : Int) (h : 0 ≤ x ∧ x ≤ 255) : IntKind.u8.wrap x = x := by
  simp [IntKind.wrap, IntKind.bits, IntKind.signed]; omega
/-! ### Degrees, monomials -/
def OkDeg (ds : List Int) : Prop := ds.length ≤ 8 ∧ ∀ i, i < ds.length → 1 ≤ ds.getD i default ∧ ds.getD i default ≤ 12
instance (ds : List Int) : Decidable (OkDeg ds) := inferInstanceAs (Decidable (_ ∧ ∀ i, i < ds.length → _))
def OkMono (ds : List Int) (a : A8) : Prop := ∀ i, i < 8 → (i < ds.length → a.get i ≤ 20 ∧ (Int.tmod (ds.getD i default) 2 ≠ 0 → a.get i ≤ 1)) ∧ (ds.length ≤ i → a.get i = 0)
instance (ds : List Int) (a : A8) : Decidable (OkMono ds a) := inferInstanceAs (Decidable (∀ i, i < 8 → _))
/-- Like OkMono, with larger exponents. -/
def WkMono (ds : List Int) (a : A8) : Prop := ∀ i, i < 8 → (i < ds.length → a.get i ≤ 100 ∧ (Int.tmod (ds.getD i default) 2 ≠ 0 → a.get i ≤ 1)) ∧ (ds.length ≤ i → a.get i = 0)
theorem OkMono.wk {ds : List Int} {a : A8} (h : OkMono ds a) : WkMono ds a := fun i hi => ⟨fun hl => ⟨by have := ((h i hi).1 hl).1; omega, ((h i hi).1 hl).2⟩, (h i hi).2⟩
theorem odd_or {d : Int} (h : 1 ≤ d ∧ d ≤ 12) : Int.tmod d 2 = 0 ∨ Int.tmod d 2 = 1 := by
  rw [Int.tmod_eq_emod_of_nonneg (by omega)]; omega
theorem OkDeg.odd {ds : List Int} (h : OkDeg ds) {i : Nat} (hi : i < ds.length) : Int.tmod (ds.getD i default) 2 = 0 ∨ Int.tmod (ds.getD i default) 2 = 1 := odd_or (h.2 i hi)
def Clash (ds : List Int) (a b : A8) : Prop := ∃ i, i < ds.length ∧ Int.tmod (ds.getD i default) 2 ≠ 0 ∧ 0 < a.get i ∧ 0 < b.get i
instance (ds : List Int) (a b : A8) : Decidable (Clash ds a b) := decidable_of_iff (∃ i, i < ds.length ∧ (Int.tmod (ds.getD i default) 2 ≠ 0 ∧ 0 < a.get i ∧ 0 < b.get i)) (by simp [Clash])
def cntF (ds : List Int) (a : A8) : Nat → Nat → Int
  | 0, _ => 0
  | r + 1, j => Int.tmod (ds.getD j default) 2 * a.get j + cntF ds a r (j + 1)
def totF (ds : List Int) (a b : A8) : Nat → Nat → Int
  | 0, _ => 0
  | r + 1, i => (if Int.tmod (ds.getD i default) 2 = 0 ∨ b.get i ≤ 0 then 0 else cntF ds a r (i + 1)) + totF ds a b r (i + 1)
def sg (c : Int) : Int := if c % 2 = 0 then 1 else -1
def joined (ds : List Int) (a b : A8) : A8 × Int := if Clash ds a b then (A8.zero, 0) else (a.add b, sg (totF ds a b ds.length 0))
theorem sg_add (a b : Int) : sg (a + b) = sg a * sg b := by
  unfold sg; split <;> split <;> split <;> omega
theorem sg_neg (s : Int) : sg (s + 1) = - sg s := by unfold sg; split <;> split <;> omega
theorem sg_pm (s : Int) : sg s = 1 ∨ sg s = -1 := by unfold sg; split <;> simp
end Vc
