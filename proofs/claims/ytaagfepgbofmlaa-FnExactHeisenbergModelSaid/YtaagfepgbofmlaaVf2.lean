/- Plain laws: the program's forms. -/
import Derived.Test.YtaagfepgbofmlaaVf1
set_option linter.unusedVariables false
set_option linter.unusedSimpArgs false
namespace Go.Proofs.Ytaagfepgbofmlaa
open Go Vc
def FitT (l : List Term) : Prop := ∀ t, t ∈ l → FitA .u8 t.mono
theorem FitT.pos {l : List Term} (h : FitT l) : PosT l := fun t ht i hi => fit_u8 (fitA_get (h t ht) hi)
/-! ### Sums -/
/-- A map of a form: its coefficients, its monomials. -/
structure IsMap (l : List Term) (m : List (A8 × Int)) : Prop where
  ok : MapOk m
  cf : ∀ x, co m x = coT l x
  ks : ∀ p, p ∈ m → ∃ t, t ∈ l ∧ t.mono = p.1
/-- What sum.addAll leaves: k times t is added. -/
structure IsSum (s t : List (A8 × Int)) (k : Int) (out : List (A8 × Int)) : Prop where
  ok : MapOk out
  cf : ∀ m, co out m % 10007 = (co s m + k * co t m) % 10007
  ks : ∀ p, p ∈ out → ∃ q, (q ∈ s ∨ q ∈ t) ∧ q.1 = p.1
  ln : out.length ≤ s.length + t.length
/-! ### Products -/
def shM (ds : List Int) (p : A8 × Int) (t : List (A8 × Int)) (m : A8) : Int := tot (fun q => pr1 ds p.1 p.2 q.1 q.2 m) t
def prM (ds : List Int) (s t : List (A8 × Int)) (m : A8) : Int := tot (fun p => shM ds p t m) s
structure IsProdM (ds : List Int) (s t out : List (A8 × Int)) : Prop where
  ok : MapOk out
  cf : ∀ m, co out m % 10007 = prM ds s t m % 10007
  ks : ∀ p, p ∈ out → ∃ a b, a ∈ s ∧ b ∈ t ∧ p.1 = a.1.add b.1 ∧ ¬ Clash ds a.1 b.1
/-- A form out of a sum. -/
def Low (a : A8) : Prop := ∀ i, i < 8 → a.get i ≤ 20
instance (a : A8) : Decidable (Low a) := inferInstanceAs (Decidable (∀ i, i < 8 → _))
def formR (l : List Term) : Vc.Form × Int := if l.length ≤ 400 ∧ ∀ t, t ∈ l → Low t.mono then (⟨l⟩, 0) else (⟨[]⟩, 3)
theorem m_formG {m : List (A8 × Int)} {K : Vc.Form → Int → Prop} (hm : MapOk m) (hok : ∀ p, p ∈ m → OkP p.1) (h : ∀ l, Canon l → (∀ x, coT l x = co m x) → (∀ t, t ∈ l → ∃ p, p ∈ m ∧ p.1 = t.mono) → K (formR l).1 (formR l).2) : f_impl_sum_form m K := by
  by_cases hl : m.length ≤ 400
  · have hlist : ∀ xs : List A8, xs.Perm (m.map (·.1)) → (∀ t, t ∈ xs.map (fun x => (⟨x, (mget m x).getD 0⟩ : Term)) → ∃ p, p ∈ m ∧ p.1 = t.mono) ∧ (xs.map (fun x => (⟨x, (mget m x).getD 0⟩ : Term))).length = m.length := by
      intro xs hp
      refine ⟨fun t ht => ?_, by rw [List.length_map, hp.length_eq, List.length_map]⟩
      obtain ⟨x, hx, rfl⟩ := List.mem_map.1 ht
      obtain ⟨p, hpm, e⟩ := List.mem_map.1 (hp.mem_iff.1 hx)
      exact ⟨p, hpm, e⟩
    refine m_form hl hok ?_ ?_
    · intro hbad
      obtain ⟨xs, hxs, hw⟩ := sorted_ex (m.map (·.1))
      obtain ⟨h1, h2⟩ := canon_of_map hm hxs hw
      obtain ⟨h3, h4⟩ := hlist xs hxs
      have := h _ h1 h2 h3
      rw [formR, if_neg] at this
      · exact this
      · rintro ⟨_, q⟩
        obtain ⟨p, hp, i, hi, hgt⟩ := hbad
        have hx : p.1 ∈ xs := hxs.mem_iff.2 (List.mem_map.2 ⟨p, hp, rfl⟩)
        have := q _ (List.mem_map.2 ⟨p.1, hx, rfl⟩) i hi
        dsimp only at this
        omega
    · intro hle xs hxs hw
      obtain ⟨h1, h2⟩ := canon_of_map hm hxs hw
      obtain ⟨h3, h4⟩ := hlist xs hxs
      have := h _ h1 h2 h3
      rw [formR, if_pos] at this
      · exact this
      · refine ⟨by omega, fun t ht i hi => ?_⟩
        obtain ⟨p, hp, e⟩ := h3 t ht
        rw [← e]; exact hle p hp i hi
  · obtain ⟨xs, hxs, hw⟩ := sorted_ex (m.map (·.1))
    obtain ⟨h1, h2⟩ := canon_of_map hm hxs hw
    have hln : (xs.map (fun x => (⟨x, (mget m x).getD 0⟩ : Term))).length = m.length := by rw [List.length_map, hxs.length_eq, List.length_map]
    have := h _ h1 h2 (fun t ht => by
      obtain ⟨x, hx, rfl⟩ := List.mem_map.1 ht
      obtain ⟨p, hpm, e⟩ := List.mem_map.1 (hxs.mem_iff.1 hx)
      exact ⟨p, hpm, e⟩)
    rw [formR, if_neg (by omega)] at this
    unfold f_impl_sum_form
    rw [if_pos (by omega)]
    exact this
end Go.Proofs.Ytaagfepgbofmlaa
