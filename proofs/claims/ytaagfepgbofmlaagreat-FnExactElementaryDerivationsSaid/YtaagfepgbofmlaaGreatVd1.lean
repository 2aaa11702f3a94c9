/- The differential of maps as coefficients. -/
import Derived.Test.YtaagfepgbofmlaaGreatVf2
import Derived.Test.YtaagfepgbofmlaaGreatVd0
set_option linter.unusedVariables false
set_option linter.unusedSimpArgs false
namespace Go.Proofs.YtaagfepgbofmlaaGreat
open Go Vc
def asT (m : List (A8 × Int)) : List Term := m.map fun p => ⟨p.1, p.2⟩
theorem co_asT (m : List (A8 × Int)) (x : A8) : coT (asT m) x = co m x := by rw [coT, asT, tot_map]; rfl
theorem isMap_of {l : List Term} {out : List (A8 × Int)} (hc : Canon l) (ho : MapOk out) (h : ∀ x, co out x % 10007 = coT l x % 10007) : IsMap l out := by
  have hcf : ∀ x, co out x = coT l x := fun x => by have := h x; have := ho.range x; have := hc.range x; omega
  refine ⟨ho, hcf, fun p hp => Classical.byContradiction fun hno => ?_⟩
  have h1 : coT l p.1 = 0 := coT_zero fun t ht e => hno ⟨t, ht, e⟩
  rw [← hcf, ← mget_co ho.1] at h1
  have h2 := ho.2 p hp
  have h3 : (mget out p.1).getD 0 = p.2 := by
    rw [mget_co ho.1]
    have hk := ho.1
    clear h hcf hno h1 h2 ho
    induction out with
    | nil => simp at hp
    | cons q k ih =>
      simp only [List.map_cons, List.nodup_cons] at hk
      rw [co_cons]
      rcases List.mem_cons.1 hp with rfl | hp
      · rw [if_pos rfl, co_zero fun t ht e => hk.1 (List.mem_map.2 ⟨t, ht, e⟩), Int.add_zero]
      · rw [if_neg (fun e => hk.1 (List.mem_map.2 ⟨p, hp, e.symm⟩)), Int.zero_add]
        exact ih hp hk.2
  omega
theorem tri_map {ds : List Int} {l b : A8} {img : List Term} {s own t : List (A8 × Int)} (hs : IsMap img s) (hc : Canon img) (h1 : IsProdM ds [(l, 1)] s own) (h2 : IsProdM ds own [(b, 1)] t) (x : A8) : co t x % 10007 = triC ds l b img x % 10007 := by
  rw [← co_asT]
  refine tri_of (own := asT own) (fun y => ?_) (fun x => ?_) x
  · rw [co_asT, h1.cf]
    unfold prM shM shC
    simp only [tot, Int.add_zero]
    rw [map_tot hs hc (fun a n => pr1 ds l 1 a n y) (fun a => by unfold pr1; split <;> simp)]
  · rw [co_asT, h2.cf]
    unfold prM shM prC shC asT
    rw [tot_map]
    simp only [tot, Int.add_zero]
/-- What the differential of a map is. -/
structure IsDM (ds : List Int) (imgs : List (List Term)) (s out : List (A8 × Int)) : Prop where
  ok : MapOk out
  cf : ∀ x, co out x % 10007 = tot (fun p => dT ds imgs p.1 p.2 x) s % 10007
  mo : ∀ y, y ∈ out → ∃ t, t ∈ s ∧ DMono ds imgs y.1 t.1
/-- The two differentials are one. -/
theorem isD_isDM {ds : List Int} {imgs : List (List Term)} {f : List Term} {s out' : List (A8 × Int)} {out : List Term} (hs : IsMap f s) (hc : Canon f) (h : IsD ds imgs f out) (h' : IsDM ds imgs s out') : IsMap out out' :=
  isMap_of h.can h'.ok fun x => by
    rw [h'.cf, h.cf, map_tot hs hc (fun a n => dT ds imgs a n x) (fun a => dT_zero ds imgs a x)]
theorem isMap_nil {l : List Term} {m : List (A8 × Int)} (h : IsMap l m) (hc : Canon l) : m = [] ↔ l = [] := by
  constructor
  · intro e
    cases l with
    | nil => rfl
    | cons t l =>
      have h1 := h.cf t.mono
      rw [hc.at_head, e, co_nil] at h1
      have := hc.2 t (by simp)
      omega
  · intro e
    cases m with
    | nil => rfl
    | cons p m =>
      obtain ⟨t, ht, _⟩ := h.ks p (by simp)
      rw [e] at ht; cases ht
end Go.Proofs.YtaagfepgbofmlaaGreat
