/-
  The program's FnExactMonomialsOf answers as the reference's for all arguments: the statement 'Rows.FnExactMonomialsOfSaid' as it is given. Conditions: none beyond the statement's own.
-/
import Derived.Test.YtjngkbalaipdbaaRows
import Derived.WalkKit
import Derived.ProofKit
import Derived.OpenShut
import Derived.Test.YtjngkbalaipdbaaVl5
namespace Go.Proofs.Ytjngkbalaipdbaa
open Go Go.RowKit Go.ChangeShapes Go.WideShapes Go.ChangeAt Vc
set_option linter.unusedVariables false
theorem own_fnExactMonomialsOf : ownKnob Try.prog.godebug = none := by kernel_rfl
theorem laid_fnExactMonomialsOf : laidOutB Try.prog = true := by kernel_rfl
theorem op2 {H : Type} {enc : TypeId × Value → H} {W : World} : Opens enc Try.prog W 2 ((EI .i64).ty) (Fit .i64) := opens_int Try.underlying2
theorem op22 {H : Type} {enc : TypeId × Value → H} {W : World} : Opens enc Try.prog W 22 ((EI .i64).ty.sl) (fun xs_ => ∀ x_, x_ ∈ xs_ → (Fit .i64) x_) := opens_slice Try.underlying22 (by kernel_rfl) (by decide) op2
set_option maxRecDepth 100000 in
theorem lifted_fnExactMonomialsOf (os : Os) (started : os.Started) (H : Type) (enc : TypeId × Value → H) :
    ReturnsInHanded {} Try.checked os 5 .any (Rows.fnExactMonomialsOfSpec.pre6 enc Try.prog Try.f5 Rows.fnExactMonomialsOfRow.domain false) (Rows.fnExactMonomialsOfSpec.post enc Try.prog Try.f5 false true false false) := by
  refine returnsInHanded_of_change (C := Try.checked) own_fnExactMonomialsOf started (by kernel_rfl) Try.func5
    (ChangeSpec.witness6 (enc := enc) (C := Try.checked) false ⟨#[], #[.slice none 0 0, .int .i64 0], []⟩ 8 (by kernel_rfl) (by kernel_rfl) (by kernel_rfl) (by kernel_rfl)) ?_
  intro W base args ds gs before hval0 hW hcnd _
  have hval : ∀ (j : Nat) t v, Try.f5.params[j]? = some t → args[j]? = some v → Value.okWide Try.prog W .any base t v := hval0
  have hW' := hW
  obtain ⟨p, q, hA0, hV, rfl, hfz, hnd⟩ := hW
  have hA : DataW.TrodAll enc Try.prog W 0 (fun _ => true) true Try.f5.params.toList args.toList ds p := hA0
  rw [Try.params5] at hA hval
  obtain ⟨v0, vs0, d0, ds0, p0, q0, hargs, rfl, rfl, h0, r0⟩ := trodAll_cons hA
  obtain ⟨v1, vs1, d1, ds1, p1, q1, rfl, rfl, rfl, h1, r1⟩ := trodAll_cons r0
  obtain ⟨rfl, rfl, rfl⟩ := trodAll_nil r1
  obtain rfl : args = #[v0, v1] := by cases args; simp_all
  obtain ⟨rfl, rfl⟩ := trodVars_none hV
  have k0 := h0
  have lt0 := lt_of_trod k0
  obtain ⟨a0, c0, g0⟩ := (op22 (H := H) (enc := enc) (W := W)).arg h0
  obtain ⟨x0, n0, m0, rfl⟩ := okWide_slice Try.underlying22 (hval 0 22 v0 rfl rfl)
  have k1 := h1
  have lt1 := lt_of_trod k1
  obtain ⟨a1, rfl, rfl, rfl, g1⟩ := open_int Try.underlying2 (hval 1 2 v1 rfl rfl) h1
  clear hA0 hval0
  refine (c_laws_FnExactMonomialsOf a0 a1 (K := fun r => r = true) (p_MonomialsOf a0 a1 g0 g1) W c0).mono fun e W' hq => ?_
  obtain ⟨r0, rfl, rfl, bel⟩ := hq
  exact ⟨_, rfl, _, _, _, [], _, [], hW', trodAll_mk1 (shut_bool Try.underlying4 _), (trodAll_cons_mk (Below.trod laid_fnExactMonomialsOf (by kernel_rfl) (of_decide_eq_true (by kernel_rfl)) k0 bel.toBelow lt0) (trodAll_cons_mk (Below.trod laid_fnExactMonomialsOf (by kernel_rfl) (of_decide_eq_true (by kernel_rfl)) k1 bel.toBelow lt1) trodAll_mk0)), rfl, bel.toBelow.frame _, fun h => by cases h⟩
theorem over_fnExactMonomialsOf : Rows.fnExactMonomialsOfRow.holds Try.pinned (OpenSpec.ofChange Rows.fnExactMonomialsOfSpec) :=
  OpenClaim.holds_of_wide 5 Try.f5 rfl rfl rfl rfl rfl rfl rfl ⟨rfl, rfl, rfl, rfl, rfl⟩ rfl rfl rfl rfl rfl (by kernel_rfl) Try.func5 (by kernel_rfl)
    (of_decide_eq_true (by kernel_rfl)) (by unfold Func.isWrapper; first | (rw [if_pos (by decide +kernel)]; kernel_rfl) | (rw [if_neg (by decide +kernel)]; exact ⟨rfl, rfl⟩))
    (fun os started H enc _ => lifted_fnExactMonomialsOf os started H enc)
/-- The statement. -/
theorem proved_FnExactMonomialsOf : Rows.FnExactMonomialsOfSaid := over_fnExactMonomialsOf
#print axioms proved_FnExactMonomialsOf
end Go.Proofs.Ytjngkbalaipdbaa
