/-
  The program's FnMonomials answers as the reference's for all arguments: the statement 'Rows.FnMonomialsSaid' as it is given. Conditions: none beyond the statement's own.
-/
import Derived.Test.YtaagfepgbofmlaaRows
import Derived.WalkKit
import Derived.ProofKit
import Derived.OpenShut
import Derived.Test.YtaagfepgbofmlaaVi7
namespace Go.Proofs.Ytaagfepgbofmlaa
open Go Go.RowKit Go.ChangeShapes Go.WideShapes Go.ChangeAt Vc
set_option linter.unusedVariables false
theorem own_fnMonomials : ownKnob Try.prog.godebug = none := by kernel_rfl
theorem laid_fnMonomials : laidOutB Try.prog = true := by kernel_rfl
theorem op5 {H : Type} {enc : TypeId × Value → H} {W : World} : Opens enc Try.prog W 5 ((EI .u8).ty) (Fit .u8) := opens_int Try.underlying5
theorem op46 {H : Type} {enc : TypeId × Value → H} {W : World} : Opens enc Try.prog W 46 ((EI .u8).ty.sl) (fun xs_ => ∀ x_, x_ ∈ xs_ → (Fit .u8) x_) := opens_slice Try.underlying46 (by kernel_rfl) (by decide) op5
set_option maxRecDepth 100000 in
theorem lifted_fnMonomials (os : Os) (started : os.Started) (H : Type) (enc : TypeId × Value → H) :
    ReturnsInHanded {} Try.checked os 7 .any (Rows.fnMonomialsSpec.pre6 enc Try.prog Try.f7 Rows.fnMonomialsRow.domain false) (Rows.fnMonomialsSpec.post enc Try.prog Try.f7 false true false false) := by
  refine returnsInHanded_of_change (C := Try.checked) own_fnMonomials started (by kernel_rfl) Try.func7
    (ChangeSpec.witness6 (enc := enc) (C := Try.checked) false ⟨#[], #[.slice none 0 0], []⟩ 8 (by kernel_rfl) (by kernel_rfl) (by kernel_rfl) (by kernel_rfl)) ?_
  intro W base args ds gs before hval0 hW hcnd _
  have hval : ∀ (j : Nat) t v, Try.f7.params[j]? = some t → args[j]? = some v → Value.okWide Try.prog W .any base t v := hval0
  have hW' := hW
  obtain ⟨p, q, hA0, hV, rfl, hfz, hnd⟩ := hW
  have hA : DataW.TrodAll enc Try.prog W 0 (fun _ => true) true Try.f7.params.toList args.toList ds p := hA0
  rw [Try.params7] at hA hval
  obtain ⟨v0, vs0, d0, ds0, p0, q0, hargs, rfl, rfl, h0, r0⟩ := trodAll_cons hA
  obtain ⟨rfl, rfl, rfl⟩ := trodAll_nil r0
  obtain rfl : args = #[v0] := by cases args; simp_all
  obtain ⟨rfl, rfl⟩ := trodVars_none hV
  have k0 := h0
  have lt0 := lt_of_trod k0
  obtain ⟨a0, c0, g0⟩ := (op46 (H := H) (enc := enc) (W := W)).arg h0
  obtain ⟨x0, n0, m0, rfl⟩ := okWide_slice Try.underlying46 (hval 0 46 v0 rfl rfl)
  clear hA0 hval0
  refine (c_laws_FnMonomials a0 (K := fun r => r = true) (p_Monomials a0 g0) W c0).mono fun e W' hq => ?_
  obtain ⟨r0, rfl, rfl, bel⟩ := hq
  exact ⟨_, rfl, _, _, _, [], _, [], hW', trodAll_mk1 (shut_bool Try.underlying4 _), (trodAll_cons_mk (Below.trod laid_fnMonomials (by kernel_rfl) (of_decide_eq_true (by kernel_rfl)) k0 bel.toBelow lt0) trodAll_mk0), rfl, bel.toBelow.frame _, fun h => by cases h⟩
theorem over_fnMonomials : Rows.fnMonomialsRow.holds Try.pinned (OpenSpec.ofChange Rows.fnMonomialsSpec) :=
  OpenClaim.holds_of_wide 7 Try.f7 rfl rfl rfl rfl rfl rfl rfl ⟨rfl, rfl, rfl, rfl, rfl⟩ rfl rfl rfl rfl rfl (by kernel_rfl) Try.func7 (by kernel_rfl)
    (of_decide_eq_true (by kernel_rfl)) (by unfold Func.isWrapper; first | (rw [if_pos (by decide +kernel)]; kernel_rfl) | (rw [if_neg (by decide +kernel)]; exact ⟨rfl, rfl⟩))
    (fun os started H enc _ => lifted_fnMonomials os started H enc)
/-- The statement. -/
theorem proved_FnMonomials : Rows.FnMonomialsSaid := over_fnMonomials
#print axioms proved_FnMonomials
end Go.Proofs.Ytaagfepgbofmlaa
