/-
  The program's FnExactDimensionOfF answers as the reference's for all arguments: the statement 'Rows.FnExactDimensionOfFSaid' as it is given. Conditions: none beyond the statement's own.
-/
import Derived.Test.YtaagfepgbofmlaaRows
import Derived.WalkKit
import Derived.ProofKit
import Derived.OpenShut
import Derived.Test.YtaagfepgbofmlaaVi5
namespace Go.Proofs.Ytaagfepgbofmlaa
open Go Go.RowKit Go.ChangeShapes Go.WideShapes Go.ChangeAt Vc
set_option linter.unusedVariables false
theorem own_fnExactDimensionOfF : ownKnob Try.prog.godebug = none := by kernel_rfl
theorem laid_fnExactDimensionOfF : laidOutB Try.prog = true := by kernel_rfl
theorem op2 {H : Type} {enc : TypeId × Value → H} {W : World} : Opens enc Try.prog W 2 ((EI .i64).ty) (Fit .i64) := opens_int Try.underlying2
theorem op22 {H : Type} {enc : TypeId × Value → H} {W : World} : Opens enc Try.prog W 22 ((EI .i64).ty.sl) (fun xs_ => ∀ x_, x_ ∈ xs_ → (Fit .i64) x_) := opens_slice Try.underlying22 (by kernel_rfl) (by decide) op2
theorem op48 {H : Type} {enc : TypeId × Value → H} {W : World} : Opens enc Try.prog W 48 ((EA .u8).ty) (FitA .u8) := opens_arr Try.underlying48 Try.underlying5 (by kernel_rfl) (by kernel_rfl)
theorem op204 {H : Type} {enc : TypeId × Value → H} {W : World} : Opens enc Try.prog W 204 ETerm.ty (fun a_ : Term => (FitA .u8) a_.mono ∧ (Fit .i64) a_.factor) := opens_Term Try.underlying204 rfl (by kernel_rfl) (by kernel_rfl) op48 op2
theorem op126 {H : Type} {enc : TypeId × Value → H} {W : World} : Opens enc Try.prog W 126 ETerm.ty.sl (fun xs_ => ∀ x_, x_ ∈ xs_ → ((fun a_ : Term => (FitA .u8) a_.mono ∧ (Fit .i64) a_.factor)) x_) := opens_slice Try.underlying126 (by kernel_rfl) (by decide) op204
theorem op128 {H : Type} {enc : TypeId × Value → H} {W : World} : Opens enc Try.prog W 128 TForm (fun a_ : Vc.Form => ((fun xs_ => ∀ x_, x_ ∈ xs_ → ((fun a_ : Term => (FitA .u8) a_.mono ∧ (Fit .i64) a_.factor)) x_)) a_.terms) := opens_s1 Vc.Form.terms Vc.Form.mk (fun _ => rfl) Try.underlying128 rfl (by kernel_rfl) op126
theorem op23 {H : Type} {enc : TypeId × Value → H} {W : World} : Opens enc Try.prog W 23 TForm.sl (fun xs_ => ∀ x_, x_ ∈ xs_ → ((fun a_ : Vc.Form => ((fun xs_ => ∀ x_, x_ ∈ xs_ → ((fun a_ : Term => (FitA .u8) a_.mono ∧ (Fit .i64) a_.factor)) x_)) a_.terms)) x_) := opens_slice Try.underlying23 (by kernel_rfl) (by decide) op128
theorem op25 {H : Type} {enc : TypeId × Value → H} {W : World} : Opens enc Try.prog W 25 TAlg (fun a_ : Alg => ((fun xs_ => ∀ x_, x_ ∈ xs_ → (Fit .i64) x_)) a_.degrees ∧ ((fun xs_ => ∀ x_, x_ ∈ xs_ → ((fun a_ : Vc.Form => ((fun xs_ => ∀ x_, x_ ∈ xs_ → ((fun a_ : Term => (FitA .u8) a_.mono ∧ (Fit .i64) a_.factor)) x_)) a_.terms)) x_)) a_.images) := opens_s2 (fun a_ : Alg => (a_.degrees, a_.images)) (fun p_ => ⟨p_.1, p_.2⟩) (fun _ => rfl) Try.underlying25 rfl (by kernel_rfl) (by kernel_rfl) op22 op23
set_option maxRecDepth 100000 in
theorem lifted_fnExactDimensionOfF (os : Os) (started : os.Started) (H : Type) (enc : TypeId × Value → H) :
    ReturnsInHanded {} Try.checked os 5 .any (Rows.fnExactDimensionOfFSpec.pre6 enc Try.prog Try.f5 Rows.fnExactDimensionOfFRow.domain false) (Rows.fnExactDimensionOfFSpec.post enc Try.prog Try.f5 false true false false) := by
  refine returnsInHanded_of_change (C := Try.checked) own_fnExactDimensionOfF started (by kernel_rfl) Try.func5
    (ChangeSpec.witness6 (enc := enc) (C := Try.checked) false ⟨#[], #[.agg #[.slice none 0 0, .slice none 0 0], .int .i64 0, .int .i64 0], []⟩ 8 (by kernel_rfl) (by kernel_rfl) (by kernel_rfl) (by kernel_rfl)) ?_
  intro W base args ds gs before hval0 hW hcnd _
  have hval : ∀ (j : Nat) t v, Try.f5.params[j]? = some t → args[j]? = some v → Value.okWide Try.prog W .any base t v := hval0
  have hW' := hW
  obtain ⟨p, q, hA0, hV, rfl, hfz, hnd⟩ := hW
  have hA : DataW.TrodAll enc Try.prog W 0 (fun _ => true) true Try.f5.params.toList args.toList ds p := hA0
  rw [Try.params5] at hA hval
  obtain ⟨v0, vs0, d0, ds0, p0, q0, hargs, rfl, rfl, h0, r0⟩ := trodAll_cons hA
  obtain ⟨v1, vs1, d1, ds1, p1, q1, rfl, rfl, rfl, h1, r1⟩ := trodAll_cons r0
  obtain ⟨v2, vs2, d2, ds2, p2, q2, rfl, rfl, rfl, h2, r2⟩ := trodAll_cons r1
  obtain ⟨rfl, rfl, rfl⟩ := trodAll_nil r2
  obtain rfl : args = #[v0, v1, v2] := by cases args; simp_all
  obtain ⟨rfl, rfl⟩ := trodVars_none hV
  have k0 := h0
  have lt0 := lt_of_trod k0
  obtain ⟨a0, c0, g0⟩ := (op25 (H := H) (enc := enc) (W := W)).arg h0
  obtain ⟨cs0, rfl⟩ := okWide_agg (hval 0 25 v0 rfl rfl) ⟨_, Try.underlying25, rfl⟩
  obtain ⟨u0_0, u0_1, rfl⟩ := agg_parts2 (c := cs0) ((TAlg).len c0)
  have k1 := h1
  have lt1 := lt_of_trod k1
  obtain ⟨a1, rfl, rfl, rfl, g1⟩ := open_int Try.underlying2 (hval 1 2 v1 rfl rfl) h1
  have k2 := h2
  have lt2 := lt_of_trod k2
  obtain ⟨a2, rfl, rfl, rfl, g2⟩ := open_int Try.underlying2 (hval 2 2 v2 rfl rfl) h2
  clear hA0 hval0
  refine (c_laws_FnExactDimensionOfF a0 a1 a2 (K := fun r => r = true) (p_DimensionOfF a0 a1 a2 g0 g1 g2 (alg_lens c0)) W c0).mono fun e W' hq => ?_
  obtain ⟨r0, rfl, rfl, bel⟩ := hq
  exact ⟨_, rfl, _, _, _, [], _, [], hW', trodAll_mk1 (shut_bool Try.underlying4 _), (trodAll_cons_mk (Below.trod laid_fnExactDimensionOfF (by kernel_rfl) (of_decide_eq_true (by kernel_rfl)) k0 bel.toBelow lt0) (trodAll_cons_mk (Below.trod laid_fnExactDimensionOfF (by kernel_rfl) (of_decide_eq_true (by kernel_rfl)) k1 bel.toBelow lt1) (trodAll_cons_mk (Below.trod laid_fnExactDimensionOfF (by kernel_rfl) (of_decide_eq_true (by kernel_rfl)) k2 bel.toBelow lt2) trodAll_mk0))), rfl, bel.toBelow.frame _, fun h => by cases h⟩
theorem over_fnExactDimensionOfF : Rows.fnExactDimensionOfFRow.holds Try.pinned (OpenSpec.ofChange Rows.fnExactDimensionOfFSpec) :=
  OpenClaim.holds_of_wide 5 Try.f5 rfl rfl rfl rfl rfl rfl rfl ⟨rfl, rfl, rfl, rfl, rfl⟩ rfl rfl rfl rfl rfl (by kernel_rfl) Try.func5 (by kernel_rfl)
    (of_decide_eq_true (by kernel_rfl)) (by unfold Func.isWrapper; first | (rw [if_pos (by decide +kernel)]; kernel_rfl) | (rw [if_neg (by decide +kernel)]; exact ⟨rfl, rfl⟩))
    (fun os started H enc _ => lifted_fnExactDimensionOfF os started H enc)
/-- The statement. -/
theorem proved_FnExactDimensionOfF : Rows.FnExactDimensionOfFSaid := over_fnExactDimensionOfF
#print axioms proved_FnExactDimensionOfF
end Go.Proofs.Ytaagfepgbofmlaa
