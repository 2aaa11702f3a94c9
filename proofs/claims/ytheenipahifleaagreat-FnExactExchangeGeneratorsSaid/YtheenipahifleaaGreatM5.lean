/-
  The program's FnExactExchangeGenerators answers as the reference's for all arguments: the statement 'Rows.FnExactExchangeGeneratorsSaid' as it is given. Conditions: none beyond the statement's own.
-/
import Derived.Test.YtheenipahifleaaGreatQ5
import Derived.Test.YtheenipahifleaaGreatRows
import Derived.WalkKit
import Derived.ProofKit
import Derived.OpenShut
namespace Go.Proofs.YtheenipahifleaaGreat
open Go Go.RowKit Go.ChangeShapes Go.WideShapes Go.ChangeAt Vc
set_option linter.unusedVariables false
theorem own_fnExactExchangeGenerators : ownKnob Tryz.prog.godebug = none := by kernel_rfl
theorem laid_fnExactExchangeGenerators : laidOutB Tryz.prog = true := by kernel_rfl
theorem op2 {H : Type} {enc : TypeId × Value → H} {W : World} : Opens enc Tryz.prog W 2 ((EI .i64).ty) (Fit .i64) := Zod Tryz.underlying2
theorem op22 {H : Type} {enc : TypeId × Value → H} {W : World} : Opens enc Tryz.prog W 22 ((EI .i64).ty.sl) (fun xs_ => ∀ x_, x_ ∈ xs_ → (Fit .i64) x_) := Zil Tryz.underlying22 (by kernel_rfl) (by decide) op2
theorem op87 {H : Type} {enc : TypeId × Value → H} {W : World} : Opens enc Tryz.prog W 87 ((EA .u8).ty) (J1 .u8) := Zoe Tryz.underlying87 Tryz.underlying5 (by kernel_rfl) (by kernel_rfl)
theorem op122 {H : Type} {enc : TypeId × Value → H} {W : World} : Opens enc Tryz.prog W 122 ETerm.ty (fun a_ : Term => (J1 .u8) a_.mono ∧ (Fit .i64) a_.factor) := Zoj Tryz.underlying122 rfl (by kernel_rfl) (by kernel_rfl) op87 op2
theorem op49 {H : Type} {enc : TypeId × Value → H} {W : World} : Opens enc Tryz.prog W 49 ETerm.ty.sl (fun xs_ => ∀ x_, x_ ∈ xs_ → ((fun a_ : Term => (J1 .u8) a_.mono ∧ (Fit .i64) a_.factor)) x_) := Zil Tryz.underlying49 (by kernel_rfl) (by decide) op122
theorem op51 {H : Type} {enc : TypeId × Value → H} {W : World} : Opens enc Tryz.prog W 51 TForm (fun a_ : Vc.Form => ((fun xs_ => ∀ x_, x_ ∈ xs_ → ((fun a_ : Term => (J1 .u8) a_.mono ∧ (Fit .i64) a_.factor)) x_)) a_.terms) := Zoi Vc.Form.terms Vc.Form.mk (fun _ => rfl) Tryz.underlying51 rfl (by kernel_rfl) op49
theorem op23 {H : Type} {enc : TypeId × Value → H} {W : World} : Opens enc Tryz.prog W 23 TForm.sl (fun xs_ => ∀ x_, x_ ∈ xs_ → ((fun a_ : Vc.Form => ((fun xs_ => ∀ x_, x_ ∈ xs_ → ((fun a_ : Term => (J1 .u8) a_.mono ∧ (Fit .i64) a_.factor)) x_)) a_.terms)) x_) := Zil Tryz.underlying23 (by kernel_rfl) (by decide) op51
theorem op25 {H : Type} {enc : TypeId × Value → H} {W : World} : Opens enc Tryz.prog W 25 TAlg (fun a_ : Alg => ((fun xs_ => ∀ x_, x_ ∈ xs_ → (Fit .i64) x_)) a_.degrees ∧ ((fun xs_ => ∀ x_, x_ ∈ xs_ → ((fun a_ : Vc.Form => ((fun xs_ => ∀ x_, x_ ∈ xs_ → ((fun a_ : Term => (J1 .u8) a_.mono ∧ (Fit .i64) a_.factor)) x_)) a_.terms)) x_)) a_.images) := Zks (fun a_ : Alg => (a_.degrees, a_.images)) (fun p_ => ⟨p_.1, p_.2⟩) (fun _ => rfl) Tryz.underlying25 rfl (by kernel_rfl) (by kernel_rfl) op22 op23
set_option maxRecDepth 100000 in
theorem lifted_fnExactExchangeGenerators (os : Os) (started : os.Started) (H : Type) (enc : TypeId × Value → H) :
    ReturnsInHanded {} Tryz.checked os 5 .any (Rows.fnExactExchangeGeneratorsSpec.pre6 enc Tryz.prog Tryz.f5 Rows.fnExactExchangeGeneratorsRow.domain false) (Rows.fnExactExchangeGeneratorsSpec.post enc Tryz.prog Tryz.f5 false true false false) := by
  refine returnsInHanded_of_change (C := Tryz.checked) own_fnExactExchangeGenerators started (by kernel_rfl) Tryz.func5
    (ChangeSpec.witness6 (enc := enc) (C := Tryz.checked) false ⟨#[], #[.agg #[.slice none 0 0, .slice none 0 0], .slice none 0 0], []⟩ 8 (by kernel_rfl) (by kernel_rfl) (by kernel_rfl) (by kernel_rfl)) ?_
  intro W base args ds gs before hval0 hW hcnd _
  have hval : ∀ (j : Nat) t v, Tryz.f5.params[j]? = some t → args[j]? = some v → Value.okWide Tryz.prog W .any base t v := hval0
  have hW' := hW
  obtain ⟨p, q, hA0, hV, rfl, hfz, hnd⟩ := hW
  have hA : DataW.TrodAll enc Tryz.prog W 0 (fun _ => true) true Tryz.f5.params.toList args.toList ds p := hA0
  rw [Tryz.params5] at hA hval
  obtain ⟨v0, vs0, d0, ds0, p0, q0, hargs, rfl, rfl, h0, r0⟩ := trodAll_cons hA
  obtain ⟨v1, vs1, d1, ds1, p1, q1, rfl, rfl, rfl, h1, r1⟩ := trodAll_cons r0
  obtain ⟨rfl, rfl, rfl⟩ := trodAll_nil r1
  obtain rfl : args = #[v0, v1] := by cases args; simp_all
  obtain ⟨rfl, rfl⟩ := trodVars_none hV
  have k0 := h0
  have lt0 := Zkr k0
  obtain ⟨a0, c0, g0⟩ := (op25 (H := H) (enc := enc) (W := W)).arg h0
  obtain ⟨cs0, rfl⟩ := Zog (hval 0 25 v0 rfl rfl) ⟨_, Tryz.underlying25, rfl⟩
  obtain ⟨u0_0, u0_1, rfl⟩ := Zoh (c := cs0) ((TAlg).len c0)
  have k1 := h1
  have lt1 := Zkr k1
  obtain ⟨a1, c1, g1⟩ := (op22 (H := H) (enc := enc) (W := W)).arg h1
  obtain ⟨x1, n1, m1, rfl⟩ := okWide_slice Tryz.underlying22 (hval 1 22 v1 rfl rfl)
  clear hA0 hval0
  refine (Ztr a0 a1 (K := fun r => r = true) (Zuo a0 a1 g0 g1 (Zt1 c0)) W c0 c1).mono fun e W' hq => ?_
  obtain ⟨r0, rfl, rfl, bel⟩ := hq
  exact ⟨_, rfl, _, _, _, [], _, [], hW', trodAll_mk1 (shut_bool Tryz.underlying4 _), (trodAll_cons_mk (Below.trod laid_fnExactExchangeGenerators (by kernel_rfl) (of_decide_eq_true (by kernel_rfl)) k0 bel.toBelow lt0) (trodAll_cons_mk (Below.trod laid_fnExactExchangeGenerators (by kernel_rfl) (of_decide_eq_true (by kernel_rfl)) k1 bel.toBelow lt1) trodAll_mk0)), rfl, bel.toBelow.frame _, fun h => by cases h⟩
theorem over_fnExactExchangeGenerators : Rows.fnExactExchangeGeneratorsRow.holds Tryz.pinned (OpenSpec.ofChange Rows.fnExactExchangeGeneratorsSpec) :=
  OpenClaim.holds_of_wide 5 Tryz.f5 rfl rfl rfl rfl rfl rfl rfl ⟨rfl, rfl, rfl, rfl, rfl⟩ rfl rfl rfl rfl rfl (by kernel_rfl) Tryz.func5 (by kernel_rfl)
    (of_decide_eq_true (by kernel_rfl)) (by unfold Func.isWrapper; first | (rw [if_pos (by decide +kernel)]; kernel_rfl) | (rw [if_neg (by decide +kernel)]; exact ⟨rfl, rfl⟩))
    (fun os started H enc _ => lifted_fnExactExchangeGenerators os started H enc)
/-- The statement. -/
theorem proved_FnExactExchangeGenerators : Rows.FnExactExchangeGeneratorsSaid := over_fnExactExchangeGenerators
#print axioms proved_FnExactExchangeGenerators
end Go.Proofs.YtheenipahifleaaGreat
