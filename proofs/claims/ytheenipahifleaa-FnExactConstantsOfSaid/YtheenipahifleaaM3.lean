/-
  The program's FnExactConstantsOf answers as the reference's for all arguments: the statement 'Rows.FnExactConstantsOfSaid' as it is given. Conditions: none beyond the statement's own.
-/
import Derived.Test.YtheenipahifleaaQ4
import Derived.Test.YtheenipahifleaaRows
import Derived.WalkKit
import Derived.ProofKit
import Derived.OpenShut
namespace Go.Proofs.Ytheenipahifleaa
open Go Go.RowKit Go.ChangeShapes Go.WideShapes Go.ChangeAt Vc
set_option linter.unusedVariables false
theorem own_fnExactConstantsOf : ownKnob Try.prog.godebug = none := by kernel_rfl
theorem laid_fnExactConstantsOf : laidOutB Try.prog = true := by kernel_rfl
theorem op2 {H : Type} {enc : TypeId × Value → H} {W : World} : Opens enc Try.prog W 2 ((EI .i64).ty) (Fit .i64) := Zmm Try.underlying2
theorem op22 {H : Type} {enc : TypeId × Value → H} {W : World} : Opens enc Try.prog W 22 ((EI .i64).ty.sl) (fun xs_ => ∀ x_, x_ ∈ xs_ → (Fit .i64) x_) := Zgw Try.underlying22 (by kernel_rfl) (by decide) op2
theorem op46 {H : Type} {enc : TypeId × Value → H} {W : World} : Opens enc Try.prog W 46 ((EA .u8).ty) (Ju .u8) := Zmn Try.underlying46 Try.underlying5 (by kernel_rfl) (by kernel_rfl)
theorem op117 {H : Type} {enc : TypeId × Value → H} {W : World} : Opens enc Try.prog W 117 ETerm.ty (fun a_ : Term => (Ju .u8) a_.mono ∧ (Fit .i64) a_.factor) := Zmt Try.underlying117 rfl (by kernel_rfl) (by kernel_rfl) op46 op2
theorem op64 {H : Type} {enc : TypeId × Value → H} {W : World} : Opens enc Try.prog W 64 ETerm.ty.sl (fun xs_ => ∀ x_, x_ ∈ xs_ → ((fun a_ : Term => (Ju .u8) a_.mono ∧ (Fit .i64) a_.factor)) x_) := Zgw Try.underlying64 (by kernel_rfl) (by decide) op117
theorem op66 {H : Type} {enc : TypeId × Value → H} {W : World} : Opens enc Try.prog W 66 TForm (fun a_ : Vc.Form => ((fun xs_ => ∀ x_, x_ ∈ xs_ → ((fun a_ : Term => (Ju .u8) a_.mono ∧ (Fit .i64) a_.factor)) x_)) a_.terms) := Zms Vc.Form.terms Vc.Form.mk (fun _ => rfl) Try.underlying66 rfl (by kernel_rfl) op64
theorem op23 {H : Type} {enc : TypeId × Value → H} {W : World} : Opens enc Try.prog W 23 TForm.sl (fun xs_ => ∀ x_, x_ ∈ xs_ → ((fun a_ : Vc.Form => ((fun xs_ => ∀ x_, x_ ∈ xs_ → ((fun a_ : Term => (Ju .u8) a_.mono ∧ (Fit .i64) a_.factor)) x_)) a_.terms)) x_) := Zgw Try.underlying23 (by kernel_rfl) (by decide) op66
theorem op25 {H : Type} {enc : TypeId × Value → H} {W : World} : Opens enc Try.prog W 25 TAlg (fun a_ : Alg => ((fun xs_ => ∀ x_, x_ ∈ xs_ → (Fit .i64) x_)) a_.degrees ∧ ((fun xs_ => ∀ x_, x_ ∈ xs_ → ((fun a_ : Vc.Form => ((fun xs_ => ∀ x_, x_ ∈ xs_ → ((fun a_ : Term => (Ju .u8) a_.mono ∧ (Fit .i64) a_.factor)) x_)) a_.terms)) x_)) a_.images) := Zi0 (fun a_ : Alg => (a_.degrees, a_.images)) (fun p_ => ⟨p_.1, p_.2⟩) (fun _ => rfl) Try.underlying25 rfl (by kernel_rfl) (by kernel_rfl) op22 op23
set_option maxRecDepth 100000 in
theorem lifted_fnExactConstantsOf (os : Os) (started : os.Started) (H : Type) (enc : TypeId × Value → H) :
    ReturnsInHanded {} Try.checked os 3 .any (Rows.fnExactConstantsOfSpec.pre6 enc Try.prog Try.f3 Rows.fnExactConstantsOfRow.domain false) (Rows.fnExactConstantsOfSpec.post enc Try.prog Try.f3 false true false false) := by
  refine returnsInHanded_of_change (C := Try.checked) own_fnExactConstantsOf started (by kernel_rfl) Try.func3
    (ChangeSpec.witness6 (enc := enc) (C := Try.checked) false ⟨#[], #[.agg #[.slice none 0 0, .slice none 0 0]], []⟩ 8 (by kernel_rfl) (by kernel_rfl) (by kernel_rfl) (by kernel_rfl)) ?_
  intro W base args ds gs before hval0 hW hcnd _
  have hval : ∀ (j : Nat) t v, Try.f3.params[j]? = some t → args[j]? = some v → Value.okWide Try.prog W .any base t v := hval0
  have hW' := hW
  obtain ⟨p, q, hA0, hV, rfl, hfz, hnd⟩ := hW
  have hA : DataW.TrodAll enc Try.prog W 0 (fun _ => true) true Try.f3.params.toList args.toList ds p := hA0
  rw [Try.params3] at hA hval
  obtain ⟨v0, vs0, d0, ds0, p0, q0, hargs, rfl, rfl, h0, r0⟩ := trodAll_cons hA
  obtain ⟨rfl, rfl, rfl⟩ := trodAll_nil r0
  obtain rfl : args = #[v0] := by cases args; simp_all
  obtain ⟨rfl, rfl⟩ := trodVars_none hV
  have k0 := h0
  have lt0 := Zmp k0
  obtain ⟨a0, c0, g0⟩ := (op25 (H := H) (enc := enc) (W := W)).arg h0
  obtain ⟨cs0, rfl⟩ := Zmq (hval 0 25 v0 rfl rfl) ⟨_, Try.underlying25, rfl⟩
  obtain ⟨u0_0, u0_1, rfl⟩ := Zmr (c := cs0) ((TAlg).len c0)
  clear hA0 hval0
  refine (Zri a0 (K := fun r => r = true) (Zsf a0 g0 (Zqv c0)) W c0).mono fun e W' hq => ?_
  obtain ⟨r0, rfl, rfl, bel⟩ := hq
  exact ⟨_, rfl, _, _, _, [], _, [], hW', trodAll_mk1 (shut_bool Try.underlying4 _), (trodAll_cons_mk (Below.trod laid_fnExactConstantsOf (by kernel_rfl) (of_decide_eq_true (by kernel_rfl)) k0 bel.toBelow lt0) trodAll_mk0), rfl, bel.toBelow.frame _, fun h => by cases h⟩
theorem over_fnExactConstantsOf : Rows.fnExactConstantsOfRow.holds Try.pinned (OpenSpec.ofChange Rows.fnExactConstantsOfSpec) :=
  OpenClaim.holds_of_wide 3 Try.f3 rfl rfl rfl rfl rfl rfl rfl ⟨rfl, rfl, rfl, rfl, rfl⟩ rfl rfl rfl rfl rfl (by kernel_rfl) Try.func3 (by kernel_rfl)
    (of_decide_eq_true (by kernel_rfl)) (by unfold Func.isWrapper; first | (rw [if_pos (by decide +kernel)]; kernel_rfl) | (rw [if_neg (by decide +kernel)]; exact ⟨rfl, rfl⟩))
    (fun os started H enc _ => lifted_fnExactConstantsOf os started H enc)
/-- The statement. -/
theorem proved_FnExactConstantsOf : Rows.FnExactConstantsOfSaid := over_fnExactConstantsOf
#print axioms proved_FnExactConstantsOf
end Go.Proofs.Ytheenipahifleaa
