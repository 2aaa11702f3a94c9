/-
  The program's FnExactMatrixOfDrop answers as the reference's for all arguments: the statement 'Rows.FnExactMatrixOfDropSaid' as it is given. Conditions: none beyond the statement's own.
-/
import Derived.Test.YtaagfepgbofmlaaQ7
import Derived.Test.YtaagfepgbofmlaaRows
import Derived.WalkKit
import Derived.ProofKit
import Derived.OpenShut
namespace Go.Proofs.Ytaagfepgbofmlaa
open Go Go.RowKit Go.ChangeShapes Go.WideShapes Go.ChangeAt Vc
set_option linter.unusedVariables false
theorem own_fnExactMatrixOfDrop : ownKnob Try.prog.godebug = none := by kernel_rfl
theorem laid_fnExactMatrixOfDrop : laidOutB Try.prog = true := by kernel_rfl
theorem op2 {H : Type} {enc : TypeId × Value → H} {W : World} : Opens enc Try.prog W 2 ((EI .i64).ty) (Fit .i64) := Zot Try.underlying2
theorem op22 {H : Type} {enc : TypeId × Value → H} {W : World} : Opens enc Try.prog W 22 ((EI .i64).ty.sl) (fun xs_ => ∀ x_, x_ ∈ xs_ → (Fit .i64) x_) := Zis Try.underlying22 (by kernel_rfl) (by decide) op2
theorem op48 {H : Type} {enc : TypeId × Value → H} {W : World} : Opens enc Try.prog W 48 ((EA .u8).ty) (Zao .u8) := Zou Try.underlying48 Try.underlying5 (by kernel_rfl) (by kernel_rfl)
theorem op204 {H : Type} {enc : TypeId × Value → H} {W : World} : Opens enc Try.prog W 204 ETerm.ty (fun a_ : Term => (Zao .u8) a_.mono ∧ (Fit .i64) a_.factor) := Zoz Try.underlying204 rfl (by kernel_rfl) (by kernel_rfl) op48 op2
theorem op126 {H : Type} {enc : TypeId × Value → H} {W : World} : Opens enc Try.prog W 126 ETerm.ty.sl (fun xs_ => ∀ x_, x_ ∈ xs_ → ((fun a_ : Term => (Zao .u8) a_.mono ∧ (Fit .i64) a_.factor)) x_) := Zis Try.underlying126 (by kernel_rfl) (by decide) op204
theorem op128 {H : Type} {enc : TypeId × Value → H} {W : World} : Opens enc Try.prog W 128 TForm (fun a_ : Vc.Form => ((fun xs_ => ∀ x_, x_ ∈ xs_ → ((fun a_ : Term => (Zao .u8) a_.mono ∧ (Fit .i64) a_.factor)) x_)) a_.terms) := Zoy Vc.Form.terms Vc.Form.mk (fun _ => rfl) Try.underlying128 rfl (by kernel_rfl) op126
theorem op23 {H : Type} {enc : TypeId × Value → H} {W : World} : Opens enc Try.prog W 23 TForm.sl (fun xs_ => ∀ x_, x_ ∈ xs_ → ((fun a_ : Vc.Form => ((fun xs_ => ∀ x_, x_ ∈ xs_ → ((fun a_ : Term => (Zao .u8) a_.mono ∧ (Fit .i64) a_.factor)) x_)) a_.terms)) x_) := Zis Try.underlying23 (by kernel_rfl) (by decide) op128
theorem op25 {H : Type} {enc : TypeId × Value → H} {W : World} : Opens enc Try.prog W 25 TAlg (fun a_ : Alg => ((fun xs_ => ∀ x_, x_ ∈ xs_ → (Fit .i64) x_)) a_.degrees ∧ ((fun xs_ => ∀ x_, x_ ∈ xs_ → ((fun a_ : Vc.Form => ((fun xs_ => ∀ x_, x_ ∈ xs_ → ((fun a_ : Term => (Zao .u8) a_.mono ∧ (Fit .i64) a_.factor)) x_)) a_.terms)) x_)) a_.images) := Zlb (fun a_ : Alg => (a_.degrees, a_.images)) (fun p_ => ⟨p_.1, p_.2⟩) (fun _ => rfl) Try.underlying25 rfl (by kernel_rfl) (by kernel_rfl) op22 op23
set_option maxRecDepth 100000 in
theorem lifted_fnExactMatrixOfDrop (os : Os) (started : os.Started) (H : Type) (enc : TypeId × Value → H) :
    ReturnsInHanded {} Try.checked os 3 .any (Rows.fnExactMatrixOfDropSpec.pre6 enc Try.prog Try.f3 Rows.fnExactMatrixOfDropRow.domain false) (Rows.fnExactMatrixOfDropSpec.post enc Try.prog Try.f3 false true false false) := by
  refine returnsInHanded_of_change (C := Try.checked) own_fnExactMatrixOfDrop started (by kernel_rfl) Try.func3
    (ChangeSpec.witness6 (enc := enc) (C := Try.checked) false ⟨#[], #[.agg #[.slice none 0 0, .slice none 0 0], .int .i64 0], []⟩ 8 (by kernel_rfl) (by kernel_rfl) (by kernel_rfl) (by kernel_rfl)) ?_
  intro W base args ds gs before hval0 hW hcnd _
  have hval : ∀ (j : Nat) t v, Try.f3.params[j]? = some t → args[j]? = some v → Value.okWide Try.prog W .any base t v := hval0
  have hW' := hW
  obtain ⟨p, q, hA0, hV, rfl, hfz, hnd⟩ := hW
  have hA : DataW.TrodAll enc Try.prog W 0 (fun _ => true) true Try.f3.params.toList args.toList ds p := hA0
  rw [Try.params3] at hA hval
  obtain ⟨v0, vs0, d0, ds0, p0, q0, hargs, rfl, rfl, h0, r0⟩ := trodAll_cons hA
  obtain ⟨v1, vs1, d1, ds1, p1, q1, rfl, rfl, rfl, h1, r1⟩ := trodAll_cons r0
  obtain ⟨rfl, rfl, rfl⟩ := trodAll_nil r1
  obtain rfl : args = #[v0, v1] := by cases args; simp_all
  obtain ⟨rfl, rfl⟩ := trodVars_none hV
  have k0 := h0
  have lt0 := Zla k0
  obtain ⟨a0, c0, g0⟩ := (op25 (H := H) (enc := enc) (W := W)).arg h0
  obtain ⟨cs0, rfl⟩ := Zow (hval 0 25 v0 rfl rfl) ⟨_, Try.underlying25, rfl⟩
  obtain ⟨u0_0, u0_1, rfl⟩ := Zox (c := cs0) ((TAlg).len c0)
  have k1 := h1
  have lt1 := Zla k1
  obtain ⟨a1, rfl, rfl, rfl, g1⟩ := open_int Try.underlying2 (hval 1 2 v1 rfl rfl) h1
  clear hA0 hval0
  refine (Zt1 a0 a1 (K := fun r => r = true) (Zvo a0 a1 g0 g1 (Zt8 c0)) W c0).mono fun e W' hq => ?_
  obtain ⟨r0, rfl, rfl, bel⟩ := hq
  exact ⟨_, rfl, _, _, _, [], _, [], hW', trodAll_mk1 (shut_bool Try.underlying4 _), (trodAll_cons_mk (Below.trod laid_fnExactMatrixOfDrop (by kernel_rfl) (of_decide_eq_true (by kernel_rfl)) k0 bel.toBelow lt0) (trodAll_cons_mk (Below.trod laid_fnExactMatrixOfDrop (by kernel_rfl) (of_decide_eq_true (by kernel_rfl)) k1 bel.toBelow lt1) trodAll_mk0)), rfl, bel.toBelow.frame _, fun h => by cases h⟩
theorem over_fnExactMatrixOfDrop : Rows.fnExactMatrixOfDropRow.holds Try.pinned (OpenSpec.ofChange Rows.fnExactMatrixOfDropSpec) :=
  OpenClaim.holds_of_wide 3 Try.f3 rfl rfl rfl rfl rfl rfl rfl ⟨rfl, rfl, rfl, rfl, rfl⟩ rfl rfl rfl rfl rfl (by kernel_rfl) Try.func3 (by kernel_rfl)
    (of_decide_eq_true (by kernel_rfl)) (by unfold Func.isWrapper; first | (rw [if_pos (by decide +kernel)]; kernel_rfl) | (rw [if_neg (by decide +kernel)]; exact ⟨rfl, rfl⟩))
    (fun os started H enc _ => lifted_fnExactMatrixOfDrop os started H enc)
/-- The statement. -/
theorem proved_FnExactMatrixOfDrop : Rows.FnExactMatrixOfDropSaid := over_fnExactMatrixOfDrop
#print axioms proved_FnExactMatrixOfDrop
end Go.Proofs.Ytaagfepgbofmlaa
