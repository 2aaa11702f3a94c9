/-
  The program's FnExactMultiplyForms answers as the reference's for all arguments: the statement 'Rows.FnExactMultiplyFormsSaid' as it is given. Conditions: none beyond the statement's own.
-/
import Derived.Test.YtjngkbalaipdbaaRows
import Derived.WalkKit
import Derived.ProofKit
import Derived.OpenShut
import Derived.Test.YtjngkbalaipdbaaVl12
namespace Go.Proofs.Ytjngkbalaipdbaa
open Go Go.RowKit Go.ChangeShapes Go.WideShapes Go.ChangeAt Vc
set_option linter.unusedVariables false
theorem own_fnExactMultiplyForms : ownKnob Try.prog.godebug = none := by kernel_rfl
theorem laid_fnExactMultiplyForms : laidOutB Try.prog = true := by kernel_rfl
theorem op2 {H : Type} {enc : TypeId × Value → H} {W : World} : Opens enc Try.prog W 2 ((EI .i64).ty) (Fit .i64) := opens_int Try.underlying2
theorem op22 {H : Type} {enc : TypeId × Value → H} {W : World} : Opens enc Try.prog W 22 ((EI .i64).ty.sl) (fun xs_ => ∀ x_, x_ ∈ xs_ → (Fit .i64) x_) := opens_slice Try.underlying22 (by kernel_rfl) (by decide) op2
theorem op23 {H : Type} {enc : TypeId × Value → H} {W : World} : Opens enc Try.prog W 23 ((EA .u8).ty) (FitA .u8) := opens_arr Try.underlying23 Try.underlying5 (by kernel_rfl) (by kernel_rfl)
theorem op140 {H : Type} {enc : TypeId × Value → H} {W : World} : Opens enc Try.prog W 140 ETerm.ty (fun a_ : Term => (FitA .u8) a_.mono ∧ (Fit .i64) a_.factor) := opens_Term Try.underlying140 rfl (by kernel_rfl) (by kernel_rfl) op23 op2
theorem op58 {H : Type} {enc : TypeId × Value → H} {W : World} : Opens enc Try.prog W 58 ETerm.ty.sl (fun xs_ => ∀ x_, x_ ∈ xs_ → ((fun a_ : Term => (FitA .u8) a_.mono ∧ (Fit .i64) a_.factor)) x_) := opens_slice Try.underlying58 (by kernel_rfl) (by decide) op140
theorem op60 {H : Type} {enc : TypeId × Value → H} {W : World} : Opens enc Try.prog W 60 TForm (fun a_ : Vc.Form => ((fun xs_ => ∀ x_, x_ ∈ xs_ → ((fun a_ : Term => (FitA .u8) a_.mono ∧ (Fit .i64) a_.factor)) x_)) a_.terms) := opens_s1 Vc.Form.terms Vc.Form.mk (fun _ => rfl) Try.underlying60 rfl (by kernel_rfl) op58
set_option maxRecDepth 100000 in
theorem lifted_fnExactMultiplyForms (os : Os) (started : os.Started) (H : Type) (enc : TypeId × Value → H) :
    ReturnsInHanded {} Try.checked os 12 .any (Rows.fnExactMultiplyFormsSpec.pre6 enc Try.prog Try.f12 Rows.fnExactMultiplyFormsRow.domain false) (Rows.fnExactMultiplyFormsSpec.post enc Try.prog Try.f12 false true false false) := by
  refine returnsInHanded_of_change (C := Try.checked) own_fnExactMultiplyForms started (by kernel_rfl) Try.func12
    (ChangeSpec.witness6 (enc := enc) (C := Try.checked) false ⟨#[], #[.slice none 0 0, .agg #[.slice none 0 0], .agg #[.slice none 0 0]], []⟩ 8 (by kernel_rfl) (by kernel_rfl) (by kernel_rfl) (by kernel_rfl)) ?_
  intro W base args ds gs before hval0 hW hcnd _
  have hval : ∀ (j : Nat) t v, Try.f12.params[j]? = some t → args[j]? = some v → Value.okWide Try.prog W .any base t v := hval0
  have hW' := hW
  obtain ⟨p, q, hA0, hV, rfl, hfz, hnd⟩ := hW
  have hA : DataW.TrodAll enc Try.prog W 0 (fun _ => true) true Try.f12.params.toList args.toList ds p := hA0
  rw [Try.params12] at hA hval
  obtain ⟨v0, vs0, d0, ds0, p0, q0, hargs, rfl, rfl, h0, r0⟩ := trodAll_cons hA
  obtain ⟨v1, vs1, d1, ds1, p1, q1, rfl, rfl, rfl, h1, r1⟩ := trodAll_cons r0
  obtain ⟨v2, vs2, d2, ds2, p2, q2, rfl, rfl, rfl, h2, r2⟩ := trodAll_cons r1
  obtain ⟨rfl, rfl, rfl⟩ := trodAll_nil r2
  obtain rfl : args = #[v0, v1, v2] := by cases args; simp_all
  obtain ⟨rfl, rfl⟩ := trodVars_none hV
  have k0 := h0
  have lt0 := lt_of_trod k0
  obtain ⟨a0, c0, g0⟩ := (op22 (H := H) (enc := enc) (W := W)).arg h0
  obtain ⟨x0, n0, m0, rfl⟩ := okWide_slice Try.underlying22 (hval 0 22 v0 rfl rfl)
  have k1 := h1
  have lt1 := lt_of_trod k1
  obtain ⟨a1, c1, g1⟩ := (op60 (H := H) (enc := enc) (W := W)).arg h1
  obtain ⟨cs1, rfl⟩ := okWide_agg (hval 1 60 v1 rfl rfl) ⟨_, Try.underlying60, rfl⟩
  obtain ⟨u1_0, rfl⟩ := agg_parts1 (c := cs1) ((TForm).len c1)
  have k2 := h2
  have lt2 := lt_of_trod k2
  obtain ⟨a2, c2, g2⟩ := (op60 (H := H) (enc := enc) (W := W)).arg h2
  obtain ⟨cs2, rfl⟩ := okWide_agg (hval 2 60 v2 rfl rfl) ⟨_, Try.underlying60, rfl⟩
  obtain ⟨u2_0, rfl⟩ := agg_parts1 (c := cs2) ((TForm).len c2)
  clear hA0 hval0
  refine (c_laws_FnExactMultiplyForms a0 a1 a2 (K := fun r => r = true) (pure_MultiplyForms a0 a1 a2 g0 g1 g2 (Nat.lt_succ_of_le (sl_max (form_parts c1))) (Nat.lt_succ_of_le (sl_max (form_parts c2)))) W c0 c1 c2).mono fun e W' hq => ?_
  obtain ⟨r0, rfl, rfl, bel⟩ := hq
  exact ⟨_, rfl, _, _, _, [], _, [], hW', trodAll_mk1 (shut_bool Try.underlying4 _), (trodAll_cons_mk (Below.trod laid_fnExactMultiplyForms (by kernel_rfl) (of_decide_eq_true (by kernel_rfl)) k0 bel.toBelow lt0) (trodAll_cons_mk (Below.trod laid_fnExactMultiplyForms (by kernel_rfl) (of_decide_eq_true (by kernel_rfl)) k1 bel.toBelow lt1) (trodAll_cons_mk (Below.trod laid_fnExactMultiplyForms (by kernel_rfl) (of_decide_eq_true (by kernel_rfl)) k2 bel.toBelow lt2) trodAll_mk0))), rfl, bel.toBelow.frame _, fun h => by cases h⟩
theorem over_fnExactMultiplyForms : Rows.fnExactMultiplyFormsRow.holds Try.pinned (OpenSpec.ofChange Rows.fnExactMultiplyFormsSpec) :=
  OpenClaim.holds_of_wide 12 Try.f12 rfl rfl rfl rfl rfl rfl rfl ⟨rfl, rfl, rfl, rfl, rfl⟩ rfl rfl rfl rfl rfl (by kernel_rfl) Try.func12 (by kernel_rfl)
    (of_decide_eq_true (by kernel_rfl)) (by unfold Func.isWrapper; first | (rw [if_pos (by decide +kernel)]; kernel_rfl) | (rw [if_neg (by decide +kernel)]; exact ⟨rfl, rfl⟩))
    (fun os started H enc _ => lifted_fnExactMultiplyForms os started H enc)
/-- The statement. -/
theorem proved_FnExactMultiplyForms : Rows.FnExactMultiplyFormsSaid := over_fnExactMultiplyForms
#print axioms proved_FnExactMultiplyForms
end Go.Proofs.Ytjngkbalaipdbaa
