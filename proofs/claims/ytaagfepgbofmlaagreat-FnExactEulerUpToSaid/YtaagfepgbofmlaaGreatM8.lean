/-
  The program's FnExactEulerUpTo answers as the reference's for all arguments: the statement 'Rows.FnExactEulerUpToSaid' as it is given. Conditions: none beyond the statement's own.
-/
import Derived.Test.YtaagfepgbofmlaaGreatQ6
import Derived.Test.YtaagfepgbofmlaaGreatRows
import Derived.WalkKit
import Derived.ProofKit
import Derived.OpenShut
namespace Go.Proofs.YtaagfepgbofmlaaGreat
open Go Go.RowKit Go.ChangeShapes Go.WideShapes Go.ChangeAt Vc
set_option linter.unusedVariables false
theorem own_fnExactEulerUpTo : ownKnob Tryz.prog.godebug = none := by kernel_rfl
theorem laid_fnExactEulerUpTo : laidOutB Tryz.prog = true := by kernel_rfl
theorem op2 {H : Type} {enc : TypeId × Value → H} {W : World} : Opens enc Tryz.prog W 2 ((EI .i64).ty) (Fit .i64) := Zu2 Tryz.underlying2
theorem op22 {H : Type} {enc : TypeId × Value → H} {W : World} : Opens enc Tryz.prog W 22 ((EI .i64).ty.sl) (fun xs_ => ∀ x_, x_ ∈ xs_ → (Fit .i64) x_) := Zlk Tryz.underlying22 (by kernel_rfl) (by decide) op2
theorem op135 {H : Type} {enc : TypeId × Value → H} {W : World} : Opens enc Tryz.prog W 135 ((EA .u8).ty) (Zal .u8) := Zu3 Tryz.underlying135 Tryz.underlying5 (by kernel_rfl) (by kernel_rfl)
theorem op170 {H : Type} {enc : TypeId × Value → H} {W : World} : Opens enc Tryz.prog W 170 ETerm.ty (fun a_ : Term => (Zal .u8) a_.mono ∧ (Fit .i64) a_.factor) := Zu8 Tryz.underlying170 rfl (by kernel_rfl) (by kernel_rfl) op135 op2
theorem op48 {H : Type} {enc : TypeId × Value → H} {W : World} : Opens enc Tryz.prog W 48 ETerm.ty.sl (fun xs_ => ∀ x_, x_ ∈ xs_ → ((fun a_ : Term => (Zal .u8) a_.mono ∧ (Fit .i64) a_.factor)) x_) := Zlk Tryz.underlying48 (by kernel_rfl) (by decide) op170
theorem op50 {H : Type} {enc : TypeId × Value → H} {W : World} : Opens enc Tryz.prog W 50 TForm (fun a_ : Vc.Form => ((fun xs_ => ∀ x_, x_ ∈ xs_ → ((fun a_ : Term => (Zal .u8) a_.mono ∧ (Fit .i64) a_.factor)) x_)) a_.terms) := Zu7 Vc.Form.terms Vc.Form.mk (fun _ => rfl) Tryz.underlying50 rfl (by kernel_rfl) op48
theorem op23 {H : Type} {enc : TypeId × Value → H} {W : World} : Opens enc Tryz.prog W 23 TForm.sl (fun xs_ => ∀ x_, x_ ∈ xs_ → ((fun a_ : Vc.Form => ((fun xs_ => ∀ x_, x_ ∈ xs_ → ((fun a_ : Term => (Zal .u8) a_.mono ∧ (Fit .i64) a_.factor)) x_)) a_.terms)) x_) := Zlk Tryz.underlying23 (by kernel_rfl) (by decide) op50
theorem op25 {H : Type} {enc : TypeId × Value → H} {W : World} : Opens enc Tryz.prog W 25 TAlg (fun a_ : Alg => ((fun xs_ => ∀ x_, x_ ∈ xs_ → (Fit .i64) x_)) a_.degrees ∧ ((fun xs_ => ∀ x_, x_ ∈ xs_ → ((fun a_ : Vc.Form => ((fun xs_ => ∀ x_, x_ ∈ xs_ → ((fun a_ : Term => (Zal .u8) a_.mono ∧ (Fit .i64) a_.factor)) x_)) a_.terms)) x_)) a_.images) := Zo7 (fun a_ : Alg => (a_.degrees, a_.images)) (fun p_ => ⟨p_.1, p_.2⟩) (fun _ => rfl) Tryz.underlying25 rfl (by kernel_rfl) (by kernel_rfl) op22 op23
set_option maxRecDepth 100000 in
theorem lifted_fnExactEulerUpTo (os : Os) (started : os.Started) (H : Type) (enc : TypeId × Value → H) :
    ReturnsInHanded {} Tryz.checked os 8 .any (Rows.fnExactEulerUpToSpec.pre6 enc Tryz.prog Tryz.f8 Rows.fnExactEulerUpToRow.domain false) (Rows.fnExactEulerUpToSpec.post enc Tryz.prog Tryz.f8 false true false false) := by
  refine returnsInHanded_of_change (C := Tryz.checked) own_fnExactEulerUpTo started (by kernel_rfl) Tryz.func8
    (ChangeSpec.witness6 (enc := enc) (C := Tryz.checked) false ⟨#[], #[.agg #[.slice none 0 0, .slice none 0 0], .int .i64 0], []⟩ 8 (by kernel_rfl) (by kernel_rfl) (by kernel_rfl) (by kernel_rfl)) ?_
  intro W base args ds gs before hval0 hW hcnd _
  have hval : ∀ (j : Nat) t v, Tryz.f8.params[j]? = some t → args[j]? = some v → Value.okWide Tryz.prog W .any base t v := hval0
  have hW' := hW
  obtain ⟨p, q, hA0, hV, rfl, hfz, hnd⟩ := hW
  have hA : DataW.TrodAll enc Tryz.prog W 0 (fun _ => true) true Tryz.f8.params.toList args.toList ds p := hA0
  rw [Tryz.params8] at hA hval
  obtain ⟨v0, vs0, d0, ds0, p0, q0, hargs, rfl, rfl, h0, r0⟩ := trodAll_cons hA
  obtain ⟨v1, vs1, d1, ds1, p1, q1, rfl, rfl, rfl, h1, r1⟩ := trodAll_cons r0
  obtain ⟨rfl, rfl, rfl⟩ := trodAll_nil r1
  obtain rfl : args = #[v0, v1] := by cases args; simp_all
  obtain ⟨rfl, rfl⟩ := trodVars_none hV
  have k0 := h0
  have lt0 := Zo6 k0
  obtain ⟨a0, c0, g0⟩ := (op25 (H := H) (enc := enc) (W := W)).arg h0
  obtain ⟨cs0, rfl⟩ := Zu5 (hval 0 25 v0 rfl rfl) ⟨_, Tryz.underlying25, rfl⟩
  obtain ⟨u0_0, u0_1, rfl⟩ := Zu6 (c := cs0) ((TAlg).len c0)
  have k1 := h1
  have lt1 := Zo6 k1
  obtain ⟨a1, rfl, rfl, rfl, g1⟩ := open_int Tryz.underlying2 (hval 1 2 v1 rfl rfl) h1
  clear hA0 hval0
  refine (ZBs a0 a1 (K := fun r => r = true) (ZEp a0 a1 g0 g1 (Zy0 c0)) W c0).mono fun e W' hq => ?_
  obtain ⟨r0, rfl, rfl, bel⟩ := hq
  exact ⟨_, rfl, _, _, _, [], _, [], hW', trodAll_mk1 (shut_bool Tryz.underlying4 _), (trodAll_cons_mk (Below.trod laid_fnExactEulerUpTo (by kernel_rfl) (of_decide_eq_true (by kernel_rfl)) k0 bel.toBelow lt0) (trodAll_cons_mk (Below.trod laid_fnExactEulerUpTo (by kernel_rfl) (of_decide_eq_true (by kernel_rfl)) k1 bel.toBelow lt1) trodAll_mk0)), rfl, bel.toBelow.frame _, fun h => by cases h⟩
theorem over_fnExactEulerUpTo : Rows.fnExactEulerUpToRow.holds Tryz.pinned (OpenSpec.ofChange Rows.fnExactEulerUpToSpec) :=
  OpenClaim.holds_of_wide 8 Tryz.f8 rfl rfl rfl rfl rfl rfl rfl ⟨rfl, rfl, rfl, rfl, rfl⟩ rfl rfl rfl rfl rfl (by kernel_rfl) Tryz.func8 (by kernel_rfl)
    (of_decide_eq_true (by kernel_rfl)) (by unfold Func.isWrapper; first | (rw [if_pos (by decide +kernel)]; kernel_rfl) | (rw [if_neg (by decide +kernel)]; exact ⟨rfl, rfl⟩))
    (fun os started H enc _ => lifted_fnExactEulerUpTo os started H enc)
/-- The statement. -/
theorem proved_FnExactEulerUpTo : Rows.FnExactEulerUpToSaid := over_fnExactEulerUpTo
#print axioms proved_FnExactEulerUpTo
end Go.Proofs.YtaagfepgbofmlaaGreat
