/-
  The program's FnExactComposeMaps answers as the reference's for all arguments: the statement 'Rows.FnExactComposeMapsSaid' as it is given. Conditions: none beyond the statement's own.
-/
import Derived.Test.YtheenipahifleaaGreatQ5
import Derived.Test.YtheenipahifleaaGreatRows
import Derived.WalkKit
import Derived.ProofKit
import Derived.OpenShut
namespace Go.Proofs.YtheenipahifleaaGreat
open Go Go.RowKit Go.ChangeShapes Go.WideShapes Go.ChangeAt Vc
set_option linter.unusedVariables false
theorem own_fnExactComposeMaps : ownKnob Tryz.prog.godebug = none := by kernel_rfl
theorem laid_fnExactComposeMaps : laidOutB Tryz.prog = true := by kernel_rfl
theorem op2 {H : Type} {enc : TypeId × Value → H} {W : World} : Opens enc Tryz.prog W 2 ((EI .i64).ty) (Fit .i64) := Zoj Tryz.underlying2
theorem op22 {H : Type} {enc : TypeId × Value → H} {W : World} : Opens enc Tryz.prog W 22 ((EI .i64).ty.sl) (fun xs_ => ∀ x_, x_ ∈ xs_ → (Fit .i64) x_) := Zh9 Tryz.underlying22 (by kernel_rfl) (by decide) op2
theorem op87 {H : Type} {enc : TypeId × Value → H} {W : World} : Opens enc Tryz.prog W 87 ((EA .u8).ty) (Jp .u8) := Zok Tryz.underlying87 Tryz.underlying5 (by kernel_rfl) (by kernel_rfl)
theorem op122 {H : Type} {enc : TypeId × Value → H} {W : World} : Opens enc Tryz.prog W 122 ETerm.ty (fun a_ : Term => (Jp .u8) a_.mono ∧ (Fit .i64) a_.factor) := Zon Tryz.underlying122 rfl (by kernel_rfl) (by kernel_rfl) op87 op2
theorem op49 {H : Type} {enc : TypeId × Value → H} {W : World} : Opens enc Tryz.prog W 49 ETerm.ty.sl (fun xs_ => ∀ x_, x_ ∈ xs_ → ((fun a_ : Term => (Jp .u8) a_.mono ∧ (Fit .i64) a_.factor)) x_) := Zh9 Tryz.underlying49 (by kernel_rfl) (by decide) op122
theorem op51 {H : Type} {enc : TypeId × Value → H} {W : World} : Opens enc Tryz.prog W 51 TForm (fun a_ : Vc.Form => ((fun xs_ => ∀ x_, x_ ∈ xs_ → ((fun a_ : Term => (Jp .u8) a_.mono ∧ (Fit .i64) a_.factor)) x_)) a_.terms) := Zom Vc.Form.terms Vc.Form.mk (fun _ => rfl) Tryz.underlying51 rfl (by kernel_rfl) op49
theorem op23 {H : Type} {enc : TypeId × Value → H} {W : World} : Opens enc Tryz.prog W 23 TForm.sl (fun xs_ => ∀ x_, x_ ∈ xs_ → ((fun a_ : Vc.Form => ((fun xs_ => ∀ x_, x_ ∈ xs_ → ((fun a_ : Term => (Jp .u8) a_.mono ∧ (Fit .i64) a_.factor)) x_)) a_.terms)) x_) := Zh9 Tryz.underlying23 (by kernel_rfl) (by decide) op51
theorem op25 {H : Type} {enc : TypeId × Value → H} {W : World} : Opens enc Tryz.prog W 25 TAlg (fun a_ : Alg => ((fun xs_ => ∀ x_, x_ ∈ xs_ → (Fit .i64) x_)) a_.degrees ∧ ((fun xs_ => ∀ x_, x_ ∈ xs_ → ((fun a_ : Vc.Form => ((fun xs_ => ∀ x_, x_ ∈ xs_ → ((fun a_ : Term => (Jp .u8) a_.mono ∧ (Fit .i64) a_.factor)) x_)) a_.terms)) x_)) a_.images) := Zkq (fun a_ : Alg => (a_.degrees, a_.images)) (fun p_ => ⟨p_.1, p_.2⟩) (fun _ => rfl) Tryz.underlying25 rfl (by kernel_rfl) (by kernel_rfl) op22 op23
set_option maxRecDepth 100000 in
theorem lifted_fnExactComposeMaps (os : Os) (started : os.Started) (H : Type) (enc : TypeId × Value → H) :
    ReturnsInHanded {} Tryz.checked os 3 .any (Rows.fnExactComposeMapsSpec.pre6 enc Tryz.prog Tryz.f3 Rows.fnExactComposeMapsRow.domain false) (Rows.fnExactComposeMapsSpec.post enc Tryz.prog Tryz.f3 false true false false) := by
  refine returnsInHanded_of_change (C := Tryz.checked) own_fnExactComposeMaps started (by kernel_rfl) Tryz.func3
    (ChangeSpec.witness6 (enc := enc) (C := Tryz.checked) false ⟨#[], #[.agg #[.slice none 0 0, .slice none 0 0], .agg #[.slice none 0 0, .slice none 0 0], .agg #[.slice none 0 0, .slice none 0 0], .slice none 0 0, .slice none 0 0], []⟩ 8 (by kernel_rfl) (by kernel_rfl) (by kernel_rfl) (by kernel_rfl)) ?_
  intro W base args ds gs before hval0 hW hcnd _
  have hval : ∀ (j : Nat) t v, Tryz.f3.params[j]? = some t → args[j]? = some v → Value.okWide Tryz.prog W .any base t v := hval0
  have hW' := hW
  obtain ⟨p, q, hA0, hV, rfl, hfz, hnd⟩ := hW
  have hA : DataW.TrodAll enc Tryz.prog W 0 (fun _ => true) true Tryz.f3.params.toList args.toList ds p := hA0
  rw [Tryz.params3] at hA hval
  obtain ⟨v0, vs0, d0, ds0, p0, q0, hargs, rfl, rfl, h0, r0⟩ := trodAll_cons hA
  obtain ⟨v1, vs1, d1, ds1, p1, q1, rfl, rfl, rfl, h1, r1⟩ := trodAll_cons r0
  obtain ⟨v2, vs2, d2, ds2, p2, q2, rfl, rfl, rfl, h2, r2⟩ := trodAll_cons r1
  obtain ⟨v3, vs3, d3, ds3, p3, q3, rfl, rfl, rfl, h3, r3⟩ := trodAll_cons r2
  obtain ⟨v4, vs4, d4, ds4, p4, q4, rfl, rfl, rfl, h4, r4⟩ := trodAll_cons r3
  obtain ⟨rfl, rfl, rfl⟩ := trodAll_nil r4
  obtain rfl : args = #[v0, v1, v2, v3, v4] := by cases args; simp_all
  obtain ⟨rfl, rfl⟩ := trodVars_none hV
  have k0 := h0
  have lt0 := Zej k0
  obtain ⟨a0, c0, g0⟩ := (op25 (H := H) (enc := enc) (W := W)).arg h0
  obtain ⟨cs0, rfl⟩ := Zia (hval 0 25 v0 rfl rfl) ⟨_, Tryz.underlying25, rfl⟩
  obtain ⟨u0_0, u0_1, rfl⟩ := Zib (c := cs0) ((TAlg).len c0)
  have k1 := h1
  have lt1 := Zej k1
  obtain ⟨a1, c1, g1⟩ := (op25 (H := H) (enc := enc) (W := W)).arg h1
  obtain ⟨cs1, rfl⟩ := Zia (hval 1 25 v1 rfl rfl) ⟨_, Tryz.underlying25, rfl⟩
  obtain ⟨u1_0, u1_1, rfl⟩ := Zib (c := cs1) ((TAlg).len c1)
  have k2 := h2
  have lt2 := Zej k2
  obtain ⟨a2, c2, g2⟩ := (op25 (H := H) (enc := enc) (W := W)).arg h2
  obtain ⟨cs2, rfl⟩ := Zia (hval 2 25 v2 rfl rfl) ⟨_, Tryz.underlying25, rfl⟩
  obtain ⟨u2_0, u2_1, rfl⟩ := Zib (c := cs2) ((TAlg).len c2)
  have k3 := h3
  have lt3 := Zej k3
  obtain ⟨a3, c3, g3⟩ := (op23 (H := H) (enc := enc) (W := W)).arg h3
  obtain ⟨x3, n3, m3, rfl⟩ := okWide_slice Tryz.underlying23 (hval 3 23 v3 rfl rfl)
  have k4 := h4
  have lt4 := Zej k4
  obtain ⟨a4, c4, g4⟩ := (op23 (H := H) (enc := enc) (W := W)).arg h4
  obtain ⟨x4, n4, m4, rfl⟩ := okWide_slice Tryz.underlying23 (hval 4 23 v4 rfl rfl)
  clear hA0 hval0
  refine (Zta a0 a1 a2 a3 a4 (K := fun r => r = true) (Zts a0 a1 a2 a3 a4 g0 g1 g2 g3 g4 (Zjf c0) (Zjf c1) (Zjf c2) (Zm9 c3) (Zm9 c4)) W c0 c1 c2 c3 c4).mono fun e W' hq => ?_
  obtain ⟨r0, rfl, rfl, bel⟩ := hq
  exact ⟨_, rfl, _, _, _, [], _, [], hW', trodAll_mk1 (shut_bool Tryz.underlying4 _), (trodAll_cons_mk (Below.trod laid_fnExactComposeMaps (by kernel_rfl) (of_decide_eq_true (by kernel_rfl)) k0 bel.toBelow lt0) (trodAll_cons_mk (Below.trod laid_fnExactComposeMaps (by kernel_rfl) (of_decide_eq_true (by kernel_rfl)) k1 bel.toBelow lt1) (trodAll_cons_mk (Below.trod laid_fnExactComposeMaps (by kernel_rfl) (of_decide_eq_true (by kernel_rfl)) k2 bel.toBelow lt2) (trodAll_cons_mk (Below.trod laid_fnExactComposeMaps (by kernel_rfl) (of_decide_eq_true (by kernel_rfl)) k3 bel.toBelow lt3) (trodAll_cons_mk (Below.trod laid_fnExactComposeMaps (by kernel_rfl) (of_decide_eq_true (by kernel_rfl)) k4 bel.toBelow lt4) trodAll_mk0))))), rfl, bel.toBelow.frame _, fun h => by cases h⟩
theorem over_fnExactComposeMaps : Rows.fnExactComposeMapsRow.holds Tryz.pinned (OpenSpec.ofChange Rows.fnExactComposeMapsSpec) :=
  OpenClaim.holds_of_wide 3 Tryz.f3 rfl rfl rfl rfl rfl rfl rfl ⟨rfl, rfl, rfl, rfl, rfl⟩ rfl rfl rfl rfl rfl (by kernel_rfl) Tryz.func3 (by kernel_rfl)
    (of_decide_eq_true (by kernel_rfl)) (by unfold Func.isWrapper; first | (rw [if_pos (by decide +kernel)]; kernel_rfl) | (rw [if_neg (by decide +kernel)]; exact ⟨rfl, rfl⟩))
    (fun os started H enc _ => lifted_fnExactComposeMaps os started H enc)
/-- The statement. -/
theorem proved_FnExactComposeMaps : Rows.FnExactComposeMapsSaid := over_fnExactComposeMaps
#print axioms proved_FnExactComposeMaps
end Go.Proofs.YtheenipahifleaaGreat
