/- Printed by vcgen.py: functions of the program as predicates, and that the machine's calls meet them. -/
import Derived.Test.YtjngkbalaipdbaaGA
import Derived.KernelRfl
set_option linter.unusedVariables false
set_option linter.unusedSimpArgs false
set_option maxRecDepth 4000
set_option maxHeartbeats 4000000
namespace Go.Proofs.Ytjngkbalaipdbaa
open Go Go.RowKit Vc
theorem ag23 : AggT Try.prog 23 8 := ⟨⟨_, Try.underlying23, rfl⟩, by kernel_rfl⟩
theorem ag140 : AggT Try.prog 140 9 := ⟨⟨_, Try.underlying140, rfl⟩, by kernel_rfl⟩
theorem sc58 : ScaT Try.prog 58 := ⟨⟨_, Try.underlying58, rfl⟩, by kernel_rfl⟩
def f_spec_l01Before (a0 : A8) (a1 : A8) (K : Bool → Prop) : Prop :=
  forN (fun i17 (s18 : Unit) next19 => (if a0.get i17 ≠ a1.get i17 then K (decide (a0.get i17 > a1.get i17)) else next19 ())) (fun (s18 : Unit) => K false) 8 0 ()
theorem c_spec_l01Before (a0 : A8) (a1 : A8)  {K : Bool → Prop} (h : f_spec_l01Before a0 a1 K) (w0 : World)  :
    Calls Try.prog 118 #[.agg (List.toArray (A8.enc .u8 a0)), .agg (List.toArray (A8.enc .u8 a1))] w0 fun e w' => ∃ (r0 : Bool), 
      e = .returned (.bool r0) ∧ K r0 ∧ Bel w0 w' := by
  unfold f_spec_l01Before at h
  refine calls_of (args := [.agg (List.toArray (A8.enc .u8 a0)), .agg (List.toArray (A8.enc .u8 a1))]) Try.func118 rfl 24 Try.ntmps118 (Nat.le_of_ble_eq_true rfl) ?_
  have hC := Ctx.start (X := Nox) w0 [] (by simp)
  refine wp_seq ?_
  refine cw_region ?_
  refine s_box (v := .agg (List.toArray (A8.enc .u8 a0))) hC (A8.enc .u8 a0) rfl rfl fun b1 w3 hB_ hC => ?_
  refine s_box (v := .agg (List.toArray (A8.enc .u8 a1))) hC (A8.enc .u8 a1) rfl rfl fun b4 w6 hB_ hC => ?_
  refine s_as (v := .bool false) rfl ?_
  refine done ?_
  refine then_norm ?_
  refine wp_seq ?_
  refine wp_seq ?_
  refine cw_region ?_
  refine s_as (v := .int .i64 0) rfl ?_
  refine done ?_
  refine then_norm ?_
  refine wp_block ?_
  refine loopN (S := Unit) _ _ (fun i17 s18 e_ w_ => e_ 2 = .pointer (some ⟨b1, 0, none⟩) ∧ e_ 3 = .pointer (some ⟨b4, 0, none⟩) ∧ e_ 4 = .bool false ∧ e_ 5 = .int .i64 (i17 : Int) ∧ Ctx Nox w0 w_ [blk b4 24 (A8.enc .u8 a1), blk b1 24 (A8.enc .u8 a0)] []) 8 ?_ ?_ (s0 := ()) ?_ h
  · clear hC h
    rintro i17 s18 e_ w23 next19 K20 hi22 ⟨h2_, h3_, h4_, h5_, hC⟩ h hK21
    refine wp_seq ?_
    refine wp_seq ?_
    refine cw_region ?_
    refine s_mv (v := .int .i64 (i17 : Int)) h5_ ?_
    refine s_lss rfl rfl ?_
    refine done ?_
    refine then_norm ?_
    refine cw_true rfl (decide_eq_true (by omega)) ?_
    refine wp_skip ?_
    refine then_norm ?_
    refine wp_seq ?_
    refine wp_block ?_
    refine wp_seq ?_
    refine cw_draw 6 mixed [0, 1, 3, 0, 8, 24, 63] [1, 2, 4, 5] [0, 3] (by kernel_rfl) (by kernel_rfl) (by kernel_rfl) (fun hM25 hM26 w24 hB_ => ?_)
    replace hC := hC.grow hB_
    refine ae_lookF 0 (.int .i64 (i17 : Int)) rfl rfl (by kernel_rfl) (hM26 0 rfl) (fun w_ => .inl ⟨rfl, by exact r_mv (v := .int .i64 (i17 : Int)) h5_⟩) (listed' := (List.toArray [true, false, false, false, false, false, false])) rfl ?_
    refine ae_look 1 (.pointer (some ⟨b1, i17, none⟩)) rfl rfl (by kernel_rfl) (hM25 1 rfl) (fun w_ hB_ => .inl ⟨rfl, by exact r_iaddrB i17 Try.underlying24 sc5.size h2_ rfl (Int.natCast_nonneg _) (by omega) (by omega)⟩) (listed' := (List.toArray [true, true, false, false, false, false, false])) rfl ?_
    refine ae_look 2 (.int .u8 (a0.get i17)) rfl rfl (by kernel_rfl) (hM25 2 rfl) (fun w_ hB_ => .inl ⟨rfl, by exact r_loadS (hC.grow hB_) 1 (.int .u8 (a0.get i17)) rfl sc5 rfl (A8.enc_get _ _ hi22)⟩) (listed' := (List.toArray [true, true, true, false, false, false, false])) rfl ?_
    refine ae_lookF 3 (.int .i64 (i17 : Int)) rfl rfl (by kernel_rfl) (hM26 3 rfl) (fun w_ => .inl ⟨rfl, by exact r_mv (v := .int .i64 (i17 : Int)) h5_⟩) (listed' := (List.toArray [true, true, true, true, false, false, false])) rfl ?_
    refine ae_look 4 (.pointer (some ⟨b4, i17, none⟩)) rfl rfl (by kernel_rfl) (hM25 4 rfl) (fun w_ hB_ => .inl ⟨rfl, by exact r_iaddrB i17 Try.underlying24 sc5.size h3_ rfl (Int.natCast_nonneg _) (by omega) (by omega)⟩) (listed' := (List.toArray [true, true, true, true, true, false, false])) rfl ?_
    refine ae_look 5 (.int .u8 (a1.get i17)) rfl rfl (by kernel_rfl) (hM25 5 rfl) (fun w_ hB_ => .inl ⟨rfl, by exact r_loadS (hC.grow hB_) 0 (.int .u8 (a1.get i17)) rfl sc5 rfl (A8.enc_get _ _ hi22)⟩) (listed' := (List.toArray [true, true, true, true, true, true, false])) rfl ?_
    refine ae_tail 6 (by decide) (by decide) (by kernel_rfl) rfl rfl ?_
    refine s_neq rfl rfl ?_
    refine done ?_
    refine qn_norm ?_
    refine then_norm ?_
    refine cw_cond rfl (fun hb27 => ?_) (fun hb27 => ?_)
    · replace h := ift h (ct hb27)
      refine wp_seq ?_
      refine cw_draw 6 mixed [0, 1, 3, 0, 8, 24, 63, 127] [1, 2, 4, 5] [0, 3] (by kernel_rfl) (by kernel_rfl) (by kernel_rfl) (fun hM29 hM30 w28 hB_ => ?_)
      replace hC := hC.grow hB_
      refine ae_lookF 0 (.int .i64 (i17 : Int)) rfl rfl (by kernel_rfl) (hM30 0 rfl) (fun w_ => .inl ⟨rfl, by exact r_mv (v := .int .i64 (i17 : Int)) h5_⟩) (listed' := (List.toArray [true, false, false, false, false, false, false, false])) rfl ?_
      refine ae_look 1 (.pointer (some ⟨b1, i17, none⟩)) rfl rfl (by kernel_rfl) (hM29 1 rfl) (fun w_ hB_ => .inl ⟨rfl, by exact r_iaddrB i17 Try.underlying24 sc5.size h2_ rfl (Int.natCast_nonneg _) (by omega) (by omega)⟩) (listed' := (List.toArray [true, true, false, false, false, false, false, false])) rfl ?_
      refine ae_look 2 (.int .u8 (a0.get i17)) rfl rfl (by kernel_rfl) (hM29 2 rfl) (fun w_ hB_ => .inl ⟨rfl, by exact r_loadS (hC.grow hB_) 1 (.int .u8 (a0.get i17)) rfl sc5 rfl (A8.enc_get _ _ hi22)⟩) (listed' := (List.toArray [true, true, true, false, false, false, false, false])) rfl ?_
      refine ae_lookF 3 (.int .i64 (i17 : Int)) rfl rfl (by kernel_rfl) (hM30 3 rfl) (fun w_ => .inl ⟨rfl, by exact r_mv (v := .int .i64 (i17 : Int)) h5_⟩) (listed' := (List.toArray [true, true, true, true, false, false, false, false])) rfl ?_
      refine ae_look 4 (.pointer (some ⟨b4, i17, none⟩)) rfl rfl (by kernel_rfl) (hM29 4 rfl) (fun w_ hB_ => .inl ⟨rfl, by exact r_iaddrB i17 Try.underlying24 sc5.size h3_ rfl (Int.natCast_nonneg _) (by omega) (by omega)⟩) (listed' := (List.toArray [true, true, true, true, true, false, false, false])) rfl ?_
      refine ae_look 5 (.int .u8 (a1.get i17)) rfl rfl (by kernel_rfl) (hM29 5 rfl) (fun w_ hB_ => .inl ⟨rfl, by exact r_loadS (hC.grow hB_) 0 (.int .u8 (a1.get i17)) rfl sc5 rfl (A8.enc_get _ _ hi22)⟩) (listed' := (List.toArray [true, true, true, true, true, true, false, false])) rfl ?_
      refine ae_tail 6 (by decide) (by decide) (by kernel_rfl) rfl rfl ?_
      refine s_gtr rfl rfl ?_
      refine s_as (v := .bool (decide (a0.get i17 > a1.get i17))) rfl ?_
      refine done ?_
      refine qn_norm ?_
      refine then_norm ?_
      refine wp_ret (blk_ret (then_ret (then_ret (blk_ret (then_ret ?_)))))
      refine ret1 (fn := Try.f118) rfl ?_ ⟨decide (a0.get i17 > a1.get i17), rfl, h, hC.below⟩ (.inl rfl)
      exact res_tmp rfl
    · replace h := iff_ h (cf hb27)
      refine wp_skip ?_
      refine blk_norm ?_
      refine then_norm ?_
      refine cw_region ?_
      refine s_mv (v := .int .i64 (i17 : Int)) h5_ ?_
      refine s_add rfl rfl ?_
      refine s_as (v := .int .i64 (IntKind.i64.wrap ((i17 : Int) + 1))) rfl ?_
      refine done ?_
      exact hK21 () _ _ ⟨h2_, h3_, h4_, (tr rfl (congrArg _ (wrap64_nat hi22 (by decide)))), hC⟩ h
  · clear hC h
    rintro s18 e_ w31 K20 ⟨h2_, h3_, h4_, h5_, hC⟩ h
    refine wp_seq ?_
    refine wp_seq ?_
    refine cw_region ?_
    refine s_mv (v := .int .i64 8) h5_ ?_
    refine s_lss rfl rfl ?_
    refine done ?_
    refine then_norm ?_
    refine cw_false rfl (decide_eq_false (by omega)) ?_
    refine wp_exit (then_exit (then_exit (exit_in ?_)))
    refine then_norm ?_
    refine wp_seq ?_
    refine cw_region ?_
    refine s_as (v := .bool false) rfl ?_
    refine done ?_
    refine then_norm ?_
    refine wp_ret ?_
    refine ret1 (fn := Try.f118) rfl ?_ ⟨false, rfl, h, hC.below⟩ (.inl rfl)
    exact res_tmp rfl
  · skip
    exact ⟨rfl, rfl, rfl, rfl, hC⟩
def f_spec_l01Add (a0 : Vc.Form) (a1 : Vc.Form) (a2 : Int) (K : Vc.Form → Prop) : Prop :=
  whileP (fun (s669 : (List Term) × Int × Int) next672 => (if s669.2.1 < (a0.terms.length : Int) then (if s669.2.2 = (a1.terms.length : Int) then ((0 ≤ s669.2.1 ∧ s669.2.1 < (a0.terms.length : Int)) ∧ (Room (s669.1.length + 1) 16 ∧ next672 (s669.1 ++ [a0.terms.getD s669.2.1.toNat default], IntKind.i64.wrap (s669.2.1 + 1), s669.2.2))) else ((0 ≤ s669.2.1 ∧ s669.2.1 < (a0.terms.length : Int)) ∧ ((0 ≤ s669.2.2 ∧ s669.2.2 < (a1.terms.length : Int)) ∧ f_spec_l01Before ((a0.terms.getD s669.2.1.toNat default).mono) ((a1.terms.getD s669.2.2.toNat default).mono) (fun r718 => (if r718 = true then ((0 ≤ s669.2.1 ∧ s669.2.1 < (a0.terms.length : Int)) ∧ (Room (s669.1.length + 1) 16 ∧ next672 (s669.1 ++ [a0.terms.getD s669.2.1.toNat default], IntKind.i64.wrap (s669.2.1 + 1), s669.2.2))) else (if s669.2.1 = (a0.terms.length : Int) then ((0 ≤ s669.2.2 ∧ s669.2.2 < (a1.terms.length : Int)) ∧ f_spec_l01Mod (IntKind.i64.wrap (a2 * ((a1.terms.getD s669.2.2.toNat default).factor))) (fun r751 => (if r751 ≠ 0 then ((0 ≤ s669.2.2 ∧ s669.2.2 < (a1.terms.length : Int)) ∧ (Room (s669.1.length + 1) 16 ∧ next672 (s669.1 ++ [(⟨(a1.terms.getD s669.2.2.toNat default).mono, r751⟩ : Term)], s669.2.1, IntKind.i64.wrap (s669.2.2 + 1)))) else next672 (s669.1, s669.2.1, IntKind.i64.wrap (s669.2.2 + 1))))) else ((0 ≤ s669.2.2 ∧ s669.2.2 < (a1.terms.length : Int)) ∧ ((0 ≤ s669.2.1 ∧ s669.2.1 < (a0.terms.length : Int)) ∧ f_spec_l01Before ((a1.terms.getD s669.2.2.toNat default).mono) ((a0.terms.getD s669.2.1.toNat default).mono) (fun r782 => (if r782 = true then ((0 ≤ s669.2.2 ∧ s669.2.2 < (a1.terms.length : Int)) ∧ f_spec_l01Mod (IntKind.i64.wrap (a2 * ((a1.terms.getD s669.2.2.toNat default).factor))) (fun r793 => (if r793 ≠ 0 then ((0 ≤ s669.2.2 ∧ s669.2.2 < (a1.terms.length : Int)) ∧ (Room (s669.1.length + 1) 16 ∧ next672 (s669.1 ++ [(⟨(a1.terms.getD s669.2.2.toNat default).mono, r793⟩ : Term)], s669.2.1, IntKind.i64.wrap (s669.2.2 + 1)))) else next672 (s669.1, s669.2.1, IntKind.i64.wrap (s669.2.2 + 1))))) else ((0 ≤ s669.2.1 ∧ s669.2.1 < (a0.terms.length : Int)) ∧ ((0 ≤ s669.2.2 ∧ s669.2.2 < (a1.terms.length : Int)) ∧ f_spec_l01Mod (IntKind.i64.wrap (a2 * ((a1.terms.getD s669.2.2.toNat default).factor))) (fun r827 => f_spec_l01Mod (IntKind.i64.wrap (((a0.terms.getD s669.2.1.toNat default).factor) + r827)) (fun r832 => (if r832 ≠ 0 then ((0 ≤ s669.2.1 ∧ s669.2.1 < (a0.terms.length : Int)) ∧ (Room (s669.1.length + 1) 16 ∧ next672 (s669.1 ++ [(⟨(a0.terms.getD s669.2.1.toNat default).mono, r832⟩ : Term)], IntKind.i64.wrap (s669.2.1 + 1), IntKind.i64.wrap (s669.2.2 + 1)))) else next672 (s669.1, IntKind.i64.wrap (s669.2.1 + 1), IntKind.i64.wrap (s669.2.2 + 1))))))))))))))))) else (if s669.2.2 < (a1.terms.length : Int) then (if s669.2.2 = (a1.terms.length : Int) then ((0 ≤ s669.2.1 ∧ s669.2.1 < (a0.terms.length : Int)) ∧ (Room (s669.1.length + 1) 16 ∧ next672 (s669.1 ++ [a0.terms.getD s669.2.1.toNat default], IntKind.i64.wrap (s669.2.1 + 1), s669.2.2))) else (if s669.2.1 = (a0.terms.length : Int) then ((0 ≤ s669.2.2 ∧ s669.2.2 < (a1.terms.length : Int)) ∧ f_spec_l01Mod (IntKind.i64.wrap (a2 * ((a1.terms.getD s669.2.2.toNat default).factor))) (fun r894 => (if r894 ≠ 0 then ((0 ≤ s669.2.2 ∧ s669.2.2 < (a1.terms.length : Int)) ∧ (Room (s669.1.length + 1) 16 ∧ next672 (s669.1 ++ [(⟨(a1.terms.getD s669.2.2.toNat default).mono, r894⟩ : Term)], s669.2.1, IntKind.i64.wrap (s669.2.2 + 1)))) else next672 (s669.1, s669.2.1, IntKind.i64.wrap (s669.2.2 + 1))))) else ((0 ≤ s669.2.2 ∧ s669.2.2 < (a1.terms.length : Int)) ∧ ((0 ≤ s669.2.1 ∧ s669.2.1 < (a0.terms.length : Int)) ∧ f_spec_l01Before ((a1.terms.getD s669.2.2.toNat default).mono) ((a0.terms.getD s669.2.1.toNat default).mono) (fun r925 => (if r925 = true then ((0 ≤ s669.2.2 ∧ s669.2.2 < (a1.terms.length : Int)) ∧ f_spec_l01Mod (IntKind.i64.wrap (a2 * ((a1.terms.getD s669.2.2.toNat default).factor))) (fun r936 => (if r936 ≠ 0 then ((0 ≤ s669.2.2 ∧ s669.2.2 < (a1.terms.length : Int)) ∧ (Room (s669.1.length + 1) 16 ∧ next672 (s669.1 ++ [(⟨(a1.terms.getD s669.2.2.toNat default).mono, r936⟩ : Term)], s669.2.1, IntKind.i64.wrap (s669.2.2 + 1)))) else next672 (s669.1, s669.2.1, IntKind.i64.wrap (s669.2.2 + 1))))) else ((0 ≤ s669.2.1 ∧ s669.2.1 < (a0.terms.length : Int)) ∧ ((0 ≤ s669.2.2 ∧ s669.2.2 < (a1.terms.length : Int)) ∧ f_spec_l01Mod (IntKind.i64.wrap (a2 * ((a1.terms.getD s669.2.2.toNat default).factor))) (fun r970 => f_spec_l01Mod (IntKind.i64.wrap (((a0.terms.getD s669.2.1.toNat default).factor) + r970)) (fun r975 => (if r975 ≠ 0 then ((0 ≤ s669.2.1 ∧ s669.2.1 < (a0.terms.length : Int)) ∧ (Room (s669.1.length + 1) 16 ∧ next672 (s669.1 ++ [(⟨(a0.terms.getD s669.2.1.toNat default).mono, r975⟩ : Term)], IntKind.i64.wrap (s669.2.1 + 1), IntKind.i64.wrap (s669.2.2 + 1)))) else next672 (s669.1, IntKind.i64.wrap (s669.2.1 + 1), IntKind.i64.wrap (s669.2.2 + 1))))))))))))) else K (⟨s669.1⟩ : Vc.Form)))) ([], 0, 0)
theorem c_spec_l01Add (a0 : Vc.Form) (a1 : Vc.Form) (a2 : Int) {u0_0 : Value} {u1_0 : Value} {fp0 : List Nat} {fp1 : List Nat} {K : Vc.Form → Prop} (h : f_spec_l01Add a0 a1 a2 K) (w0 : World) (q0 : TForm.rep a0 [u0_0] fp0 w0) (q1 : TForm.rep a1 [u1_0] fp1 w0) :
    Calls Try.prog 82 #[.agg #[u0_0], .agg #[u1_0], .int .i64 a2] w0 fun e w' => ∃ (r0 : Vc.Form) (z0_0 : Value) (fz0 : List Nat), 
      e = .returned (.agg #[z0_0]) ∧ K r0 ∧ (Tr.item (TrForm 93) r0 [z0_0] fz0).holds w' ∧ (∀ b, b ∈ fz0 → w0.heap.size ≤ b) ∧ Bel w0 w' := by
  unfold f_spec_l01Add at h
  refine calls_of (args := [.agg #[u0_0], .agg #[u1_0], .int .i64 a2]) Try.func82 rfl 149 Try.ntmps82 (Nat.le_of_ble_eq_true rfl) ?_
  have hC := Ctx.start (X := Nox) w0 [Ty.item TForm a0 [u0_0] fp0, Ty.item TForm a1 [u1_0] fp1] (by simp only [List.mem_cons, List.not_mem_nil, or_false, forall_eq_or_imp, forall_eq]; exact ⟨q0, q1⟩)
  have hp3 := (hC.getP 0 rfl)
  replace hC := hC.derive 0 rfl (Ty.item ETerm.ty.sl a0.terms [u0_0] fp0) (fun _ => (form_parts hp3)) (fun _ hb_ => hb_)
  have hp5 := (hC.getP 2 rfl)
  replace hC := hC.derive 2 rfl (Ty.item ETerm.ty.sl a1.terms [u1_0] fp1) (fun _ => (form_parts hp5)) (fun _ hb_ => hb_)
  refine wp_seq ?_
  refine cw_region ?_
  refine s_box (v := .agg #[u0_0]) hC [u0_0] rfl rfl fun b7 w9 hB_ hC => ?_
  refine s_box (v := .agg #[u1_0]) hC [u1_0] rfl rfl fun b10 w12 hB_ hC => ?_
  refine s_alloc hC [.slice none 0 0] z51 rfl fun b13 w15 hB_ hC => ?_
  refine done ?_
  refine then_norm ?_
  refine wp_seq ?_
  refine cw_region ?_
  refine s_build [] rfl (bl51   _) ?_
  refine s_alloc hC [.slice none 0 0] z51 rfl fun b16 w18 hB_ hC => ?_
  refine s_store (v := .agg #[.slice none 0 0]) hC 0 [.slice none 0 0] [.slice none 0 0] rfl ag51.size rfl rfl rfl rfl rfl (Nat.le_of_ble_eq_true rfl) rfl fun w19 hC => ?_
  refine done ?_
  refine then_norm ?_
  refine wp_seq ?_
  refine cw_region ?_
  refine s_as (v := .int .i64 0) rfl ?_
  refine s_as (v := .int .i64 0) rfl ?_
  refine done ?_
  refine then_norm ?_
  refine wp_seq ?_
  refine wp_block ?_
  refine loopW (S := (List Term) × Int × Int) _ (fun s669 e_ w_ => ∃ (v670 : Value), e_ 2 = .int .i64 a2 ∧ e_ 3 = .pointer (some ⟨b7, 0, none⟩) ∧ e_ 4 = .pointer (some ⟨b10, 0, none⟩) ∧ e_ 6 = .pointer (some ⟨b13, 0, none⟩) ∧ e_ 7 = .pointer (some ⟨b16, 0, none⟩) ∧ e_ 8 = .int .i64 s669.2.1 ∧ e_ 9 = .int .i64 s669.2.2 ∧ Ctx Nox w0 w_ [own 93 9 v670 s669.1.length (ETerm.encs s669.1), blk b16 51 [v670], blk b13 51 [.slice none 0 0], blk b10 51 [u1_0], blk b7 51 [u0_0]] [Ty.item ETerm.ty.sl a1.terms [u1_0] fp1, Ty.item ETerm.ty.sl a0.terms [u0_0] fp0, Ty.item TForm a0 [u0_0] fp0, Ty.item TForm a1 [u1_0] fp1]) ?_ (s0 := ([], 0, 0)) ?_ h
  · clear hC h
    rintro s669 e_ w675 next672 K673 ⟨v670, h2_, h3_, h4_, h6_, h7_, h8_, h9_, hC⟩ h hK674
    refine wp_seq ?_
    refine wp_seq ?_
    refine cw_region ?_
    refine s_mv (v := .int .i64 s669.2.1) h8_ ?_
    refine s_faddrB 0 Try.underlying51 rfl sc49.size h3_ rfl ?_
    refine s_loadS hC 4 (u0_0) rfl sc49 rfl rfl ?_
    obtain ⟨Ad676, c677, hv678⟩ := sl_len (hC.getP 1 rfl)
    refine s_len Try.underlying49 (tr rfl hv678) ?_
    refine s_lss rfl rfl ?_
    refine s_mv (v := .bool (decide (s669.2.1 < (a0.terms.length : Int)))) rfl ?_
    refine bsplit (decide (s669.2.1 < (a0.terms.length : Int))) (fun hb679 => ?_) (fun hb679 => ?_)
    · replace h := ift h (ct hb679)
      refine guardOff (b := true) 5 18 rfl (tr rfl (congrArg _ hb679)) (by decide) ?_
      refine guardOff (b := true) 5 18 rfl (tr rfl (congrArg _ hb679)) (by decide) ?_
      refine guardOff (b := true) 5 18 rfl (tr rfl (congrArg _ hb679)) (by decide) ?_
      refine guardOff (b := true) 5 18 rfl (tr rfl (congrArg _ hb679)) (by decide) ?_
      refine guardOff (b := true) 5 18 rfl (tr rfl (congrArg _ hb679)) (by decide) ?_
      refine s_pick (v := .bool true) (b := true) (tr rfl (congrArg _ hb679)) rfl ?_
      refine done ?_
      refine then_norm ?_
      refine cw_true rfl rfl ?_
      refine wp_skip ?_
      refine then_norm ?_
      refine wp_block ?_
      refine wp_block ?_
      refine wp_seq ?_
      refine cw_draw 24 mixed [0, 0, 2, 6, 15, 31, 63, 63, 191, 447, 1023, 2047, 4095, 8191, 4095, 32767, 65535, 131071, 4095, 266239, 4095, 1839103, 3936255, 8130559, 16777215, 33554431, 67108863, 134217727] [2, 3, 8, 9, 13, 15, 17, 19, 21, 23] [0, 1, 4, 5, 6, 7, 8, 9, 10, 11, 12, 13, 14, 15, 16, 17, 18, 19, 20, 21, 22, 23] (by kernel_rfl) (by kernel_rfl) (by kernel_rfl) (fun hM681 hM682 w680 hB_ => ?_)
      replace hC := hC.grow hB_
      refine ae_lookF 0 (.int .i64 s669.2.2) rfl rfl (by kernel_rfl) (hM682 0 rfl) (fun w_ => .inl ⟨rfl, by exact r_mv (v := .int .i64 s669.2.2) h9_⟩) (listed' := (List.toArray [true, false, false, false, false, false, false, false, false, false, false, false, false, false, false, false, false, false, false, false, false, false, false, false, false, false, false, false])) rfl ?_
      refine ae_lookF 1 (.pointer (some ⟨b10, 0, none⟩)) rfl rfl (by kernel_rfl) (hM682 1 rfl) (fun w_ => .inl ⟨rfl, by exact r_faddrB 0 Try.underlying51 rfl sc49.size h4_ rfl⟩) (listed' := (List.toArray [true, true, false, false, false, false, false, false, false, false, false, false, false, false, false, false, false, false, false, false, false, false, false, false, false, false, false, false])) rfl ?_
      refine ae_look 2 (u1_0) rfl rfl (by kernel_rfl) (hM681 2 rfl) (fun w_ hB_ => .inl ⟨rfl, by exact r_loadS (hC.grow hB_) 3 (u1_0) rfl sc49 rfl rfl⟩) (listed' := (List.toArray [true, true, true, false, false, false, false, false, false, false, false, false, false, false, false, false, false, false, false, false, false, false, false, false, false, false, false, false])) rfl ?_
      obtain ⟨Ad683, c684, hv685⟩ := sl_len (hC.getP 0 rfl)
      refine ae_look 3 (.int .i64 (a1.terms.length : Int)) rfl rfl (by kernel_rfl) (hM681 3 rfl) (fun w_ hB_ => .inl ⟨rfl, by exact r_len Try.underlying49 (by exact tr rfl hv685)⟩) (listed' := (List.toArray [true, true, true, true, false, false, false, false, false, false, false, false, false, false, false, false, false, false, false, false, false, false, false, false, false, false, false, false])) rfl ?_
      refine ae_lookF 4 (.bool (decide (s669.2.2 = (a1.terms.length : Int)))) rfl rfl (by kernel_rfl) (hM682 4 rfl) (fun w_ => .inl ⟨rfl, by exact r_eql rfl rfl⟩) (listed' := (List.toArray [true, true, true, true, true, false, false, false, false, false, false, false, false, false, false, false, false, false, false, false, false, false, false, false, false, false, false, false])) rfl ?_
      refine ae_lookF 5 (.bool (decide (s669.2.2 = (a1.terms.length : Int)))) rfl rfl (by kernel_rfl) (hM682 5 rfl) (fun w_ => .inl ⟨rfl, by exact r_mv (v := .bool (decide (s669.2.2 = (a1.terms.length : Int)))) rfl⟩) (listed' := (List.toArray [true, true, true, true, true, true, false, false, false, false, false, false, false, false, false, false, false, false, false, false, false, false, false, false, false, false, false, false])) rfl ?_
      refine bsplit (decide (s669.2.2 = (a1.terms.length : Int))) (fun hb686 => ?_) (fun hb686 => ?_)
      · replace h := ift h (ct hb686)
        refine ae_lookF 6 undef rfl rfl (by kernel_rfl) (hM682 6 rfl) (fun w_ => .inr ⟨wanted_off (b := true) 5 67 rfl (tr rfl (congrArg _ hb686)) (by decide), rfl⟩) (listed' := (List.toArray [true, true, true, true, true, true, true, false, false, false, false, false, false, false, false, false, false, false, false, false, false, false, false, false, false, false, false, false])) rfl ?_
        refine ae_lookF 7 undef rfl rfl (by kernel_rfl) (hM682 7 rfl) (fun w_ => .inr ⟨wanted_off (b := true) 5 67 rfl (tr rfl (congrArg _ hb686)) (by decide), rfl⟩) (listed' := (List.toArray [true, true, true, true, true, true, true, true, false, false, false, false, false, false, false, false, false, false, false, false, false, false, false, false, false, false, false, false])) rfl ?_
        refine ae_lookF 8 undef rfl rfl (by kernel_rfl) (hM682 8 rfl) (fun w_ => .inr ⟨wanted_off (b := true) 5 67 rfl (tr rfl (congrArg _ hb686)) (by decide), rfl⟩) (listed' := (List.toArray [true, true, true, true, true, true, true, true, true, false, false, false, false, false, false, false, false, false, false, false, false, false, false, false, false, false, false, false])) rfl ?_
        refine ae_lookF 9 undef rfl rfl (by kernel_rfl) (hM682 9 rfl) (fun w_ => .inr ⟨wanted_off (b := true) 5 67 rfl (tr rfl (congrArg _ hb686)) (by decide), rfl⟩) (listed' := (List.toArray [true, true, true, true, true, true, true, true, true, true, false, false, false, false, false, false, false, false, false, false, false, false, false, false, false, false, false, false])) rfl ?_
        refine ae_lookF 10 undef rfl rfl (by kernel_rfl) (hM682 10 rfl) (fun w_ => .inr ⟨wanted_off (b := true) 5 67 rfl (tr rfl (congrArg _ hb686)) (by decide), rfl⟩) (listed' := (List.toArray [true, true, true, true, true, true, true, true, true, true, true, false, false, false, false, false, false, false, false, false, false, false, false, false, false, false, false, false])) rfl ?_
        refine ae_lookF 11 undef rfl rfl (by kernel_rfl) (hM682 11 rfl) (fun w_ => .inr ⟨wanted_off (b := true) 5 67 rfl (tr rfl (congrArg _ hb686)) (by decide), rfl⟩) (listed' := (List.toArray [true, true, true, true, true, true, true, true, true, true, true, true, false, false, false, false, false, false, false, false, false, false, false, false, false, false, false, false])) rfl ?_
        refine ae_lookF 12 undef rfl rfl (by kernel_rfl) (hM682 12 rfl) (fun w_ => .inr ⟨wanted_offU 11 73 rfl rfl, rfl⟩) (listed' := (List.toArray [true, true, true, true, true, true, true, true, true, true, true, true, true, false, false, false, false, false, false, false, false, false, false, false, false, false, false, false])) rfl ?_
        refine ae_lookF 13 undef rfl rfl (by kernel_rfl) (hM682 13 rfl) (fun w_ => .inr ⟨wanted_offU 11 73 rfl rfl, rfl⟩) (listed' := (List.toArray [true, true, true, true, true, true, true, true, true, true, true, true, true, true, false, false, false, false, false, false, false, false, false, false, false, false, false, false])) rfl ?_
        refine ae_lookF 14 undef rfl rfl (by kernel_rfl) (hM682 14 rfl) (fun w_ => .inr ⟨wanted_offU 11 73 rfl rfl, rfl⟩) (listed' := (List.toArray [true, true, true, true, true, true, true, true, true, true, true, true, true, true, true, false, false, false, false, false, false, false, false, false, false, false, false, false])) rfl ?_
        refine ae_lookF 15 undef rfl rfl (by kernel_rfl) (hM682 15 rfl) (fun w_ => .inr ⟨wanted_offU 11 73 rfl rfl, rfl⟩) (listed' := (List.toArray [true, true, true, true, true, true, true, true, true, true, true, true, true, true, true, true, false, false, false, false, false, false, false, false, false, false, false, false])) rfl ?_
        refine ae_lookF 16 undef rfl rfl (by kernel_rfl) (hM682 16 rfl) (fun w_ => .inr ⟨wanted_offU 11 73 rfl rfl, rfl⟩) (listed' := (List.toArray [true, true, true, true, true, true, true, true, true, true, true, true, true, true, true, true, true, false, false, false, false, false, false, false, false, false, false, false])) rfl ?_
        refine ae_lookF 17 undef rfl rfl (by kernel_rfl) (hM682 17 rfl) (fun w_ => .inr ⟨wanted_offU 11 73 rfl rfl, rfl⟩) (listed' := (List.toArray [true, true, true, true, true, true, true, true, true, true, true, true, true, true, true, true, true, true, false, false, false, false, false, false, false, false, false, false])) rfl ?_
        refine ae_lookF 18 undef rfl rfl (by kernel_rfl) (hM682 18 rfl) (fun w_ => .inr ⟨wanted_offU 11 73 rfl rfl, rfl⟩) (listed' := (List.toArray [true, true, true, true, true, true, true, true, true, true, true, true, true, true, true, true, true, true, true, false, false, false, false, false, false, false, false, false])) rfl ?_
        refine ae_lookF 19 undef rfl rfl (by kernel_rfl) (hM682 19 rfl) (fun w_ => .inr ⟨wanted_offU 11 73 rfl rfl, rfl⟩) (listed' := (List.toArray [true, true, true, true, true, true, true, true, true, true, true, true, true, true, true, true, true, true, true, true, false, false, false, false, false, false, false, false])) rfl ?_
        refine ae_lookF 20 undef rfl rfl (by kernel_rfl) (hM682 20 rfl) (fun w_ => .inr ⟨wanted_offU 11 73 rfl rfl, rfl⟩) (listed' := (List.toArray [true, true, true, true, true, true, true, true, true, true, true, true, true, true, true, true, true, true, true, true, true, false, false, false, false, false, false, false])) rfl ?_
        refine ae_lookF 21 undef rfl rfl (by kernel_rfl) (hM682 21 rfl) (fun w_ => .inr ⟨wanted_offU 11 73 rfl rfl, rfl⟩) (listed' := (List.toArray [true, true, true, true, true, true, true, true, true, true, true, true, true, true, true, true, true, true, true, true, true, true, false, false, false, false, false, false])) rfl ?_
        refine ae_lookF 22 undef rfl rfl (by kernel_rfl) (hM682 22 rfl) (fun w_ => .inr ⟨wanted_offU 11 73 rfl rfl, rfl⟩) (listed' := (List.toArray [true, true, true, true, true, true, true, true, true, true, true, true, true, true, true, true, true, true, true, true, true, true, true, false, false, false, false, false])) rfl ?_
        refine ae_lookF 23 undef rfl rfl (by kernel_rfl) (hM682 23 rfl) (fun w_ => .inr ⟨wanted_offU 11 73 rfl rfl, rfl⟩) (listed' := (List.toArray [true, true, true, true, true, true, true, true, true, true, true, true, true, true, true, true, true, true, true, true, true, true, true, true, false, false, false, false])) rfl ?_
        refine ae_tail 24 (by decide) (by decide) (by kernel_rfl) rfl rfl ?_
        refine guardOffU 11 73 rfl rfl ?_
        refine guardOff (b := true) 5 67 rfl (tr rfl (congrArg _ hb686)) (by decide) ?_
        refine s_pick (v := .bool true) (b := true) (tr rfl (congrArg _ hb686)) rfl ?_
        refine s_as (v := .bool true) rfl ?_
        refine done ?_
        refine qn_norm ?_
        refine then_norm ?_
        refine cw_true rfl rfl ?_
        refine wp_seq ?_
        refine cw_draw 8 mixed [0, 1, 0, 4, 0, 28, 60, 124, 255, 511, 1023] [1, 3, 5, 6] [0, 2, 4] (by kernel_rfl) (by kernel_rfl) (by kernel_rfl) (fun hM688 hM689 w687 hB_ => ?_)
        replace hC := hC.grow hB_
        refine ae_lookF 0 (.pointer (some ⟨b16, 0, none⟩)) rfl rfl (by kernel_rfl) (hM689 0 rfl) (fun w_ => .inl ⟨rfl, by exact r_faddrB 0 Try.underlying51 rfl sc49.size h7_ rfl⟩) (listed' := (List.toArray [true, false, false, false, false, false, false, false, false, false, false])) rfl ?_
        refine ae_look 1 (v670) rfl rfl (by kernel_rfl) (hM688 1 rfl) (fun w_ hB_ => .inl ⟨rfl, by exact r_loadS (hC.grow hB_) 1 (v670) rfl sc49 rfl rfl⟩) (listed' := (List.toArray [true, true, false, false, false, false, false, false, false, false, false])) rfl ?_
        refine ae_lookF 2 (.pointer (some ⟨b7, 0, none⟩)) rfl rfl (by kernel_rfl) (hM689 2 rfl) (fun w_ => .inl ⟨rfl, by exact r_faddrB 0 Try.underlying51 rfl sc49.size h3_ rfl⟩) (listed' := (List.toArray [true, true, true, false, false, false, false, false, false, false, false])) rfl ?_
        refine ae_look 3 (u0_0) rfl rfl (by kernel_rfl) (hM688 3 rfl) (fun w_ hB_ => .inl ⟨rfl, by exact r_loadS (hC.grow hB_) 4 (u0_0) rfl sc49 rfl rfl⟩) (listed' := (List.toArray [true, true, true, true, false, false, false, false, false, false, false])) rfl ?_
        refine ae_lookF 4 (.int .i64 s669.2.1) rfl rfl (by kernel_rfl) (hM689 4 rfl) (fun w_ => .inl ⟨rfl, by exact r_mv (v := .int .i64 s669.2.1) h8_⟩) (listed' := (List.toArray [true, true, true, true, true, false, false, false, false, false, false])) rfl ?_
        obtain ⟨⟨h0_690, h1_691⟩, h⟩ := h
        obtain ⟨Ad692, c693, hv694⟩ := sl_form (hC.getP 1 rfl) s669.2.1.toNat (show s669.2.1.toNat < a0.terms.length by omega)
        refine ae_look 5 (.pointer (some (Ad692.add (s669.2.1.toNat * 9)))) rfl rfl (by kernel_rfl) (hM688 5 rfl) (fun w_ hB_ => .inl ⟨rfl, by exact r_iaddrS (len := a0.terms.length) Try.underlying49 ag93.size (by exact tr rfl hv694) rfl h0_690 h1_691⟩) (listed' := (List.toArray [true, true, true, true, true, true, false, false, false, false, false])) rfl ?_
        refine ae_look 6 (.agg (List.toArray (Term.enc (a0.terms.getD s669.2.1.toNat default)))) rfl rfl (by kernel_rfl) (hM688 6 rfl) (fun w_ hB_ => .inl ⟨rfl, by exact r_loadCA (Term.enc (a0.terms.getD s669.2.1.toNat default)) (sl_cellsE ((hC.grow hB_).getP 1 rfl) hv694 s669.2.1.toNat (show s669.2.1.toNat < a0.terms.length by omega)) ag93 rfl rfl⟩) (listed' := (List.toArray [true, true, true, true, true, true, true, false, false, false, false])) rfl ?_
        refine ae_one 7 rfl (by kernel_rfl) ?_
        refine s_bslice (sz := 9) hC [(0, .agg (List.toArray (Term.enc (a0.terms.getD s669.2.1.toNat default))))] (ETerm.encs [a0.terms.getD s669.2.1.toNat default]) rfl (fun _ => bs49_1 (a0.terms.getD s669.2.1.toNat default) _) rfl (by decide) fun b695 w696 hB_ hC => ?_
        refine done ?_
        refine ak_intro (by assumption) (listed' := (List.toArray [true, true, true, true, true, true, true, true, false, false, false])) rfl ?_
        refine ae_tail 8 (by decide) (by decide) (by kernel_rfl) rfl rfl ?_
        obtain ⟨hm700, h⟩ := h
        refine s_app hC 1 Try.underlying49 el93 rfl (by decide) (by decide) rfl (own_rdr (hC.getM 0 rfl)) (fun q hq => Enc.encs_one' (E := ETerm) _ q hq) rfl rfl hm700 fun v698 w699 hC => ?_
        replace hC := own_re hC 1 ((s669.1 ++ [a0.terms.getD s669.2.1.toNat default]).length) (ETerm.encs (s669.1 ++ [a0.terms.getD s669.2.1.toNat default])) rfl (by simp) (by first | (simp [Enc.encs_append]; done) | simp [Enc.encs_append, Enc.encs])
        refine s_faddrB 0 Try.underlying51 rfl sc49.size h7_ rfl ?_
        refine s_store (v := v698) hC 2 [v698] [v698] rfl sc49.size rfl rfl (own_cellsV (hC.getM 1 rfl)) rfl (all_c (own_oneC (hC.getM 1 rfl)) rfl) (Nat.le_of_ble_eq_true rfl) rfl fun w701 hC => ?_
        refine done ?_
        refine qn_norm ?_
        refine then_norm ?_
        refine cw_region ?_
        refine s_mv (v := .int .i64 s669.2.1) h8_ ?_
        refine s_add rfl rfl ?_
        refine s_as (v := .int .i64 (IntKind.i64.wrap (s669.2.1 + 1))) rfl ?_
        refine done ?_
        refine blk_norm ?_
        refine blk_norm ?_
        replace hC := hC.sel [1, 2, 3, 4, 5] [0, 1, 2, 3] (M' := [own 93 9 v698 ((s669.1 ++ [a0.terms.getD s669.2.1.toNat default]).length) (ETerm.encs (s669.1 ++ [a0.terms.getD s669.2.1.toNat default])), blk b16 51 [v698], blk b13 51 [.slice none 0 0], blk b10 51 [u1_0], blk b7 51 [u0_0]]) (Ps' := [Ty.item ETerm.ty.sl a1.terms [u1_0] fp1, Ty.item ETerm.ty.sl a0.terms [u0_0] fp0, Ty.item TForm a0 [u0_0] fp0, Ty.item TForm a1 [u1_0] fp1]) (by decide) rfl rfl
        exact hK674 (s669.1 ++ [a0.terms.getD s669.2.1.toNat default], IntKind.i64.wrap (s669.2.1 + 1), s669.2.2) _ _ ⟨v698, h2_, h3_, h4_, h6_, h7_, rfl, h9_, hC⟩ h
      · replace h := iff_ h (cf hb686)
        refine ae_lookF 6 (.int .i64 s669.2.1) rfl rfl (by kernel_rfl) (hM682 6 rfl) (fun w_ => .inl ⟨wanted_on 5 67 rfl rfl hb686, by exact r_mv (v := .int .i64 s669.2.1) h8_⟩) (listed' := (List.toArray [true, true, true, true, true, true, true, false, false, false, false, false, false, false, false, false, false, false, false, false, false, false, false, false, false, false, false, false])) rfl ?_
        refine ae_lookF 7 (.pointer (some ⟨b7, 0, none⟩)) rfl rfl (by kernel_rfl) (hM682 7 rfl) (fun w_ => .inl ⟨wanted_on 5 67 rfl rfl hb686, by exact r_faddrB 0 Try.underlying51 rfl sc49.size h3_ rfl⟩) (listed' := (List.toArray [true, true, true, true, true, true, true, true, false, false, false, false, false, false, false, false, false, false, false, false, false, false, false, false, false, false, false, false])) rfl ?_
        refine ae_look 8 (u0_0) rfl rfl (by kernel_rfl) (hM681 8 rfl) (fun w_ hB_ => .inl ⟨wanted_on 5 67 rfl rfl hb686, by exact r_loadS (hC.grow hB_) 4 (u0_0) rfl sc49 rfl rfl⟩) (listed' := (List.toArray [true, true, true, true, true, true, true, true, true, false, false, false, false, false, false, false, false, false, false, false, false, false, false, false, false, false, false, false])) rfl ?_
        obtain ⟨Ad702, c703, hv704⟩ := sl_len (hC.getP 1 rfl)
        refine ae_look 9 (.int .i64 (a0.terms.length : Int)) rfl rfl (by kernel_rfl) (hM681 9 rfl) (fun w_ hB_ => .inl ⟨wanted_on 5 67 rfl rfl hb686, by exact r_len Try.underlying49 (by exact tr rfl hv704)⟩) (listed' := (List.toArray [true, true, true, true, true, true, true, true, true, true, false, false, false, false, false, false, false, false, false, false, false, false, false, false, false, false, false, false])) rfl ?_
        refine ae_lookF 10 (.bool (decide (s669.2.1 < (a0.terms.length : Int)))) rfl rfl (by kernel_rfl) (hM682 10 rfl) (fun w_ => .inl ⟨wanted_on 5 67 rfl rfl hb686, by exact r_lss rfl rfl⟩) (listed' := (List.toArray [true, true, true, true, true, true, true, true, true, true, true, false, false, false, false, false, false, false, false, false, false, false, false, false, false, false, false, false])) rfl ?_
        refine ae_lookF 11 (.bool (decide (s669.2.1 < (a0.terms.length : Int)))) rfl rfl (by kernel_rfl) (hM682 11 rfl) (fun w_ => .inl ⟨wanted_on 5 67 rfl rfl hb686, by exact r_mv (v := .bool (decide (s669.2.1 < (a0.terms.length : Int)))) rfl⟩) (listed' := (List.toArray [true, true, true, true, true, true, true, true, true, true, true, true, false, false, false, false, false, false, false, false, false, false, false, false, false, false, false, false])) rfl ?_
        refine ae_lookF 12 (.pointer (some ⟨b7, 0, none⟩)) rfl rfl (by kernel_rfl) (hM682 12 rfl) (fun w_ => .inl ⟨wanted_on 11 73 rfl rfl hb679, by exact r_faddrB 0 Try.underlying51 rfl sc49.size h3_ rfl⟩) (listed' := (List.toArray [true, true, true, true, true, true, true, true, true, true, true, true, true, false, false, false, false, false, false, false, false, false, false, false, false, false, false, false])) rfl ?_
        refine ae_look 13 (u0_0) rfl rfl (by kernel_rfl) (hM681 13 rfl) (fun w_ hB_ => .inl ⟨wanted_on 11 73 rfl rfl hb679, by exact r_loadS (hC.grow hB_) 4 (u0_0) rfl sc49 rfl rfl⟩) (listed' := (List.toArray [true, true, true, true, true, true, true, true, true, true, true, true, true, true, false, false, false, false, false, false, false, false, false, false, false, false, false, false])) rfl ?_
        refine ae_lookF 14 (.int .i64 s669.2.1) rfl rfl (by kernel_rfl) (hM682 14 rfl) (fun w_ => .inl ⟨wanted_on 11 73 rfl rfl hb679, by exact r_mv (v := .int .i64 s669.2.1) h8_⟩) (listed' := (List.toArray [true, true, true, true, true, true, true, true, true, true, true, true, true, true, true, false, false, false, false, false, false, false, false, false, false, false, false, false])) rfl ?_
        obtain ⟨⟨h0_705, h1_706⟩, h⟩ := h
        obtain ⟨Ad707, c708, hv709⟩ := sl_form (hC.getP 1 rfl) s669.2.1.toNat (show s669.2.1.toNat < a0.terms.length by omega)
        refine ae_look 15 (.pointer (some (Ad707.add (s669.2.1.toNat * 9)))) rfl rfl (by kernel_rfl) (hM681 15 rfl) (fun w_ hB_ => .inl ⟨wanted_on 11 73 rfl rfl hb679, by exact r_iaddrS (len := a0.terms.length) Try.underlying49 ag93.size (by exact tr rfl hv709) rfl h0_705 h1_706⟩) (listed' := (List.toArray [true, true, true, true, true, true, true, true, true, true, true, true, true, true, true, true, false, false, false, false, false, false, false, false, false, false, false, false])) rfl ?_
        refine ae_lookF 16 (.pointer (some (Ad707.add (s669.2.1.toNat * 9 + 0)))) rfl rfl (by kernel_rfl) (hM682 16 rfl) (fun w_ => .inl ⟨wanted_on 11 73 rfl rfl hb679, by exact r_faddrS (s669.2.1.toNat * 9 + 0) Try.underlying93 rfl ag24.size rfl rfl⟩) (listed' := (List.toArray [true, true, true, true, true, true, true, true, true, true, true, true, true, true, true, true, true, false, false, false, false, false, false, false, false, false, false, false])) rfl ?_
        refine ae_look 17 (.agg (List.toArray (A8.enc .u8 ((a0.terms.getD s669.2.1.toNat default).mono)))) rfl rfl (by kernel_rfl) (hM681 17 rfl) (fun w_ hB_ => .inl ⟨wanted_on 11 73 rfl rfl hb679, by exact r_loadCA (A8.enc .u8 ((a0.terms.getD s669.2.1.toNat default).mono)) (cells_subS (o := 0) (k := 8) (sl_cellsE ((hC.grow hB_).getP 1 rfl) hv709 s669.2.1.toNat (show s669.2.1.toNat < a0.terms.length by omega)) rfl) ag24 rfl rfl⟩) (listed' := (List.toArray [true, true, true, true, true, true, true, true, true, true, true, true, true, true, true, true, true, true, false, false, false, false, false, false, false, false, false, false])) rfl ?_
        refine ae_lookF 18 (.pointer (some ⟨b10, 0, none⟩)) rfl rfl (by kernel_rfl) (hM682 18 rfl) (fun w_ => .inl ⟨wanted_on 11 73 rfl rfl hb679, by exact r_faddrB 0 Try.underlying51 rfl sc49.size h4_ rfl⟩) (listed' := (List.toArray [true, true, true, true, true, true, true, true, true, true, true, true, true, true, true, true, true, true, true, false, false, false, false, false, false, false, false, false])) rfl ?_
        refine ae_look 19 (u1_0) rfl rfl (by kernel_rfl) (hM681 19 rfl) (fun w_ hB_ => .inl ⟨wanted_on 11 73 rfl rfl hb679, by exact r_loadS (hC.grow hB_) 3 (u1_0) rfl sc49 rfl rfl⟩) (listed' := (List.toArray [true, true, true, true, true, true, true, true, true, true, true, true, true, true, true, true, true, true, true, true, false, false, false, false, false, false, false, false])) rfl ?_
        refine ae_lookF 20 (.int .i64 s669.2.2) rfl rfl (by kernel_rfl) (hM682 20 rfl) (fun w_ => .inl ⟨wanted_on 11 73 rfl rfl hb679, by exact r_mv (v := .int .i64 s669.2.2) h9_⟩) (listed' := (List.toArray [true, true, true, true, true, true, true, true, true, true, true, true, true, true, true, true, true, true, true, true, true, false, false, false, false, false, false, false])) rfl ?_
        obtain ⟨⟨h0_710, h1_711⟩, h⟩ := h
        obtain ⟨Ad712, c713, hv714⟩ := sl_form (hC.getP 0 rfl) s669.2.2.toNat (show s669.2.2.toNat < a1.terms.length by omega)
        refine ae_look 21 (.pointer (some (Ad712.add (s669.2.2.toNat * 9)))) rfl rfl (by kernel_rfl) (hM681 21 rfl) (fun w_ hB_ => .inl ⟨wanted_on 11 73 rfl rfl hb679, by exact r_iaddrS (len := a1.terms.length) Try.underlying49 ag93.size (by exact tr rfl hv714) rfl h0_710 h1_711⟩) (listed' := (List.toArray [true, true, true, true, true, true, true, true, true, true, true, true, true, true, true, true, true, true, true, true, true, true, false, false, false, false, false, false])) rfl ?_
        refine ae_lookF 22 (.pointer (some (Ad712.add (s669.2.2.toNat * 9 + 0)))) rfl rfl (by kernel_rfl) (hM682 22 rfl) (fun w_ => .inl ⟨wanted_on 11 73 rfl rfl hb679, by exact r_faddrS (s669.2.2.toNat * 9 + 0) Try.underlying93 rfl ag24.size rfl rfl⟩) (listed' := (List.toArray [true, true, true, true, true, true, true, true, true, true, true, true, true, true, true, true, true, true, true, true, true, true, true, false, false, false, false, false])) rfl ?_
        refine ae_look 23 (.agg (List.toArray (A8.enc .u8 ((a1.terms.getD s669.2.2.toNat default).mono)))) rfl rfl (by kernel_rfl) (hM681 23 rfl) (fun w_ hB_ => .inl ⟨wanted_on 11 73 rfl rfl hb679, by exact r_loadCA (A8.enc .u8 ((a1.terms.getD s669.2.2.toNat default).mono)) (cells_subS (o := 0) (k := 8) (sl_cellsE ((hC.grow hB_).getP 0 rfl) hv714 s669.2.2.toNat (show s669.2.2.toNat < a1.terms.length by omega)) rfl) ag24 rfl rfl⟩) (listed' := (List.toArray [true, true, true, true, true, true, true, true, true, true, true, true, true, true, true, true, true, true, true, true, true, true, true, true, false, false, false, false])) rfl ?_
        refine ae_tail 24 (by decide) (by decide) (by kernel_rfl) rfl rfl ?_
        refine guardOn 11 73 rfl rfl hb679 ?_
        refine s_call [.agg (List.toArray (A8.enc .u8 ((a0.terms.getD s669.2.1.toNat default).mono))), .agg (List.toArray (A8.enc .u8 ((a1.terms.getD s669.2.2.toNat default).mono)))] _ Try.func118 rfl rfl rfl (c_spec_l01Before ((a0.terms.getD s669.2.1.toNat default).mono) ((a1.terms.getD s669.2.2.toNat default).mono) h _) (fun ret715 w717 hR716 => ?_)
        obtain ⟨r718, rfl, h, hB719⟩ := hR716
        refine ⟨_, rfl, ?_⟩
        replace hC := hC.grow hB719
        refine guardOn 5 67 rfl rfl hb686 ?_
        refine s_pick (v := .bool r718) (b := true) (tr rfl (congrArg _ hb679)) rfl ?_
        refine s_pick (v := .bool r718) (b := false) (tr rfl (congrArg _ hb686)) rfl ?_
        refine s_as (v := .bool r718) rfl ?_
        refine done ?_
        refine qn_norm ?_
        refine then_norm ?_
        refine cw_cond rfl (fun hb720 => ?_) (fun hb720 => ?_)
        · replace h := ift h (hb720)
          refine wp_seq ?_
          refine cw_draw 8 mixed [0, 1, 0, 4, 0, 28, 60, 124, 255, 511, 1023] [1, 3, 5, 6] [0, 2, 4] (by kernel_rfl) (by kernel_rfl) (by kernel_rfl) (fun hM722 hM723 w721 hB_ => ?_)
          replace hC := hC.grow hB_
          refine ae_lookF 0 (.pointer (some ⟨b16, 0, none⟩)) rfl rfl (by kernel_rfl) (hM723 0 rfl) (fun w_ => .inl ⟨rfl, by exact r_faddrB 0 Try.underlying51 rfl sc49.size h7_ rfl⟩) (listed' := (List.toArray [true, false, false, false, false, false, false, false, false, false, false])) rfl ?_
          refine ae_look 1 (v670) rfl rfl (by kernel_rfl) (hM722 1 rfl) (fun w_ hB_ => .inl ⟨rfl, by exact r_loadS (hC.grow hB_) 1 (v670) rfl sc49 rfl rfl⟩) (listed' := (List.toArray [true, true, false, false, false, false, false, false, false, false, false])) rfl ?_
          refine ae_lookF 2 (.pointer (some ⟨b7, 0, none⟩)) rfl rfl (by kernel_rfl) (hM723 2 rfl) (fun w_ => .inl ⟨rfl, by exact r_faddrB 0 Try.underlying51 rfl sc49.size h3_ rfl⟩) (listed' := (List.toArray [true, true, true, false, false, false, false, false, false, false, false])) rfl ?_
          refine ae_look 3 (u0_0) rfl rfl (by kernel_rfl) (hM722 3 rfl) (fun w_ hB_ => .inl ⟨rfl, by exact r_loadS (hC.grow hB_) 4 (u0_0) rfl sc49 rfl rfl⟩) (listed' := (List.toArray [true, true, true, true, false, false, false, false, false, false, false])) rfl ?_
          refine ae_lookF 4 (.int .i64 s669.2.1) rfl rfl (by kernel_rfl) (hM723 4 rfl) (fun w_ => .inl ⟨rfl, by exact r_mv (v := .int .i64 s669.2.1) h8_⟩) (listed' := (List.toArray [true, true, true, true, true, false, false, false, false, false, false])) rfl ?_
          obtain ⟨⟨h0_724, h1_725⟩, h⟩ := h
          obtain ⟨Ad726, c727, hv728⟩ := sl_form (hC.getP 1 rfl) s669.2.1.toNat (show s669.2.1.toNat < a0.terms.length by omega)
          refine ae_look 5 (.pointer (some (Ad726.add (s669.2.1.toNat * 9)))) rfl rfl (by kernel_rfl) (hM722 5 rfl) (fun w_ hB_ => .inl ⟨rfl, by exact r_iaddrS (len := a0.terms.length) Try.underlying49 ag93.size (by exact tr rfl hv728) rfl h0_724 h1_725⟩) (listed' := (List.toArray [true, true, true, true, true, true, false, false, false, false, false])) rfl ?_
          refine ae_look 6 (.agg (List.toArray (Term.enc (a0.terms.getD s669.2.1.toNat default)))) rfl rfl (by kernel_rfl) (hM722 6 rfl) (fun w_ hB_ => .inl ⟨rfl, by exact r_loadCA (Term.enc (a0.terms.getD s669.2.1.toNat default)) (sl_cellsE ((hC.grow hB_).getP 1 rfl) hv728 s669.2.1.toNat (show s669.2.1.toNat < a0.terms.length by omega)) ag93 rfl rfl⟩) (listed' := (List.toArray [true, true, true, true, true, true, true, false, false, false, false])) rfl ?_
          refine ae_one 7 rfl (by kernel_rfl) ?_
          refine s_bslice (sz := 9) hC [(0, .agg (List.toArray (Term.enc (a0.terms.getD s669.2.1.toNat default))))] (ETerm.encs [a0.terms.getD s669.2.1.toNat default]) rfl (fun _ => bs49_1 (a0.terms.getD s669.2.1.toNat default) _) rfl (by decide) fun b729 w730 hB_ hC => ?_
          refine done ?_
          refine ak_intro (by assumption) (listed' := (List.toArray [true, true, true, true, true, true, true, true, false, false, false])) rfl ?_
          refine ae_tail 8 (by decide) (by decide) (by kernel_rfl) rfl rfl ?_
          obtain ⟨hm734, h⟩ := h
          refine s_app hC 1 Try.underlying49 el93 rfl (by decide) (by decide) rfl (own_rdr (hC.getM 0 rfl)) (fun q hq => Enc.encs_one' (E := ETerm) _ q hq) rfl rfl hm734 fun v732 w733 hC => ?_
          replace hC := own_re hC 1 ((s669.1 ++ [a0.terms.getD s669.2.1.toNat default]).length) (ETerm.encs (s669.1 ++ [a0.terms.getD s669.2.1.toNat default])) rfl (by simp) (by first | (simp [Enc.encs_append]; done) | simp [Enc.encs_append, Enc.encs])
          refine s_faddrB 0 Try.underlying51 rfl sc49.size h7_ rfl ?_
          refine s_store (v := v732) hC 2 [v732] [v732] rfl sc49.size rfl rfl (own_cellsV (hC.getM 1 rfl)) rfl (all_c (own_oneC (hC.getM 1 rfl)) rfl) (Nat.le_of_ble_eq_true rfl) rfl fun w735 hC => ?_
          refine done ?_
          refine qn_norm ?_
          refine then_norm ?_
          refine cw_region ?_
          refine s_mv (v := .int .i64 s669.2.1) h8_ ?_
          refine s_add rfl rfl ?_
          refine s_as (v := .int .i64 (IntKind.i64.wrap (s669.2.1 + 1))) rfl ?_
          refine done ?_
          refine blk_norm ?_
          refine blk_norm ?_
          replace hC := hC.sel [1, 2, 3, 4, 5] [0, 1, 2, 3] (M' := [own 93 9 v732 ((s669.1 ++ [a0.terms.getD s669.2.1.toNat default]).length) (ETerm.encs (s669.1 ++ [a0.terms.getD s669.2.1.toNat default])), blk b16 51 [v732], blk b13 51 [.slice none 0 0], blk b10 51 [u1_0], blk b7 51 [u0_0]]) (Ps' := [Ty.item ETerm.ty.sl a1.terms [u1_0] fp1, Ty.item ETerm.ty.sl a0.terms [u0_0] fp0, Ty.item TForm a0 [u0_0] fp0, Ty.item TForm a1 [u1_0] fp1]) (by decide) rfl rfl
          exact hK674 (s669.1 ++ [a0.terms.getD s669.2.1.toNat default], IntKind.i64.wrap (s669.2.1 + 1), s669.2.2) _ _ ⟨v732, h2_, h3_, h4_, h6_, h7_, rfl, h9_, hC⟩ h
        · replace h := iff_ h (ne_t hb720)
          refine wp_seq ?_
          refine cw_draw 18 mixed [0, 0, 2, 6, 15, 31, 63, 127, 63, 511, 1023, 2047, 63, 4159, 63, 28735, 61503, 127039, 262143, 524287, 1048575] [2, 3, 7, 9, 11, 13, 15, 17] [0, 1, 4, 5, 6, 7, 8, 9, 10, 11, 12, 13, 14, 15, 16, 17] (by kernel_rfl) (by kernel_rfl) (by kernel_rfl) (fun hM737 hM738 w736 hB_ => ?_)
          replace hC := hC.grow hB_
          refine ae_lookF 0 (.int .i64 s669.2.1) rfl rfl (by kernel_rfl) (hM738 0 rfl) (fun w_ => .inl ⟨rfl, by exact r_mv (v := .int .i64 s669.2.1) h8_⟩) (listed' := (List.toArray [true, false, false, false, false, false, false, false, false, false, false, false, false, false, false, false, false, false, false, false, false])) rfl ?_
          refine ae_lookF 1 (.pointer (some ⟨b7, 0, none⟩)) rfl rfl (by kernel_rfl) (hM738 1 rfl) (fun w_ => .inl ⟨rfl, by exact r_faddrB 0 Try.underlying51 rfl sc49.size h3_ rfl⟩) (listed' := (List.toArray [true, true, false, false, false, false, false, false, false, false, false, false, false, false, false, false, false, false, false, false, false])) rfl ?_
          refine ae_look 2 (u0_0) rfl rfl (by kernel_rfl) (hM737 2 rfl) (fun w_ hB_ => .inl ⟨rfl, by exact r_loadS (hC.grow hB_) 4 (u0_0) rfl sc49 rfl rfl⟩) (listed' := (List.toArray [true, true, true, false, false, false, false, false, false, false, false, false, false, false, false, false, false, false, false, false, false])) rfl ?_
          obtain ⟨Ad739, c740, hv741⟩ := sl_len (hC.getP 1 rfl)
          refine ae_look 3 (.int .i64 (a0.terms.length : Int)) rfl rfl (by kernel_rfl) (hM737 3 rfl) (fun w_ hB_ => .inl ⟨rfl, by exact r_len Try.underlying49 (by exact tr rfl hv741)⟩) (listed' := (List.toArray [true, true, true, true, false, false, false, false, false, false, false, false, false, false, false, false, false, false, false, false, false])) rfl ?_
          refine ae_lookF 4 (.bool (decide (s669.2.1 = (a0.terms.length : Int)))) rfl rfl (by kernel_rfl) (hM738 4 rfl) (fun w_ => .inl ⟨rfl, by exact r_eql rfl rfl⟩) (listed' := (List.toArray [true, true, true, true, true, false, false, false, false, false, false, false, false, false, false, false, false, false, false, false, false])) rfl ?_
          refine ae_lookF 5 (.bool (decide (s669.2.1 = (a0.terms.length : Int)))) rfl rfl (by kernel_rfl) (hM738 5 rfl) (fun w_ => .inl ⟨rfl, by exact r_mv (v := .bool (decide (s669.2.1 = (a0.terms.length : Int)))) rfl⟩) (listed' := (List.toArray [true, true, true, true, true, true, false, false, false, false, false, false, false, false, false, false, false, false, false, false, false])) rfl ?_
          refine bsplit (decide (s669.2.1 = (a0.terms.length : Int))) (fun hb742 => ?_) (fun hb742 => ?_)
          · replace h := ift h (ct hb742)
            refine ae_lookF 6 undef rfl rfl (by kernel_rfl) (hM738 6 rfl) (fun w_ => .inr ⟨wanted_off (b := true) 5 107 rfl (tr rfl (congrArg _ hb742)) (by decide), rfl⟩) (listed' := (List.toArray [true, true, true, true, true, true, true, false, false, false, false, false, false, false, false, false, false, false, false, false, false])) rfl ?_
            refine ae_lookF 7 undef rfl rfl (by kernel_rfl) (hM738 7 rfl) (fun w_ => .inr ⟨wanted_off (b := true) 5 107 rfl (tr rfl (congrArg _ hb742)) (by decide), rfl⟩) (listed' := (List.toArray [true, true, true, true, true, true, true, true, false, false, false, false, false, false, false, false, false, false, false, false, false])) rfl ?_
            refine ae_lookF 8 undef rfl rfl (by kernel_rfl) (hM738 8 rfl) (fun w_ => .inr ⟨wanted_off (b := true) 5 107 rfl (tr rfl (congrArg _ hb742)) (by decide), rfl⟩) (listed' := (List.toArray [true, true, true, true, true, true, true, true, true, false, false, false, false, false, false, false, false, false, false, false, false])) rfl ?_
            refine ae_lookF 9 undef rfl rfl (by kernel_rfl) (hM738 9 rfl) (fun w_ => .inr ⟨wanted_off (b := true) 5 107 rfl (tr rfl (congrArg _ hb742)) (by decide), rfl⟩) (listed' := (List.toArray [true, true, true, true, true, true, true, true, true, true, false, false, false, false, false, false, false, false, false, false, false])) rfl ?_
            refine ae_lookF 10 undef rfl rfl (by kernel_rfl) (hM738 10 rfl) (fun w_ => .inr ⟨wanted_off (b := true) 5 107 rfl (tr rfl (congrArg _ hb742)) (by decide), rfl⟩) (listed' := (List.toArray [true, true, true, true, true, true, true, true, true, true, true, false, false, false, false, false, false, false, false, false, false])) rfl ?_
            refine ae_lookF 11 undef rfl rfl (by kernel_rfl) (hM738 11 rfl) (fun w_ => .inr ⟨wanted_off (b := true) 5 107 rfl (tr rfl (congrArg _ hb742)) (by decide), rfl⟩) (listed' := (List.toArray [true, true, true, true, true, true, true, true, true, true, true, true, false, false, false, false, false, false, false, false, false])) rfl ?_
            refine ae_lookF 12 undef rfl rfl (by kernel_rfl) (hM738 12 rfl) (fun w_ => .inr ⟨wanted_off (b := true) 5 107 rfl (tr rfl (congrArg _ hb742)) (by decide), rfl⟩) (listed' := (List.toArray [true, true, true, true, true, true, true, true, true, true, true, true, true, false, false, false, false, false, false, false, false])) rfl ?_
            refine ae_lookF 13 undef rfl rfl (by kernel_rfl) (hM738 13 rfl) (fun w_ => .inr ⟨wanted_off (b := true) 5 107 rfl (tr rfl (congrArg _ hb742)) (by decide), rfl⟩) (listed' := (List.toArray [true, true, true, true, true, true, true, true, true, true, true, true, true, true, false, false, false, false, false, false, false])) rfl ?_
            refine ae_lookF 14 undef rfl rfl (by kernel_rfl) (hM738 14 rfl) (fun w_ => .inr ⟨wanted_off (b := true) 5 107 rfl (tr rfl (congrArg _ hb742)) (by decide), rfl⟩) (listed' := (List.toArray [true, true, true, true, true, true, true, true, true, true, true, true, true, true, true, false, false, false, false, false, false])) rfl ?_
            refine ae_lookF 15 undef rfl rfl (by kernel_rfl) (hM738 15 rfl) (fun w_ => .inr ⟨wanted_off (b := true) 5 107 rfl (tr rfl (congrArg _ hb742)) (by decide), rfl⟩) (listed' := (List.toArray [true, true, true, true, true, true, true, true, true, true, true, true, true, true, true, true, false, false, false, false, false])) rfl ?_
            refine ae_lookF 16 undef rfl rfl (by kernel_rfl) (hM738 16 rfl) (fun w_ => .inr ⟨wanted_off (b := true) 5 107 rfl (tr rfl (congrArg _ hb742)) (by decide), rfl⟩) (listed' := (List.toArray [true, true, true, true, true, true, true, true, true, true, true, true, true, true, true, true, true, false, false, false, false])) rfl ?_
            refine ae_lookF 17 undef rfl rfl (by kernel_rfl) (hM738 17 rfl) (fun w_ => .inr ⟨wanted_off (b := true) 5 107 rfl (tr rfl (congrArg _ hb742)) (by decide), rfl⟩) (listed' := (List.toArray [true, true, true, true, true, true, true, true, true, true, true, true, true, true, true, true, true, true, false, false, false])) rfl ?_
            refine ae_tail 18 (by decide) (by decide) (by kernel_rfl) rfl rfl ?_
            refine guardOff (b := true) 5 107 rfl (tr rfl (congrArg _ hb742)) (by decide) ?_
            refine s_pick (v := .bool true) (b := true) (tr rfl (congrArg _ hb742)) rfl ?_
            refine s_as (v := .bool true) rfl ?_
            refine done ?_
            refine qn_norm ?_
            refine then_norm ?_
            refine cw_true rfl rfl ?_
            refine wp_seq ?_
            refine wp_seq ?_
            refine cw_region ?_
            refine s_mv (v := .int .i64 a2) h2_ ?_
            refine s_faddrB 0 Try.underlying51 rfl sc49.size h4_ rfl ?_
            refine s_loadS hC 3 (u1_0) rfl sc49 rfl rfl ?_
            refine s_mv (v := .int .i64 s669.2.2) h9_ ?_
            obtain ⟨⟨h0_743, h1_744⟩, h⟩ := h
            obtain ⟨Ad745, c746, hv747⟩ := sl_form (hC.getP 0 rfl) s669.2.2.toNat (show s669.2.2.toNat < a1.terms.length by omega)
            refine s_iaddrS (len := a1.terms.length) Try.underlying49 ag93.size (tr rfl hv747) rfl h0_743 h1_744 ?_
            refine s_faddrS (s669.2.2.toNat * 9 + 8) Try.underlying93 rfl sc2.size rfl rfl ?_
            refine s_loadCS (.int .i64 ((a1.terms.getD s669.2.2.toNat default).factor)) (cells_subS (o := 8) (k := 1) (sl_cellsE (hC.getP 0 rfl) hv747 s669.2.2.toNat (show s669.2.2.toNat < a1.terms.length by omega)) rfl) sc2 rfl ?_
            refine s_mul rfl rfl ?_
            refine s_call [.int .i64 (IntKind.i64.wrap (a2 * ((a1.terms.getD s669.2.2.toNat default).factor)))] _ Try.func119 rfl rfl rfl (c_spec_l01Mod (IntKind.i64.wrap (a2 * ((a1.terms.getD s669.2.2.toNat default).factor))) h _) (fun ret748 w750 hR749 => ?_)
            obtain ⟨r751, rfl, h, hB752⟩ := hR749
            refine ⟨_, rfl, ?_⟩
            replace hC := hC.grow hB752
            refine s_as (v := .int .i64 r751) rfl ?_
            refine done ?_
            refine then_norm ?_
            refine wp_seq ?_
            refine cw_region ?_
            refine s_mv (v := .int .i64 r751) rfl ?_
            refine s_neq rfl rfl ?_
            refine done ?_
            refine then_norm ?_
            refine cw_cond rfl (fun hb753 => ?_) (fun hb753 => ?_)
            · replace h := ift h (ct hb753)
              refine cw_draw 11 mixed [0, 1, 0, 4, 0, 28, 60, 124, 0, 508, 1020, 2047, 4095, 8191] [1, 3, 5, 7, 9] [0, 2, 4, 6, 8] (by kernel_rfl) (by kernel_rfl) (by kernel_rfl) (fun hM755 hM756 w754 hB_ => ?_)
              replace hC := hC.grow hB_
              refine ae_lookF 0 (.pointer (some ⟨b16, 0, none⟩)) rfl rfl (by kernel_rfl) (hM756 0 rfl) (fun w_ => .inl ⟨rfl, by exact r_faddrB 0 Try.underlying51 rfl sc49.size h7_ rfl⟩) (listed' := (List.toArray [true, false, false, false, false, false, false, false, false, false, false, false, false, false])) rfl ?_
              refine ae_look 1 (v670) rfl rfl (by kernel_rfl) (hM755 1 rfl) (fun w_ hB_ => .inl ⟨rfl, by exact r_loadS (hC.grow hB_) 1 (v670) rfl sc49 rfl rfl⟩) (listed' := (List.toArray [true, true, false, false, false, false, false, false, false, false, false, false, false, false])) rfl ?_
              refine ae_lookF 2 (.pointer (some ⟨b10, 0, none⟩)) rfl rfl (by kernel_rfl) (hM756 2 rfl) (fun w_ => .inl ⟨rfl, by exact r_faddrB 0 Try.underlying51 rfl sc49.size h4_ rfl⟩) (listed' := (List.toArray [true, true, true, false, false, false, false, false, false, false, false, false, false, false])) rfl ?_
              refine ae_look 3 (u1_0) rfl rfl (by kernel_rfl) (hM755 3 rfl) (fun w_ hB_ => .inl ⟨rfl, by exact r_loadS (hC.grow hB_) 3 (u1_0) rfl sc49 rfl rfl⟩) (listed' := (List.toArray [true, true, true, true, false, false, false, false, false, false, false, false, false, false])) rfl ?_
              refine ae_lookF 4 (.int .i64 s669.2.2) rfl rfl (by kernel_rfl) (hM756 4 rfl) (fun w_ => .inl ⟨rfl, by exact r_mv (v := .int .i64 s669.2.2) h9_⟩) (listed' := (List.toArray [true, true, true, true, true, false, false, false, false, false, false, false, false, false])) rfl ?_
              obtain ⟨⟨h0_757, h1_758⟩, h⟩ := h
              obtain ⟨Ad759, c760, hv761⟩ := sl_form (hC.getP 0 rfl) s669.2.2.toNat (show s669.2.2.toNat < a1.terms.length by omega)
              refine ae_look 5 (.pointer (some (Ad759.add (s669.2.2.toNat * 9)))) rfl rfl (by kernel_rfl) (hM755 5 rfl) (fun w_ hB_ => .inl ⟨rfl, by exact r_iaddrS (len := a1.terms.length) Try.underlying49 ag93.size (by exact tr rfl hv761) rfl h0_757 h1_758⟩) (listed' := (List.toArray [true, true, true, true, true, true, false, false, false, false, false, false, false, false])) rfl ?_
              refine ae_lookF 6 (.pointer (some (Ad759.add (s669.2.2.toNat * 9 + 0)))) rfl rfl (by kernel_rfl) (hM756 6 rfl) (fun w_ => .inl ⟨rfl, by exact r_faddrS (s669.2.2.toNat * 9 + 0) Try.underlying93 rfl ag24.size rfl rfl⟩) (listed' := (List.toArray [true, true, true, true, true, true, true, false, false, false, false, false, false, false])) rfl ?_
              refine ae_look 7 (.agg (List.toArray (A8.enc .u8 ((a1.terms.getD s669.2.2.toNat default).mono)))) rfl rfl (by kernel_rfl) (hM755 7 rfl) (fun w_ hB_ => .inl ⟨rfl, by exact r_loadCA (A8.enc .u8 ((a1.terms.getD s669.2.2.toNat default).mono)) (cells_subS (o := 0) (k := 8) (sl_cellsE ((hC.grow hB_).getP 0 rfl) hv761 s669.2.2.toNat (show s669.2.2.toNat < a1.terms.length by omega)) rfl) ag24 rfl rfl⟩) (listed' := (List.toArray [true, true, true, true, true, true, true, true, false, false, false, false, false, false])) rfl ?_
              refine ae_lookF 8 (.int .i64 r751) rfl rfl (by kernel_rfl) (hM756 8 rfl) (fun w_ => .inl ⟨rfl, by exact r_mv (v := .int .i64 r751) rfl⟩) (listed' := (List.toArray [true, true, true, true, true, true, true, true, true, false, false, false, false, false])) rfl ?_
              refine ae_look 9 (.agg (List.toArray (Term.enc (⟨(a1.terms.getD s669.2.2.toNat default).mono, r751⟩ : Term)))) rfl rfl (by kernel_rfl) (hM755 9 rfl) (fun w_ hB_ => .inl ⟨rfl, by exact r_build [(0, .agg (List.toArray (A8.enc .u8 ((a1.terms.getD s669.2.2.toNat default).mono)))), (1, .int .i64 r751)] rfl (bl93_0flat_1int ((a1.terms.getD s669.2.2.toNat default).mono) r751  _)⟩) (listed' := (List.toArray [true, true, true, true, true, true, true, true, true, true, false, false, false, false])) rfl ?_
              refine ae_one 10 rfl (by kernel_rfl) ?_
              refine s_bslice (sz := 9) hC [(0, .agg (List.toArray (Term.enc (⟨(a1.terms.getD s669.2.2.toNat default).mono, r751⟩ : Term))))] (ETerm.encs [(⟨(a1.terms.getD s669.2.2.toNat default).mono, r751⟩ : Term)]) rfl (fun _ => bs49_1 (⟨(a1.terms.getD s669.2.2.toNat default).mono, r751⟩ : Term) _) rfl (by decide) fun b762 w763 hB_ hC => ?_
              refine done ?_
              refine ak_intro (by assumption) (listed' := (List.toArray [true, true, true, true, true, true, true, true, true, true, true, false, false, false])) rfl ?_
              refine ae_tail 11 (by decide) (by decide) (by kernel_rfl) rfl rfl ?_
              obtain ⟨hm767, h⟩ := h
              refine s_app hC 1 Try.underlying49 el93 rfl (by decide) (by decide) rfl (own_rdr (hC.getM 0 rfl)) (fun q hq => Enc.encs_one' (E := ETerm) _ q hq) rfl rfl hm767 fun v765 w766 hC => ?_
              replace hC := own_re hC 1 ((s669.1 ++ [(⟨(a1.terms.getD s669.2.2.toNat default).mono, r751⟩ : Term)]).length) (ETerm.encs (s669.1 ++ [(⟨(a1.terms.getD s669.2.2.toNat default).mono, r751⟩ : Term)])) rfl (by simp) (by first | (simp [Enc.encs_append]; done) | simp [Enc.encs_append, Enc.encs])
              refine s_faddrB 0 Try.underlying51 rfl sc49.size h7_ rfl ?_
              refine s_store (v := v765) hC 2 [v765] [v765] rfl sc49.size rfl rfl (own_cellsV (hC.getM 1 rfl)) rfl (all_c (own_oneC (hC.getM 1 rfl)) rfl) (Nat.le_of_ble_eq_true rfl) rfl fun w768 hC => ?_
              refine done ?_
              refine qn_norm ?_
              refine then_norm ?_
              refine cw_region ?_
              refine s_mv (v := .int .i64 s669.2.2) h9_ ?_
              refine s_add rfl rfl ?_
              refine s_as (v := .int .i64 (IntKind.i64.wrap (s669.2.2 + 1))) rfl ?_
              refine done ?_
              refine blk_norm ?_
              refine blk_norm ?_
              replace hC := hC.sel [1, 2, 3, 4, 5] [0, 1, 2, 3] (M' := [own 93 9 v765 ((s669.1 ++ [(⟨(a1.terms.getD s669.2.2.toNat default).mono, r751⟩ : Term)]).length) (ETerm.encs (s669.1 ++ [(⟨(a1.terms.getD s669.2.2.toNat default).mono, r751⟩ : Term)])), blk b16 51 [v765], blk b13 51 [.slice none 0 0], blk b10 51 [u1_0], blk b7 51 [u0_0]]) (Ps' := [Ty.item ETerm.ty.sl a1.terms [u1_0] fp1, Ty.item ETerm.ty.sl a0.terms [u0_0] fp0, Ty.item TForm a0 [u0_0] fp0, Ty.item TForm a1 [u1_0] fp1]) (by decide) rfl rfl
              exact hK674 (s669.1 ++ [(⟨(a1.terms.getD s669.2.2.toNat default).mono, r751⟩ : Term)], s669.2.1, IntKind.i64.wrap (s669.2.2 + 1)) _ _ ⟨v765, h2_, h3_, h4_, h6_, h7_, h8_, rfl, hC⟩ h
            · replace h := iff_ h (cf hb753)
              refine wp_skip ?_
              refine then_norm ?_
              refine cw_region ?_
              refine s_mv (v := .int .i64 s669.2.2) h9_ ?_
              refine s_add rfl rfl ?_
              refine s_as (v := .int .i64 (IntKind.i64.wrap (s669.2.2 + 1))) rfl ?_
              refine done ?_
              refine blk_norm ?_
              refine blk_norm ?_
              exact hK674 (s669.1, s669.2.1, IntKind.i64.wrap (s669.2.2 + 1)) _ _ ⟨v670, h2_, h3_, h4_, h6_, h7_, h8_, rfl, hC⟩ h
          · replace h := iff_ h (cf hb742)
            refine ae_lookF 6 (.pointer (some ⟨b10, 0, none⟩)) rfl rfl (by kernel_rfl) (hM738 6 rfl) (fun w_ => .inl ⟨wanted_on 5 107 rfl rfl hb742, by exact r_faddrB 0 Try.underlying51 rfl sc49.size h4_ rfl⟩) (listed' := (List.toArray [true, true, true, true, true, true, true, false, false, false, false, false, false, false, false, false, false, false, false, false, false])) rfl ?_
            refine ae_look 7 (u1_0) rfl rfl (by kernel_rfl) (hM737 7 rfl) (fun w_ hB_ => .inl ⟨wanted_on 5 107 rfl rfl hb742, by exact r_loadS (hC.grow hB_) 3 (u1_0) rfl sc49 rfl rfl⟩) (listed' := (List.toArray [true, true, true, true, true, true, true, true, false, false, false, false, false, false, false, false, false, false, false, false, false])) rfl ?_
            refine ae_lookF 8 (.int .i64 s669.2.2) rfl rfl (by kernel_rfl) (hM738 8 rfl) (fun w_ => .inl ⟨wanted_on 5 107 rfl rfl hb742, by exact r_mv (v := .int .i64 s669.2.2) h9_⟩) (listed' := (List.toArray [true, true, true, true, true, true, true, true, true, false, false, false, false, false, false, false, false, false, false, false, false])) rfl ?_
            obtain ⟨⟨h0_769, h1_770⟩, h⟩ := h
            obtain ⟨Ad771, c772, hv773⟩ := sl_form (hC.getP 0 rfl) s669.2.2.toNat (show s669.2.2.toNat < a1.terms.length by omega)
            refine ae_look 9 (.pointer (some (Ad771.add (s669.2.2.toNat * 9)))) rfl rfl (by kernel_rfl) (hM737 9 rfl) (fun w_ hB_ => .inl ⟨wanted_on 5 107 rfl rfl hb742, by exact r_iaddrS (len := a1.terms.length) Try.underlying49 ag93.size (by exact tr rfl hv773) rfl h0_769 h1_770⟩) (listed' := (List.toArray [true, true, true, true, true, true, true, true, true, true, false, false, false, false, false, false, false, false, false, false, false])) rfl ?_
            refine ae_lookF 10 (.pointer (some (Ad771.add (s669.2.2.toNat * 9 + 0)))) rfl rfl (by kernel_rfl) (hM738 10 rfl) (fun w_ => .inl ⟨wanted_on 5 107 rfl rfl hb742, by exact r_faddrS (s669.2.2.toNat * 9 + 0) Try.underlying93 rfl ag24.size rfl rfl⟩) (listed' := (List.toArray [true, true, true, true, true, true, true, true, true, true, true, false, false, false, false, false, false, false, false, false, false])) rfl ?_
            refine ae_look 11 (.agg (List.toArray (A8.enc .u8 ((a1.terms.getD s669.2.2.toNat default).mono)))) rfl rfl (by kernel_rfl) (hM737 11 rfl) (fun w_ hB_ => .inl ⟨wanted_on 5 107 rfl rfl hb742, by exact r_loadCA (A8.enc .u8 ((a1.terms.getD s669.2.2.toNat default).mono)) (cells_subS (o := 0) (k := 8) (sl_cellsE ((hC.grow hB_).getP 0 rfl) hv773 s669.2.2.toNat (show s669.2.2.toNat < a1.terms.length by omega)) rfl) ag24 rfl rfl⟩) (listed' := (List.toArray [true, true, true, true, true, true, true, true, true, true, true, true, false, false, false, false, false, false, false, false, false])) rfl ?_
            refine ae_lookF 12 (.pointer (some ⟨b7, 0, none⟩)) rfl rfl (by kernel_rfl) (hM738 12 rfl) (fun w_ => .inl ⟨wanted_on 5 107 rfl rfl hb742, by exact r_faddrB 0 Try.underlying51 rfl sc49.size h3_ rfl⟩) (listed' := (List.toArray [true, true, true, true, true, true, true, true, true, true, true, true, true, false, false, false, false, false, false, false, false])) rfl ?_
            refine ae_look 13 (u0_0) rfl rfl (by kernel_rfl) (hM737 13 rfl) (fun w_ hB_ => .inl ⟨wanted_on 5 107 rfl rfl hb742, by exact r_loadS (hC.grow hB_) 4 (u0_0) rfl sc49 rfl rfl⟩) (listed' := (List.toArray [true, true, true, true, true, true, true, true, true, true, true, true, true, true, false, false, false, false, false, false, false])) rfl ?_
            refine ae_lookF 14 (.int .i64 s669.2.1) rfl rfl (by kernel_rfl) (hM738 14 rfl) (fun w_ => .inl ⟨wanted_on 5 107 rfl rfl hb742, by exact r_mv (v := .int .i64 s669.2.1) h8_⟩) (listed' := (List.toArray [true, true, true, true, true, true, true, true, true, true, true, true, true, true, true, false, false, false, false, false, false])) rfl ?_
            obtain ⟨⟨h0_774, h1_775⟩, h⟩ := h
            obtain ⟨Ad776, c777, hv778⟩ := sl_form (hC.getP 1 rfl) s669.2.1.toNat (show s669.2.1.toNat < a0.terms.length by omega)
            refine ae_look 15 (.pointer (some (Ad776.add (s669.2.1.toNat * 9)))) rfl rfl (by kernel_rfl) (hM737 15 rfl) (fun w_ hB_ => .inl ⟨wanted_on 5 107 rfl rfl hb742, by exact r_iaddrS (len := a0.terms.length) Try.underlying49 ag93.size (by exact tr rfl hv778) rfl h0_774 h1_775⟩) (listed' := (List.toArray [true, true, true, true, true, true, true, true, true, true, true, true, true, true, true, true, false, false, false, false, false])) rfl ?_
            refine ae_lookF 16 (.pointer (some (Ad776.add (s669.2.1.toNat * 9 + 0)))) rfl rfl (by kernel_rfl) (hM738 16 rfl) (fun w_ => .inl ⟨wanted_on 5 107 rfl rfl hb742, by exact r_faddrS (s669.2.1.toNat * 9 + 0) Try.underlying93 rfl ag24.size rfl rfl⟩) (listed' := (List.toArray [true, true, true, true, true, true, true, true, true, true, true, true, true, true, true, true, true, false, false, false, false])) rfl ?_
            refine ae_look 17 (.agg (List.toArray (A8.enc .u8 ((a0.terms.getD s669.2.1.toNat default).mono)))) rfl rfl (by kernel_rfl) (hM737 17 rfl) (fun w_ hB_ => .inl ⟨wanted_on 5 107 rfl rfl hb742, by exact r_loadCA (A8.enc .u8 ((a0.terms.getD s669.2.1.toNat default).mono)) (cells_subS (o := 0) (k := 8) (sl_cellsE ((hC.grow hB_).getP 1 rfl) hv778 s669.2.1.toNat (show s669.2.1.toNat < a0.terms.length by omega)) rfl) ag24 rfl rfl⟩) (listed' := (List.toArray [true, true, true, true, true, true, true, true, true, true, true, true, true, true, true, true, true, true, false, false, false])) rfl ?_
            refine ae_tail 18 (by decide) (by decide) (by kernel_rfl) rfl rfl ?_
            refine guardOn 5 107 rfl rfl hb742 ?_
            refine s_call [.agg (List.toArray (A8.enc .u8 ((a1.terms.getD s669.2.2.toNat default).mono))), .agg (List.toArray (A8.enc .u8 ((a0.terms.getD s669.2.1.toNat default).mono)))] _ Try.func118 rfl rfl rfl (c_spec_l01Before ((a1.terms.getD s669.2.2.toNat default).mono) ((a0.terms.getD s669.2.1.toNat default).mono) h _) (fun ret779 w781 hR780 => ?_)
            obtain ⟨r782, rfl, h, hB783⟩ := hR780
            refine ⟨_, rfl, ?_⟩
            replace hC := hC.grow hB783
            refine s_pick (v := .bool r782) (b := false) (tr rfl (congrArg _ hb742)) rfl ?_
            refine s_as (v := .bool r782) rfl ?_
            refine done ?_
            refine qn_norm ?_
            refine then_norm ?_
            refine cw_cond rfl (fun hb784 => ?_) (fun hb784 => ?_)
            · replace h := ift h (hb784)
              refine wp_seq ?_
              refine wp_seq ?_
              refine cw_region ?_
              refine s_mv (v := .int .i64 a2) h2_ ?_
              refine s_faddrB 0 Try.underlying51 rfl sc49.size h4_ rfl ?_
              refine s_loadS hC 3 (u1_0) rfl sc49 rfl rfl ?_
              refine s_mv (v := .int .i64 s669.2.2) h9_ ?_
              obtain ⟨⟨h0_785, h1_786⟩, h⟩ := h
              obtain ⟨Ad787, c788, hv789⟩ := sl_form (hC.getP 0 rfl) s669.2.2.toNat (show s669.2.2.toNat < a1.terms.length by omega)
              refine s_iaddrS (len := a1.terms.length) Try.underlying49 ag93.size (tr rfl hv789) rfl h0_785 h1_786 ?_
              refine s_faddrS (s669.2.2.toNat * 9 + 8) Try.underlying93 rfl sc2.size rfl rfl ?_
              refine s_loadCS (.int .i64 ((a1.terms.getD s669.2.2.toNat default).factor)) (cells_subS (o := 8) (k := 1) (sl_cellsE (hC.getP 0 rfl) hv789 s669.2.2.toNat (show s669.2.2.toNat < a1.terms.length by omega)) rfl) sc2 rfl ?_
              refine s_mul rfl rfl ?_
              refine s_call [.int .i64 (IntKind.i64.wrap (a2 * ((a1.terms.getD s669.2.2.toNat default).factor)))] _ Try.func119 rfl rfl rfl (c_spec_l01Mod (IntKind.i64.wrap (a2 * ((a1.terms.getD s669.2.2.toNat default).factor))) h _) (fun ret790 w792 hR791 => ?_)
              obtain ⟨r793, rfl, h, hB794⟩ := hR791
              refine ⟨_, rfl, ?_⟩
              replace hC := hC.grow hB794
              refine s_as (v := .int .i64 r793) rfl ?_
              refine done ?_
              refine then_norm ?_
              refine wp_seq ?_
              refine cw_region ?_
              refine s_mv (v := .int .i64 r793) rfl ?_
              refine s_neq rfl rfl ?_
              refine done ?_
              refine then_norm ?_
              refine cw_cond rfl (fun hb795 => ?_) (fun hb795 => ?_)
              · replace h := ift h (ct hb795)
                refine cw_draw 11 mixed [0, 1, 0, 4, 0, 28, 60, 124, 0, 508, 1020, 2047, 4095, 8191] [1, 3, 5, 7, 9] [0, 2, 4, 6, 8] (by kernel_rfl) (by kernel_rfl) (by kernel_rfl) (fun hM797 hM798 w796 hB_ => ?_)
                replace hC := hC.grow hB_
                refine ae_lookF 0 (.pointer (some ⟨b16, 0, none⟩)) rfl rfl (by kernel_rfl) (hM798 0 rfl) (fun w_ => .inl ⟨rfl, by exact r_faddrB 0 Try.underlying51 rfl sc49.size h7_ rfl⟩) (listed' := (List.toArray [true, false, false, false, false, false, false, false, false, false, false, false, false, false])) rfl ?_
                refine ae_look 1 (v670) rfl rfl (by kernel_rfl) (hM797 1 rfl) (fun w_ hB_ => .inl ⟨rfl, by exact r_loadS (hC.grow hB_) 1 (v670) rfl sc49 rfl rfl⟩) (listed' := (List.toArray [true, true, false, false, false, false, false, false, false, false, false, false, false, false])) rfl ?_
                refine ae_lookF 2 (.pointer (some ⟨b10, 0, none⟩)) rfl rfl (by kernel_rfl) (hM798 2 rfl) (fun w_ => .inl ⟨rfl, by exact r_faddrB 0 Try.underlying51 rfl sc49.size h4_ rfl⟩) (listed' := (List.toArray [true, true, true, false, false, false, false, false, false, false, false, false, false, false])) rfl ?_
                refine ae_look 3 (u1_0) rfl rfl (by kernel_rfl) (hM797 3 rfl) (fun w_ hB_ => .inl ⟨rfl, by exact r_loadS (hC.grow hB_) 3 (u1_0) rfl sc49 rfl rfl⟩) (listed' := (List.toArray [true, true, true, true, false, false, false, false, false, false, false, false, false, false])) rfl ?_
                refine ae_lookF 4 (.int .i64 s669.2.2) rfl rfl (by kernel_rfl) (hM798 4 rfl) (fun w_ => .inl ⟨rfl, by exact r_mv (v := .int .i64 s669.2.2) h9_⟩) (listed' := (List.toArray [true, true, true, true, true, false, false, false, false, false, false, false, false, false])) rfl ?_
                obtain ⟨⟨h0_799, h1_800⟩, h⟩ := h
                obtain ⟨Ad801, c802, hv803⟩ := sl_form (hC.getP 0 rfl) s669.2.2.toNat (show s669.2.2.toNat < a1.terms.length by omega)
                refine ae_look 5 (.pointer (some (Ad801.add (s669.2.2.toNat * 9)))) rfl rfl (by kernel_rfl) (hM797 5 rfl) (fun w_ hB_ => .inl ⟨rfl, by exact r_iaddrS (len := a1.terms.length) Try.underlying49 ag93.size (by exact tr rfl hv803) rfl h0_799 h1_800⟩) (listed' := (List.toArray [true, true, true, true, true, true, false, false, false, false, false, false, false, false])) rfl ?_
                refine ae_lookF 6 (.pointer (some (Ad801.add (s669.2.2.toNat * 9 + 0)))) rfl rfl (by kernel_rfl) (hM798 6 rfl) (fun w_ => .inl ⟨rfl, by exact r_faddrS (s669.2.2.toNat * 9 + 0) Try.underlying93 rfl ag24.size rfl rfl⟩) (listed' := (List.toArray [true, true, true, true, true, true, true, false, false, false, false, false, false, false])) rfl ?_
                refine ae_look 7 (.agg (List.toArray (A8.enc .u8 ((a1.terms.getD s669.2.2.toNat default).mono)))) rfl rfl (by kernel_rfl) (hM797 7 rfl) (fun w_ hB_ => .inl ⟨rfl, by exact r_loadCA (A8.enc .u8 ((a1.terms.getD s669.2.2.toNat default).mono)) (cells_subS (o := 0) (k := 8) (sl_cellsE ((hC.grow hB_).getP 0 rfl) hv803 s669.2.2.toNat (show s669.2.2.toNat < a1.terms.length by omega)) rfl) ag24 rfl rfl⟩) (listed' := (List.toArray [true, true, true, true, true, true, true, true, false, false, false, false, false, false])) rfl ?_
                refine ae_lookF 8 (.int .i64 r793) rfl rfl (by kernel_rfl) (hM798 8 rfl) (fun w_ => .inl ⟨rfl, by exact r_mv (v := .int .i64 r793) rfl⟩) (listed' := (List.toArray [true, true, true, true, true, true, true, true, true, false, false, false, false, false])) rfl ?_
                refine ae_look 9 (.agg (List.toArray (Term.enc (⟨(a1.terms.getD s669.2.2.toNat default).mono, r793⟩ : Term)))) rfl rfl (by kernel_rfl) (hM797 9 rfl) (fun w_ hB_ => .inl ⟨rfl, by exact r_build [(0, .agg (List.toArray (A8.enc .u8 ((a1.terms.getD s669.2.2.toNat default).mono)))), (1, .int .i64 r793)] rfl (bl93_0flat_1int ((a1.terms.getD s669.2.2.toNat default).mono) r793  _)⟩) (listed' := (List.toArray [true, true, true, true, true, true, true, true, true, true, false, false, false, false])) rfl ?_
                refine ae_one 10 rfl (by kernel_rfl) ?_
                refine s_bslice (sz := 9) hC [(0, .agg (List.toArray (Term.enc (⟨(a1.terms.getD s669.2.2.toNat default).mono, r793⟩ : Term))))] (ETerm.encs [(⟨(a1.terms.getD s669.2.2.toNat default).mono, r793⟩ : Term)]) rfl (fun _ => bs49_1 (⟨(a1.terms.getD s669.2.2.toNat default).mono, r793⟩ : Term) _) rfl (by decide) fun b804 w805 hB_ hC => ?_
                refine done ?_
                refine ak_intro (by assumption) (listed' := (List.toArray [true, true, true, true, true, true, true, true, true, true, true, false, false, false])) rfl ?_
                refine ae_tail 11 (by decide) (by decide) (by kernel_rfl) rfl rfl ?_
                obtain ⟨hm809, h⟩ := h
                refine s_app hC 1 Try.underlying49 el93 rfl (by decide) (by decide) rfl (own_rdr (hC.getM 0 rfl)) (fun q hq => Enc.encs_one' (E := ETerm) _ q hq) rfl rfl hm809 fun v807 w808 hC => ?_
                replace hC := own_re hC 1 ((s669.1 ++ [(⟨(a1.terms.getD s669.2.2.toNat default).mono, r793⟩ : Term)]).length) (ETerm.encs (s669.1 ++ [(⟨(a1.terms.getD s669.2.2.toNat default).mono, r793⟩ : Term)])) rfl (by simp) (by first | (simp [Enc.encs_append]; done) | simp [Enc.encs_append, Enc.encs])
                refine s_faddrB 0 Try.underlying51 rfl sc49.size h7_ rfl ?_
                refine s_store (v := v807) hC 2 [v807] [v807] rfl sc49.size rfl rfl (own_cellsV (hC.getM 1 rfl)) rfl (all_c (own_oneC (hC.getM 1 rfl)) rfl) (Nat.le_of_ble_eq_true rfl) rfl fun w810 hC => ?_
                refine done ?_
                refine qn_norm ?_
                refine then_norm ?_
                refine cw_region ?_
                refine s_mv (v := .int .i64 s669.2.2) h9_ ?_
                refine s_add rfl rfl ?_
                refine s_as (v := .int .i64 (IntKind.i64.wrap (s669.2.2 + 1))) rfl ?_
                refine done ?_
                refine blk_norm ?_
                refine blk_norm ?_
                replace hC := hC.sel [1, 2, 3, 4, 5] [0, 1, 2, 3] (M' := [own 93 9 v807 ((s669.1 ++ [(⟨(a1.terms.getD s669.2.2.toNat default).mono, r793⟩ : Term)]).length) (ETerm.encs (s669.1 ++ [(⟨(a1.terms.getD s669.2.2.toNat default).mono, r793⟩ : Term)])), blk b16 51 [v807], blk b13 51 [.slice none 0 0], blk b10 51 [u1_0], blk b7 51 [u0_0]]) (Ps' := [Ty.item ETerm.ty.sl a1.terms [u1_0] fp1, Ty.item ETerm.ty.sl a0.terms [u0_0] fp0, Ty.item TForm a0 [u0_0] fp0, Ty.item TForm a1 [u1_0] fp1]) (by decide) rfl rfl
                exact hK674 (s669.1 ++ [(⟨(a1.terms.getD s669.2.2.toNat default).mono, r793⟩ : Term)], s669.2.1, IntKind.i64.wrap (s669.2.2 + 1)) _ _ ⟨v807, h2_, h3_, h4_, h6_, h7_, h8_, rfl, hC⟩ h
              · replace h := iff_ h (cf hb795)
                refine wp_skip ?_
                refine then_norm ?_
                refine cw_region ?_
                refine s_mv (v := .int .i64 s669.2.2) h9_ ?_
                refine s_add rfl rfl ?_
                refine s_as (v := .int .i64 (IntKind.i64.wrap (s669.2.2 + 1))) rfl ?_
                refine done ?_
                refine blk_norm ?_
                refine blk_norm ?_
                exact hK674 (s669.1, s669.2.1, IntKind.i64.wrap (s669.2.2 + 1)) _ _ ⟨v670, h2_, h3_, h4_, h6_, h7_, h8_, rfl, hC⟩ h
            · replace h := iff_ h (ne_t hb784)
              refine wp_seq ?_
              refine wp_seq ?_
              refine cw_draw 15 mixed [0, 1, 0, 7, 15, 31, 0, 0, 128, 0, 896, 1920, 3968, 8128, 16320, 32767, 65535, 131071] [1, 3, 5, 8, 10, 12] [0, 2, 4, 6, 7, 9, 11, 13] (by kernel_rfl) (by kernel_rfl) (by kernel_rfl) (fun hM812 hM813 w811 hB_ => ?_)
              replace hC := hC.grow hB_
              refine ae_lookF 0 (.pointer (some ⟨b7, 0, none⟩)) rfl rfl (by kernel_rfl) (hM813 0 rfl) (fun w_ => .inl ⟨rfl, by exact r_faddrB 0 Try.underlying51 rfl sc49.size h3_ rfl⟩) (listed' := (List.toArray [true, false, false, false, false, false, false, false, false, false, false, false, false, false, false, false, false, false])) rfl ?_
              refine ae_look 1 (u0_0) rfl rfl (by kernel_rfl) (hM812 1 rfl) (fun w_ hB_ => .inl ⟨rfl, by exact r_loadS (hC.grow hB_) 4 (u0_0) rfl sc49 rfl rfl⟩) (listed' := (List.toArray [true, true, false, false, false, false, false, false, false, false, false, false, false, false, false, false, false, false])) rfl ?_
              refine ae_lookF 2 (.int .i64 s669.2.1) rfl rfl (by kernel_rfl) (hM813 2 rfl) (fun w_ => .inl ⟨rfl, by exact r_mv (v := .int .i64 s669.2.1) h8_⟩) (listed' := (List.toArray [true, true, true, false, false, false, false, false, false, false, false, false, false, false, false, false, false, false])) rfl ?_
              obtain ⟨⟨h0_814, h1_815⟩, h⟩ := h
              obtain ⟨Ad816, c817, hv818⟩ := sl_form (hC.getP 1 rfl) s669.2.1.toNat (show s669.2.1.toNat < a0.terms.length by omega)
              refine ae_look 3 (.pointer (some (Ad816.add (s669.2.1.toNat * 9)))) rfl rfl (by kernel_rfl) (hM812 3 rfl) (fun w_ hB_ => .inl ⟨rfl, by exact r_iaddrS (len := a0.terms.length) Try.underlying49 ag93.size (by exact tr rfl hv818) rfl h0_814 h1_815⟩) (listed' := (List.toArray [true, true, true, true, false, false, false, false, false, false, false, false, false, false, false, false, false, false])) rfl ?_
              refine ae_lookF 4 (.pointer (some (Ad816.add (s669.2.1.toNat * 9 + 8)))) rfl rfl (by kernel_rfl) (hM813 4 rfl) (fun w_ => .inl ⟨rfl, by exact r_faddrS (s669.2.1.toNat * 9 + 8) Try.underlying93 rfl sc2.size rfl rfl⟩) (listed' := (List.toArray [true, true, true, true, true, false, false, false, false, false, false, false, false, false, false, false, false, false])) rfl ?_
              refine ae_look 5 (.int .i64 ((a0.terms.getD s669.2.1.toNat default).factor)) rfl rfl (by kernel_rfl) (hM812 5 rfl) (fun w_ hB_ => .inl ⟨rfl, by exact r_loadCS (.int .i64 ((a0.terms.getD s669.2.1.toNat default).factor)) (cells_subS (o := 8) (k := 1) (sl_cellsE ((hC.grow hB_).getP 1 rfl) hv818 s669.2.1.toNat (show s669.2.1.toNat < a0.terms.length by omega)) rfl) sc2 rfl⟩) (listed' := (List.toArray [true, true, true, true, true, true, false, false, false, false, false, false, false, false, false, false, false, false])) rfl ?_
              refine ae_lookF 6 (.int .i64 a2) rfl rfl (by kernel_rfl) (hM813 6 rfl) (fun w_ => .inl ⟨rfl, by exact r_mv (v := .int .i64 a2) h2_⟩) (listed' := (List.toArray [true, true, true, true, true, true, true, false, false, false, false, false, false, false, false, false, false, false])) rfl ?_
              refine ae_lookF 7 (.pointer (some ⟨b10, 0, none⟩)) rfl rfl (by kernel_rfl) (hM813 7 rfl) (fun w_ => .inl ⟨rfl, by exact r_faddrB 0 Try.underlying51 rfl sc49.size h4_ rfl⟩) (listed' := (List.toArray [true, true, true, true, true, true, true, true, false, false, false, false, false, false, false, false, false, false])) rfl ?_
              refine ae_look 8 (u1_0) rfl rfl (by kernel_rfl) (hM812 8 rfl) (fun w_ hB_ => .inl ⟨rfl, by exact r_loadS (hC.grow hB_) 3 (u1_0) rfl sc49 rfl rfl⟩) (listed' := (List.toArray [true, true, true, true, true, true, true, true, true, false, false, false, false, false, false, false, false, false])) rfl ?_
              refine ae_lookF 9 (.int .i64 s669.2.2) rfl rfl (by kernel_rfl) (hM813 9 rfl) (fun w_ => .inl ⟨rfl, by exact r_mv (v := .int .i64 s669.2.2) h9_⟩) (listed' := (List.toArray [true, true, true, true, true, true, true, true, true, true, false, false, false, false, false, false, false, false])) rfl ?_
              obtain ⟨⟨h0_819, h1_820⟩, h⟩ := h
              obtain ⟨Ad821, c822, hv823⟩ := sl_form (hC.getP 0 rfl) s669.2.2.toNat (show s669.2.2.toNat < a1.terms.length by omega)
              refine ae_look 10 (.pointer (some (Ad821.add (s669.2.2.toNat * 9)))) rfl rfl (by kernel_rfl) (hM812 10 rfl) (fun w_ hB_ => .inl ⟨rfl, by exact r_iaddrS (len := a1.terms.length) Try.underlying49 ag93.size (by exact tr rfl hv823) rfl h0_819 h1_820⟩) (listed' := (List.toArray [true, true, true, true, true, true, true, true, true, true, true, false, false, false, false, false, false, false])) rfl ?_
              refine ae_lookF 11 (.pointer (some (Ad821.add (s669.2.2.toNat * 9 + 8)))) rfl rfl (by kernel_rfl) (hM813 11 rfl) (fun w_ => .inl ⟨rfl, by exact r_faddrS (s669.2.2.toNat * 9 + 8) Try.underlying93 rfl sc2.size rfl rfl⟩) (listed' := (List.toArray [true, true, true, true, true, true, true, true, true, true, true, true, false, false, false, false, false, false])) rfl ?_
              refine ae_look 12 (.int .i64 ((a1.terms.getD s669.2.2.toNat default).factor)) rfl rfl (by kernel_rfl) (hM812 12 rfl) (fun w_ hB_ => .inl ⟨rfl, by exact r_loadCS (.int .i64 ((a1.terms.getD s669.2.2.toNat default).factor)) (cells_subS (o := 8) (k := 1) (sl_cellsE ((hC.grow hB_).getP 0 rfl) hv823 s669.2.2.toNat (show s669.2.2.toNat < a1.terms.length by omega)) rfl) sc2 rfl⟩) (listed' := (List.toArray [true, true, true, true, true, true, true, true, true, true, true, true, true, false, false, false, false, false])) rfl ?_
              refine ae_lookF 13 (.int .i64 (IntKind.i64.wrap (a2 * ((a1.terms.getD s669.2.2.toNat default).factor)))) rfl rfl (by kernel_rfl) (hM813 13 rfl) (fun w_ => .inl ⟨rfl, by exact r_mul rfl rfl⟩) (listed' := (List.toArray [true, true, true, true, true, true, true, true, true, true, true, true, true, true, false, false, false, false])) rfl ?_
              refine ae_one 14 rfl (by kernel_rfl) ?_
              refine s_call [.int .i64 (IntKind.i64.wrap (a2 * ((a1.terms.getD s669.2.2.toNat default).factor)))] _ Try.func119 rfl rfl rfl (c_spec_l01Mod (IntKind.i64.wrap (a2 * ((a1.terms.getD s669.2.2.toNat default).factor))) h _) (fun ret824 w826 hR825 => ?_)
              obtain ⟨r827, rfl, h, hB828⟩ := hR825
              refine ⟨_, rfl, ?_⟩
              replace hC := hC.grow hB828
              refine done ?_
              refine ak_intro (by assumption) (listed' := (List.toArray [true, true, true, true, true, true, true, true, true, true, true, true, true, true, true, false, false, false])) rfl ?_
              refine ae_tail 15 (by decide) (by decide) (by kernel_rfl) rfl rfl ?_
              refine s_add rfl rfl ?_
              refine s_call [.int .i64 (IntKind.i64.wrap (((a0.terms.getD s669.2.1.toNat default).factor) + r827))] _ Try.func119 rfl rfl rfl (c_spec_l01Mod (IntKind.i64.wrap (((a0.terms.getD s669.2.1.toNat default).factor) + r827)) h _) (fun ret829 w831 hR830 => ?_)
              obtain ⟨r832, rfl, h, hB833⟩ := hR830
              refine ⟨_, rfl, ?_⟩
              replace hC := hC.grow hB833
              refine s_as (v := .int .i64 r832) rfl ?_
              refine done ?_
              refine qn_norm ?_
              refine then_norm ?_
              refine wp_seq ?_
              refine cw_region ?_
              refine s_mv (v := .int .i64 r832) rfl ?_
              refine s_neq rfl rfl ?_
              refine done ?_
              refine then_norm ?_
              refine cw_cond rfl (fun hb834 => ?_) (fun hb834 => ?_)
              · replace h := ift h (ct hb834)
                refine cw_draw 11 mixed [0, 1, 0, 4, 0, 28, 60, 124, 0, 508, 1020, 2047, 4095, 8191] [1, 3, 5, 7, 9] [0, 2, 4, 6, 8] (by kernel_rfl) (by kernel_rfl) (by kernel_rfl) (fun hM836 hM837 w835 hB_ => ?_)
                replace hC := hC.grow hB_
                refine ae_lookF 0 (.pointer (some ⟨b16, 0, none⟩)) rfl rfl (by kernel_rfl) (hM837 0 rfl) (fun w_ => .inl ⟨rfl, by exact r_faddrB 0 Try.underlying51 rfl sc49.size h7_ rfl⟩) (listed' := (List.toArray [true, false, false, false, false, false, false, false, false, false, false, false, false, false])) rfl ?_
                refine ae_look 1 (v670) rfl rfl (by kernel_rfl) (hM836 1 rfl) (fun w_ hB_ => .inl ⟨rfl, by exact r_loadS (hC.grow hB_) 1 (v670) rfl sc49 rfl rfl⟩) (listed' := (List.toArray [true, true, false, false, false, false, false, false, false, false, false, false, false, false])) rfl ?_
                refine ae_lookF 2 (.pointer (some ⟨b7, 0, none⟩)) rfl rfl (by kernel_rfl) (hM837 2 rfl) (fun w_ => .inl ⟨rfl, by exact r_faddrB 0 Try.underlying51 rfl sc49.size h3_ rfl⟩) (listed' := (List.toArray [true, true, true, false, false, false, false, false, false, false, false, false, false, false])) rfl ?_
                refine ae_look 3 (u0_0) rfl rfl (by kernel_rfl) (hM836 3 rfl) (fun w_ hB_ => .inl ⟨rfl, by exact r_loadS (hC.grow hB_) 4 (u0_0) rfl sc49 rfl rfl⟩) (listed' := (List.toArray [true, true, true, true, false, false, false, false, false, false, false, false, false, false])) rfl ?_
                refine ae_lookF 4 (.int .i64 s669.2.1) rfl rfl (by kernel_rfl) (hM837 4 rfl) (fun w_ => .inl ⟨rfl, by exact r_mv (v := .int .i64 s669.2.1) h8_⟩) (listed' := (List.toArray [true, true, true, true, true, false, false, false, false, false, false, false, false, false])) rfl ?_
                obtain ⟨⟨h0_838, h1_839⟩, h⟩ := h
                obtain ⟨Ad840, c841, hv842⟩ := sl_form (hC.getP 1 rfl) s669.2.1.toNat (show s669.2.1.toNat < a0.terms.length by omega)
                refine ae_look 5 (.pointer (some (Ad840.add (s669.2.1.toNat * 9)))) rfl rfl (by kernel_rfl) (hM836 5 rfl) (fun w_ hB_ => .inl ⟨rfl, by exact r_iaddrS (len := a0.terms.length) Try.underlying49 ag93.size (by exact tr rfl hv842) rfl h0_838 h1_839⟩) (listed' := (List.toArray [true, true, true, true, true, true, false, false, false, false, false, false, false, false])) rfl ?_
                refine ae_lookF 6 (.pointer (some (Ad840.add (s669.2.1.toNat * 9 + 0)))) rfl rfl (by kernel_rfl) (hM837 6 rfl) (fun w_ => .inl ⟨rfl, by exact r_faddrS (s669.2.1.toNat * 9 + 0) Try.underlying93 rfl ag24.size rfl rfl⟩) (listed' := (List.toArray [true, true, true, true, true, true, true, false, false, false, false, false, false, false])) rfl ?_
                refine ae_look 7 (.agg (List.toArray (A8.enc .u8 ((a0.terms.getD s669.2.1.toNat default).mono)))) rfl rfl (by kernel_rfl) (hM836 7 rfl) (fun w_ hB_ => .inl ⟨rfl, by exact r_loadCA (A8.enc .u8 ((a0.terms.getD s669.2.1.toNat default).mono)) (cells_subS (o := 0) (k := 8) (sl_cellsE ((hC.grow hB_).getP 1 rfl) hv842 s669.2.1.toNat (show s669.2.1.toNat < a0.terms.length by omega)) rfl) ag24 rfl rfl⟩) (listed' := (List.toArray [true, true, true, true, true, true, true, true, false, false, false, false, false, false])) rfl ?_
                refine ae_lookF 8 (.int .i64 r832) rfl rfl (by kernel_rfl) (hM837 8 rfl) (fun w_ => .inl ⟨rfl, by exact r_mv (v := .int .i64 r832) rfl⟩) (listed' := (List.toArray [true, true, true, true, true, true, true, true, true, false, false, false, false, false])) rfl ?_
                refine ae_look 9 (.agg (List.toArray (Term.enc (⟨(a0.terms.getD s669.2.1.toNat default).mono, r832⟩ : Term)))) rfl rfl (by kernel_rfl) (hM836 9 rfl) (fun w_ hB_ => .inl ⟨rfl, by exact r_build [(0, .agg (List.toArray (A8.enc .u8 ((a0.terms.getD s669.2.1.toNat default).mono)))), (1, .int .i64 r832)] rfl (bl93_0flat_1int ((a0.terms.getD s669.2.1.toNat default).mono) r832  _)⟩) (listed' := (List.toArray [true, true, true, true, true, true, true, true, true, true, false, false, false, false])) rfl ?_
                refine ae_one 10 rfl (by kernel_rfl) ?_
                refine s_bslice (sz := 9) hC [(0, .agg (List.toArray (Term.enc (⟨(a0.terms.getD s669.2.1.toNat default).mono, r832⟩ : Term))))] (ETerm.encs [(⟨(a0.terms.getD s669.2.1.toNat default).mono, r832⟩ : Term)]) rfl (fun _ => bs49_1 (⟨(a0.terms.getD s669.2.1.toNat default).mono, r832⟩ : Term) _) rfl (by decide) fun b843 w844 hB_ hC => ?_
                refine done ?_
                refine ak_intro (by assumption) (listed' := (List.toArray [true, true, true, true, true, true, true, true, true, true, true, false, false, false])) rfl ?_
                refine ae_tail 11 (by decide) (by decide) (by kernel_rfl) rfl rfl ?_
                obtain ⟨hm848, h⟩ := h
                refine s_app hC 1 Try.underlying49 el93 rfl (by decide) (by decide) rfl (own_rdr (hC.getM 0 rfl)) (fun q hq => Enc.encs_one' (E := ETerm) _ q hq) rfl rfl hm848 fun v846 w847 hC => ?_
                replace hC := own_re hC 1 ((s669.1 ++ [(⟨(a0.terms.getD s669.2.1.toNat default).mono, r832⟩ : Term)]).length) (ETerm.encs (s669.1 ++ [(⟨(a0.terms.getD s669.2.1.toNat default).mono, r832⟩ : Term)])) rfl (by simp) (by first | (simp [Enc.encs_append]; done) | simp [Enc.encs_append, Enc.encs])
                refine s_faddrB 0 Try.underlying51 rfl sc49.size h7_ rfl ?_
                refine s_store (v := v846) hC 2 [v846] [v846] rfl sc49.size rfl rfl (own_cellsV (hC.getM 1 rfl)) rfl (all_c (own_oneC (hC.getM 1 rfl)) rfl) (Nat.le_of_ble_eq_true rfl) rfl fun w849 hC => ?_
                refine done ?_
                refine qn_norm ?_
                refine then_norm ?_
                refine wp_seq ?_
                refine cw_region ?_
                refine s_mv (v := .int .i64 s669.2.1) h8_ ?_
                refine s_add rfl rfl ?_
                refine s_as (v := .int .i64 (IntKind.i64.wrap (s669.2.1 + 1))) rfl ?_
                refine done ?_
                refine then_norm ?_
                refine cw_region ?_
                refine s_mv (v := .int .i64 s669.2.2) h9_ ?_
                refine s_add rfl rfl ?_
                refine s_as (v := .int .i64 (IntKind.i64.wrap (s669.2.2 + 1))) rfl ?_
                refine done ?_
                refine blk_norm ?_
                refine blk_norm ?_
                replace hC := hC.sel [1, 2, 3, 4, 5] [0, 1, 2, 3] (M' := [own 93 9 v846 ((s669.1 ++ [(⟨(a0.terms.getD s669.2.1.toNat default).mono, r832⟩ : Term)]).length) (ETerm.encs (s669.1 ++ [(⟨(a0.terms.getD s669.2.1.toNat default).mono, r832⟩ : Term)])), blk b16 51 [v846], blk b13 51 [.slice none 0 0], blk b10 51 [u1_0], blk b7 51 [u0_0]]) (Ps' := [Ty.item ETerm.ty.sl a1.terms [u1_0] fp1, Ty.item ETerm.ty.sl a0.terms [u0_0] fp0, Ty.item TForm a0 [u0_0] fp0, Ty.item TForm a1 [u1_0] fp1]) (by decide) rfl rfl
                exact hK674 (s669.1 ++ [(⟨(a0.terms.getD s669.2.1.toNat default).mono, r832⟩ : Term)], IntKind.i64.wrap (s669.2.1 + 1), IntKind.i64.wrap (s669.2.2 + 1)) _ _ ⟨v846, h2_, h3_, h4_, h6_, h7_, rfl, rfl, hC⟩ h
              · replace h := iff_ h (cf hb834)
                refine wp_skip ?_
                refine then_norm ?_
                refine wp_seq ?_
                refine cw_region ?_
                refine s_mv (v := .int .i64 s669.2.1) h8_ ?_
                refine s_add rfl rfl ?_
                refine s_as (v := .int .i64 (IntKind.i64.wrap (s669.2.1 + 1))) rfl ?_
                refine done ?_
                refine then_norm ?_
                refine cw_region ?_
                refine s_mv (v := .int .i64 s669.2.2) h9_ ?_
                refine s_add rfl rfl ?_
                refine s_as (v := .int .i64 (IntKind.i64.wrap (s669.2.2 + 1))) rfl ?_
                refine done ?_
                refine blk_norm ?_
                refine blk_norm ?_
                exact hK674 (s669.1, IntKind.i64.wrap (s669.2.1 + 1), IntKind.i64.wrap (s669.2.2 + 1)) _ _ ⟨v670, h2_, h3_, h4_, h6_, h7_, rfl, rfl, hC⟩ h
    · replace h := iff_ h (cf hb679)
      refine guardOn 5 18 rfl rfl hb679 ?_
      refine s_mv (v := .int .i64 s669.2.2) h9_ ?_
      refine guardOn 5 18 rfl rfl hb679 ?_
      refine s_faddrB 0 Try.underlying51 rfl sc49.size h4_ rfl ?_
      refine guardOn 5 18 rfl rfl hb679 ?_
      refine s_loadS hC 3 (u1_0) rfl sc49 rfl rfl ?_
      refine guardOn 5 18 rfl rfl hb679 ?_
      obtain ⟨Ad850, c851, hv852⟩ := sl_len (hC.getP 0 rfl)
      refine s_len Try.underlying49 (tr rfl hv852) ?_
      refine guardOn 5 18 rfl rfl hb679 ?_
      refine s_lss rfl rfl ?_
      refine s_pick (v := .bool (decide (s669.2.2 < (a1.terms.length : Int)))) (b := false) (tr rfl (congrArg _ hb679)) rfl ?_
      refine done ?_
      refine then_norm ?_
      refine cw_cond rfl (fun hb853 => ?_) (fun hb853 => ?_)
      · replace h := ift h (ct hb853)
        refine wp_skip ?_
        refine then_norm ?_
        refine wp_block ?_
        refine wp_block ?_
        refine wp_seq ?_
        refine cw_draw 24 mixed [0, 0, 2, 6, 15, 31, 63, 63, 191, 447, 1023, 2047, 4095, 8191, 4095, 32767, 65535, 131071, 4095, 266239, 4095, 1839103, 3936255, 8130559, 16777215, 33554431, 67108863, 134217727] [2, 3, 8, 9] [0, 1, 4, 5, 6, 7, 8, 9, 10, 11, 12, 13, 14, 15, 16, 17, 18, 19, 20, 21, 22, 23] (by kernel_rfl) (by kernel_rfl) (by kernel_rfl) (fun hM855 hM856 w854 hB_ => ?_)
        replace hC := hC.grow hB_
        refine ae_lookF 0 (.int .i64 s669.2.2) rfl rfl (by kernel_rfl) (hM856 0 rfl) (fun w_ => .inl ⟨rfl, by exact r_mv (v := .int .i64 s669.2.2) h9_⟩) (listed' := (List.toArray [true, false, false, false, false, false, false, false, false, false, false, false, false, false, false, false, false, false, false, false, false, false, false, false, false, false, false, false])) rfl ?_
        refine ae_lookF 1 (.pointer (some ⟨b10, 0, none⟩)) rfl rfl (by kernel_rfl) (hM856 1 rfl) (fun w_ => .inl ⟨rfl, by exact r_faddrB 0 Try.underlying51 rfl sc49.size h4_ rfl⟩) (listed' := (List.toArray [true, true, false, false, false, false, false, false, false, false, false, false, false, false, false, false, false, false, false, false, false, false, false, false, false, false, false, false])) rfl ?_
        refine ae_look 2 (u1_0) rfl rfl (by kernel_rfl) (hM855 2 rfl) (fun w_ hB_ => .inl ⟨rfl, by exact r_loadS (hC.grow hB_) 3 (u1_0) rfl sc49 rfl rfl⟩) (listed' := (List.toArray [true, true, true, false, false, false, false, false, false, false, false, false, false, false, false, false, false, false, false, false, false, false, false, false, false, false, false, false])) rfl ?_
        obtain ⟨Ad857, c858, hv859⟩ := sl_len (hC.getP 0 rfl)
        refine ae_look 3 (.int .i64 (a1.terms.length : Int)) rfl rfl (by kernel_rfl) (hM855 3 rfl) (fun w_ hB_ => .inl ⟨rfl, by exact r_len Try.underlying49 (by exact tr rfl hv859)⟩) (listed' := (List.toArray [true, true, true, true, false, false, false, false, false, false, false, false, false, false, false, false, false, false, false, false, false, false, false, false, false, false, false, false])) rfl ?_
        refine ae_lookF 4 (.bool (decide (s669.2.2 = (a1.terms.length : Int)))) rfl rfl (by kernel_rfl) (hM856 4 rfl) (fun w_ => .inl ⟨rfl, by exact r_eql rfl rfl⟩) (listed' := (List.toArray [true, true, true, true, true, false, false, false, false, false, false, false, false, false, false, false, false, false, false, false, false, false, false, false, false, false, false, false])) rfl ?_
        refine ae_lookF 5 (.bool (decide (s669.2.2 = (a1.terms.length : Int)))) rfl rfl (by kernel_rfl) (hM856 5 rfl) (fun w_ => .inl ⟨rfl, by exact r_mv (v := .bool (decide (s669.2.2 = (a1.terms.length : Int)))) rfl⟩) (listed' := (List.toArray [true, true, true, true, true, true, false, false, false, false, false, false, false, false, false, false, false, false, false, false, false, false, false, false, false, false, false, false])) rfl ?_
        refine bsplit (decide (s669.2.2 = (a1.terms.length : Int))) (fun hb860 => ?_) (fun hb860 => ?_)
        · replace h := ift h (ct hb860)
          refine ae_lookF 6 undef rfl rfl (by kernel_rfl) (hM856 6 rfl) (fun w_ => .inr ⟨wanted_off (b := true) 5 67 rfl (tr rfl (congrArg _ hb860)) (by decide), rfl⟩) (listed' := (List.toArray [true, true, true, true, true, true, true, false, false, false, false, false, false, false, false, false, false, false, false, false, false, false, false, false, false, false, false, false])) rfl ?_
          refine ae_lookF 7 undef rfl rfl (by kernel_rfl) (hM856 7 rfl) (fun w_ => .inr ⟨wanted_off (b := true) 5 67 rfl (tr rfl (congrArg _ hb860)) (by decide), rfl⟩) (listed' := (List.toArray [true, true, true, true, true, true, true, true, false, false, false, false, false, false, false, false, false, false, false, false, false, false, false, false, false, false, false, false])) rfl ?_
          refine ae_lookF 8 undef rfl rfl (by kernel_rfl) (hM856 8 rfl) (fun w_ => .inr ⟨wanted_off (b := true) 5 67 rfl (tr rfl (congrArg _ hb860)) (by decide), rfl⟩) (listed' := (List.toArray [true, true, true, true, true, true, true, true, true, false, false, false, false, false, false, false, false, false, false, false, false, false, false, false, false, false, false, false])) rfl ?_
          refine ae_lookF 9 undef rfl rfl (by kernel_rfl) (hM856 9 rfl) (fun w_ => .inr ⟨wanted_off (b := true) 5 67 rfl (tr rfl (congrArg _ hb860)) (by decide), rfl⟩) (listed' := (List.toArray [true, true, true, true, true, true, true, true, true, true, false, false, false, false, false, false, false, false, false, false, false, false, false, false, false, false, false, false])) rfl ?_
          refine ae_lookF 10 undef rfl rfl (by kernel_rfl) (hM856 10 rfl) (fun w_ => .inr ⟨wanted_off (b := true) 5 67 rfl (tr rfl (congrArg _ hb860)) (by decide), rfl⟩) (listed' := (List.toArray [true, true, true, true, true, true, true, true, true, true, true, false, false, false, false, false, false, false, false, false, false, false, false, false, false, false, false, false])) rfl ?_
          refine ae_lookF 11 undef rfl rfl (by kernel_rfl) (hM856 11 rfl) (fun w_ => .inr ⟨wanted_off (b := true) 5 67 rfl (tr rfl (congrArg _ hb860)) (by decide), rfl⟩) (listed' := (List.toArray [true, true, true, true, true, true, true, true, true, true, true, true, false, false, false, false, false, false, false, false, false, false, false, false, false, false, false, false])) rfl ?_
          refine ae_lookF 12 undef rfl rfl (by kernel_rfl) (hM856 12 rfl) (fun w_ => .inr ⟨wanted_offU 11 73 rfl rfl, rfl⟩) (listed' := (List.toArray [true, true, true, true, true, true, true, true, true, true, true, true, true, false, false, false, false, false, false, false, false, false, false, false, false, false, false, false])) rfl ?_
          refine ae_lookF 13 undef rfl rfl (by kernel_rfl) (hM856 13 rfl) (fun w_ => .inr ⟨wanted_offU 11 73 rfl rfl, rfl⟩) (listed' := (List.toArray [true, true, true, true, true, true, true, true, true, true, true, true, true, true, false, false, false, false, false, false, false, false, false, false, false, false, false, false])) rfl ?_
          refine ae_lookF 14 undef rfl rfl (by kernel_rfl) (hM856 14 rfl) (fun w_ => .inr ⟨wanted_offU 11 73 rfl rfl, rfl⟩) (listed' := (List.toArray [true, true, true, true, true, true, true, true, true, true, true, true, true, true, true, false, false, false, false, false, false, false, false, false, false, false, false, false])) rfl ?_
          refine ae_lookF 15 undef rfl rfl (by kernel_rfl) (hM856 15 rfl) (fun w_ => .inr ⟨wanted_offU 11 73 rfl rfl, rfl⟩) (listed' := (List.toArray [true, true, true, true, true, true, true, true, true, true, true, true, true, true, true, true, false, false, false, false, false, false, false, false, false, false, false, false])) rfl ?_
          refine ae_lookF 16 undef rfl rfl (by kernel_rfl) (hM856 16 rfl) (fun w_ => .inr ⟨wanted_offU 11 73 rfl rfl, rfl⟩) (listed' := (List.toArray [true, true, true, true, true, true, true, true, true, true, true, true, true, true, true, true, true, false, false, false, false, false, false, false, false, false, false, false])) rfl ?_
          refine ae_lookF 17 undef rfl rfl (by kernel_rfl) (hM856 17 rfl) (fun w_ => .inr ⟨wanted_offU 11 73 rfl rfl, rfl⟩) (listed' := (List.toArray [true, true, true, true, true, true, true, true, true, true, true, true, true, true, true, true, true, true, false, false, false, false, false, false, false, false, false, false])) rfl ?_
          refine ae_lookF 18 undef rfl rfl (by kernel_rfl) (hM856 18 rfl) (fun w_ => .inr ⟨wanted_offU 11 73 rfl rfl, rfl⟩) (listed' := (List.toArray [true, true, true, true, true, true, true, true, true, true, true, true, true, true, true, true, true, true, true, false, false, false, false, false, false, false, false, false])) rfl ?_
          refine ae_lookF 19 undef rfl rfl (by kernel_rfl) (hM856 19 rfl) (fun w_ => .inr ⟨wanted_offU 11 73 rfl rfl, rfl⟩) (listed' := (List.toArray [true, true, true, true, true, true, true, true, true, true, true, true, true, true, true, true, true, true, true, true, false, false, false, false, false, false, false, false])) rfl ?_
          refine ae_lookF 20 undef rfl rfl (by kernel_rfl) (hM856 20 rfl) (fun w_ => .inr ⟨wanted_offU 11 73 rfl rfl, rfl⟩) (listed' := (List.toArray [true, true, true, true, true, true, true, true, true, true, true, true, true, true, true, true, true, true, true, true, true, false, false, false, false, false, false, false])) rfl ?_
          refine ae_lookF 21 undef rfl rfl (by kernel_rfl) (hM856 21 rfl) (fun w_ => .inr ⟨wanted_offU 11 73 rfl rfl, rfl⟩) (listed' := (List.toArray [true, true, true, true, true, true, true, true, true, true, true, true, true, true, true, true, true, true, true, true, true, true, false, false, false, false, false, false])) rfl ?_
          refine ae_lookF 22 undef rfl rfl (by kernel_rfl) (hM856 22 rfl) (fun w_ => .inr ⟨wanted_offU 11 73 rfl rfl, rfl⟩) (listed' := (List.toArray [true, true, true, true, true, true, true, true, true, true, true, true, true, true, true, true, true, true, true, true, true, true, true, false, false, false, false, false])) rfl ?_
          refine ae_lookF 23 undef rfl rfl (by kernel_rfl) (hM856 23 rfl) (fun w_ => .inr ⟨wanted_offU 11 73 rfl rfl, rfl⟩) (listed' := (List.toArray [true, true, true, true, true, true, true, true, true, true, true, true, true, true, true, true, true, true, true, true, true, true, true, true, false, false, false, false])) rfl ?_
          refine ae_tail 24 (by decide) (by decide) (by kernel_rfl) rfl rfl ?_
          refine guardOffU 11 73 rfl rfl ?_
          refine guardOff (b := true) 5 67 rfl (tr rfl (congrArg _ hb860)) (by decide) ?_
          refine s_pick (v := .bool true) (b := true) (tr rfl (congrArg _ hb860)) rfl ?_
          refine s_as (v := .bool true) rfl ?_
          refine done ?_
          refine qn_norm ?_
          refine then_norm ?_
          refine cw_true rfl rfl ?_
          refine wp_seq ?_
          refine cw_draw 8 mixed [0, 1, 0, 4, 0, 28, 60, 124, 255, 511, 1023] [1, 3, 5, 6] [0, 2, 4] (by kernel_rfl) (by kernel_rfl) (by kernel_rfl) (fun hM862 hM863 w861 hB_ => ?_)
          replace hC := hC.grow hB_
          refine ae_lookF 0 (.pointer (some ⟨b16, 0, none⟩)) rfl rfl (by kernel_rfl) (hM863 0 rfl) (fun w_ => .inl ⟨rfl, by exact r_faddrB 0 Try.underlying51 rfl sc49.size h7_ rfl⟩) (listed' := (List.toArray [true, false, false, false, false, false, false, false, false, false, false])) rfl ?_
          refine ae_look 1 (v670) rfl rfl (by kernel_rfl) (hM862 1 rfl) (fun w_ hB_ => .inl ⟨rfl, by exact r_loadS (hC.grow hB_) 1 (v670) rfl sc49 rfl rfl⟩) (listed' := (List.toArray [true, true, false, false, false, false, false, false, false, false, false])) rfl ?_
          refine ae_lookF 2 (.pointer (some ⟨b7, 0, none⟩)) rfl rfl (by kernel_rfl) (hM863 2 rfl) (fun w_ => .inl ⟨rfl, by exact r_faddrB 0 Try.underlying51 rfl sc49.size h3_ rfl⟩) (listed' := (List.toArray [true, true, true, false, false, false, false, false, false, false, false])) rfl ?_
          refine ae_look 3 (u0_0) rfl rfl (by kernel_rfl) (hM862 3 rfl) (fun w_ hB_ => .inl ⟨rfl, by exact r_loadS (hC.grow hB_) 4 (u0_0) rfl sc49 rfl rfl⟩) (listed' := (List.toArray [true, true, true, true, false, false, false, false, false, false, false])) rfl ?_
          refine ae_lookF 4 (.int .i64 s669.2.1) rfl rfl (by kernel_rfl) (hM863 4 rfl) (fun w_ => .inl ⟨rfl, by exact r_mv (v := .int .i64 s669.2.1) h8_⟩) (listed' := (List.toArray [true, true, true, true, true, false, false, false, false, false, false])) rfl ?_
          obtain ⟨⟨h0_864, h1_865⟩, h⟩ := h
          obtain ⟨Ad866, c867, hv868⟩ := sl_form (hC.getP 1 rfl) s669.2.1.toNat (show s669.2.1.toNat < a0.terms.length by omega)
          refine ae_look 5 (.pointer (some (Ad866.add (s669.2.1.toNat * 9)))) rfl rfl (by kernel_rfl) (hM862 5 rfl) (fun w_ hB_ => .inl ⟨rfl, by exact r_iaddrS (len := a0.terms.length) Try.underlying49 ag93.size (by exact tr rfl hv868) rfl h0_864 h1_865⟩) (listed' := (List.toArray [true, true, true, true, true, true, false, false, false, false, false])) rfl ?_
          refine ae_look 6 (.agg (List.toArray (Term.enc (a0.terms.getD s669.2.1.toNat default)))) rfl rfl (by kernel_rfl) (hM862 6 rfl) (fun w_ hB_ => .inl ⟨rfl, by exact r_loadCA (Term.enc (a0.terms.getD s669.2.1.toNat default)) (sl_cellsE ((hC.grow hB_).getP 1 rfl) hv868 s669.2.1.toNat (show s669.2.1.toNat < a0.terms.length by omega)) ag93 rfl rfl⟩) (listed' := (List.toArray [true, true, true, true, true, true, true, false, false, false, false])) rfl ?_
          refine ae_one 7 rfl (by kernel_rfl) ?_
          refine s_bslice (sz := 9) hC [(0, .agg (List.toArray (Term.enc (a0.terms.getD s669.2.1.toNat default))))] (ETerm.encs [a0.terms.getD s669.2.1.toNat default]) rfl (fun _ => bs49_1 (a0.terms.getD s669.2.1.toNat default) _) rfl (by decide) fun b869 w870 hB_ hC => ?_
          refine done ?_
          refine ak_intro (by assumption) (listed' := (List.toArray [true, true, true, true, true, true, true, true, false, false, false])) rfl ?_
          refine ae_tail 8 (by decide) (by decide) (by kernel_rfl) rfl rfl ?_
          obtain ⟨hm874, h⟩ := h
          refine s_app hC 1 Try.underlying49 el93 rfl (by decide) (by decide) rfl (own_rdr (hC.getM 0 rfl)) (fun q hq => Enc.encs_one' (E := ETerm) _ q hq) rfl rfl hm874 fun v872 w873 hC => ?_
          replace hC := own_re hC 1 ((s669.1 ++ [a0.terms.getD s669.2.1.toNat default]).length) (ETerm.encs (s669.1 ++ [a0.terms.getD s669.2.1.toNat default])) rfl (by simp) (by first | (simp [Enc.encs_append]; done) | simp [Enc.encs_append, Enc.encs])
          refine s_faddrB 0 Try.underlying51 rfl sc49.size h7_ rfl ?_
          refine s_store (v := v872) hC 2 [v872] [v872] rfl sc49.size rfl rfl (own_cellsV (hC.getM 1 rfl)) rfl (all_c (own_oneC (hC.getM 1 rfl)) rfl) (Nat.le_of_ble_eq_true rfl) rfl fun w875 hC => ?_
          refine done ?_
          refine qn_norm ?_
          refine then_norm ?_
          refine cw_region ?_
          refine s_mv (v := .int .i64 s669.2.1) h8_ ?_
          refine s_add rfl rfl ?_
          refine s_as (v := .int .i64 (IntKind.i64.wrap (s669.2.1 + 1))) rfl ?_
          refine done ?_
          refine blk_norm ?_
          refine blk_norm ?_
          replace hC := hC.sel [1, 2, 3, 4, 5] [0, 1, 2, 3] (M' := [own 93 9 v872 ((s669.1 ++ [a0.terms.getD s669.2.1.toNat default]).length) (ETerm.encs (s669.1 ++ [a0.terms.getD s669.2.1.toNat default])), blk b16 51 [v872], blk b13 51 [.slice none 0 0], blk b10 51 [u1_0], blk b7 51 [u0_0]]) (Ps' := [Ty.item ETerm.ty.sl a1.terms [u1_0] fp1, Ty.item ETerm.ty.sl a0.terms [u0_0] fp0, Ty.item TForm a0 [u0_0] fp0, Ty.item TForm a1 [u1_0] fp1]) (by decide) rfl rfl
          exact hK674 (s669.1 ++ [a0.terms.getD s669.2.1.toNat default], IntKind.i64.wrap (s669.2.1 + 1), s669.2.2) _ _ ⟨v872, h2_, h3_, h4_, h6_, h7_, rfl, h9_, hC⟩ h
        · replace h := iff_ h (cf hb860)
          refine ae_lookF 6 (.int .i64 s669.2.1) rfl rfl (by kernel_rfl) (hM856 6 rfl) (fun w_ => .inl ⟨wanted_on 5 67 rfl rfl hb860, by exact r_mv (v := .int .i64 s669.2.1) h8_⟩) (listed' := (List.toArray [true, true, true, true, true, true, true, false, false, false, false, false, false, false, false, false, false, false, false, false, false, false, false, false, false, false, false, false])) rfl ?_
          refine ae_lookF 7 (.pointer (some ⟨b7, 0, none⟩)) rfl rfl (by kernel_rfl) (hM856 7 rfl) (fun w_ => .inl ⟨wanted_on 5 67 rfl rfl hb860, by exact r_faddrB 0 Try.underlying51 rfl sc49.size h3_ rfl⟩) (listed' := (List.toArray [true, true, true, true, true, true, true, true, false, false, false, false, false, false, false, false, false, false, false, false, false, false, false, false, false, false, false, false])) rfl ?_
          refine ae_look 8 (u0_0) rfl rfl (by kernel_rfl) (hM855 8 rfl) (fun w_ hB_ => .inl ⟨wanted_on 5 67 rfl rfl hb860, by exact r_loadS (hC.grow hB_) 4 (u0_0) rfl sc49 rfl rfl⟩) (listed' := (List.toArray [true, true, true, true, true, true, true, true, true, false, false, false, false, false, false, false, false, false, false, false, false, false, false, false, false, false, false, false])) rfl ?_
          obtain ⟨Ad876, c877, hv878⟩ := sl_len (hC.getP 1 rfl)
          refine ae_look 9 (.int .i64 (a0.terms.length : Int)) rfl rfl (by kernel_rfl) (hM855 9 rfl) (fun w_ hB_ => .inl ⟨wanted_on 5 67 rfl rfl hb860, by exact r_len Try.underlying49 (by exact tr rfl hv878)⟩) (listed' := (List.toArray [true, true, true, true, true, true, true, true, true, true, false, false, false, false, false, false, false, false, false, false, false, false, false, false, false, false, false, false])) rfl ?_
          refine ae_lookF 10 (.bool (decide (s669.2.1 < (a0.terms.length : Int)))) rfl rfl (by kernel_rfl) (hM856 10 rfl) (fun w_ => .inl ⟨wanted_on 5 67 rfl rfl hb860, by exact r_lss rfl rfl⟩) (listed' := (List.toArray [true, true, true, true, true, true, true, true, true, true, true, false, false, false, false, false, false, false, false, false, false, false, false, false, false, false, false, false])) rfl ?_
          refine ae_lookF 11 (.bool (decide (s669.2.1 < (a0.terms.length : Int)))) rfl rfl (by kernel_rfl) (hM856 11 rfl) (fun w_ => .inl ⟨wanted_on 5 67 rfl rfl hb860, by exact r_mv (v := .bool (decide (s669.2.1 < (a0.terms.length : Int)))) rfl⟩) (listed' := (List.toArray [true, true, true, true, true, true, true, true, true, true, true, true, false, false, false, false, false, false, false, false, false, false, false, false, false, false, false, false])) rfl ?_
          refine ae_lookF 12 undef rfl rfl (by kernel_rfl) (hM856 12 rfl) (fun w_ => .inr ⟨wanted_off (b := false) 11 73 rfl (tr rfl (congrArg _ hb679)) (by decide), rfl⟩) (listed' := (List.toArray [true, true, true, true, true, true, true, true, true, true, true, true, true, false, false, false, false, false, false, false, false, false, false, false, false, false, false, false])) rfl ?_
          refine ae_lookF 13 undef rfl rfl (by kernel_rfl) (hM856 13 rfl) (fun w_ => .inr ⟨wanted_off (b := false) 11 73 rfl (tr rfl (congrArg _ hb679)) (by decide), rfl⟩) (listed' := (List.toArray [true, true, true, true, true, true, true, true, true, true, true, true, true, true, false, false, false, false, false, false, false, false, false, false, false, false, false, false])) rfl ?_
          refine ae_lookF 14 undef rfl rfl (by kernel_rfl) (hM856 14 rfl) (fun w_ => .inr ⟨wanted_off (b := false) 11 73 rfl (tr rfl (congrArg _ hb679)) (by decide), rfl⟩) (listed' := (List.toArray [true, true, true, true, true, true, true, true, true, true, true, true, true, true, true, false, false, false, false, false, false, false, false, false, false, false, false, false])) rfl ?_
          refine ae_lookF 15 undef rfl rfl (by kernel_rfl) (hM856 15 rfl) (fun w_ => .inr ⟨wanted_off (b := false) 11 73 rfl (tr rfl (congrArg _ hb679)) (by decide), rfl⟩) (listed' := (List.toArray [true, true, true, true, true, true, true, true, true, true, true, true, true, true, true, true, false, false, false, false, false, false, false, false, false, false, false, false])) rfl ?_
          refine ae_lookF 16 undef rfl rfl (by kernel_rfl) (hM856 16 rfl) (fun w_ => .inr ⟨wanted_off (b := false) 11 73 rfl (tr rfl (congrArg _ hb679)) (by decide), rfl⟩) (listed' := (List.toArray [true, true, true, true, true, true, true, true, true, true, true, true, true, true, true, true, true, false, false, false, false, false, false, false, false, false, false, false])) rfl ?_
          refine ae_lookF 17 undef rfl rfl (by kernel_rfl) (hM856 17 rfl) (fun w_ => .inr ⟨wanted_off (b := false) 11 73 rfl (tr rfl (congrArg _ hb679)) (by decide), rfl⟩) (listed' := (List.toArray [true, true, true, true, true, true, true, true, true, true, true, true, true, true, true, true, true, true, false, false, false, false, false, false, false, false, false, false])) rfl ?_
          refine ae_lookF 18 undef rfl rfl (by kernel_rfl) (hM856 18 rfl) (fun w_ => .inr ⟨wanted_off (b := false) 11 73 rfl (tr rfl (congrArg _ hb679)) (by decide), rfl⟩) (listed' := (List.toArray [true, true, true, true, true, true, true, true, true, true, true, true, true, true, true, true, true, true, true, false, false, false, false, false, false, false, false, false])) rfl ?_
          refine ae_lookF 19 undef rfl rfl (by kernel_rfl) (hM856 19 rfl) (fun w_ => .inr ⟨wanted_off (b := false) 11 73 rfl (tr rfl (congrArg _ hb679)) (by decide), rfl⟩) (listed' := (List.toArray [true, true, true, true, true, true, true, true, true, true, true, true, true, true, true, true, true, true, true, true, false, false, false, false, false, false, false, false])) rfl ?_
          refine ae_lookF 20 undef rfl rfl (by kernel_rfl) (hM856 20 rfl) (fun w_ => .inr ⟨wanted_off (b := false) 11 73 rfl (tr rfl (congrArg _ hb679)) (by decide), rfl⟩) (listed' := (List.toArray [true, true, true, true, true, true, true, true, true, true, true, true, true, true, true, true, true, true, true, true, true, false, false, false, false, false, false, false])) rfl ?_
          refine ae_lookF 21 undef rfl rfl (by kernel_rfl) (hM856 21 rfl) (fun w_ => .inr ⟨wanted_off (b := false) 11 73 rfl (tr rfl (congrArg _ hb679)) (by decide), rfl⟩) (listed' := (List.toArray [true, true, true, true, true, true, true, true, true, true, true, true, true, true, true, true, true, true, true, true, true, true, false, false, false, false, false, false])) rfl ?_
          refine ae_lookF 22 undef rfl rfl (by kernel_rfl) (hM856 22 rfl) (fun w_ => .inr ⟨wanted_off (b := false) 11 73 rfl (tr rfl (congrArg _ hb679)) (by decide), rfl⟩) (listed' := (List.toArray [true, true, true, true, true, true, true, true, true, true, true, true, true, true, true, true, true, true, true, true, true, true, true, false, false, false, false, false])) rfl ?_
          refine ae_lookF 23 undef rfl rfl (by kernel_rfl) (hM856 23 rfl) (fun w_ => .inr ⟨wanted_off (b := false) 11 73 rfl (tr rfl (congrArg _ hb679)) (by decide), rfl⟩) (listed' := (List.toArray [true, true, true, true, true, true, true, true, true, true, true, true, true, true, true, true, true, true, true, true, true, true, true, true, false, false, false, false])) rfl ?_
          refine ae_tail 24 (by decide) (by decide) (by kernel_rfl) rfl rfl ?_
          refine guardOff (b := false) 11 73 rfl (tr rfl (congrArg _ hb679)) (by decide) ?_
          refine guardOn 5 67 rfl rfl hb860 ?_
          refine s_pick (v := .bool false) (b := false) (tr rfl (congrArg _ hb679)) rfl ?_
          refine s_pick (v := .bool false) (b := false) (tr rfl (congrArg _ hb860)) rfl ?_
          refine s_as (v := .bool false) rfl ?_
          refine done ?_
          refine qn_norm ?_
          refine then_norm ?_
          refine cw_false rfl rfl ?_
          refine wp_seq ?_
          refine cw_draw 18 mixed [0, 0, 2, 6, 15, 31, 63, 127, 63, 511, 1023, 2047, 63, 4159, 63, 28735, 61503, 127039, 262143, 524287, 1048575] [2, 3, 7, 9, 11, 13, 15, 17] [0, 1, 4, 5, 6, 7, 8, 9, 10, 11, 12, 13, 14, 15, 16, 17] (by kernel_rfl) (by kernel_rfl) (by kernel_rfl) (fun hM880 hM881 w879 hB_ => ?_)
          replace hC := hC.grow hB_
          refine ae_lookF 0 (.int .i64 s669.2.1) rfl rfl (by kernel_rfl) (hM881 0 rfl) (fun w_ => .inl ⟨rfl, by exact r_mv (v := .int .i64 s669.2.1) h8_⟩) (listed' := (List.toArray [true, false, false, false, false, false, false, false, false, false, false, false, false, false, false, false, false, false, false, false, false])) rfl ?_
          refine ae_lookF 1 (.pointer (some ⟨b7, 0, none⟩)) rfl rfl (by kernel_rfl) (hM881 1 rfl) (fun w_ => .inl ⟨rfl, by exact r_faddrB 0 Try.underlying51 rfl sc49.size h3_ rfl⟩) (listed' := (List.toArray [true, true, false, false, false, false, false, false, false, false, false, false, false, false, false, false, false, false, false, false, false])) rfl ?_
          refine ae_look 2 (u0_0) rfl rfl (by kernel_rfl) (hM880 2 rfl) (fun w_ hB_ => .inl ⟨rfl, by exact r_loadS (hC.grow hB_) 4 (u0_0) rfl sc49 rfl rfl⟩) (listed' := (List.toArray [true, true, true, false, false, false, false, false, false, false, false, false, false, false, false, false, false, false, false, false, false])) rfl ?_
          obtain ⟨Ad882, c883, hv884⟩ := sl_len (hC.getP 1 rfl)
          refine ae_look 3 (.int .i64 (a0.terms.length : Int)) rfl rfl (by kernel_rfl) (hM880 3 rfl) (fun w_ hB_ => .inl ⟨rfl, by exact r_len Try.underlying49 (by exact tr rfl hv884)⟩) (listed' := (List.toArray [true, true, true, true, false, false, false, false, false, false, false, false, false, false, false, false, false, false, false, false, false])) rfl ?_
          refine ae_lookF 4 (.bool (decide (s669.2.1 = (a0.terms.length : Int)))) rfl rfl (by kernel_rfl) (hM881 4 rfl) (fun w_ => .inl ⟨rfl, by exact r_eql rfl rfl⟩) (listed' := (List.toArray [true, true, true, true, true, false, false, false, false, false, false, false, false, false, false, false, false, false, false, false, false])) rfl ?_
          refine ae_lookF 5 (.bool (decide (s669.2.1 = (a0.terms.length : Int)))) rfl rfl (by kernel_rfl) (hM881 5 rfl) (fun w_ => .inl ⟨rfl, by exact r_mv (v := .bool (decide (s669.2.1 = (a0.terms.length : Int)))) rfl⟩) (listed' := (List.toArray [true, true, true, true, true, true, false, false, false, false, false, false, false, false, false, false, false, false, false, false, false])) rfl ?_
          refine bsplit (decide (s669.2.1 = (a0.terms.length : Int))) (fun hb885 => ?_) (fun hb885 => ?_)
          · replace h := ift h (ct hb885)
            refine ae_lookF 6 undef rfl rfl (by kernel_rfl) (hM881 6 rfl) (fun w_ => .inr ⟨wanted_off (b := true) 5 107 rfl (tr rfl (congrArg _ hb885)) (by decide), rfl⟩) (listed' := (List.toArray [true, true, true, true, true, true, true, false, false, false, false, false, false, false, false, false, false, false, false, false, false])) rfl ?_
            refine ae_lookF 7 undef rfl rfl (by kernel_rfl) (hM881 7 rfl) (fun w_ => .inr ⟨wanted_off (b := true) 5 107 rfl (tr rfl (congrArg _ hb885)) (by decide), rfl⟩) (listed' := (List.toArray [true, true, true, true, true, true, true, true, false, false, false, false, false, false, false, false, false, false, false, false, false])) rfl ?_
            refine ae_lookF 8 undef rfl rfl (by kernel_rfl) (hM881 8 rfl) (fun w_ => .inr ⟨wanted_off (b := true) 5 107 rfl (tr rfl (congrArg _ hb885)) (by decide), rfl⟩) (listed' := (List.toArray [true, true, true, true, true, true, true, true, true, false, false, false, false, false, false, false, false, false, false, false, false])) rfl ?_
            refine ae_lookF 9 undef rfl rfl (by kernel_rfl) (hM881 9 rfl) (fun w_ => .inr ⟨wanted_off (b := true) 5 107 rfl (tr rfl (congrArg _ hb885)) (by decide), rfl⟩) (listed' := (List.toArray [true, true, true, true, true, true, true, true, true, true, false, false, false, false, false, false, false, false, false, false, false])) rfl ?_
            refine ae_lookF 10 undef rfl rfl (by kernel_rfl) (hM881 10 rfl) (fun w_ => .inr ⟨wanted_off (b := true) 5 107 rfl (tr rfl (congrArg _ hb885)) (by decide), rfl⟩) (listed' := (List.toArray [true, true, true, true, true, true, true, true, true, true, true, false, false, false, false, false, false, false, false, false, false])) rfl ?_
            refine ae_lookF 11 undef rfl rfl (by kernel_rfl) (hM881 11 rfl) (fun w_ => .inr ⟨wanted_off (b := true) 5 107 rfl (tr rfl (congrArg _ hb885)) (by decide), rfl⟩) (listed' := (List.toArray [true, true, true, true, true, true, true, true, true, true, true, true, false, false, false, false, false, false, false, false, false])) rfl ?_
            refine ae_lookF 12 undef rfl rfl (by kernel_rfl) (hM881 12 rfl) (fun w_ => .inr ⟨wanted_off (b := true) 5 107 rfl (tr rfl (congrArg _ hb885)) (by decide), rfl⟩) (listed' := (List.toArray [true, true, true, true, true, true, true, true, true, true, true, true, true, false, false, false, false, false, false, false, false])) rfl ?_
            refine ae_lookF 13 undef rfl rfl (by kernel_rfl) (hM881 13 rfl) (fun w_ => .inr ⟨wanted_off (b := true) 5 107 rfl (tr rfl (congrArg _ hb885)) (by decide), rfl⟩) (listed' := (List.toArray [true, true, true, true, true, true, true, true, true, true, true, true, true, true, false, false, false, false, false, false, false])) rfl ?_
            refine ae_lookF 14 undef rfl rfl (by kernel_rfl) (hM881 14 rfl) (fun w_ => .inr ⟨wanted_off (b := true) 5 107 rfl (tr rfl (congrArg _ hb885)) (by decide), rfl⟩) (listed' := (List.toArray [true, true, true, true, true, true, true, true, true, true, true, true, true, true, true, false, false, false, false, false, false])) rfl ?_
            refine ae_lookF 15 undef rfl rfl (by kernel_rfl) (hM881 15 rfl) (fun w_ => .inr ⟨wanted_off (b := true) 5 107 rfl (tr rfl (congrArg _ hb885)) (by decide), rfl⟩) (listed' := (List.toArray [true, true, true, true, true, true, true, true, true, true, true, true, true, true, true, true, false, false, false, false, false])) rfl ?_
            refine ae_lookF 16 undef rfl rfl (by kernel_rfl) (hM881 16 rfl) (fun w_ => .inr ⟨wanted_off (b := true) 5 107 rfl (tr rfl (congrArg _ hb885)) (by decide), rfl⟩) (listed' := (List.toArray [true, true, true, true, true, true, true, true, true, true, true, true, true, true, true, true, true, false, false, false, false])) rfl ?_
            refine ae_lookF 17 undef rfl rfl (by kernel_rfl) (hM881 17 rfl) (fun w_ => .inr ⟨wanted_off (b := true) 5 107 rfl (tr rfl (congrArg _ hb885)) (by decide), rfl⟩) (listed' := (List.toArray [true, true, true, true, true, true, true, true, true, true, true, true, true, true, true, true, true, true, false, false, false])) rfl ?_
            refine ae_tail 18 (by decide) (by decide) (by kernel_rfl) rfl rfl ?_
            refine guardOff (b := true) 5 107 rfl (tr rfl (congrArg _ hb885)) (by decide) ?_
            refine s_pick (v := .bool true) (b := true) (tr rfl (congrArg _ hb885)) rfl ?_
            refine s_as (v := .bool true) rfl ?_
            refine done ?_
            refine qn_norm ?_
            refine then_norm ?_
            refine cw_true rfl rfl ?_
            refine wp_seq ?_
            refine wp_seq ?_
            refine cw_region ?_
            refine s_mv (v := .int .i64 a2) h2_ ?_
            refine s_faddrB 0 Try.underlying51 rfl sc49.size h4_ rfl ?_
            refine s_loadS hC 3 (u1_0) rfl sc49 rfl rfl ?_
            refine s_mv (v := .int .i64 s669.2.2) h9_ ?_
            obtain ⟨⟨h0_886, h1_887⟩, h⟩ := h
            obtain ⟨Ad888, c889, hv890⟩ := sl_form (hC.getP 0 rfl) s669.2.2.toNat (show s669.2.2.toNat < a1.terms.length by omega)
            refine s_iaddrS (len := a1.terms.length) Try.underlying49 ag93.size (tr rfl hv890) rfl h0_886 h1_887 ?_
            refine s_faddrS (s669.2.2.toNat * 9 + 8) Try.underlying93 rfl sc2.size rfl rfl ?_
            refine s_loadCS (.int .i64 ((a1.terms.getD s669.2.2.toNat default).factor)) (cells_subS (o := 8) (k := 1) (sl_cellsE (hC.getP 0 rfl) hv890 s669.2.2.toNat (show s669.2.2.toNat < a1.terms.length by omega)) rfl) sc2 rfl ?_
            refine s_mul rfl rfl ?_
            refine s_call [.int .i64 (IntKind.i64.wrap (a2 * ((a1.terms.getD s669.2.2.toNat default).factor)))] _ Try.func119 rfl rfl rfl (c_spec_l01Mod (IntKind.i64.wrap (a2 * ((a1.terms.getD s669.2.2.toNat default).factor))) h _) (fun ret891 w893 hR892 => ?_)
            obtain ⟨r894, rfl, h, hB895⟩ := hR892
            refine ⟨_, rfl, ?_⟩
            replace hC := hC.grow hB895
            refine s_as (v := .int .i64 r894) rfl ?_
            refine done ?_
            refine then_norm ?_
            refine wp_seq ?_
            refine cw_region ?_
            refine s_mv (v := .int .i64 r894) rfl ?_
            refine s_neq rfl rfl ?_
            refine done ?_
            refine then_norm ?_
            refine cw_cond rfl (fun hb896 => ?_) (fun hb896 => ?_)
            · replace h := ift h (ct hb896)
              refine cw_draw 11 mixed [0, 1, 0, 4, 0, 28, 60, 124, 0, 508, 1020, 2047, 4095, 8191] [1, 3, 5, 7, 9] [0, 2, 4, 6, 8] (by kernel_rfl) (by kernel_rfl) (by kernel_rfl) (fun hM898 hM899 w897 hB_ => ?_)
              replace hC := hC.grow hB_
              refine ae_lookF 0 (.pointer (some ⟨b16, 0, none⟩)) rfl rfl (by kernel_rfl) (hM899 0 rfl) (fun w_ => .inl ⟨rfl, by exact r_faddrB 0 Try.underlying51 rfl sc49.size h7_ rfl⟩) (listed' := (List.toArray [true, false, false, false, false, false, false, false, false, false, false, false, false, false])) rfl ?_
              refine ae_look 1 (v670) rfl rfl (by kernel_rfl) (hM898 1 rfl) (fun w_ hB_ => .inl ⟨rfl, by exact r_loadS (hC.grow hB_) 1 (v670) rfl sc49 rfl rfl⟩) (listed' := (List.toArray [true, true, false, false, false, false, false, false, false, false, false, false, false, false])) rfl ?_
              refine ae_lookF 2 (.pointer (some ⟨b10, 0, none⟩)) rfl rfl (by kernel_rfl) (hM899 2 rfl) (fun w_ => .inl ⟨rfl, by exact r_faddrB 0 Try.underlying51 rfl sc49.size h4_ rfl⟩) (listed' := (List.toArray [true, true, true, false, false, false, false, false, false, false, false, false, false, false])) rfl ?_
              refine ae_look 3 (u1_0) rfl rfl (by kernel_rfl) (hM898 3 rfl) (fun w_ hB_ => .inl ⟨rfl, by exact r_loadS (hC.grow hB_) 3 (u1_0) rfl sc49 rfl rfl⟩) (listed' := (List.toArray [true, true, true, true, false, false, false, false, false, false, false, false, false, false])) rfl ?_
              refine ae_lookF 4 (.int .i64 s669.2.2) rfl rfl (by kernel_rfl) (hM899 4 rfl) (fun w_ => .inl ⟨rfl, by exact r_mv (v := .int .i64 s669.2.2) h9_⟩) (listed' := (List.toArray [true, true, true, true, true, false, false, false, false, false, false, false, false, false])) rfl ?_
              obtain ⟨⟨h0_900, h1_901⟩, h⟩ := h
              obtain ⟨Ad902, c903, hv904⟩ := sl_form (hC.getP 0 rfl) s669.2.2.toNat (show s669.2.2.toNat < a1.terms.length by omega)
              refine ae_look 5 (.pointer (some (Ad902.add (s669.2.2.toNat * 9)))) rfl rfl (by kernel_rfl) (hM898 5 rfl) (fun w_ hB_ => .inl ⟨rfl, by exact r_iaddrS (len := a1.terms.length) Try.underlying49 ag93.size (by exact tr rfl hv904) rfl h0_900 h1_901⟩) (listed' := (List.toArray [true, true, true, true, true, true, false, false, false, false, false, false, false, false])) rfl ?_
              refine ae_lookF 6 (.pointer (some (Ad902.add (s669.2.2.toNat * 9 + 0)))) rfl rfl (by kernel_rfl) (hM899 6 rfl) (fun w_ => .inl ⟨rfl, by exact r_faddrS (s669.2.2.toNat * 9 + 0) Try.underlying93 rfl ag24.size rfl rfl⟩) (listed' := (List.toArray [true, true, true, true, true, true, true, false, false, false, false, false, false, false])) rfl ?_
              refine ae_look 7 (.agg (List.toArray (A8.enc .u8 ((a1.terms.getD s669.2.2.toNat default).mono)))) rfl rfl (by kernel_rfl) (hM898 7 rfl) (fun w_ hB_ => .inl ⟨rfl, by exact r_loadCA (A8.enc .u8 ((a1.terms.getD s669.2.2.toNat default).mono)) (cells_subS (o := 0) (k := 8) (sl_cellsE ((hC.grow hB_).getP 0 rfl) hv904 s669.2.2.toNat (show s669.2.2.toNat < a1.terms.length by omega)) rfl) ag24 rfl rfl⟩) (listed' := (List.toArray [true, true, true, true, true, true, true, true, false, false, false, false, false, false])) rfl ?_
              refine ae_lookF 8 (.int .i64 r894) rfl rfl (by kernel_rfl) (hM899 8 rfl) (fun w_ => .inl ⟨rfl, by exact r_mv (v := .int .i64 r894) rfl⟩) (listed' := (List.toArray [true, true, true, true, true, true, true, true, true, false, false, false, false, false])) rfl ?_
              refine ae_look 9 (.agg (List.toArray (Term.enc (⟨(a1.terms.getD s669.2.2.toNat default).mono, r894⟩ : Term)))) rfl rfl (by kernel_rfl) (hM898 9 rfl) (fun w_ hB_ => .inl ⟨rfl, by exact r_build [(0, .agg (List.toArray (A8.enc .u8 ((a1.terms.getD s669.2.2.toNat default).mono)))), (1, .int .i64 r894)] rfl (bl93_0flat_1int ((a1.terms.getD s669.2.2.toNat default).mono) r894  _)⟩) (listed' := (List.toArray [true, true, true, true, true, true, true, true, true, true, false, false, false, false])) rfl ?_
              refine ae_one 10 rfl (by kernel_rfl) ?_
              refine s_bslice (sz := 9) hC [(0, .agg (List.toArray (Term.enc (⟨(a1.terms.getD s669.2.2.toNat default).mono, r894⟩ : Term))))] (ETerm.encs [(⟨(a1.terms.getD s669.2.2.toNat default).mono, r894⟩ : Term)]) rfl (fun _ => bs49_1 (⟨(a1.terms.getD s669.2.2.toNat default).mono, r894⟩ : Term) _) rfl (by decide) fun b905 w906 hB_ hC => ?_
              refine done ?_
              refine ak_intro (by assumption) (listed' := (List.toArray [true, true, true, true, true, true, true, true, true, true, true, false, false, false])) rfl ?_
              refine ae_tail 11 (by decide) (by decide) (by kernel_rfl) rfl rfl ?_
              obtain ⟨hm910, h⟩ := h
              refine s_app hC 1 Try.underlying49 el93 rfl (by decide) (by decide) rfl (own_rdr (hC.getM 0 rfl)) (fun q hq => Enc.encs_one' (E := ETerm) _ q hq) rfl rfl hm910 fun v908 w909 hC => ?_
              replace hC := own_re hC 1 ((s669.1 ++ [(⟨(a1.terms.getD s669.2.2.toNat default).mono, r894⟩ : Term)]).length) (ETerm.encs (s669.1 ++ [(⟨(a1.terms.getD s669.2.2.toNat default).mono, r894⟩ : Term)])) rfl (by simp) (by first | (simp [Enc.encs_append]; done) | simp [Enc.encs_append, Enc.encs])
              refine s_faddrB 0 Try.underlying51 rfl sc49.size h7_ rfl ?_
              refine s_store (v := v908) hC 2 [v908] [v908] rfl sc49.size rfl rfl (own_cellsV (hC.getM 1 rfl)) rfl (all_c (own_oneC (hC.getM 1 rfl)) rfl) (Nat.le_of_ble_eq_true rfl) rfl fun w911 hC => ?_
              refine done ?_
              refine qn_norm ?_
              refine then_norm ?_
              refine cw_region ?_
              refine s_mv (v := .int .i64 s669.2.2) h9_ ?_
              refine s_add rfl rfl ?_
              refine s_as (v := .int .i64 (IntKind.i64.wrap (s669.2.2 + 1))) rfl ?_
              refine done ?_
              refine blk_norm ?_
              refine blk_norm ?_
              replace hC := hC.sel [1, 2, 3, 4, 5] [0, 1, 2, 3] (M' := [own 93 9 v908 ((s669.1 ++ [(⟨(a1.terms.getD s669.2.2.toNat default).mono, r894⟩ : Term)]).length) (ETerm.encs (s669.1 ++ [(⟨(a1.terms.getD s669.2.2.toNat default).mono, r894⟩ : Term)])), blk b16 51 [v908], blk b13 51 [.slice none 0 0], blk b10 51 [u1_0], blk b7 51 [u0_0]]) (Ps' := [Ty.item ETerm.ty.sl a1.terms [u1_0] fp1, Ty.item ETerm.ty.sl a0.terms [u0_0] fp0, Ty.item TForm a0 [u0_0] fp0, Ty.item TForm a1 [u1_0] fp1]) (by decide) rfl rfl
              exact hK674 (s669.1 ++ [(⟨(a1.terms.getD s669.2.2.toNat default).mono, r894⟩ : Term)], s669.2.1, IntKind.i64.wrap (s669.2.2 + 1)) _ _ ⟨v908, h2_, h3_, h4_, h6_, h7_, h8_, rfl, hC⟩ h
            · replace h := iff_ h (cf hb896)
              refine wp_skip ?_
              refine then_norm ?_
              refine cw_region ?_
              refine s_mv (v := .int .i64 s669.2.2) h9_ ?_
              refine s_add rfl rfl ?_
              refine s_as (v := .int .i64 (IntKind.i64.wrap (s669.2.2 + 1))) rfl ?_
              refine done ?_
              refine blk_norm ?_
              refine blk_norm ?_
              exact hK674 (s669.1, s669.2.1, IntKind.i64.wrap (s669.2.2 + 1)) _ _ ⟨v670, h2_, h3_, h4_, h6_, h7_, h8_, rfl, hC⟩ h
          · replace h := iff_ h (cf hb885)
            refine ae_lookF 6 (.pointer (some ⟨b10, 0, none⟩)) rfl rfl (by kernel_rfl) (hM881 6 rfl) (fun w_ => .inl ⟨wanted_on 5 107 rfl rfl hb885, by exact r_faddrB 0 Try.underlying51 rfl sc49.size h4_ rfl⟩) (listed' := (List.toArray [true, true, true, true, true, true, true, false, false, false, false, false, false, false, false, false, false, false, false, false, false])) rfl ?_
            refine ae_look 7 (u1_0) rfl rfl (by kernel_rfl) (hM880 7 rfl) (fun w_ hB_ => .inl ⟨wanted_on 5 107 rfl rfl hb885, by exact r_loadS (hC.grow hB_) 3 (u1_0) rfl sc49 rfl rfl⟩) (listed' := (List.toArray [true, true, true, true, true, true, true, true, false, false, false, false, false, false, false, false, false, false, false, false, false])) rfl ?_
            refine ae_lookF 8 (.int .i64 s669.2.2) rfl rfl (by kernel_rfl) (hM881 8 rfl) (fun w_ => .inl ⟨wanted_on 5 107 rfl rfl hb885, by exact r_mv (v := .int .i64 s669.2.2) h9_⟩) (listed' := (List.toArray [true, true, true, true, true, true, true, true, true, false, false, false, false, false, false, false, false, false, false, false, false])) rfl ?_
            obtain ⟨⟨h0_912, h1_913⟩, h⟩ := h
            obtain ⟨Ad914, c915, hv916⟩ := sl_form (hC.getP 0 rfl) s669.2.2.toNat (show s669.2.2.toNat < a1.terms.length by omega)
            refine ae_look 9 (.pointer (some (Ad914.add (s669.2.2.toNat * 9)))) rfl rfl (by kernel_rfl) (hM880 9 rfl) (fun w_ hB_ => .inl ⟨wanted_on 5 107 rfl rfl hb885, by exact r_iaddrS (len := a1.terms.length) Try.underlying49 ag93.size (by exact tr rfl hv916) rfl h0_912 h1_913⟩) (listed' := (List.toArray [true, true, true, true, true, true, true, true, true, true, false, false, false, false, false, false, false, false, false, false, false])) rfl ?_
            refine ae_lookF 10 (.pointer (some (Ad914.add (s669.2.2.toNat * 9 + 0)))) rfl rfl (by kernel_rfl) (hM881 10 rfl) (fun w_ => .inl ⟨wanted_on 5 107 rfl rfl hb885, by exact r_faddrS (s669.2.2.toNat * 9 + 0) Try.underlying93 rfl ag24.size rfl rfl⟩) (listed' := (List.toArray [true, true, true, true, true, true, true, true, true, true, true, false, false, false, false, false, false, false, false, false, false])) rfl ?_
            refine ae_look 11 (.agg (List.toArray (A8.enc .u8 ((a1.terms.getD s669.2.2.toNat default).mono)))) rfl rfl (by kernel_rfl) (hM880 11 rfl) (fun w_ hB_ => .inl ⟨wanted_on 5 107 rfl rfl hb885, by exact r_loadCA (A8.enc .u8 ((a1.terms.getD s669.2.2.toNat default).mono)) (cells_subS (o := 0) (k := 8) (sl_cellsE ((hC.grow hB_).getP 0 rfl) hv916 s669.2.2.toNat (show s669.2.2.toNat < a1.terms.length by omega)) rfl) ag24 rfl rfl⟩) (listed' := (List.toArray [true, true, true, true, true, true, true, true, true, true, true, true, false, false, false, false, false, false, false, false, false])) rfl ?_
            refine ae_lookF 12 (.pointer (some ⟨b7, 0, none⟩)) rfl rfl (by kernel_rfl) (hM881 12 rfl) (fun w_ => .inl ⟨wanted_on 5 107 rfl rfl hb885, by exact r_faddrB 0 Try.underlying51 rfl sc49.size h3_ rfl⟩) (listed' := (List.toArray [true, true, true, true, true, true, true, true, true, true, true, true, true, false, false, false, false, false, false, false, false])) rfl ?_
            refine ae_look 13 (u0_0) rfl rfl (by kernel_rfl) (hM880 13 rfl) (fun w_ hB_ => .inl ⟨wanted_on 5 107 rfl rfl hb885, by exact r_loadS (hC.grow hB_) 4 (u0_0) rfl sc49 rfl rfl⟩) (listed' := (List.toArray [true, true, true, true, true, true, true, true, true, true, true, true, true, true, false, false, false, false, false, false, false])) rfl ?_
            refine ae_lookF 14 (.int .i64 s669.2.1) rfl rfl (by kernel_rfl) (hM881 14 rfl) (fun w_ => .inl ⟨wanted_on 5 107 rfl rfl hb885, by exact r_mv (v := .int .i64 s669.2.1) h8_⟩) (listed' := (List.toArray [true, true, true, true, true, true, true, true, true, true, true, true, true, true, true, false, false, false, false, false, false])) rfl ?_
            obtain ⟨⟨h0_917, h1_918⟩, h⟩ := h
            obtain ⟨Ad919, c920, hv921⟩ := sl_form (hC.getP 1 rfl) s669.2.1.toNat (show s669.2.1.toNat < a0.terms.length by omega)
            refine ae_look 15 (.pointer (some (Ad919.add (s669.2.1.toNat * 9)))) rfl rfl (by kernel_rfl) (hM880 15 rfl) (fun w_ hB_ => .inl ⟨wanted_on 5 107 rfl rfl hb885, by exact r_iaddrS (len := a0.terms.length) Try.underlying49 ag93.size (by exact tr rfl hv921) rfl h0_917 h1_918⟩) (listed' := (List.toArray [true, true, true, true, true, true, true, true, true, true, true, true, true, true, true, true, false, false, false, false, false])) rfl ?_
            refine ae_lookF 16 (.pointer (some (Ad919.add (s669.2.1.toNat * 9 + 0)))) rfl rfl (by kernel_rfl) (hM881 16 rfl) (fun w_ => .inl ⟨wanted_on 5 107 rfl rfl hb885, by exact r_faddrS (s669.2.1.toNat * 9 + 0) Try.underlying93 rfl ag24.size rfl rfl⟩) (listed' := (List.toArray [true, true, true, true, true, true, true, true, true, true, true, true, true, true, true, true, true, false, false, false, false])) rfl ?_
            refine ae_look 17 (.agg (List.toArray (A8.enc .u8 ((a0.terms.getD s669.2.1.toNat default).mono)))) rfl rfl (by kernel_rfl) (hM880 17 rfl) (fun w_ hB_ => .inl ⟨wanted_on 5 107 rfl rfl hb885, by exact r_loadCA (A8.enc .u8 ((a0.terms.getD s669.2.1.toNat default).mono)) (cells_subS (o := 0) (k := 8) (sl_cellsE ((hC.grow hB_).getP 1 rfl) hv921 s669.2.1.toNat (show s669.2.1.toNat < a0.terms.length by omega)) rfl) ag24 rfl rfl⟩) (listed' := (List.toArray [true, true, true, true, true, true, true, true, true, true, true, true, true, true, true, true, true, true, false, false, false])) rfl ?_
            refine ae_tail 18 (by decide) (by decide) (by kernel_rfl) rfl rfl ?_
            refine guardOn 5 107 rfl rfl hb885 ?_
            refine s_call [.agg (List.toArray (A8.enc .u8 ((a1.terms.getD s669.2.2.toNat default).mono))), .agg (List.toArray (A8.enc .u8 ((a0.terms.getD s669.2.1.toNat default).mono)))] _ Try.func118 rfl rfl rfl (c_spec_l01Before ((a1.terms.getD s669.2.2.toNat default).mono) ((a0.terms.getD s669.2.1.toNat default).mono) h _) (fun ret922 w924 hR923 => ?_)
            obtain ⟨r925, rfl, h, hB926⟩ := hR923
            refine ⟨_, rfl, ?_⟩
            replace hC := hC.grow hB926
            refine s_pick (v := .bool r925) (b := false) (tr rfl (congrArg _ hb885)) rfl ?_
            refine s_as (v := .bool r925) rfl ?_
            refine done ?_
            refine qn_norm ?_
            refine then_norm ?_
            refine cw_cond rfl (fun hb927 => ?_) (fun hb927 => ?_)
            · replace h := ift h (hb927)
              refine wp_seq ?_
              refine wp_seq ?_
              refine cw_region ?_
              refine s_mv (v := .int .i64 a2) h2_ ?_
              refine s_faddrB 0 Try.underlying51 rfl sc49.size h4_ rfl ?_
              refine s_loadS hC 3 (u1_0) rfl sc49 rfl rfl ?_
              refine s_mv (v := .int .i64 s669.2.2) h9_ ?_
              obtain ⟨⟨h0_928, h1_929⟩, h⟩ := h
              obtain ⟨Ad930, c931, hv932⟩ := sl_form (hC.getP 0 rfl) s669.2.2.toNat (show s669.2.2.toNat < a1.terms.length by omega)
              refine s_iaddrS (len := a1.terms.length) Try.underlying49 ag93.size (tr rfl hv932) rfl h0_928 h1_929 ?_
              refine s_faddrS (s669.2.2.toNat * 9 + 8) Try.underlying93 rfl sc2.size rfl rfl ?_
              refine s_loadCS (.int .i64 ((a1.terms.getD s669.2.2.toNat default).factor)) (cells_subS (o := 8) (k := 1) (sl_cellsE (hC.getP 0 rfl) hv932 s669.2.2.toNat (show s669.2.2.toNat < a1.terms.length by omega)) rfl) sc2 rfl ?_
              refine s_mul rfl rfl ?_
              refine s_call [.int .i64 (IntKind.i64.wrap (a2 * ((a1.terms.getD s669.2.2.toNat default).factor)))] _ Try.func119 rfl rfl rfl (c_spec_l01Mod (IntKind.i64.wrap (a2 * ((a1.terms.getD s669.2.2.toNat default).factor))) h _) (fun ret933 w935 hR934 => ?_)
              obtain ⟨r936, rfl, h, hB937⟩ := hR934
              refine ⟨_, rfl, ?_⟩
              replace hC := hC.grow hB937
              refine s_as (v := .int .i64 r936) rfl ?_
              refine done ?_
              refine then_norm ?_
              refine wp_seq ?_
              refine cw_region ?_
              refine s_mv (v := .int .i64 r936) rfl ?_
              refine s_neq rfl rfl ?_
              refine done ?_
              refine then_norm ?_
              refine cw_cond rfl (fun hb938 => ?_) (fun hb938 => ?_)
              · replace h := ift h (ct hb938)
                refine cw_draw 11 mixed [0, 1, 0, 4, 0, 28, 60, 124, 0, 508, 1020, 2047, 4095, 8191] [1, 3, 5, 7, 9] [0, 2, 4, 6, 8] (by kernel_rfl) (by kernel_rfl) (by kernel_rfl) (fun hM940 hM941 w939 hB_ => ?_)
                replace hC := hC.grow hB_
                refine ae_lookF 0 (.pointer (some ⟨b16, 0, none⟩)) rfl rfl (by kernel_rfl) (hM941 0 rfl) (fun w_ => .inl ⟨rfl, by exact r_faddrB 0 Try.underlying51 rfl sc49.size h7_ rfl⟩) (listed' := (List.toArray [true, false, false, false, false, false, false, false, false, false, false, false, false, false])) rfl ?_
                refine ae_look 1 (v670) rfl rfl (by kernel_rfl) (hM940 1 rfl) (fun w_ hB_ => .inl ⟨rfl, by exact r_loadS (hC.grow hB_) 1 (v670) rfl sc49 rfl rfl⟩) (listed' := (List.toArray [true, true, false, false, false, false, false, false, false, false, false, false, false, false])) rfl ?_
                refine ae_lookF 2 (.pointer (some ⟨b10, 0, none⟩)) rfl rfl (by kernel_rfl) (hM941 2 rfl) (fun w_ => .inl ⟨rfl, by exact r_faddrB 0 Try.underlying51 rfl sc49.size h4_ rfl⟩) (listed' := (List.toArray [true, true, true, false, false, false, false, false, false, false, false, false, false, false])) rfl ?_
                refine ae_look 3 (u1_0) rfl rfl (by kernel_rfl) (hM940 3 rfl) (fun w_ hB_ => .inl ⟨rfl, by exact r_loadS (hC.grow hB_) 3 (u1_0) rfl sc49 rfl rfl⟩) (listed' := (List.toArray [true, true, true, true, false, false, false, false, false, false, false, false, false, false])) rfl ?_
                refine ae_lookF 4 (.int .i64 s669.2.2) rfl rfl (by kernel_rfl) (hM941 4 rfl) (fun w_ => .inl ⟨rfl, by exact r_mv (v := .int .i64 s669.2.2) h9_⟩) (listed' := (List.toArray [true, true, true, true, true, false, false, false, false, false, false, false, false, false])) rfl ?_
                obtain ⟨⟨h0_942, h1_943⟩, h⟩ := h
                obtain ⟨Ad944, c945, hv946⟩ := sl_form (hC.getP 0 rfl) s669.2.2.toNat (show s669.2.2.toNat < a1.terms.length by omega)
                refine ae_look 5 (.pointer (some (Ad944.add (s669.2.2.toNat * 9)))) rfl rfl (by kernel_rfl) (hM940 5 rfl) (fun w_ hB_ => .inl ⟨rfl, by exact r_iaddrS (len := a1.terms.length) Try.underlying49 ag93.size (by exact tr rfl hv946) rfl h0_942 h1_943⟩) (listed' := (List.toArray [true, true, true, true, true, true, false, false, false, false, false, false, false, false])) rfl ?_
                refine ae_lookF 6 (.pointer (some (Ad944.add (s669.2.2.toNat * 9 + 0)))) rfl rfl (by kernel_rfl) (hM941 6 rfl) (fun w_ => .inl ⟨rfl, by exact r_faddrS (s669.2.2.toNat * 9 + 0) Try.underlying93 rfl ag24.size rfl rfl⟩) (listed' := (List.toArray [true, true, true, true, true, true, true, false, false, false, false, false, false, false])) rfl ?_
                refine ae_look 7 (.agg (List.toArray (A8.enc .u8 ((a1.terms.getD s669.2.2.toNat default).mono)))) rfl rfl (by kernel_rfl) (hM940 7 rfl) (fun w_ hB_ => .inl ⟨rfl, by exact r_loadCA (A8.enc .u8 ((a1.terms.getD s669.2.2.toNat default).mono)) (cells_subS (o := 0) (k := 8) (sl_cellsE ((hC.grow hB_).getP 0 rfl) hv946 s669.2.2.toNat (show s669.2.2.toNat < a1.terms.length by omega)) rfl) ag24 rfl rfl⟩) (listed' := (List.toArray [true, true, true, true, true, true, true, true, false, false, false, false, false, false])) rfl ?_
                refine ae_lookF 8 (.int .i64 r936) rfl rfl (by kernel_rfl) (hM941 8 rfl) (fun w_ => .inl ⟨rfl, by exact r_mv (v := .int .i64 r936) rfl⟩) (listed' := (List.toArray [true, true, true, true, true, true, true, true, true, false, false, false, false, false])) rfl ?_
                refine ae_look 9 (.agg (List.toArray (Term.enc (⟨(a1.terms.getD s669.2.2.toNat default).mono, r936⟩ : Term)))) rfl rfl (by kernel_rfl) (hM940 9 rfl) (fun w_ hB_ => .inl ⟨rfl, by exact r_build [(0, .agg (List.toArray (A8.enc .u8 ((a1.terms.getD s669.2.2.toNat default).mono)))), (1, .int .i64 r936)] rfl (bl93_0flat_1int ((a1.terms.getD s669.2.2.toNat default).mono) r936  _)⟩) (listed' := (List.toArray [true, true, true, true, true, true, true, true, true, true, false, false, false, false])) rfl ?_
                refine ae_one 10 rfl (by kernel_rfl) ?_
                refine s_bslice (sz := 9) hC [(0, .agg (List.toArray (Term.enc (⟨(a1.terms.getD s669.2.2.toNat default).mono, r936⟩ : Term))))] (ETerm.encs [(⟨(a1.terms.getD s669.2.2.toNat default).mono, r936⟩ : Term)]) rfl (fun _ => bs49_1 (⟨(a1.terms.getD s669.2.2.toNat default).mono, r936⟩ : Term) _) rfl (by decide) fun b947 w948 hB_ hC => ?_
                refine done ?_
                refine ak_intro (by assumption) (listed' := (List.toArray [true, true, true, true, true, true, true, true, true, true, true, false, false, false])) rfl ?_
                refine ae_tail 11 (by decide) (by decide) (by kernel_rfl) rfl rfl ?_
                obtain ⟨hm952, h⟩ := h
                refine s_app hC 1 Try.underlying49 el93 rfl (by decide) (by decide) rfl (own_rdr (hC.getM 0 rfl)) (fun q hq => Enc.encs_one' (E := ETerm) _ q hq) rfl rfl hm952 fun v950 w951 hC => ?_
                replace hC := own_re hC 1 ((s669.1 ++ [(⟨(a1.terms.getD s669.2.2.toNat default).mono, r936⟩ : Term)]).length) (ETerm.encs (s669.1 ++ [(⟨(a1.terms.getD s669.2.2.toNat default).mono, r936⟩ : Term)])) rfl (by simp) (by first | (simp [Enc.encs_append]; done) | simp [Enc.encs_append, Enc.encs])
                refine s_faddrB 0 Try.underlying51 rfl sc49.size h7_ rfl ?_
                refine s_store (v := v950) hC 2 [v950] [v950] rfl sc49.size rfl rfl (own_cellsV (hC.getM 1 rfl)) rfl (all_c (own_oneC (hC.getM 1 rfl)) rfl) (Nat.le_of_ble_eq_true rfl) rfl fun w953 hC => ?_
                refine done ?_
                refine qn_norm ?_
                refine then_norm ?_
                refine cw_region ?_
                refine s_mv (v := .int .i64 s669.2.2) h9_ ?_
                refine s_add rfl rfl ?_
                refine s_as (v := .int .i64 (IntKind.i64.wrap (s669.2.2 + 1))) rfl ?_
                refine done ?_
                refine blk_norm ?_
                refine blk_norm ?_
                replace hC := hC.sel [1, 2, 3, 4, 5] [0, 1, 2, 3] (M' := [own 93 9 v950 ((s669.1 ++ [(⟨(a1.terms.getD s669.2.2.toNat default).mono, r936⟩ : Term)]).length) (ETerm.encs (s669.1 ++ [(⟨(a1.terms.getD s669.2.2.toNat default).mono, r936⟩ : Term)])), blk b16 51 [v950], blk b13 51 [.slice none 0 0], blk b10 51 [u1_0], blk b7 51 [u0_0]]) (Ps' := [Ty.item ETerm.ty.sl a1.terms [u1_0] fp1, Ty.item ETerm.ty.sl a0.terms [u0_0] fp0, Ty.item TForm a0 [u0_0] fp0, Ty.item TForm a1 [u1_0] fp1]) (by decide) rfl rfl
                exact hK674 (s669.1 ++ [(⟨(a1.terms.getD s669.2.2.toNat default).mono, r936⟩ : Term)], s669.2.1, IntKind.i64.wrap (s669.2.2 + 1)) _ _ ⟨v950, h2_, h3_, h4_, h6_, h7_, h8_, rfl, hC⟩ h
              · replace h := iff_ h (cf hb938)
                refine wp_skip ?_
                refine then_norm ?_
                refine cw_region ?_
                refine s_mv (v := .int .i64 s669.2.2) h9_ ?_
                refine s_add rfl rfl ?_
                refine s_as (v := .int .i64 (IntKind.i64.wrap (s669.2.2 + 1))) rfl ?_
                refine done ?_
                refine blk_norm ?_
                refine blk_norm ?_
                exact hK674 (s669.1, s669.2.1, IntKind.i64.wrap (s669.2.2 + 1)) _ _ ⟨v670, h2_, h3_, h4_, h6_, h7_, h8_, rfl, hC⟩ h
            · replace h := iff_ h (ne_t hb927)
              refine wp_seq ?_
              refine wp_seq ?_
              refine cw_draw 15 mixed [0, 1, 0, 7, 15, 31, 0, 0, 128, 0, 896, 1920, 3968, 8128, 16320, 32767, 65535, 131071] [1, 3, 5, 8, 10, 12] [0, 2, 4, 6, 7, 9, 11, 13] (by kernel_rfl) (by kernel_rfl) (by kernel_rfl) (fun hM955 hM956 w954 hB_ => ?_)
              replace hC := hC.grow hB_
              refine ae_lookF 0 (.pointer (some ⟨b7, 0, none⟩)) rfl rfl (by kernel_rfl) (hM956 0 rfl) (fun w_ => .inl ⟨rfl, by exact r_faddrB 0 Try.underlying51 rfl sc49.size h3_ rfl⟩) (listed' := (List.toArray [true, false, false, false, false, false, false, false, false, false, false, false, false, false, false, false, false, false])) rfl ?_
              refine ae_look 1 (u0_0) rfl rfl (by kernel_rfl) (hM955 1 rfl) (fun w_ hB_ => .inl ⟨rfl, by exact r_loadS (hC.grow hB_) 4 (u0_0) rfl sc49 rfl rfl⟩) (listed' := (List.toArray [true, true, false, false, false, false, false, false, false, false, false, false, false, false, false, false, false, false])) rfl ?_
              refine ae_lookF 2 (.int .i64 s669.2.1) rfl rfl (by kernel_rfl) (hM956 2 rfl) (fun w_ => .inl ⟨rfl, by exact r_mv (v := .int .i64 s669.2.1) h8_⟩) (listed' := (List.toArray [true, true, true, false, false, false, false, false, false, false, false, false, false, false, false, false, false, false])) rfl ?_
              obtain ⟨⟨h0_957, h1_958⟩, h⟩ := h
              obtain ⟨Ad959, c960, hv961⟩ := sl_form (hC.getP 1 rfl) s669.2.1.toNat (show s669.2.1.toNat < a0.terms.length by omega)
              refine ae_look 3 (.pointer (some (Ad959.add (s669.2.1.toNat * 9)))) rfl rfl (by kernel_rfl) (hM955 3 rfl) (fun w_ hB_ => .inl ⟨rfl, by exact r_iaddrS (len := a0.terms.length) Try.underlying49 ag93.size (by exact tr rfl hv961) rfl h0_957 h1_958⟩) (listed' := (List.toArray [true, true, true, true, false, false, false, false, false, false, false, false, false, false, false, false, false, false])) rfl ?_
              refine ae_lookF 4 (.pointer (some (Ad959.add (s669.2.1.toNat * 9 + 8)))) rfl rfl (by kernel_rfl) (hM956 4 rfl) (fun w_ => .inl ⟨rfl, by exact r_faddrS (s669.2.1.toNat * 9 + 8) Try.underlying93 rfl sc2.size rfl rfl⟩) (listed' := (List.toArray [true, true, true, true, true, false, false, false, false, false, false, false, false, false, false, false, false, false])) rfl ?_
              refine ae_look 5 (.int .i64 ((a0.terms.getD s669.2.1.toNat default).factor)) rfl rfl (by kernel_rfl) (hM955 5 rfl) (fun w_ hB_ => .inl ⟨rfl, by exact r_loadCS (.int .i64 ((a0.terms.getD s669.2.1.toNat default).factor)) (cells_subS (o := 8) (k := 1) (sl_cellsE ((hC.grow hB_).getP 1 rfl) hv961 s669.2.1.toNat (show s669.2.1.toNat < a0.terms.length by omega)) rfl) sc2 rfl⟩) (listed' := (List.toArray [true, true, true, true, true, true, false, false, false, false, false, false, false, false, false, false, false, false])) rfl ?_
              refine ae_lookF 6 (.int .i64 a2) rfl rfl (by kernel_rfl) (hM956 6 rfl) (fun w_ => .inl ⟨rfl, by exact r_mv (v := .int .i64 a2) h2_⟩) (listed' := (List.toArray [true, true, true, true, true, true, true, false, false, false, false, false, false, false, false, false, false, false])) rfl ?_
              refine ae_lookF 7 (.pointer (some ⟨b10, 0, none⟩)) rfl rfl (by kernel_rfl) (hM956 7 rfl) (fun w_ => .inl ⟨rfl, by exact r_faddrB 0 Try.underlying51 rfl sc49.size h4_ rfl⟩) (listed' := (List.toArray [true, true, true, true, true, true, true, true, false, false, false, false, false, false, false, false, false, false])) rfl ?_
              refine ae_look 8 (u1_0) rfl rfl (by kernel_rfl) (hM955 8 rfl) (fun w_ hB_ => .inl ⟨rfl, by exact r_loadS (hC.grow hB_) 3 (u1_0) rfl sc49 rfl rfl⟩) (listed' := (List.toArray [true, true, true, true, true, true, true, true, true, false, false, false, false, false, false, false, false, false])) rfl ?_
              refine ae_lookF 9 (.int .i64 s669.2.2) rfl rfl (by kernel_rfl) (hM956 9 rfl) (fun w_ => .inl ⟨rfl, by exact r_mv (v := .int .i64 s669.2.2) h9_⟩) (listed' := (List.toArray [true, true, true, true, true, true, true, true, true, true, false, false, false, false, false, false, false, false])) rfl ?_
              obtain ⟨⟨h0_962, h1_963⟩, h⟩ := h
              obtain ⟨Ad964, c965, hv966⟩ := sl_form (hC.getP 0 rfl) s669.2.2.toNat (show s669.2.2.toNat < a1.terms.length by omega)
              refine ae_look 10 (.pointer (some (Ad964.add (s669.2.2.toNat * 9)))) rfl rfl (by kernel_rfl) (hM955 10 rfl) (fun w_ hB_ => .inl ⟨rfl, by exact r_iaddrS (len := a1.terms.length) Try.underlying49 ag93.size (by exact tr rfl hv966) rfl h0_962 h1_963⟩) (listed' := (List.toArray [true, true, true, true, true, true, true, true, true, true, true, false, false, false, false, false, false, false])) rfl ?_
              refine ae_lookF 11 (.pointer (some (Ad964.add (s669.2.2.toNat * 9 + 8)))) rfl rfl (by kernel_rfl) (hM956 11 rfl) (fun w_ => .inl ⟨rfl, by exact r_faddrS (s669.2.2.toNat * 9 + 8) Try.underlying93 rfl sc2.size rfl rfl⟩) (listed' := (List.toArray [true, true, true, true, true, true, true, true, true, true, true, true, false, false, false, false, false, false])) rfl ?_
              refine ae_look 12 (.int .i64 ((a1.terms.getD s669.2.2.toNat default).factor)) rfl rfl (by kernel_rfl) (hM955 12 rfl) (fun w_ hB_ => .inl ⟨rfl, by exact r_loadCS (.int .i64 ((a1.terms.getD s669.2.2.toNat default).factor)) (cells_subS (o := 8) (k := 1) (sl_cellsE ((hC.grow hB_).getP 0 rfl) hv966 s669.2.2.toNat (show s669.2.2.toNat < a1.terms.length by omega)) rfl) sc2 rfl⟩) (listed' := (List.toArray [true, true, true, true, true, true, true, true, true, true, true, true, true, false, false, false, false, false])) rfl ?_
              refine ae_lookF 13 (.int .i64 (IntKind.i64.wrap (a2 * ((a1.terms.getD s669.2.2.toNat default).factor)))) rfl rfl (by kernel_rfl) (hM956 13 rfl) (fun w_ => .inl ⟨rfl, by exact r_mul rfl rfl⟩) (listed' := (List.toArray [true, true, true, true, true, true, true, true, true, true, true, true, true, true, false, false, false, false])) rfl ?_
              refine ae_one 14 rfl (by kernel_rfl) ?_
              refine s_call [.int .i64 (IntKind.i64.wrap (a2 * ((a1.terms.getD s669.2.2.toNat default).factor)))] _ Try.func119 rfl rfl rfl (c_spec_l01Mod (IntKind.i64.wrap (a2 * ((a1.terms.getD s669.2.2.toNat default).factor))) h _) (fun ret967 w969 hR968 => ?_)
              obtain ⟨r970, rfl, h, hB971⟩ := hR968
              refine ⟨_, rfl, ?_⟩
              replace hC := hC.grow hB971
              refine done ?_
              refine ak_intro (by assumption) (listed' := (List.toArray [true, true, true, true, true, true, true, true, true, true, true, true, true, true, true, false, false, false])) rfl ?_
              refine ae_tail 15 (by decide) (by decide) (by kernel_rfl) rfl rfl ?_
              refine s_add rfl rfl ?_
              refine s_call [.int .i64 (IntKind.i64.wrap (((a0.terms.getD s669.2.1.toNat default).factor) + r970))] _ Try.func119 rfl rfl rfl (c_spec_l01Mod (IntKind.i64.wrap (((a0.terms.getD s669.2.1.toNat default).factor) + r970)) h _) (fun ret972 w974 hR973 => ?_)
              obtain ⟨r975, rfl, h, hB976⟩ := hR973
              refine ⟨_, rfl, ?_⟩
              replace hC := hC.grow hB976
              refine s_as (v := .int .i64 r975) rfl ?_
              refine done ?_
              refine qn_norm ?_
              refine then_norm ?_
              refine wp_seq ?_
              refine cw_region ?_
              refine s_mv (v := .int .i64 r975) rfl ?_
              refine s_neq rfl rfl ?_
              refine done ?_
              refine then_norm ?_
              refine cw_cond rfl (fun hb977 => ?_) (fun hb977 => ?_)
              · replace h := ift h (ct hb977)
                refine cw_draw 11 mixed [0, 1, 0, 4, 0, 28, 60, 124, 0, 508, 1020, 2047, 4095, 8191] [1, 3, 5, 7, 9] [0, 2, 4, 6, 8] (by kernel_rfl) (by kernel_rfl) (by kernel_rfl) (fun hM979 hM980 w978 hB_ => ?_)
                replace hC := hC.grow hB_
                refine ae_lookF 0 (.pointer (some ⟨b16, 0, none⟩)) rfl rfl (by kernel_rfl) (hM980 0 rfl) (fun w_ => .inl ⟨rfl, by exact r_faddrB 0 Try.underlying51 rfl sc49.size h7_ rfl⟩) (listed' := (List.toArray [true, false, false, false, false, false, false, false, false, false, false, false, false, false])) rfl ?_
                refine ae_look 1 (v670) rfl rfl (by kernel_rfl) (hM979 1 rfl) (fun w_ hB_ => .inl ⟨rfl, by exact r_loadS (hC.grow hB_) 1 (v670) rfl sc49 rfl rfl⟩) (listed' := (List.toArray [true, true, false, false, false, false, false, false, false, false, false, false, false, false])) rfl ?_
                refine ae_lookF 2 (.pointer (some ⟨b7, 0, none⟩)) rfl rfl (by kernel_rfl) (hM980 2 rfl) (fun w_ => .inl ⟨rfl, by exact r_faddrB 0 Try.underlying51 rfl sc49.size h3_ rfl⟩) (listed' := (List.toArray [true, true, true, false, false, false, false, false, false, false, false, false, false, false])) rfl ?_
                refine ae_look 3 (u0_0) rfl rfl (by kernel_rfl) (hM979 3 rfl) (fun w_ hB_ => .inl ⟨rfl, by exact r_loadS (hC.grow hB_) 4 (u0_0) rfl sc49 rfl rfl⟩) (listed' := (List.toArray [true, true, true, true, false, false, false, false, false, false, false, false, false, false])) rfl ?_
                refine ae_lookF 4 (.int .i64 s669.2.1) rfl rfl (by kernel_rfl) (hM980 4 rfl) (fun w_ => .inl ⟨rfl, by exact r_mv (v := .int .i64 s669.2.1) h8_⟩) (listed' := (List.toArray [true, true, true, true, true, false, false, false, false, false, false, false, false, false])) rfl ?_
                obtain ⟨⟨h0_981, h1_982⟩, h⟩ := h
                obtain ⟨Ad983, c984, hv985⟩ := sl_form (hC.getP 1 rfl) s669.2.1.toNat (show s669.2.1.toNat < a0.terms.length by omega)
                refine ae_look 5 (.pointer (some (Ad983.add (s669.2.1.toNat * 9)))) rfl rfl (by kernel_rfl) (hM979 5 rfl) (fun w_ hB_ => .inl ⟨rfl, by exact r_iaddrS (len := a0.terms.length) Try.underlying49 ag93.size (by exact tr rfl hv985) rfl h0_981 h1_982⟩) (listed' := (List.toArray [true, true, true, true, true, true, false, false, false, false, false, false, false, false])) rfl ?_
                refine ae_lookF 6 (.pointer (some (Ad983.add (s669.2.1.toNat * 9 + 0)))) rfl rfl (by kernel_rfl) (hM980 6 rfl) (fun w_ => .inl ⟨rfl, by exact r_faddrS (s669.2.1.toNat * 9 + 0) Try.underlying93 rfl ag24.size rfl rfl⟩) (listed' := (List.toArray [true, true, true, true, true, true, true, false, false, false, false, false, false, false])) rfl ?_
                refine ae_look 7 (.agg (List.toArray (A8.enc .u8 ((a0.terms.getD s669.2.1.toNat default).mono)))) rfl rfl (by kernel_rfl) (hM979 7 rfl) (fun w_ hB_ => .inl ⟨rfl, by exact r_loadCA (A8.enc .u8 ((a0.terms.getD s669.2.1.toNat default).mono)) (cells_subS (o := 0) (k := 8) (sl_cellsE ((hC.grow hB_).getP 1 rfl) hv985 s669.2.1.toNat (show s669.2.1.toNat < a0.terms.length by omega)) rfl) ag24 rfl rfl⟩) (listed' := (List.toArray [true, true, true, true, true, true, true, true, false, false, false, false, false, false])) rfl ?_
                refine ae_lookF 8 (.int .i64 r975) rfl rfl (by kernel_rfl) (hM980 8 rfl) (fun w_ => .inl ⟨rfl, by exact r_mv (v := .int .i64 r975) rfl⟩) (listed' := (List.toArray [true, true, true, true, true, true, true, true, true, false, false, false, false, false])) rfl ?_
                refine ae_look 9 (.agg (List.toArray (Term.enc (⟨(a0.terms.getD s669.2.1.toNat default).mono, r975⟩ : Term)))) rfl rfl (by kernel_rfl) (hM979 9 rfl) (fun w_ hB_ => .inl ⟨rfl, by exact r_build [(0, .agg (List.toArray (A8.enc .u8 ((a0.terms.getD s669.2.1.toNat default).mono)))), (1, .int .i64 r975)] rfl (bl93_0flat_1int ((a0.terms.getD s669.2.1.toNat default).mono) r975  _)⟩) (listed' := (List.toArray [true, true, true, true, true, true, true, true, true, true, false, false, false, false])) rfl ?_
                refine ae_one 10 rfl (by kernel_rfl) ?_
                refine s_bslice (sz := 9) hC [(0, .agg (List.toArray (Term.enc (⟨(a0.terms.getD s669.2.1.toNat default).mono, r975⟩ : Term))))] (ETerm.encs [(⟨(a0.terms.getD s669.2.1.toNat default).mono, r975⟩ : Term)]) rfl (fun _ => bs49_1 (⟨(a0.terms.getD s669.2.1.toNat default).mono, r975⟩ : Term) _) rfl (by decide) fun b986 w987 hB_ hC => ?_
                refine done ?_
                refine ak_intro (by assumption) (listed' := (List.toArray [true, true, true, true, true, true, true, true, true, true, true, false, false, false])) rfl ?_
                refine ae_tail 11 (by decide) (by decide) (by kernel_rfl) rfl rfl ?_
                obtain ⟨hm991, h⟩ := h
                refine s_app hC 1 Try.underlying49 el93 rfl (by decide) (by decide) rfl (own_rdr (hC.getM 0 rfl)) (fun q hq => Enc.encs_one' (E := ETerm) _ q hq) rfl rfl hm991 fun v989 w990 hC => ?_
                replace hC := own_re hC 1 ((s669.1 ++ [(⟨(a0.terms.getD s669.2.1.toNat default).mono, r975⟩ : Term)]).length) (ETerm.encs (s669.1 ++ [(⟨(a0.terms.getD s669.2.1.toNat default).mono, r975⟩ : Term)])) rfl (by simp) (by first | (simp [Enc.encs_append]; done) | simp [Enc.encs_append, Enc.encs])
                refine s_faddrB 0 Try.underlying51 rfl sc49.size h7_ rfl ?_
                refine s_store (v := v989) hC 2 [v989] [v989] rfl sc49.size rfl rfl (own_cellsV (hC.getM 1 rfl)) rfl (all_c (own_oneC (hC.getM 1 rfl)) rfl) (Nat.le_of_ble_eq_true rfl) rfl fun w992 hC => ?_
                refine done ?_
                refine qn_norm ?_
                refine then_norm ?_
                refine wp_seq ?_
                refine cw_region ?_
                refine s_mv (v := .int .i64 s669.2.1) h8_ ?_
                refine s_add rfl rfl ?_
                refine s_as (v := .int .i64 (IntKind.i64.wrap (s669.2.1 + 1))) rfl ?_
                refine done ?_
                refine then_norm ?_
                refine cw_region ?_
                refine s_mv (v := .int .i64 s669.2.2) h9_ ?_
                refine s_add rfl rfl ?_
                refine s_as (v := .int .i64 (IntKind.i64.wrap (s669.2.2 + 1))) rfl ?_
                refine done ?_
                refine blk_norm ?_
                refine blk_norm ?_
                replace hC := hC.sel [1, 2, 3, 4, 5] [0, 1, 2, 3] (M' := [own 93 9 v989 ((s669.1 ++ [(⟨(a0.terms.getD s669.2.1.toNat default).mono, r975⟩ : Term)]).length) (ETerm.encs (s669.1 ++ [(⟨(a0.terms.getD s669.2.1.toNat default).mono, r975⟩ : Term)])), blk b16 51 [v989], blk b13 51 [.slice none 0 0], blk b10 51 [u1_0], blk b7 51 [u0_0]]) (Ps' := [Ty.item ETerm.ty.sl a1.terms [u1_0] fp1, Ty.item ETerm.ty.sl a0.terms [u0_0] fp0, Ty.item TForm a0 [u0_0] fp0, Ty.item TForm a1 [u1_0] fp1]) (by decide) rfl rfl
                exact hK674 (s669.1 ++ [(⟨(a0.terms.getD s669.2.1.toNat default).mono, r975⟩ : Term)], IntKind.i64.wrap (s669.2.1 + 1), IntKind.i64.wrap (s669.2.2 + 1)) _ _ ⟨v989, h2_, h3_, h4_, h6_, h7_, rfl, rfl, hC⟩ h
              · replace h := iff_ h (cf hb977)
                refine wp_skip ?_
                refine then_norm ?_
                refine wp_seq ?_
                refine cw_region ?_
                refine s_mv (v := .int .i64 s669.2.1) h8_ ?_
                refine s_add rfl rfl ?_
                refine s_as (v := .int .i64 (IntKind.i64.wrap (s669.2.1 + 1))) rfl ?_
                refine done ?_
                refine then_norm ?_
                refine cw_region ?_
                refine s_mv (v := .int .i64 s669.2.2) h9_ ?_
                refine s_add rfl rfl ?_
                refine s_as (v := .int .i64 (IntKind.i64.wrap (s669.2.2 + 1))) rfl ?_
                refine done ?_
                refine blk_norm ?_
                refine blk_norm ?_
                exact hK674 (s669.1, IntKind.i64.wrap (s669.2.1 + 1), IntKind.i64.wrap (s669.2.2 + 1)) _ _ ⟨v670, h2_, h3_, h4_, h6_, h7_, rfl, rfl, hC⟩ h
      · replace h := iff_ h (cf hb853)
        refine wp_exit (then_exit (then_exit (exit_in ?_)))
        refine then_norm ?_
        refine wp_seq ?_
        refine cw_region ?_
        refine s_loadA hC 1 [v670] rfl ag51 h7_ rfl rfl ?_
        refine s_store (v := .agg #[v670]) hC 2 [v670] [v670] rfl ag51.size h6_ rfl rfl rfl (all_c (own_oneC (hC.getM 0 rfl)) rfl) (Nat.le_of_ble_eq_true rfl) rfl fun w993 hC => ?_
        refine done ?_
        refine then_norm ?_
        refine wp_ret ?_
        refine ret1 (fn := Try.f82) rfl ?_ ⟨(⟨s669.1⟩ : Vc.Form), v670, (Option.toList (Value.ownBlock v670)), rfl, h, (form_join (own_item (hC.getM 0 rfl))), (own_fresh hC 0 rfl), hC.below⟩ (.inl rfl)
        exact res_cellA hC 2 rfl ag51 h6_ rfl
  · skip
    replace hC := hC.pushNil 93 9
    exact ⟨.slice none 0 0, rfl, rfl, rfl, rfl, rfl, rfl, rfl, hC⟩
end Go.Proofs.Ytjngkbalaipdbaa
