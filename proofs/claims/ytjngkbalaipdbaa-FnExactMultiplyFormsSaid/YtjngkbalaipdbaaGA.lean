/- Printed by vcgen.py: functions of the program as predicates, and that the machine's calls meet them. -/
import Derived.Test.YtjngkbalaipdbaaGAb
set_option linter.unusedVariables false
set_option linter.unusedSimpArgs false
set_option maxRecDepth 4000
set_option maxHeartbeats 4000000
namespace Go.Proofs.Ytjngkbalaipdbaa
open Go Go.RowKit Vc
def f_impl_isMonomial (a0 : List Int) (a1 : A8) (K : Bool → Prop) : Prop :=
  forN (fun i21 (s22 : Unit) next23 => (if (i21 : Int) < (a0.length : Int) then ((0 ≤ (i21 : Int) ∧ (i21 : Int) < (a0.length : Int)) ∧ (if Int.tmod (a0.getD i21 default) 2 = 1 then (if a1.get i21 > 1 then K false else next23 ()) else (if a1.get i21 > 20 then K false else next23 ()))) else (if a1.get i21 > 0 then K false else next23 ()))) (fun (s22 : Unit) => K true) 8 0 ()
theorem c_impl_isMonomial (a0 : List Int) (a1 : A8) {u0_0 : Value} {fp0 : List Nat} {K : Bool → Prop} (h : f_impl_isMonomial a0 a1 K) (w0 : World) (q0 : ((EI .i64).ty.sl).rep a0 [u0_0] fp0 w0) :
    Calls Try.prog 101 #[u0_0, .agg (List.toArray (A8.enc .u8 a1))] w0 fun e w' => ∃ (r0 : Bool), 
      e = .returned (.bool r0) ∧ K r0 ∧ Bel w0 w' := by
  unfold f_impl_isMonomial at h
  refine calls_of (args := [u0_0, .agg (List.toArray (A8.enc .u8 a1))]) Try.func101 rfl 27 Try.ntmps101 (Nat.le_of_ble_eq_true rfl) ?_
  have hC := Ctx.start (X := Nox) w0 [Ty.item ((EI .i64).ty.sl) a0 [u0_0] fp0] (by simp only [List.mem_cons, List.not_mem_nil, or_false, forall_eq_or_imp, forall_eq]; exact q0)
  refine wp_seq ?_
  refine cw_region ?_
  refine s_box (v := .agg (List.toArray (A8.enc .u8 a1))) hC (A8.enc .u8 a1) rfl rfl fun b2 w4 hB_ hC => ?_
  refine s_as (v := .bool false) rfl ?_
  refine done ?_
  refine then_norm ?_
  refine wp_seq ?_
  refine wp_seq ?_
  refine cw_region ?_
  refine s_loadA hC 0 (A8.enc .u8 a1) rfl ag24 rfl rfl rfl ?_
  refine s_mv (v := .int .i64 0) rfl ?_
  refine done ?_
  refine then_norm ?_
  refine wp_block ?_
  refine loopN (S := Unit) _ _ (fun i21 s22 e_ w_ => e_ 0 = u0_0 ∧ e_ 4 = .bool false ∧ e_ 8 = .agg (List.toArray (A8.enc .u8 a1)) ∧ e_ 9 = .int .i64 (i21 : Int) ∧ Ctx Nox w0 w_ [] [Ty.item ((EI .i64).ty.sl) a0 [u0_0] fp0]) 8 ?_ ?_ (s0 := ()) ?_ h
  · clear hC h
    rintro i21 s22 e_ w27 next23 K24 hi26 ⟨h0_, h4_, h8_, h9_, hC⟩ h hK25
    refine wp_seq ?_
    refine cw_region ?_
    refine s_lss h9_ rfl ?_
    refine done ?_
    refine then_norm ?_
    refine wp_seq ?_
    refine cw_true rfl (decide_eq_true (by omega)) ?_
    refine wp_skip ?_
    refine then_norm ?_
    refine wp_seq ?_
    refine wp_block ?_
    refine wp_seq ?_
    refine cw_region ?_
    refine s_mv (v := .int .i64 (i21 : Int)) h9_ ?_
    refine s_index (.int .u8 (a1.get i21)) Try.underlying24 h8_ h9_ (Int.natCast_nonneg _) (by omega) sc5 (A8.enc_get _ _ hi26) ?_
    refine s_as (v := .int .i64 (i21 : Int)) rfl ?_
    refine s_as (v := .int .u8 (a1.get i21)) rfl ?_
    refine done ?_
    refine then_norm ?_
    refine wp_seq ?_
    refine cw_region ?_
    refine s_as (v := .int .u8 0) rfl ?_
    refine done ?_
    refine then_norm ?_
    refine wp_seq ?_
    refine wp_seq ?_
    refine cw_region ?_
    refine s_mv (v := .int .i64 (i21 : Int)) rfl ?_
    refine s_mv (v := u0_0) h0_ ?_
    obtain ⟨Ad28, c29, hv30⟩ := sl_len (hC.getP 0 rfl)
    refine s_len Try.underlying22 (tr rfl hv30) ?_
    refine s_lss rfl rfl ?_
    refine done ?_
    refine then_norm ?_
    refine cw_cond rfl (fun hb31 => ?_) (fun hb31 => ?_)
    · replace h := ift h (ct hb31)
      refine wp_seq ?_
      refine cw_region ?_
      refine s_as (v := .int .u8 20) rfl ?_
      refine done ?_
      refine then_norm ?_
      refine wp_seq ?_
      refine cw_region ?_
      refine s_mv (v := u0_0) h0_ ?_
      refine s_mv (v := .int .i64 (i21 : Int)) rfl ?_
      obtain ⟨⟨h0_32, h1_33⟩, h⟩ := h
      obtain ⟨Ad34, c35, hv36⟩ := sl_form (hC.getP 0 rfl) i21 (show i21 < a0.length by omega)
      refine s_iaddrS (len := a0.length) Try.underlying22 sc2.size (tr rfl hv36) rfl h0_32 h1_33 ?_
      refine s_loadCS (.int .i64 (a0.getD i21 default)) (sl_cellsE (hC.getP 0 rfl) hv36 i21 (show i21 < a0.length by omega)) sc2 rfl ?_
      refine s_rem rfl rfl (by decide) ?_
      refine s_eql rfl rfl ?_
      refine done ?_
      refine then_norm ?_
      refine cw_cond rfl (fun hb37 => ?_) (fun hb37 => ?_)
      · replace h := ift h (ct hb37)
        refine cw_region ?_
        refine s_as (v := .int .u8 1) rfl ?_
        refine done ?_
        refine then_norm ?_
        refine wp_seq ?_
        refine cw_region ?_
        refine s_mv (v := .int .u8 (a1.get i21)) rfl ?_
        refine s_mv (v := .int .u8 1) rfl ?_
        refine s_gtr rfl rfl ?_
        refine done ?_
        refine then_norm ?_
        refine cw_cond rfl (fun hb38 => ?_) (fun hb38 => ?_)
        · replace h := ift h (ct hb38)
          refine wp_seq ?_
          refine cw_region ?_
          refine s_as (v := .bool false) rfl ?_
          refine done ?_
          refine then_norm ?_
          refine wp_ret (blk_ret (then_ret (then_ret (blk_ret (then_ret ?_)))))
          refine ret1 (fn := Try.f101) rfl ?_ ⟨false, rfl, h, hC.below⟩ (.inl rfl)
          exact res_tmp rfl
        · replace h := iff_ h (cf hb38)
          refine wp_skip ?_
          refine blk_norm ?_
          refine then_norm ?_
          refine cw_region ?_
          refine s_add h9_ rfl ?_
          refine s_mv (v := .int .i64 (IntKind.i64.wrap ((i21 : Int) + 1))) rfl ?_
          refine done ?_
          exact hK25 () _ _ ⟨h0_, h4_, h8_, (tr rfl (congrArg _ (wrap64_nat hi26 (by decide)))), hC⟩ h
      · replace h := iff_ h (cf hb37)
        refine wp_skip ?_
        refine then_norm ?_
        refine wp_seq ?_
        refine cw_region ?_
        refine s_mv (v := .int .u8 (a1.get i21)) rfl ?_
        refine s_mv (v := .int .u8 20) rfl ?_
        refine s_gtr rfl rfl ?_
        refine done ?_
        refine then_norm ?_
        refine cw_cond rfl (fun hb39 => ?_) (fun hb39 => ?_)
        · replace h := ift h (ct hb39)
          refine wp_seq ?_
          refine cw_region ?_
          refine s_as (v := .bool false) rfl ?_
          refine done ?_
          refine then_norm ?_
          refine wp_ret (blk_ret (then_ret (then_ret (blk_ret (then_ret ?_)))))
          refine ret1 (fn := Try.f101) rfl ?_ ⟨false, rfl, h, hC.below⟩ (.inl rfl)
          exact res_tmp rfl
        · replace h := iff_ h (cf hb39)
          refine wp_skip ?_
          refine blk_norm ?_
          refine then_norm ?_
          refine cw_region ?_
          refine s_add h9_ rfl ?_
          refine s_mv (v := .int .i64 (IntKind.i64.wrap ((i21 : Int) + 1))) rfl ?_
          refine done ?_
          exact hK25 () _ _ ⟨h0_, h4_, h8_, (tr rfl (congrArg _ (wrap64_nat hi26 (by decide)))), hC⟩ h
    · replace h := iff_ h (cf hb31)
      refine wp_skip ?_
      refine then_norm ?_
      refine wp_seq ?_
      refine cw_region ?_
      refine s_mv (v := .int .u8 (a1.get i21)) rfl ?_
      refine s_mv (v := .int .u8 0) rfl ?_
      refine s_gtr rfl rfl ?_
      refine done ?_
      refine then_norm ?_
      refine cw_cond rfl (fun hb40 => ?_) (fun hb40 => ?_)
      · replace h := ift h (ct hb40)
        refine wp_seq ?_
        refine cw_region ?_
        refine s_as (v := .bool false) rfl ?_
        refine done ?_
        refine then_norm ?_
        refine wp_ret (blk_ret (then_ret (then_ret (blk_ret (then_ret ?_)))))
        refine ret1 (fn := Try.f101) rfl ?_ ⟨false, rfl, h, hC.below⟩ (.inl rfl)
        exact res_tmp rfl
      · replace h := iff_ h (cf hb40)
        refine wp_skip ?_
        refine blk_norm ?_
        refine then_norm ?_
        refine cw_region ?_
        refine s_add h9_ rfl ?_
        refine s_mv (v := .int .i64 (IntKind.i64.wrap ((i21 : Int) + 1))) rfl ?_
        refine done ?_
        exact hK25 () _ _ ⟨h0_, h4_, h8_, (tr rfl (congrArg _ (wrap64_nat hi26 (by decide)))), hC⟩ h
  · clear hC h
    rintro s22 e_ w41 K24 ⟨h0_, h4_, h8_, h9_, hC⟩ h
    refine wp_seq ?_
    refine cw_region ?_
    refine s_lss h9_ rfl ?_
    refine done ?_
    refine then_norm ?_
    refine wp_seq ?_
    refine cw_false rfl (decide_eq_false (by omega)) ?_
    refine wp_exit (then_exit (then_exit (exit_in ?_)))
    refine then_norm ?_
    refine wp_seq ?_
    refine cw_region ?_
    refine s_as (v := .bool true) rfl ?_
    refine done ?_
    refine then_norm ?_
    refine wp_ret ?_
    refine ret1 (fn := Try.f101) rfl ?_ ⟨true, rfl, h, hC.below⟩ (.inl rfl)
    exact res_tmp rfl
  · skip
    replace hC := hC.sel [] [0] (M' := []) (Ps' := [Ty.item ((EI .i64).ty.sl) a0 [u0_0] fp0]) (by decide) rfl rfl
    exact ⟨rfl, rfl, rfl, rfl, hC⟩
def f_impl_IsMonomial (a0 : List Int) (a1 : A8) (K : Bool → Prop) : Prop :=
  f_impl_AreDegrees a0 (fun r8 => (if r8 = true then f_impl_isMonomial a0 a1 (fun r14 => K r14) else K false))
theorem c_impl_IsMonomial (a0 : List Int) (a1 : A8) {u0_0 : Value} {fp0 : List Nat} {K : Bool → Prop} (h : f_impl_IsMonomial a0 a1 K) (w0 : World) (q0 : ((EI .i64).ty.sl).rep a0 [u0_0] fp0 w0) :
    Calls Try.prog 50 #[u0_0, .agg (List.toArray (A8.enc .u8 a1))] w0 fun e w' => ∃ (r0 : Bool), 
      e = .returned (.bool r0) ∧ K r0 ∧ Bel w0 w' := by
  unfold f_impl_IsMonomial at h
  refine calls_of (args := [u0_0, .agg (List.toArray (A8.enc .u8 a1))]) Try.func50 rfl 12 Try.ntmps50 (Nat.le_of_ble_eq_true rfl) ?_
  have hC := Ctx.start (X := Nox) w0 [Ty.item ((EI .i64).ty.sl) a0 [u0_0] fp0] (by simp only [List.mem_cons, List.not_mem_nil, or_false, forall_eq_or_imp, forall_eq]; exact q0)
  refine wp_seq ?_
  refine cw_region ?_
  refine s_box (v := .agg (List.toArray (A8.enc .u8 a1))) hC (A8.enc .u8 a1) rfl rfl fun b2 w4 hB_ hC => ?_
  refine s_as (v := .bool false) rfl ?_
  refine done ?_
  refine then_norm ?_
  refine wp_seq ?_
  refine cw_region ?_
  refine s_mv (v := u0_0) rfl ?_
  refine s_call [u0_0] _ Try.func52 rfl rfl rfl (c_impl_AreDegrees a0 h _ (hC.getP 0 rfl)) (fun ret5 w7 hR6 => ?_)
  obtain ⟨r8, rfl, h, hB9⟩ := hR6
  refine ⟨_, rfl, ?_⟩
  replace hC := hC.grow hB9
  refine s_mv (v := .bool r8) rfl ?_
  refine bsplit r8 (fun hb10 => ?_) (fun hb10 => ?_)
  · replace h := ift h (hb10)
    refine guardOn 2 7 rfl rfl hb10 ?_
    refine s_mv (v := u0_0) rfl ?_
    refine guardOn 2 7 rfl rfl hb10 ?_
    refine s_loadA hC 0 (A8.enc .u8 a1) rfl ag24 rfl rfl rfl ?_
    refine guardOn 2 7 rfl rfl hb10 ?_
    refine s_call [u0_0, .agg (List.toArray (A8.enc .u8 a1))] _ Try.func101 rfl rfl rfl (c_impl_isMonomial a0 a1 h _ (hC.getP 0 rfl)) (fun ret11 w13 hR12 => ?_)
    obtain ⟨r14, rfl, h, hB15⟩ := hR12
    refine ⟨_, rfl, ?_⟩
    replace hC := hC.grow hB15
    refine s_pick (v := .bool r14) (b := true) (tr rfl (congrArg _ hb10)) rfl ?_
    refine s_as (v := .bool r14) rfl ?_
    refine done ?_
    refine then_norm ?_
    refine wp_ret ?_
    refine ret1 (fn := Try.f50) rfl ?_ ⟨r14, rfl, h, hC.below⟩ (.inl rfl)
    exact res_tmp rfl
  · replace h := iff_ h (ne_t hb10)
    refine guardOff (b := false) 2 7 rfl (tr rfl (congrArg _ hb10)) (by decide) ?_
    refine guardOff (b := false) 2 7 rfl (tr rfl (congrArg _ hb10)) (by decide) ?_
    refine guardOff (b := false) 2 7 rfl (tr rfl (congrArg _ hb10)) (by decide) ?_
    refine s_pick (v := .bool false) (b := false) (tr rfl (congrArg _ hb10)) rfl ?_
    refine s_as (v := .bool false) rfl ?_
    refine done ?_
    refine then_norm ?_
    refine wp_ret ?_
    refine ret1 (fn := Try.f50) rfl ?_ ⟨false, rfl, h, hC.below⟩ (.inl rfl)
    exact res_tmp rfl
def f_impl_MultiplyMonomials (a0 : List Int) (a1 : A8) (a2 : A8) (K : A8 → Int → Int → Prop) : Prop :=
  f_impl_IsMonomial a0 a1 (fun r14 => (if ¬ (r14 = true) then K A8.zero 0 1 else f_impl_IsMonomial a0 a2 (fun r21 => (if ¬ (r21 = true) then K A8.zero 0 1 else f_impl_powerOf a1 (fun r129 => f_impl_powerOf a2 (fun r134 => f_impl_power_times r129 a0 r134 (fun r139 r140 => (if r140 = 0 then K A8.zero 0 0 else f_impl_sum_form (mset ([] : List (A8 × Int)) r139 1) (fun r103 r108 => (if r108 ≠ 0 then K A8.zero 0 r108 else ((0 ≤ (0 : Int) ∧ (0 : Int) < (r103.terms.length : Int)) ∧ K ((r103.terms.getD 0 default).mono) r140 0)))))))))))
theorem c_impl_MultiplyMonomials (a0 : List Int) (a1 : A8) (a2 : A8) {u0_0 : Value} {fp0 : List Nat} {K : A8 → Int → Int → Prop} (h : f_impl_MultiplyMonomials a0 a1 a2 K) (w0 : World) (q0 : ((EI .i64).ty.sl).rep a0 [u0_0] fp0 w0) :
    Calls Try.prog 16 #[u0_0, .agg (List.toArray (A8.enc .u8 a1)), .agg (List.toArray (A8.enc .u8 a2))] w0 fun e w' => ∃ (r0 : A8) (r1 : Int) (r2 : Int), 
      e = .returned (.tuple #[.agg (List.toArray (A8.enc .u8 r0)), .int .i64 r1, .int .i64 r2]) ∧ K r0 r1 r2 ∧ Bel w0 w' := by
  unfold f_impl_MultiplyMonomials at h
  refine calls_of (args := [u0_0, .agg (List.toArray (A8.enc .u8 a1)), .agg (List.toArray (A8.enc .u8 a2))]) Try.func16 rfl 53 Try.ntmps16 (Nat.le_of_ble_eq_true rfl) ?_
  have hC := Ctx.start (X := Nox) w0 [Ty.item ((EI .i64).ty.sl) a0 [u0_0] fp0] (by simp only [List.mem_cons, List.not_mem_nil, or_false, forall_eq_or_imp, forall_eq]; exact q0)
  refine wp_seq ?_
  refine cw_region ?_
  refine s_box (v := .agg (List.toArray (A8.enc .u8 a1))) hC (A8.enc .u8 a1) rfl rfl fun b2 w4 hB_ hC => ?_
  refine s_box (v := .agg (List.toArray (A8.enc .u8 a2))) hC (A8.enc .u8 a2) rfl rfl fun b5 w7 hB_ hC => ?_
  refine s_alloc hC (A8.enc .u8 A8.zero) z24 rfl fun b8 w10 hB_ hC => ?_
  refine s_as (v := .int .i64 0) rfl ?_
  refine s_as (v := .int .i64 0) rfl ?_
  refine done ?_
  refine then_norm ?_
  refine wp_seq ?_
  refine wp_seq ?_
  refine cw_region ?_
  refine s_mv (v := u0_0) rfl ?_
  refine s_loadA hC 2 (A8.enc .u8 a1) rfl ag24 rfl rfl rfl ?_
  refine s_call [u0_0, .agg (List.toArray (A8.enc .u8 a1))] _ Try.func50 rfl rfl rfl (c_impl_IsMonomial a0 a1 h _ (hC.getP 0 rfl)) (fun ret11 w13 hR12 => ?_)
  obtain ⟨r14, rfl, h, hB15⟩ := hR12
  refine ⟨_, rfl, ?_⟩
  replace hC := hC.grow hB15
  refine s_not rfl ?_
  refine s_mv (v := .bool (!r14)) rfl ?_
  refine bsplit (!r14) (fun hb16 => ?_) (fun hb16 => ?_)
  · replace h := ift h (ne_t (not_t hb16))
    refine guardOff (b := true) 4 17 rfl (tr rfl (congrArg _ hb16)) (by decide) ?_
    refine guardOff (b := true) 4 17 rfl (tr rfl (congrArg _ hb16)) (by decide) ?_
    refine guardOff (b := true) 4 17 rfl (tr rfl (congrArg _ hb16)) (by decide) ?_
    refine guardOff (b := true) 4 17 rfl (tr rfl (congrArg _ hb16)) (by decide) ?_
    refine s_pick (v := .bool true) (b := true) (tr rfl (congrArg _ hb16)) rfl ?_
    refine done ?_
    refine then_norm ?_
    refine cw_true rfl rfl ?_
    refine wp_seq ?_
    refine cw_region ?_
    refine s_build [] rfl (bl24   _) ?_
    refine s_store (v := .agg (List.toArray (A8.enc .u8 A8.zero))) hC 0 (A8.enc .u8 A8.zero) (A8.enc .u8 A8.zero) rfl ag24.size rfl rfl rfl rfl rfl (Nat.le_of_ble_eq_true rfl) rfl fun w17 hC => ?_
    refine s_as (v := .int .i64 0) rfl ?_
    refine s_as (v := .int .i64 1) rfl ?_
    refine done ?_
    refine then_norm ?_
    refine wp_ret (then_ret ?_)
    refine ret3 (fn := Try.f16) rfl ?_ ?_ ?_ ⟨A8.zero, 0, 1, rfl, h, hC.below⟩ (.inl rfl)
    · exact res_cellA hC 0 rfl ag24 rfl rfl
    · exact res_tmp rfl
    · exact res_tmp rfl
  · replace h := iff_ h (not_not_intro ((not_f hb16)))
    refine guardOn 4 17 rfl rfl hb16 ?_
    refine s_mv (v := u0_0) rfl ?_
    refine guardOn 4 17 rfl rfl hb16 ?_
    refine s_loadA hC 1 (A8.enc .u8 a2) rfl ag24 rfl rfl rfl ?_
    refine guardOn 4 17 rfl rfl hb16 ?_
    refine s_call [u0_0, .agg (List.toArray (A8.enc .u8 a2))] _ Try.func50 rfl rfl rfl (c_impl_IsMonomial a0 a2 h _ (hC.getP 0 rfl)) (fun ret18 w20 hR19 => ?_)
    obtain ⟨r21, rfl, h, hB22⟩ := hR19
    refine ⟨_, rfl, ?_⟩
    replace hC := hC.grow hB22
    refine guardOn 4 17 rfl rfl hb16 ?_
    refine s_not rfl ?_
    refine s_pick (v := .bool (!r21)) (b := false) (tr rfl (congrArg _ hb16)) rfl ?_
    refine done ?_
    refine then_norm ?_
    refine cw_cond rfl (fun hb23 => ?_) (fun hb23 => ?_)
    · replace h := ift h (ne_t (not_t hb23))
      refine wp_seq ?_
      refine cw_region ?_
      refine s_build [] rfl (bl24   _) ?_
      refine s_store (v := .agg (List.toArray (A8.enc .u8 A8.zero))) hC 0 (A8.enc .u8 A8.zero) (A8.enc .u8 A8.zero) rfl ag24.size rfl rfl rfl rfl rfl (Nat.le_of_ble_eq_true rfl) rfl fun w24 hC => ?_
      refine s_as (v := .int .i64 0) rfl ?_
      refine s_as (v := .int .i64 1) rfl ?_
      refine done ?_
      refine then_norm ?_
      refine wp_ret (then_ret ?_)
      refine ret3 (fn := Try.f16) rfl ?_ ?_ ?_ ⟨A8.zero, 0, 1, rfl, h, hC.below⟩ (.inl rfl)
      · exact res_cellA hC 0 rfl ag24 rfl rfl
      · exact res_tmp rfl
      · exact res_tmp rfl
    · replace h := iff_ h (not_not_intro ((not_f hb23)))
      refine wp_skip ?_
      refine then_norm ?_
      refine wp_seq ?_
      refine cw_draw 10 mixed [0, 1, 0, 0, 11, 31, 63, 127, 127, 0, 767, 2047] [0, 3] [2, 6, 7, 8] (by kernel_rfl) (by kernel_rfl) (by kernel_rfl) (fun hM26 hM27 w25 hB_ => ?_)
      replace hC := hC.grow hB_
      refine ae_look 0 (.agg (List.toArray (A8.enc .u8 a1))) rfl rfl (by kernel_rfl) (hM26 0 rfl) (fun w_ hB_ => .inl ⟨rfl, by exact r_loadA (hC.grow hB_) 2 (A8.enc .u8 a1) rfl ag24 rfl rfl rfl⟩) (listed' := (List.toArray [true, false, false, false, false, false, false, false, false, false, false, false])) rfl ?_
      refine ae_lookF 2 (u0_0) rfl rfl (by kernel_rfl) (hM27 2 rfl) (fun w_ => .inl ⟨rfl, by exact r_mv (v := u0_0) rfl⟩) (listed' := (List.toArray [true, false, true, false, false, false, false, false, false, false, false, false])) rfl ?_
      refine ae_look 3 (.agg (List.toArray (A8.enc .u8 a2))) rfl rfl (by kernel_rfl) (hM26 3 rfl) (fun w_ hB_ => .inl ⟨rfl, by exact r_loadA (hC.grow hB_) 1 (A8.enc .u8 a2) rfl ag24 rfl rfl rfl⟩) (listed' := (List.toArray [true, false, true, true, false, false, false, false, false, false, false, false])) rfl ?_
      refine ae_join (fun e_ w_ => ∃ (b44 : Nat), ∃ (r41 : A8), ∃ (r42 : Int), e_ 6 = .pointer (some ⟨b8, 0, none⟩) ∧ e_ 7 = .int .i64 0 ∧ e_ 8 = .int .i64 0 ∧ e_ 9 = .pointer (some ⟨b44, 0, none⟩) ∧ e_ 10 = .int .i64 r42 ∧ Ctx Nox w0 w_ [blk b44 85 (A8.enc .i64 r41), blk b8 24 (A8.enc .u8 A8.zero)] [Ty.item ((EI .i64).ty.sl) a0 [u0_0] fp0] ∧ (if r42 = 0 then K A8.zero 0 0 else f_impl_sum_form (mset ([] : List (A8 × Int)) r41 1) (fun r103 r108 => (if r108 ≠ 0 then K A8.zero 0 r108 else ((0 ≤ (0 : Int) ∧ (0 : Int) < (r103.terms.length : Int)) ∧ K ((r103.terms.getD 0 default).mono) r42 0))))) ?_ ?_
      · clear hC h
        rintro e_ w93 ⟨b44, r41, r42, h6_, h7_, h8_, h9_, h10_, hC, h⟩
        refine then_norm ?_
        refine wp_seq ?_
        refine wp_seq ?_
        refine cw_region ?_
        refine s_mv (v := .int .i64 r42) h10_ ?_
        refine s_eql rfl rfl ?_
        refine done ?_
        refine then_norm ?_
        refine cw_cond rfl (fun hb94 => ?_) (fun hb94 => ?_)
        · replace h := ift h (ct hb94)
          refine wp_seq ?_
          refine cw_region ?_
          refine s_build [] rfl (bl24   _) ?_
          refine s_store (v := .agg (List.toArray (A8.enc .u8 A8.zero))) hC 1 (A8.enc .u8 A8.zero) (A8.enc .u8 A8.zero) rfl ag24.size h6_ rfl rfl rfl rfl (Nat.le_of_ble_eq_true rfl) rfl fun w95 hC => ?_
          refine s_as (v := .int .i64 0) rfl ?_
          refine s_as (v := .int .i64 0) rfl ?_
          refine done ?_
          refine then_norm ?_
          refine wp_ret (then_ret ?_)
          refine ret3 (fn := Try.f16) rfl ?_ ?_ ?_ ⟨A8.zero, 0, 0, rfl, h, hC.below⟩ (.inl rfl)
          · exact res_cellA hC 1 rfl ag24 h6_ rfl
          · exact res_tmp rfl
          · exact res_tmp rfl
        · replace h := iff_ h (cf hb94)
          refine wp_skip ?_
          refine then_norm ?_
          refine wp_seq ?_
          refine cw_region ?_
          refine s_makeMap hC (kvA .i64) (vvI .i64) fun b96 w98 hB_ hC => ?_
          refine s_loadA hC 1 (A8.enc .i64 r41) rfl ag85 h9_ rfl rfl ?_
          refine s_mapset hC 0 r41 1 rfl kt85 Try.underlying90 rfl rfl rfl (fun w99 hC => ?_) (.inr rfl)
          refine s_mv (v := .map (some b96)) rfl ?_
          refine s_call [.map (some b96)] _ Try.func66 rfl rfl rfl (c_impl_sum_form (mset ([] : List (A8 × Int)) r41 1) h _ (hC.getM 0 rfl)) (fun ret100 w102 hR101 => ?_)
          obtain ⟨r103, u104, f105, r108, rfl, h, hr106, hf107, hB109⟩ := hR101
          refine ⟨_, rfl, ?_⟩
          replace hC := hC.push hB109 (Tr.item (TrForm 93) r103 [u104] f105) hr106 hf107
          obtain ⟨ho111, hf112⟩ := form_split (hC.getM 0 rfl)
          subst hf112
          replace hC := hC.recast (c := own 93 9 u104 r103.terms.length (ETerm.encs r103.terms)) (fun _ h_ => h_) (fun _ => ho111)
          refine s_mv (v := .tuple #[.agg #[u104], .int .i64 r108]) rfl ?_
          refine s_ext (v := .agg #[u104]) rfl rfl ?_
          refine s_ext (v := .int .i64 r108) rfl rfl ?_
          refine s_alloc hC [.slice none 0 0] z51 rfl fun b114 w116 hB_ hC => ?_
          refine s_store (v := .agg #[u104]) hC 0 [u104] [u104] rfl ag51.size rfl rfl rfl rfl (all_c (own_oneC (hC.getM 1 rfl)) rfl) (Nat.le_of_ble_eq_true rfl) rfl fun w117 hC => ?_
          refine s_as (v := .int .i64 r108) rfl ?_
          refine done ?_
          refine then_norm ?_
          refine wp_seq ?_
          refine wp_seq ?_
          refine cw_region ?_
          refine s_mv (v := .int .i64 r108) rfl ?_
          refine s_neq rfl rfl ?_
          refine done ?_
          refine then_norm ?_
          refine cw_cond rfl (fun hb118 => ?_) (fun hb118 => ?_)
          · replace h := ift h (ct hb118)
            refine wp_seq ?_
            refine cw_region ?_
            refine s_build [] rfl (bl24   _) ?_
            refine s_mv (v := .int .i64 r108) rfl ?_
            refine s_store (v := .agg (List.toArray (A8.enc .u8 A8.zero))) hC 4 (A8.enc .u8 A8.zero) (A8.enc .u8 A8.zero) rfl ag24.size h6_ rfl rfl rfl rfl (Nat.le_of_ble_eq_true rfl) rfl fun w119 hC => ?_
            refine s_as (v := .int .i64 0) rfl ?_
            refine s_as (v := .int .i64 r108) rfl ?_
            refine done ?_
            refine then_norm ?_
            refine wp_ret (then_ret ?_)
            refine ret3 (fn := Try.f16) rfl ?_ ?_ ?_ ⟨A8.zero, 0, r108, rfl, h, hC.below⟩ (.inl rfl)
            · exact res_cellA hC 4 rfl ag24 h6_ rfl
            · exact res_tmp rfl
            · exact res_tmp rfl
          · replace h := iff_ h (cf hb118)
            refine wp_skip ?_
            refine then_norm ?_
            refine wp_seq ?_
            refine cw_region ?_
            refine s_faddrB 0 Try.underlying51 rfl sc49.size rfl rfl ?_
            refine s_loadS hC 0 (u104) rfl sc49 rfl rfl ?_
            obtain ⟨⟨h0_120, h1_121⟩, h⟩ := h
            obtain ⟨Ad122, c123, hv124⟩ := own_formE (hC.getM 1 rfl) (Nat.lt_of_le_of_lt (Nat.zero_le _) (show 0 < r103.terms.length by omega))
            refine s_iaddrO (0 * 9) Try.underlying49 ag93.size (tr rfl hv124) rfl h0_120 h1_121 rfl ?_
            refine s_faddrB (0 * 9 + 0) Try.underlying93 rfl ag24.size rfl rfl ?_
            refine s_loadCA (A8.enc .u8 ((r103.terms.getD 0 default).mono)) (cells_subO (o := 0) (k := 8) (own_cellsE (hC.getM 1 rfl) hv124 0 (show 0 < r103.terms.length by omega)) rfl) ag24 rfl rfl ?_
            refine s_mv (v := .int .i64 r42) h10_ ?_
            refine s_store (v := .agg (List.toArray (A8.enc .u8 ((r103.terms.getD 0 default).mono)))) hC 4 (A8.enc .u8 ((r103.terms.getD 0 default).mono)) (A8.enc .u8 ((r103.terms.getD 0 default).mono)) rfl ag24.size h6_ rfl rfl rfl rfl (Nat.le_of_ble_eq_true rfl) rfl fun w125 hC => ?_
            refine s_as (v := .int .i64 r42) rfl ?_
            refine s_as (v := .int .i64 0) rfl ?_
            refine done ?_
            refine then_norm ?_
            refine wp_ret ?_
            refine ret3 (fn := Try.f16) rfl ?_ ?_ ?_ ⟨(r103.terms.getD 0 default).mono, r42, 0, rfl, h, hC.below⟩ (.inl rfl)
            · exact res_cellA hC 4 rfl ag24 h6_ rfl
            · exact res_tmp rfl
            · exact res_tmp rfl
      refine ae_two 1 9 rfl rfl (by kernel_rfl) ?_ ?_
      · skip
        refine s_call [.agg (List.toArray (A8.enc .u8 a1))] _ Try.func64 rfl rfl rfl (c_impl_powerOf a1 h _) (fun ret126 w128 hR127 => ?_)
        obtain ⟨r129, rfl, h, hB130⟩ := hR127
        refine ⟨_, rfl, ?_⟩
        replace hC := hC.grow hB130
        refine done ?_
        refine ak_intro (by assumption) (listed' := (List.toArray [true, true, true, true, false, false, false, false, false, false, false, false])) rfl ?_
        refine ae_two 4 9 rfl rfl (by kernel_rfl) ?_ ?_
        · skip
          refine s_call [.agg (List.toArray (A8.enc .u8 a2))] _ Try.func64 rfl rfl rfl (c_impl_powerOf a2 h _) (fun ret131 w133 hR132 => ?_)
          obtain ⟨r134, rfl, h, hB135⟩ := hR132
          refine ⟨_, rfl, ?_⟩
          replace hC := hC.grow hB135
          refine done ?_
          refine ak_intro (by assumption) (listed' := (List.toArray [true, true, true, true, true, false, false, false, false, false, false, false])) rfl ?_
          refine ae_two 5 9 rfl rfl (by kernel_rfl) ?_ ?_
          · skip
            refine s_call [.agg (List.toArray (A8.enc .i64 r129)), u0_0, .agg (List.toArray (A8.enc .i64 r134))] _ Try.func65 rfl rfl rfl (c_impl_power_times r129 a0 r134 h _ (hC.getP 0 rfl)) (fun ret136 w138 hR137 => ?_)
            obtain ⟨r139, r140, rfl, h, hB141⟩ := hR137
            refine ⟨_, rfl, ?_⟩
            replace hC := hC.grow hB141
            refine done ?_
            refine ak_intro (by assumption) (listed' := (List.toArray [true, true, true, true, true, true, false, false, false, false, false, false])) rfl ?_
            refine ae_lookF 6 (.tuple #[.agg (List.toArray (A8.enc .i64 r139)), .int .i64 r140]) rfl rfl (by kernel_rfl) (hM27 6 rfl) (fun w_ => .inl ⟨rfl, by exact r_mv (v := .tuple #[.agg (List.toArray (A8.enc .i64 r139)), .int .i64 r140]) rfl⟩) (listed' := (List.toArray [true, true, true, true, true, true, true, false, false, false, false, false])) rfl ?_
            refine ae_lookF 7 (.agg (List.toArray (A8.enc .i64 r139))) rfl rfl (by kernel_rfl) (hM27 7 rfl) (fun w_ => .inl ⟨rfl, by exact r_ext (v := .agg (List.toArray (A8.enc .i64 r139))) rfl rfl⟩) (listed' := (List.toArray [true, true, true, true, true, true, true, true, false, false, false, false])) rfl ?_
            refine ae_lookF 8 (.int .i64 r140) rfl rfl (by kernel_rfl) (hM27 8 rfl) (fun w_ => .inl ⟨rfl, by exact r_ext (v := .int .i64 r140) rfl rfl⟩) (listed' := (List.toArray [true, true, true, true, true, true, true, true, true, false, false, false])) rfl ?_
            refine ae_one 9 rfl (by kernel_rfl) ?_
            refine s_alloc hC (A8.enc .i64 A8.zero) z85 rfl fun b142 w144 hB_ hC => ?_
            refine done ?_
            refine ak_intro (by assumption) (listed' := (List.toArray [true, true, true, true, true, true, true, true, true, true, false, false])) rfl ?_
            refine ae_one 10 rfl (by kernel_rfl) ?_
            refine s_store (v := .agg (List.toArray (A8.enc .i64 r139))) hC 0 (A8.enc .i64 r139) (A8.enc .i64 r139) rfl ag85.size rfl rfl rfl rfl rfl (Nat.le_of_ble_eq_true rfl) rfl fun w145 hC => ?_
            refine done ?_
            refine ak_introN (by decide) (listed' := (List.toArray [true, true, true, true, true, true, true, true, true, true, true, false])) rfl ?_
            refine ae_tail 11 (by decide) (by decide) (by kernel_rfl) rfl rfl ?_
            refine s_as (v := .int .i64 r140) rfl ?_
            refine done ?_
            refine qn_norm ?_
            replace hC := hC.sel [0, 1] [0] (M' := [blk b142 85 (A8.enc .i64 r139), blk b8 24 (A8.enc .u8 A8.zero)]) (Ps' := [Ty.item ((EI .i64).ty.sl) a0 [u0_0] fp0]) (by decide) rfl rfl
            exact ⟨rfl, _, rfl, ⟨b142, r139, r140, rfl, rfl, rfl, rfl, rfl, hC, h⟩⟩
          · skip
            refine s_alloc hC (A8.enc .i64 A8.zero) z85 rfl fun b146 w148 hB_ hC => ?_
            refine done ?_
            refine ak_intro (by assumption) (listed' := (List.toArray [true, true, true, true, true, false, false, false, false, true, false, false])) rfl ?_
            refine ae_one 5 rfl (by kernel_rfl) ?_
            refine s_call [.agg (List.toArray (A8.enc .i64 r129)), u0_0, .agg (List.toArray (A8.enc .i64 r134))] _ Try.func65 rfl rfl rfl (c_impl_power_times r129 a0 r134 h _ (hC.getP 0 rfl)) (fun ret149 w151 hR150 => ?_)
            obtain ⟨r152, r153, rfl, h, hB154⟩ := hR150
            refine ⟨_, rfl, ?_⟩
            replace hC := hC.grow hB154
            refine done ?_
            refine ak_intro (by assumption) (listed' := (List.toArray [true, true, true, true, true, true, false, false, false, true, false, false])) rfl ?_
            refine ae_lookF 6 (.tuple #[.agg (List.toArray (A8.enc .i64 r152)), .int .i64 r153]) rfl rfl (by kernel_rfl) (hM27 6 rfl) (fun w_ => .inl ⟨rfl, by exact r_mv (v := .tuple #[.agg (List.toArray (A8.enc .i64 r152)), .int .i64 r153]) rfl⟩) (listed' := (List.toArray [true, true, true, true, true, true, true, false, false, true, false, false])) rfl ?_
            refine ae_lookF 7 (.agg (List.toArray (A8.enc .i64 r152))) rfl rfl (by kernel_rfl) (hM27 7 rfl) (fun w_ => .inl ⟨rfl, by exact r_ext (v := .agg (List.toArray (A8.enc .i64 r152))) rfl rfl⟩) (listed' := (List.toArray [true, true, true, true, true, true, true, true, false, true, false, false])) rfl ?_
            refine ae_lookF 8 (.int .i64 r153) rfl rfl (by kernel_rfl) (hM27 8 rfl) (fun w_ => .inl ⟨rfl, by exact r_ext (v := .int .i64 r153) rfl rfl⟩) (listed' := (List.toArray [true, true, true, true, true, true, true, true, true, true, false, false])) rfl ?_
            refine ae_one 10 rfl (by kernel_rfl) ?_
            refine s_store (v := .agg (List.toArray (A8.enc .i64 r152))) hC 0 (A8.enc .i64 r152) (A8.enc .i64 r152) rfl ag85.size rfl rfl rfl rfl rfl (Nat.le_of_ble_eq_true rfl) rfl fun w155 hC => ?_
            refine done ?_
            refine ak_introN (by decide) (listed' := (List.toArray [true, true, true, true, true, true, true, true, true, true, true, false])) rfl ?_
            refine ae_tail 11 (by decide) (by decide) (by kernel_rfl) rfl rfl ?_
            refine s_as (v := .int .i64 r153) rfl ?_
            refine done ?_
            refine qn_norm ?_
            replace hC := hC.sel [0, 1] [0] (M' := [blk b146 85 (A8.enc .i64 r152), blk b8 24 (A8.enc .u8 A8.zero)]) (Ps' := [Ty.item ((EI .i64).ty.sl) a0 [u0_0] fp0]) (by decide) rfl rfl
            exact ⟨rfl, _, rfl, ⟨b146, r152, r153, rfl, rfl, rfl, rfl, rfl, hC, h⟩⟩
        · skip
          refine s_alloc hC (A8.enc .i64 A8.zero) z85 rfl fun b156 w158 hB_ hC => ?_
          refine done ?_
          refine ak_intro (by assumption) (listed' := (List.toArray [true, true, true, true, false, false, false, false, false, true, false, false])) rfl ?_
          refine ae_one 4 rfl (by kernel_rfl) ?_
          refine s_call [.agg (List.toArray (A8.enc .u8 a2))] _ Try.func64 rfl rfl rfl (c_impl_powerOf a2 h _) (fun ret159 w161 hR160 => ?_)
          obtain ⟨r162, rfl, h, hB163⟩ := hR160
          refine ⟨_, rfl, ?_⟩
          replace hC := hC.grow hB163
          refine done ?_
          refine ak_intro (by assumption) (listed' := (List.toArray [true, true, true, true, true, false, false, false, false, true, false, false])) rfl ?_
          refine ae_one 5 rfl (by kernel_rfl) ?_
          refine s_call [.agg (List.toArray (A8.enc .i64 r129)), u0_0, .agg (List.toArray (A8.enc .i64 r162))] _ Try.func65 rfl rfl rfl (c_impl_power_times r129 a0 r162 h _ (hC.getP 0 rfl)) (fun ret164 w166 hR165 => ?_)
          obtain ⟨r167, r168, rfl, h, hB169⟩ := hR165
          refine ⟨_, rfl, ?_⟩
          replace hC := hC.grow hB169
          refine done ?_
          refine ak_intro (by assumption) (listed' := (List.toArray [true, true, true, true, true, true, false, false, false, true, false, false])) rfl ?_
          refine ae_lookF 6 (.tuple #[.agg (List.toArray (A8.enc .i64 r167)), .int .i64 r168]) rfl rfl (by kernel_rfl) (hM27 6 rfl) (fun w_ => .inl ⟨rfl, by exact r_mv (v := .tuple #[.agg (List.toArray (A8.enc .i64 r167)), .int .i64 r168]) rfl⟩) (listed' := (List.toArray [true, true, true, true, true, true, true, false, false, true, false, false])) rfl ?_
          refine ae_lookF 7 (.agg (List.toArray (A8.enc .i64 r167))) rfl rfl (by kernel_rfl) (hM27 7 rfl) (fun w_ => .inl ⟨rfl, by exact r_ext (v := .agg (List.toArray (A8.enc .i64 r167))) rfl rfl⟩) (listed' := (List.toArray [true, true, true, true, true, true, true, true, false, true, false, false])) rfl ?_
          refine ae_lookF 8 (.int .i64 r168) rfl rfl (by kernel_rfl) (hM27 8 rfl) (fun w_ => .inl ⟨rfl, by exact r_ext (v := .int .i64 r168) rfl rfl⟩) (listed' := (List.toArray [true, true, true, true, true, true, true, true, true, true, false, false])) rfl ?_
          refine ae_one 10 rfl (by kernel_rfl) ?_
          refine s_store (v := .agg (List.toArray (A8.enc .i64 r167))) hC 0 (A8.enc .i64 r167) (A8.enc .i64 r167) rfl ag85.size rfl rfl rfl rfl rfl (Nat.le_of_ble_eq_true rfl) rfl fun w170 hC => ?_
          refine done ?_
          refine ak_introN (by decide) (listed' := (List.toArray [true, true, true, true, true, true, true, true, true, true, true, false])) rfl ?_
          refine ae_tail 11 (by decide) (by decide) (by kernel_rfl) rfl rfl ?_
          refine s_as (v := .int .i64 r168) rfl ?_
          refine done ?_
          refine qn_norm ?_
          replace hC := hC.sel [0, 1] [0] (M' := [blk b156 85 (A8.enc .i64 r167), blk b8 24 (A8.enc .u8 A8.zero)]) (Ps' := [Ty.item ((EI .i64).ty.sl) a0 [u0_0] fp0]) (by decide) rfl rfl
          exact ⟨rfl, _, rfl, ⟨b156, r167, r168, rfl, rfl, rfl, rfl, rfl, hC, h⟩⟩
      · skip
        refine s_alloc hC (A8.enc .i64 A8.zero) z85 rfl fun b171 w173 hB_ hC => ?_
        refine done ?_
        refine ak_intro (by assumption) (listed' := (List.toArray [true, false, true, true, false, false, false, false, false, true, false, false])) rfl ?_
        refine ae_one 1 rfl (by kernel_rfl) ?_
        refine s_call [.agg (List.toArray (A8.enc .u8 a1))] _ Try.func64 rfl rfl rfl (c_impl_powerOf a1 h _) (fun ret174 w176 hR175 => ?_)
        obtain ⟨r177, rfl, h, hB178⟩ := hR175
        refine ⟨_, rfl, ?_⟩
        replace hC := hC.grow hB178
        refine done ?_
        refine ak_intro (by assumption) (listed' := (List.toArray [true, true, true, true, false, false, false, false, false, true, false, false])) rfl ?_
        refine ae_one 4 rfl (by kernel_rfl) ?_
        refine s_call [.agg (List.toArray (A8.enc .u8 a2))] _ Try.func64 rfl rfl rfl (c_impl_powerOf a2 h _) (fun ret179 w181 hR180 => ?_)
        obtain ⟨r182, rfl, h, hB183⟩ := hR180
        refine ⟨_, rfl, ?_⟩
        replace hC := hC.grow hB183
        refine done ?_
        refine ak_intro (by assumption) (listed' := (List.toArray [true, true, true, true, true, false, false, false, false, true, false, false])) rfl ?_
        refine ae_one 5 rfl (by kernel_rfl) ?_
        refine s_call [.agg (List.toArray (A8.enc .i64 r177)), u0_0, .agg (List.toArray (A8.enc .i64 r182))] _ Try.func65 rfl rfl rfl (c_impl_power_times r177 a0 r182 h _ (hC.getP 0 rfl)) (fun ret184 w186 hR185 => ?_)
        obtain ⟨r187, r188, rfl, h, hB189⟩ := hR185
        refine ⟨_, rfl, ?_⟩
        replace hC := hC.grow hB189
        refine done ?_
        refine ak_intro (by assumption) (listed' := (List.toArray [true, true, true, true, true, true, false, false, false, true, false, false])) rfl ?_
        refine ae_lookF 6 (.tuple #[.agg (List.toArray (A8.enc .i64 r187)), .int .i64 r188]) rfl rfl (by kernel_rfl) (hM27 6 rfl) (fun w_ => .inl ⟨rfl, by exact r_mv (v := .tuple #[.agg (List.toArray (A8.enc .i64 r187)), .int .i64 r188]) rfl⟩) (listed' := (List.toArray [true, true, true, true, true, true, true, false, false, true, false, false])) rfl ?_
        refine ae_lookF 7 (.agg (List.toArray (A8.enc .i64 r187))) rfl rfl (by kernel_rfl) (hM27 7 rfl) (fun w_ => .inl ⟨rfl, by exact r_ext (v := .agg (List.toArray (A8.enc .i64 r187))) rfl rfl⟩) (listed' := (List.toArray [true, true, true, true, true, true, true, true, false, true, false, false])) rfl ?_
        refine ae_lookF 8 (.int .i64 r188) rfl rfl (by kernel_rfl) (hM27 8 rfl) (fun w_ => .inl ⟨rfl, by exact r_ext (v := .int .i64 r188) rfl rfl⟩) (listed' := (List.toArray [true, true, true, true, true, true, true, true, true, true, false, false])) rfl ?_
        refine ae_one 10 rfl (by kernel_rfl) ?_
        refine s_store (v := .agg (List.toArray (A8.enc .i64 r187))) hC 0 (A8.enc .i64 r187) (A8.enc .i64 r187) rfl ag85.size rfl rfl rfl rfl rfl (Nat.le_of_ble_eq_true rfl) rfl fun w190 hC => ?_
        refine done ?_
        refine ak_introN (by decide) (listed' := (List.toArray [true, true, true, true, true, true, true, true, true, true, true, false])) rfl ?_
        refine ae_tail 11 (by decide) (by decide) (by kernel_rfl) rfl rfl ?_
        refine s_as (v := .int .i64 r188) rfl ?_
        refine done ?_
        refine qn_norm ?_
        replace hC := hC.sel [0, 1] [0] (M' := [blk b171 85 (A8.enc .i64 r187), blk b8 24 (A8.enc .u8 A8.zero)]) (Ps' := [Ty.item ((EI .i64).ty.sl) a0 [u0_0] fp0]) (by decide) rfl rfl
        exact ⟨rfl, _, rfl, ⟨b171, r187, r188, rfl, rfl, rfl, rfl, rfl, hC, h⟩⟩
end Go.Proofs.Ytjngkbalaipdbaa
