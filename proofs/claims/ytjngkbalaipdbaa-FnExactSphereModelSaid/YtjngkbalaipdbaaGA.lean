/- Printed by vcgen.py: functions of the program as predicates, and that the machine's calls meet them. -/
import Derived.Test.YtjngkbalaipdbaaGAb
set_option linter.unusedVariables false
set_option linter.unusedSimpArgs false
set_option maxRecDepth 4000
set_option maxHeartbeats 4000000
namespace Go.Proofs.Ytjngkbalaipdbaa
open Go Go.RowKit Vc
def f_impl_isMonomial (a0 : List Int) (a1 : A8) (K : Bool → Prop) : Prop :=
  forN (fun i21 (s22 : Unit) next23 => (if (i21 : Int) < (a0.length : Int) then ((0 ≤ (i21 : Int) ∧ (i21 : Int) < (a0.length : Int)) ∧ (if Int.tmod (a0.getD i21 default) 2 = 1 then (if a1.get i21 > 1 then K false else next23 ()) else (if a1.get i21 > 20 then K false else next23 ()))) else (if a1.get i21 > 0 then K false else next23 ()))) (fun (s22 : Unit) => K true) 8 0 ()
theorem c_impl_isMonomial (a0 : List Int) (a1 : A8) {u0_0 : Value} {fp0 : List Nat} {K : Bool → Prop} (h : f_impl_isMonomial a0 a1 K) (w0 : World) (q0 : ((EI .i64).ty.sl).rep a0 [u0_0] fp0 w0) :
    Calls Try.prog 101 #[u0_0, .agg (List.toArray (A8.enc .u8 a1))] w0 fun e w' => ∃ (r0 : Bool), 
      e = .returned (.bool r0) ∧ K r0 ∧ Bel w0 w' := by
  unfold f_impl_isMonomial at h
  refine calls_of (args := [u0_0, .agg (List.toArray (A8.enc .u8 a1))]) Try.func101 rfl 27 Try.ntmps101 (Nat.le_of_ble_eq_true rfl) ?_
  have hC := Ctx.start (X := Nox) w0 [Ty.item ((EI .i64).ty.sl) a0 [u0_0] fp0] (by simp only [List.mem_cons, List.not_mem_nil, or_false, forall_eq_or_imp, forall_eq]; exact q0)
  refine wp_seq ?_
  refine cw_region ?_
  refine s_box (v := .agg (List.toArray (A8.enc .u8 a1))) hC (A8.enc .u8 a1) rfl rfl fun b2 w4 hB_ hC => ?_
  refine s_as (v := .bool false) rfl ?_
  refine done ?_
  refine then_norm ?_
  refine wp_seq ?_
  refine wp_seq ?_
  refine cw_region ?_
  refine s_loadA hC 0 (A8.enc .u8 a1) rfl ag24 rfl rfl rfl ?_
  refine s_mv (v := .int .i64 0) rfl ?_
  refine done ?_
  refine then_norm ?_
  refine wp_block ?_
  refine loopN (S := Unit) _ _ (fun i21 s22 e_ w_ => e_ 0 = u0_0 ∧ e_ 4 = .bool false ∧ e_ 8 = .agg (List.toArray (A8.enc .u8 a1)) ∧ e_ 9 = .int .i64 (i21 : Int) ∧ Ctx Nox w0 w_ [] [Ty.item ((EI .i64).ty.sl) a0 [u0_0] fp0]) 8 ?_ ?_ (s0 := ()) ?_ h
  · clear hC h
    rintro i21 s22 e_ w27 next23 K24 hi26 ⟨h0_, h4_, h8_, h9_, hC⟩ h hK25
    refine wp_seq ?_
    refine cw_region ?_
    refine s_lss h9_ rfl ?_
    refine done ?_
    refine then_norm ?_
    refine wp_seq ?_
    refine cw_true rfl (decide_eq_true (by omega)) ?_
    refine wp_skip ?_
    refine then_norm ?_
    refine wp_seq ?_
    refine wp_block ?_
    refine wp_seq ?_
    refine cw_region ?_
    refine s_mv (v := .int .i64 (i21 : Int)) h9_ ?_
    refine s_index (.int .u8 (a1.get i21)) Try.underlying24 h8_ h9_ (Int.natCast_nonneg _) (by omega) sc5 (A8.enc_get _ _ hi26) ?_
    refine s_as (v := .int .i64 (i21 : Int)) rfl ?_
    refine s_as (v := .int .u8 (a1.get i21)) rfl ?_
    refine done ?_
    refine then_norm ?_
    refine wp_seq ?_
    refine cw_region ?_
    refine s_as (v := .int .u8 0) rfl ?_
    refine done ?_
    refine then_norm ?_
    refine wp_seq ?_
    refine wp_seq ?_
    refine cw_region ?_
    refine s_mv (v := .int .i64 (i21 : Int)) rfl ?_
    refine s_mv (v := u0_0) h0_ ?_
    obtain ⟨Ad28, c29, hv30⟩ := sl_len (hC.getP 0 rfl)
    refine s_len Try.underlying22 (tr rfl hv30) ?_
    refine s_lss rfl rfl ?_
    refine done ?_
    refine then_norm ?_
    refine cw_cond rfl (fun hb31 => ?_) (fun hb31 => ?_)
    · replace h := ift h (ct hb31)
      refine wp_seq ?_
      refine cw_region ?_
      refine s_as (v := .int .u8 20) rfl ?_
      refine done ?_
      refine then_norm ?_
      refine wp_seq ?_
      refine cw_region ?_
      refine s_mv (v := u0_0) h0_ ?_
      refine s_mv (v := .int .i64 (i21 : Int)) rfl ?_
      obtain ⟨⟨h0_32, h1_33⟩, h⟩ := h
      obtain ⟨Ad34, c35, hv36⟩ := sl_form (hC.getP 0 rfl) i21 (show i21 < a0.length by omega)
      refine s_iaddrS (len := a0.length) Try.underlying22 sc2.size (tr rfl hv36) rfl h0_32 h1_33 ?_
      refine s_loadCS (.int .i64 (a0.getD i21 default)) (sl_cellsE (hC.getP 0 rfl) hv36 i21 (show i21 < a0.length by omega)) sc2 rfl ?_
      refine s_rem rfl rfl (by decide) ?_
      refine s_eql rfl rfl ?_
      refine done ?_
      refine then_norm ?_
      refine cw_cond rfl (fun hb37 => ?_) (fun hb37 => ?_)
      · replace h := ift h (ct hb37)
        refine cw_region ?_
        refine s_as (v := .int .u8 1) rfl ?_
        refine done ?_
        refine then_norm ?_
        refine wp_seq ?_
        refine cw_region ?_
        refine s_mv (v := .int .u8 (a1.get i21)) rfl ?_
        refine s_mv (v := .int .u8 1) rfl ?_
        refine s_gtr rfl rfl ?_
        refine done ?_
        refine then_norm ?_
        refine cw_cond rfl (fun hb38 => ?_) (fun hb38 => ?_)
        · replace h := ift h (ct hb38)
          refine wp_seq ?_
          refine cw_region ?_
          refine s_as (v := .bool false) rfl ?_
          refine done ?_
          refine then_norm ?_
          refine wp_ret (blk_ret (then_ret (then_ret (blk_ret (then_ret ?_)))))
          refine ret1 (fn := Try.f101) rfl ?_ ⟨false, rfl, h, hC.below⟩ (.inl rfl)
          exact res_tmp rfl
        · replace h := iff_ h (cf hb38)
          refine wp_skip ?_
          refine blk_norm ?_
          refine then_norm ?_
          refine cw_region ?_
          refine s_add h9_ rfl ?_
          refine s_mv (v := .int .i64 (IntKind.i64.wrap ((i21 : Int) + 1))) rfl ?_
          refine done ?_
          exact hK25 () _ _ ⟨h0_, h4_, h8_, (tr rfl (congrArg _ (wrap64_nat hi26 (by decide)))), hC⟩ h
      · replace h := iff_ h (cf hb37)
        refine wp_skip ?_
        refine then_norm ?_
        refine wp_seq ?_
        refine cw_region ?_
        refine s_mv (v := .int .u8 (a1.get i21)) rfl ?_
        refine s_mv (v := .int .u8 20) rfl ?_
        refine s_gtr rfl rfl ?_
        refine done ?_
        refine then_norm ?_
        refine cw_cond rfl (fun hb39 => ?_) (fun hb39 => ?_)
        · replace h := ift h (ct hb39)
          refine wp_seq ?_
          refine cw_region ?_
          refine s_as (v := .bool false) rfl ?_
          refine done ?_
          refine then_norm ?_
          refine wp_ret (blk_ret (then_ret (then_ret (blk_ret (then_ret ?_)))))
          refine ret1 (fn := Try.f101) rfl ?_ ⟨false, rfl, h, hC.below⟩ (.inl rfl)
          exact res_tmp rfl
        · replace h := iff_ h (cf hb39)
          refine wp_skip ?_
          refine blk_norm ?_
          refine then_norm ?_
          refine cw_region ?_
          refine s_add h9_ rfl ?_
          refine s_mv (v := .int .i64 (IntKind.i64.wrap ((i21 : Int) + 1))) rfl ?_
          refine done ?_
          exact hK25 () _ _ ⟨h0_, h4_, h8_, (tr rfl (congrArg _ (wrap64_nat hi26 (by decide)))), hC⟩ h
    · replace h := iff_ h (cf hb31)
      refine wp_skip ?_
      refine then_norm ?_
      refine wp_seq ?_
      refine cw_region ?_
      refine s_mv (v := .int .u8 (a1.get i21)) rfl ?_
      refine s_mv (v := .int .u8 0) rfl ?_
      refine s_gtr rfl rfl ?_
      refine done ?_
      refine then_norm ?_
      refine cw_cond rfl (fun hb40 => ?_) (fun hb40 => ?_)
      · replace h := ift h (ct hb40)
        refine wp_seq ?_
        refine cw_region ?_
        refine s_as (v := .bool false) rfl ?_
        refine done ?_
        refine then_norm ?_
        refine wp_ret (blk_ret (then_ret (then_ret (blk_ret (then_ret ?_)))))
        refine ret1 (fn := Try.f101) rfl ?_ ⟨false, rfl, h, hC.below⟩ (.inl rfl)
        exact res_tmp rfl
      · replace h := iff_ h (cf hb40)
        refine wp_skip ?_
        refine blk_norm ?_
        refine then_norm ?_
        refine cw_region ?_
        refine s_add h9_ rfl ?_
        refine s_mv (v := .int .i64 (IntKind.i64.wrap ((i21 : Int) + 1))) rfl ?_
        refine done ?_
        exact hK25 () _ _ ⟨h0_, h4_, h8_, (tr rfl (congrArg _ (wrap64_nat hi26 (by decide)))), hC⟩ h
  · clear hC h
    rintro s22 e_ w41 K24 ⟨h0_, h4_, h8_, h9_, hC⟩ h
    refine wp_seq ?_
    refine cw_region ?_
    refine s_lss h9_ rfl ?_
    refine done ?_
    refine then_norm ?_
    refine wp_seq ?_
    refine cw_false rfl (decide_eq_false (by omega)) ?_
    refine wp_exit (then_exit (then_exit (exit_in ?_)))
    refine then_norm ?_
    refine wp_seq ?_
    refine cw_region ?_
    refine s_as (v := .bool true) rfl ?_
    refine done ?_
    refine then_norm ?_
    refine wp_ret ?_
    refine ret1 (fn := Try.f101) rfl ?_ ⟨true, rfl, h, hC.below⟩ (.inl rfl)
    exact res_tmp rfl
  · skip
    replace hC := hC.sel [] [0] (M' := []) (Ps' := [Ty.item ((EI .i64).ty.sl) a0 [u0_0] fp0]) (by decide) rfl rfl
    exact ⟨rfl, rfl, rfl, rfl, hC⟩
def f_impl_IsMonomial (a0 : List Int) (a1 : A8) (K : Bool → Prop) : Prop :=
  f_impl_AreDegrees a0 (fun r8 => (if r8 = true then f_impl_isMonomial a0 a1 (fun r14 => K r14) else K false))
theorem c_impl_IsMonomial (a0 : List Int) (a1 : A8) {u0_0 : Value} {fp0 : List Nat} {K : Bool → Prop} (h : f_impl_IsMonomial a0 a1 K) (w0 : World) (q0 : ((EI .i64).ty.sl).rep a0 [u0_0] fp0 w0) :
    Calls Try.prog 50 #[u0_0, .agg (List.toArray (A8.enc .u8 a1))] w0 fun e w' => ∃ (r0 : Bool), 
      e = .returned (.bool r0) ∧ K r0 ∧ Bel w0 w' := by
  unfold f_impl_IsMonomial at h
  refine calls_of (args := [u0_0, .agg (List.toArray (A8.enc .u8 a1))]) Try.func50 rfl 12 Try.ntmps50 (Nat.le_of_ble_eq_true rfl) ?_
  have hC := Ctx.start (X := Nox) w0 [Ty.item ((EI .i64).ty.sl) a0 [u0_0] fp0] (by simp only [List.mem_cons, List.not_mem_nil, or_false, forall_eq_or_imp, forall_eq]; exact q0)
  refine wp_seq ?_
  refine cw_region ?_
  refine s_box (v := .agg (List.toArray (A8.enc .u8 a1))) hC (A8.enc .u8 a1) rfl rfl fun b2 w4 hB_ hC => ?_
  refine s_as (v := .bool false) rfl ?_
  refine done ?_
  refine then_norm ?_
  refine wp_seq ?_
  refine cw_region ?_
  refine s_mv (v := u0_0) rfl ?_
  refine s_call [u0_0] _ Try.func52 rfl rfl rfl (c_impl_AreDegrees a0 h _ (hC.getP 0 rfl)) (fun ret5 w7 hR6 => ?_)
  obtain ⟨r8, rfl, h, hB9⟩ := hR6
  refine ⟨_, rfl, ?_⟩
  replace hC := hC.grow hB9
  refine s_mv (v := .bool r8) rfl ?_
  refine bsplit r8 (fun hb10 => ?_) (fun hb10 => ?_)
  · replace h := ift h (hb10)
    refine guardOn 2 7 rfl rfl hb10 ?_
    refine s_mv (v := u0_0) rfl ?_
    refine guardOn 2 7 rfl rfl hb10 ?_
    refine s_loadA hC 0 (A8.enc .u8 a1) rfl ag24 rfl rfl rfl ?_
    refine guardOn 2 7 rfl rfl hb10 ?_
    refine s_call [u0_0, .agg (List.toArray (A8.enc .u8 a1))] _ Try.func101 rfl rfl rfl (c_impl_isMonomial a0 a1 h _ (hC.getP 0 rfl)) (fun ret11 w13 hR12 => ?_)
    obtain ⟨r14, rfl, h, hB15⟩ := hR12
    refine ⟨_, rfl, ?_⟩
    replace hC := hC.grow hB15
    refine s_pick (v := .bool r14) (b := true) (tr rfl (congrArg _ hb10)) rfl ?_
    refine s_as (v := .bool r14) rfl ?_
    refine done ?_
    refine then_norm ?_
    refine wp_ret ?_
    refine ret1 (fn := Try.f50) rfl ?_ ⟨r14, rfl, h, hC.below⟩ (.inl rfl)
    exact res_tmp rfl
  · replace h := iff_ h (ne_t hb10)
    refine guardOff (b := false) 2 7 rfl (tr rfl (congrArg _ hb10)) (by decide) ?_
    refine guardOff (b := false) 2 7 rfl (tr rfl (congrArg _ hb10)) (by decide) ?_
    refine guardOff (b := false) 2 7 rfl (tr rfl (congrArg _ hb10)) (by decide) ?_
    refine s_pick (v := .bool false) (b := false) (tr rfl (congrArg _ hb10)) rfl ?_
    refine s_as (v := .bool false) rfl ?_
    refine done ?_
    refine then_norm ?_
    refine wp_ret ?_
    refine ret1 (fn := Try.f50) rfl ?_ ⟨false, rfl, h, hC.below⟩ (.inl rfl)
    exact res_tmp rfl
def f_impl_MultiplyMonomials (a0 : List Int) (a1 : A8) (a2 : A8) (K : A8 → Int → Int → Prop) : Prop :=
  f_impl_IsMonomial a0 a1 (fun r14 => (if ¬ (r14 = true) then K A8.zero 0 1 else f_impl_IsMonomial a0 a2 (fun r21 => (if ¬ (r21 = true) then K A8.zero 0 1 else f_impl_powerOf a1 (fun r29 => f_impl_powerOf a2 (fun r34 => f_impl_power_times r29 a0 r34 (fun r39 r40 => (if r40 = 0 then K A8.zero 0 0 else f_impl_sum_form (mset ([] : List (A8 × Int)) r39 1) (fun r55 r60 => (if r60 ≠ 0 then K A8.zero 0 r60 else ((0 ≤ (0 : Int) ∧ (0 : Int) < (r55.terms.length : Int)) ∧ K ((r55.terms.getD 0 default).mono) r40 0)))))))))))
theorem c_impl_MultiplyMonomials (a0 : List Int) (a1 : A8) (a2 : A8) {u0_0 : Value} {fp0 : List Nat} {K : A8 → Int → Int → Prop} (h : f_impl_MultiplyMonomials a0 a1 a2 K) (w0 : World) (q0 : ((EI .i64).ty.sl).rep a0 [u0_0] fp0 w0) :
    Calls Try.prog 16 #[u0_0, .agg (List.toArray (A8.enc .u8 a1)), .agg (List.toArray (A8.enc .u8 a2))] w0 fun e w' => ∃ (r0 : A8) (r1 : Int) (r2 : Int), 
      e = .returned (.tuple #[.agg (List.toArray (A8.enc .u8 r0)), .int .i64 r1, .int .i64 r2]) ∧ K r0 r1 r2 ∧ Bel w0 w' := by
  unfold f_impl_MultiplyMonomials at h
  refine calls_of (args := [u0_0, .agg (List.toArray (A8.enc .u8 a1)), .agg (List.toArray (A8.enc .u8 a2))]) Try.func16 rfl 53 Try.ntmps16 (Nat.le_of_ble_eq_true rfl) ?_
  have hC := Ctx.start (X := Nox) w0 [Ty.item ((EI .i64).ty.sl) a0 [u0_0] fp0] (by simp only [List.mem_cons, List.not_mem_nil, or_false, forall_eq_or_imp, forall_eq]; exact q0)
  refine wp_seq ?_
  refine cw_region ?_
  refine s_box (v := .agg (List.toArray (A8.enc .u8 a1))) hC (A8.enc .u8 a1) rfl rfl fun b2 w4 hB_ hC => ?_
  refine s_box (v := .agg (List.toArray (A8.enc .u8 a2))) hC (A8.enc .u8 a2) rfl rfl fun b5 w7 hB_ hC => ?_
  refine s_alloc hC (A8.enc .u8 A8.zero) z24 rfl fun b8 w10 hB_ hC => ?_
  refine s_as (v := .int .i64 0) rfl ?_
  refine s_as (v := .int .i64 0) rfl ?_
  refine done ?_
  refine then_norm ?_
  refine wp_seq ?_
  refine wp_seq ?_
  refine cw_region ?_
  refine s_mv (v := u0_0) rfl ?_
  refine s_loadA hC 2 (A8.enc .u8 a1) rfl ag24 rfl rfl rfl ?_
  refine s_call [u0_0, .agg (List.toArray (A8.enc .u8 a1))] _ Try.func50 rfl rfl rfl (c_impl_IsMonomial a0 a1 h _ (hC.getP 0 rfl)) (fun ret11 w13 hR12 => ?_)
  obtain ⟨r14, rfl, h, hB15⟩ := hR12
  refine ⟨_, rfl, ?_⟩
  replace hC := hC.grow hB15
  refine s_not rfl ?_
  refine s_mv (v := .bool (!r14)) rfl ?_
  refine bsplit (!r14) (fun hb16 => ?_) (fun hb16 => ?_)
  · replace h := ift h (ne_t (not_t hb16))
    refine guardOff (b := true) 4 17 rfl (tr rfl (congrArg _ hb16)) (by decide) ?_
    refine guardOff (b := true) 4 17 rfl (tr rfl (congrArg _ hb16)) (by decide) ?_
    refine guardOff (b := true) 4 17 rfl (tr rfl (congrArg _ hb16)) (by decide) ?_
    refine guardOff (b := true) 4 17 rfl (tr rfl (congrArg _ hb16)) (by decide) ?_
    refine s_pick (v := .bool true) (b := true) (tr rfl (congrArg _ hb16)) rfl ?_
    refine done ?_
    refine then_norm ?_
    refine cw_true rfl rfl ?_
    refine wp_seq ?_
    refine cw_region ?_
    refine s_build [] rfl (bl24   _) ?_
    refine s_store (v := .agg (List.toArray (A8.enc .u8 A8.zero))) hC 0 (A8.enc .u8 A8.zero) (A8.enc .u8 A8.zero) rfl ag24.size rfl rfl rfl rfl rfl (Nat.le_of_ble_eq_true rfl) rfl fun w17 hC => ?_
    refine s_as (v := .int .i64 0) rfl ?_
    refine s_as (v := .int .i64 1) rfl ?_
    refine done ?_
    refine then_norm ?_
    refine wp_ret (then_ret ?_)
    refine ret3 (fn := Try.f16) rfl ?_ ?_ ?_ ⟨A8.zero, 0, 1, rfl, h, hC.below⟩ (.inl rfl)
    · exact res_cellA hC 0 rfl ag24 rfl rfl
    · exact res_tmp rfl
    · exact res_tmp rfl
  · replace h := iff_ h (not_not_intro ((not_f hb16)))
    refine guardOn 4 17 rfl rfl hb16 ?_
    refine s_mv (v := u0_0) rfl ?_
    refine guardOn 4 17 rfl rfl hb16 ?_
    refine s_loadA hC 1 (A8.enc .u8 a2) rfl ag24 rfl rfl rfl ?_
    refine guardOn 4 17 rfl rfl hb16 ?_
    refine s_call [u0_0, .agg (List.toArray (A8.enc .u8 a2))] _ Try.func50 rfl rfl rfl (c_impl_IsMonomial a0 a2 h _ (hC.getP 0 rfl)) (fun ret18 w20 hR19 => ?_)
    obtain ⟨r21, rfl, h, hB22⟩ := hR19
    refine ⟨_, rfl, ?_⟩
    replace hC := hC.grow hB22
    refine guardOn 4 17 rfl rfl hb16 ?_
    refine s_not rfl ?_
    refine s_pick (v := .bool (!r21)) (b := false) (tr rfl (congrArg _ hb16)) rfl ?_
    refine done ?_
    refine then_norm ?_
    refine cw_cond rfl (fun hb23 => ?_) (fun hb23 => ?_)
    · replace h := ift h (ne_t (not_t hb23))
      refine wp_seq ?_
      refine cw_region ?_
      refine s_build [] rfl (bl24   _) ?_
      refine s_store (v := .agg (List.toArray (A8.enc .u8 A8.zero))) hC 0 (A8.enc .u8 A8.zero) (A8.enc .u8 A8.zero) rfl ag24.size rfl rfl rfl rfl rfl (Nat.le_of_ble_eq_true rfl) rfl fun w24 hC => ?_
      refine s_as (v := .int .i64 0) rfl ?_
      refine s_as (v := .int .i64 1) rfl ?_
      refine done ?_
      refine then_norm ?_
      refine wp_ret (then_ret ?_)
      refine ret3 (fn := Try.f16) rfl ?_ ?_ ?_ ⟨A8.zero, 0, 1, rfl, h, hC.below⟩ (.inl rfl)
      · exact res_cellA hC 0 rfl ag24 rfl rfl
      · exact res_tmp rfl
      · exact res_tmp rfl
    · replace h := iff_ h (not_not_intro ((not_f hb23)))
      refine wp_skip ?_
      refine then_norm ?_
      refine wp_seq ?_
      refine cw_draw 10 mixed (fun w25 hB_ => ?_)
      replace hC := hC.grow hB_
      refine ae_look 0 (.agg (List.toArray (A8.enc .u8 a1))) rfl rfl (by kernel_rfl) (by kernel_rfl) (by kernel_rfl) (fun w_ hB_ => .inl ⟨rfl, by exact r_loadA (hC.grow hB_) 2 (A8.enc .u8 a1) rfl ag24 rfl rfl rfl⟩) (listed' := (List.toArray [true, false, false, false, false, false, false, false, false, false, false, false])) rfl ?_
      refine ae_lookF 2 (u0_0) rfl rfl (by kernel_rfl) (by kernel_rfl) (by kernel_rfl) (fun w_ => .inl ⟨rfl, by exact r_mv (v := u0_0) rfl⟩) (listed' := (List.toArray [true, false, true, false, false, false, false, false, false, false, false, false])) rfl ?_
      refine ae_look 3 (.agg (List.toArray (A8.enc .u8 a2))) rfl rfl (by kernel_rfl) (by kernel_rfl) (by kernel_rfl) (fun w_ hB_ => .inl ⟨rfl, by exact r_loadA (hC.grow hB_) 1 (A8.enc .u8 a2) rfl ag24 rfl rfl rfl⟩) (listed' := (List.toArray [true, false, true, true, false, false, false, false, false, false, false, false])) rfl ?_
      refine ae_two 1 9 rfl rfl (by kernel_rfl) ?_ ?_
      · skip
        refine s_call [.agg (List.toArray (A8.enc .u8 a1))] _ Try.func64 rfl rfl rfl (c_impl_powerOf a1 h _) (fun ret26 w28 hR27 => ?_)
        obtain ⟨r29, rfl, h, hB30⟩ := hR27
        refine ⟨_, rfl, ?_⟩
        replace hC := hC.grow hB30
        refine done ?_
        refine ak_intro (by assumption) (listed' := (List.toArray [true, true, true, true, false, false, false, false, false, false, false, false])) rfl ?_
        refine ae_two 4 9 rfl rfl (by kernel_rfl) ?_ ?_
        · skip
          refine s_call [.agg (List.toArray (A8.enc .u8 a2))] _ Try.func64 rfl rfl rfl (c_impl_powerOf a2 h _) (fun ret31 w33 hR32 => ?_)
          obtain ⟨r34, rfl, h, hB35⟩ := hR32
          refine ⟨_, rfl, ?_⟩
          replace hC := hC.grow hB35
          refine done ?_
          refine ak_intro (by assumption) (listed' := (List.toArray [true, true, true, true, true, false, false, false, false, false, false, false])) rfl ?_
          refine ae_two 5 9 rfl rfl (by kernel_rfl) ?_ ?_
          · skip
            refine s_call [.agg (List.toArray (A8.enc .i64 r29)), u0_0, .agg (List.toArray (A8.enc .i64 r34))] _ Try.func65 rfl rfl rfl (c_impl_power_times r29 a0 r34 h _ (hC.getP 0 rfl)) (fun ret36 w38 hR37 => ?_)
            obtain ⟨r39, r40, rfl, h, hB41⟩ := hR37
            refine ⟨_, rfl, ?_⟩
            replace hC := hC.grow hB41
            refine done ?_
            refine ak_intro (by assumption) (listed' := (List.toArray [true, true, true, true, true, true, false, false, false, false, false, false])) rfl ?_
            refine ae_lookF 6 (.tuple #[.agg (List.toArray (A8.enc .i64 r39)), .int .i64 r40]) rfl rfl (by kernel_rfl) (by kernel_rfl) (by kernel_rfl) (fun w_ => .inl ⟨rfl, by exact r_mv (v := .tuple #[.agg (List.toArray (A8.enc .i64 r39)), .int .i64 r40]) rfl⟩) (listed' := (List.toArray [true, true, true, true, true, true, true, false, false, false, false, false])) rfl ?_
            refine ae_lookF 7 (.agg (List.toArray (A8.enc .i64 r39))) rfl rfl (by kernel_rfl) (by kernel_rfl) (by kernel_rfl) (fun w_ => .inl ⟨rfl, by exact r_ext (v := .agg (List.toArray (A8.enc .i64 r39))) rfl rfl⟩) (listed' := (List.toArray [true, true, true, true, true, true, true, true, false, false, false, false])) rfl ?_
            refine ae_lookF 8 (.int .i64 r40) rfl rfl (by kernel_rfl) (by kernel_rfl) (by kernel_rfl) (fun w_ => .inl ⟨rfl, by exact r_ext (v := .int .i64 r40) rfl rfl⟩) (listed' := (List.toArray [true, true, true, true, true, true, true, true, true, false, false, false])) rfl ?_
            refine ae_one 9 rfl (by kernel_rfl) ?_
            refine s_alloc hC (A8.enc .i64 A8.zero) z85 rfl fun b42 w44 hB_ hC => ?_
            refine done ?_
            refine ak_intro (by assumption) (listed' := (List.toArray [true, true, true, true, true, true, true, true, true, true, false, false])) rfl ?_
            refine ae_one 10 rfl (by kernel_rfl) ?_
            refine s_store (v := .agg (List.toArray (A8.enc .i64 r39))) hC 0 (A8.enc .i64 r39) (A8.enc .i64 r39) rfl ag85.size rfl rfl rfl rfl rfl (Nat.le_of_ble_eq_true rfl) rfl fun w45 hC => ?_
            refine done ?_
            refine ak_introN (by decide) (listed' := (List.toArray [true, true, true, true, true, true, true, true, true, true, true, false])) rfl ?_
            refine ae_tail 11 (by decide) (by decide) (by kernel_rfl) rfl rfl ?_
            refine s_as (v := .int .i64 r40) rfl ?_
            refine done ?_
            refine qn_norm ?_
            refine then_norm ?_
            refine wp_seq ?_
            refine wp_seq ?_
            refine cw_region ?_
            refine s_mv (v := .int .i64 r40) rfl ?_
            refine s_eql rfl rfl ?_
            refine done ?_
            refine then_norm ?_
            refine cw_cond rfl (fun hb46 => ?_) (fun hb46 => ?_)
            · replace h := ift h (ct hb46)
              refine wp_seq ?_
              refine cw_region ?_
              refine s_build [] rfl (bl24   _) ?_
              refine s_store (v := .agg (List.toArray (A8.enc .u8 A8.zero))) hC 1 (A8.enc .u8 A8.zero) (A8.enc .u8 A8.zero) rfl ag24.size rfl rfl rfl rfl rfl (Nat.le_of_ble_eq_true rfl) rfl fun w47 hC => ?_
              refine s_as (v := .int .i64 0) rfl ?_
              refine s_as (v := .int .i64 0) rfl ?_
              refine done ?_
              refine then_norm ?_
              refine wp_ret (then_ret ?_)
              refine ret3 (fn := Try.f16) rfl ?_ ?_ ?_ ⟨A8.zero, 0, 0, rfl, h, hC.below⟩ (.inl rfl)
              · exact res_cellA hC 1 rfl ag24 rfl rfl
              · exact res_tmp rfl
              · exact res_tmp rfl
            · replace h := iff_ h (cf hb46)
              refine wp_skip ?_
              refine then_norm ?_
              refine wp_seq ?_
              refine cw_region ?_
              refine s_makeMap hC (kvA .i64) (vvI .i64) fun b48 w50 hB_ hC => ?_
              refine s_loadA hC 1 (A8.enc .i64 r39) rfl ag85 rfl rfl rfl ?_
              refine s_mapset hC 0 r39 1 rfl kt85 Try.underlying90 rfl rfl rfl (fun w51 hC => ?_) (.inr rfl)
              refine s_mv (v := .map (some b48)) rfl ?_
              refine s_call [.map (some b48)] _ Try.func66 rfl rfl rfl (c_impl_sum_form (mset ([] : List (A8 × Int)) r39 1) h _ (hC.getM 0 rfl)) (fun ret52 w54 hR53 => ?_)
              obtain ⟨r55, u56, f57, r60, rfl, h, hr58, hf59, hB61⟩ := hR53
              refine ⟨_, rfl, ?_⟩
              replace hC := hC.push hB61 (Tr.item (TrForm 93) r55 [u56] f57) hr58 hf59
              obtain ⟨ho63, hf64⟩ := form_split (hC.getM 0 rfl)
              subst hf64
              replace hC := hC.recast (c := own 93 9 u56 r55.terms.length (ETerm.encs r55.terms)) (fun _ h_ => h_) (fun _ => ho63)
              refine s_mv (v := .tuple #[.agg #[u56], .int .i64 r60]) rfl ?_
              refine s_ext (v := .agg #[u56]) rfl rfl ?_
              refine s_ext (v := .int .i64 r60) rfl rfl ?_
              refine s_alloc hC [.slice none 0 0] z51 rfl fun b66 w68 hB_ hC => ?_
              refine s_store (v := .agg #[u56]) hC 0 [u56] [u56] rfl ag51.size rfl rfl rfl rfl (all_c (own_oneC (hC.getM 1 rfl)) rfl) (Nat.le_of_ble_eq_true rfl) rfl fun w69 hC => ?_
              refine s_as (v := .int .i64 r60) rfl ?_
              refine done ?_
              refine then_norm ?_
              refine wp_seq ?_
              refine wp_seq ?_
              refine cw_region ?_
              refine s_mv (v := .int .i64 r60) rfl ?_
              refine s_neq rfl rfl ?_
              refine done ?_
              refine then_norm ?_
              refine cw_cond rfl (fun hb70 => ?_) (fun hb70 => ?_)
              · replace h := ift h (ct hb70)
                refine wp_seq ?_
                refine cw_region ?_
                refine s_build [] rfl (bl24   _) ?_
                refine s_mv (v := .int .i64 r60) rfl ?_
                refine s_store (v := .agg (List.toArray (A8.enc .u8 A8.zero))) hC 4 (A8.enc .u8 A8.zero) (A8.enc .u8 A8.zero) rfl ag24.size rfl rfl rfl rfl rfl (Nat.le_of_ble_eq_true rfl) rfl fun w71 hC => ?_
                refine s_as (v := .int .i64 0) rfl ?_
                refine s_as (v := .int .i64 r60) rfl ?_
                refine done ?_
                refine then_norm ?_
                refine wp_ret (then_ret ?_)
                refine ret3 (fn := Try.f16) rfl ?_ ?_ ?_ ⟨A8.zero, 0, r60, rfl, h, hC.below⟩ (.inl rfl)
                · exact res_cellA hC 4 rfl ag24 rfl rfl
                · exact res_tmp rfl
                · exact res_tmp rfl
              · replace h := iff_ h (cf hb70)
                refine wp_skip ?_
                refine then_norm ?_
                refine wp_seq ?_
                refine cw_region ?_
                refine s_faddrB 0 Try.underlying51 rfl sc49.size rfl rfl ?_
                refine s_loadS hC 0 (u56) rfl sc49 rfl rfl ?_
                obtain ⟨⟨h0_72, h1_73⟩, h⟩ := h
                obtain ⟨Ad74, c75, hv76⟩ := own_formE (hC.getM 1 rfl) (Nat.lt_of_le_of_lt (Nat.zero_le _) (show 0 < r55.terms.length by omega))
                refine s_iaddrO (0 * 9) Try.underlying49 ag93.size (tr rfl hv76) rfl h0_72 h1_73 rfl ?_
                refine s_faddrB (0 * 9 + 0) Try.underlying93 rfl ag24.size rfl rfl ?_
                refine s_loadCA (A8.enc .u8 ((r55.terms.getD 0 default).mono)) (cells_subO (o := 0) (k := 8) (own_cellsE (hC.getM 1 rfl) hv76 0 (show 0 < r55.terms.length by omega)) rfl) ag24 rfl rfl ?_
                refine s_mv (v := .int .i64 r40) rfl ?_
                refine s_store (v := .agg (List.toArray (A8.enc .u8 ((r55.terms.getD 0 default).mono)))) hC 4 (A8.enc .u8 ((r55.terms.getD 0 default).mono)) (A8.enc .u8 ((r55.terms.getD 0 default).mono)) rfl ag24.size rfl rfl rfl rfl rfl (Nat.le_of_ble_eq_true rfl) rfl fun w77 hC => ?_
                refine s_as (v := .int .i64 r40) rfl ?_
                refine s_as (v := .int .i64 0) rfl ?_
                refine done ?_
                refine then_norm ?_
                refine wp_ret ?_
                refine ret3 (fn := Try.f16) rfl ?_ ?_ ?_ ⟨(r55.terms.getD 0 default).mono, r40, 0, rfl, h, hC.below⟩ (.inl rfl)
                · exact res_cellA hC 4 rfl ag24 rfl rfl
                · exact res_tmp rfl
                · exact res_tmp rfl
          · skip
            refine s_alloc hC (A8.enc .i64 A8.zero) z85 rfl fun b78 w80 hB_ hC => ?_
            refine done ?_
            refine ak_intro (by assumption) (listed' := (List.toArray [true, true, true, true, true, false, false, false, false, true, false, false])) rfl ?_
            refine ae_one 5 rfl (by kernel_rfl) ?_
            refine s_call [.agg (List.toArray (A8.enc .i64 r29)), u0_0, .agg (List.toArray (A8.enc .i64 r34))] _ Try.func65 rfl rfl rfl (c_impl_power_times r29 a0 r34 h _ (hC.getP 0 rfl)) (fun ret81 w83 hR82 => ?_)
            obtain ⟨r84, r85, rfl, h, hB86⟩ := hR82
            refine ⟨_, rfl, ?_⟩
            replace hC := hC.grow hB86
            refine done ?_
            refine ak_intro (by assumption) (listed' := (List.toArray [true, true, true, true, true, true, false, false, false, true, false, false])) rfl ?_
            refine ae_lookF 6 (.tuple #[.agg (List.toArray (A8.enc .i64 r84)), .int .i64 r85]) rfl rfl (by kernel_rfl) (by kernel_rfl) (by kernel_rfl) (fun w_ => .inl ⟨rfl, by exact r_mv (v := .tuple #[.agg (List.toArray (A8.enc .i64 r84)), .int .i64 r85]) rfl⟩) (listed' := (List.toArray [true, true, true, true, true, true, true, false, false, true, false, false])) rfl ?_
            refine ae_lookF 7 (.agg (List.toArray (A8.enc .i64 r84))) rfl rfl (by kernel_rfl) (by kernel_rfl) (by kernel_rfl) (fun w_ => .inl ⟨rfl, by exact r_ext (v := .agg (List.toArray (A8.enc .i64 r84))) rfl rfl⟩) (listed' := (List.toArray [true, true, true, true, true, true, true, true, false, true, false, false])) rfl ?_
            refine ae_lookF 8 (.int .i64 r85) rfl rfl (by kernel_rfl) (by kernel_rfl) (by kernel_rfl) (fun w_ => .inl ⟨rfl, by exact r_ext (v := .int .i64 r85) rfl rfl⟩) (listed' := (List.toArray [true, true, true, true, true, true, true, true, true, true, false, false])) rfl ?_
            refine ae_one 10 rfl (by kernel_rfl) ?_
            refine s_store (v := .agg (List.toArray (A8.enc .i64 r84))) hC 0 (A8.enc .i64 r84) (A8.enc .i64 r84) rfl ag85.size rfl rfl rfl rfl rfl (Nat.le_of_ble_eq_true rfl) rfl fun w87 hC => ?_
            refine done ?_
            refine ak_introN (by decide) (listed' := (List.toArray [true, true, true, true, true, true, true, true, true, true, true, false])) rfl ?_
            refine ae_tail 11 (by decide) (by decide) (by kernel_rfl) rfl rfl ?_
            refine s_as (v := .int .i64 r85) rfl ?_
            refine done ?_
            refine qn_norm ?_
            refine then_norm ?_
            refine wp_seq ?_
            refine wp_seq ?_
            refine cw_region ?_
            refine s_mv (v := .int .i64 r85) rfl ?_
            refine s_eql rfl rfl ?_
            refine done ?_
            refine then_norm ?_
            refine cw_cond rfl (fun hb88 => ?_) (fun hb88 => ?_)
            · replace h := ift h (ct hb88)
              refine wp_seq ?_
              refine cw_region ?_
              refine s_build [] rfl (bl24   _) ?_
              refine s_store (v := .agg (List.toArray (A8.enc .u8 A8.zero))) hC 1 (A8.enc .u8 A8.zero) (A8.enc .u8 A8.zero) rfl ag24.size rfl rfl rfl rfl rfl (Nat.le_of_ble_eq_true rfl) rfl fun w89 hC => ?_
              refine s_as (v := .int .i64 0) rfl ?_
              refine s_as (v := .int .i64 0) rfl ?_
              refine done ?_
              refine then_norm ?_
              refine wp_ret (then_ret ?_)
              refine ret3 (fn := Try.f16) rfl ?_ ?_ ?_ ⟨A8.zero, 0, 0, rfl, h, hC.below⟩ (.inl rfl)
              · exact res_cellA hC 1 rfl ag24 rfl rfl
              · exact res_tmp rfl
              · exact res_tmp rfl
            · replace h := iff_ h (cf hb88)
              refine wp_skip ?_
              refine then_norm ?_
              refine wp_seq ?_
              refine cw_region ?_
              refine s_makeMap hC (kvA .i64) (vvI .i64) fun b90 w92 hB_ hC => ?_
              refine s_loadA hC 1 (A8.enc .i64 r84) rfl ag85 rfl rfl rfl ?_
              refine s_mapset hC 0 r84 1 rfl kt85 Try.underlying90 rfl rfl rfl (fun w93 hC => ?_) (.inr rfl)
              refine s_mv (v := .map (some b90)) rfl ?_
              refine s_call [.map (some b90)] _ Try.func66 rfl rfl rfl (c_impl_sum_form (mset ([] : List (A8 × Int)) r84 1) h _ (hC.getM 0 rfl)) (fun ret94 w96 hR95 => ?_)
              obtain ⟨r97, u98, f99, r102, rfl, h, hr100, hf101, hB103⟩ := hR95
              refine ⟨_, rfl, ?_⟩
              replace hC := hC.push hB103 (Tr.item (TrForm 93) r97 [u98] f99) hr100 hf101
              obtain ⟨ho105, hf106⟩ := form_split (hC.getM 0 rfl)
              subst hf106
              replace hC := hC.recast (c := own 93 9 u98 r97.terms.length (ETerm.encs r97.terms)) (fun _ h_ => h_) (fun _ => ho105)
              refine s_mv (v := .tuple #[.agg #[u98], .int .i64 r102]) rfl ?_
              refine s_ext (v := .agg #[u98]) rfl rfl ?_
              refine s_ext (v := .int .i64 r102) rfl rfl ?_
              refine s_alloc hC [.slice none 0 0] z51 rfl fun b108 w110 hB_ hC => ?_
              refine s_store (v := .agg #[u98]) hC 0 [u98] [u98] rfl ag51.size rfl rfl rfl rfl (all_c (own_oneC (hC.getM 1 rfl)) rfl) (Nat.le_of_ble_eq_true rfl) rfl fun w111 hC => ?_
              refine s_as (v := .int .i64 r102) rfl ?_
              refine done ?_
              refine then_norm ?_
              refine wp_seq ?_
              refine wp_seq ?_
              refine cw_region ?_
              refine s_mv (v := .int .i64 r102) rfl ?_
              refine s_neq rfl rfl ?_
              refine done ?_
              refine then_norm ?_
              refine cw_cond rfl (fun hb112 => ?_) (fun hb112 => ?_)
              · replace h := ift h (ct hb112)
                refine wp_seq ?_
                refine cw_region ?_
                refine s_build [] rfl (bl24   _) ?_
                refine s_mv (v := .int .i64 r102) rfl ?_
                refine s_store (v := .agg (List.toArray (A8.enc .u8 A8.zero))) hC 4 (A8.enc .u8 A8.zero) (A8.enc .u8 A8.zero) rfl ag24.size rfl rfl rfl rfl rfl (Nat.le_of_ble_eq_true rfl) rfl fun w113 hC => ?_
                refine s_as (v := .int .i64 0) rfl ?_
                refine s_as (v := .int .i64 r102) rfl ?_
                refine done ?_
                refine then_norm ?_
                refine wp_ret (then_ret ?_)
                refine ret3 (fn := Try.f16) rfl ?_ ?_ ?_ ⟨A8.zero, 0, r102, rfl, h, hC.below⟩ (.inl rfl)
                · exact res_cellA hC 4 rfl ag24 rfl rfl
                · exact res_tmp rfl
                · exact res_tmp rfl
              · replace h := iff_ h (cf hb112)
                refine wp_skip ?_
                refine then_norm ?_
                refine wp_seq ?_
                refine cw_region ?_
                refine s_faddrB 0 Try.underlying51 rfl sc49.size rfl rfl ?_
                refine s_loadS hC 0 (u98) rfl sc49 rfl rfl ?_
                obtain ⟨⟨h0_114, h1_115⟩, h⟩ := h
                obtain ⟨Ad116, c117, hv118⟩ := own_formE (hC.getM 1 rfl) (Nat.lt_of_le_of_lt (Nat.zero_le _) (show 0 < r97.terms.length by omega))
                refine s_iaddrO (0 * 9) Try.underlying49 ag93.size (tr rfl hv118) rfl h0_114 h1_115 rfl ?_
                refine s_faddrB (0 * 9 + 0) Try.underlying93 rfl ag24.size rfl rfl ?_
                refine s_loadCA (A8.enc .u8 ((r97.terms.getD 0 default).mono)) (cells_subO (o := 0) (k := 8) (own_cellsE (hC.getM 1 rfl) hv118 0 (show 0 < r97.terms.length by omega)) rfl) ag24 rfl rfl ?_
                refine s_mv (v := .int .i64 r85) rfl ?_
                refine s_store (v := .agg (List.toArray (A8.enc .u8 ((r97.terms.getD 0 default).mono)))) hC 4 (A8.enc .u8 ((r97.terms.getD 0 default).mono)) (A8.enc .u8 ((r97.terms.getD 0 default).mono)) rfl ag24.size rfl rfl rfl rfl rfl (Nat.le_of_ble_eq_true rfl) rfl fun w119 hC => ?_
                refine s_as (v := .int .i64 r85) rfl ?_
                refine s_as (v := .int .i64 0) rfl ?_
                refine done ?_
                refine then_norm ?_
                refine wp_ret ?_
                refine ret3 (fn := Try.f16) rfl ?_ ?_ ?_ ⟨(r97.terms.getD 0 default).mono, r85, 0, rfl, h, hC.below⟩ (.inl rfl)
                · exact res_cellA hC 4 rfl ag24 rfl rfl
                · exact res_tmp rfl
                · exact res_tmp rfl
        · skip
          refine s_alloc hC (A8.enc .i64 A8.zero) z85 rfl fun b120 w122 hB_ hC => ?_
          refine done ?_
          refine ak_intro (by assumption) (listed' := (List.toArray [true, true, true, true, false, false, false, false, false, true, false, false])) rfl ?_
          refine ae_one 4 rfl (by kernel_rfl) ?_
          refine s_call [.agg (List.toArray (A8.enc .u8 a2))] _ Try.func64 rfl rfl rfl (c_impl_powerOf a2 h _) (fun ret123 w125 hR124 => ?_)
          obtain ⟨r126, rfl, h, hB127⟩ := hR124
          refine ⟨_, rfl, ?_⟩
          replace hC := hC.grow hB127
          refine done ?_
          refine ak_intro (by assumption) (listed' := (List.toArray [true, true, true, true, true, false, false, false, false, true, false, false])) rfl ?_
          refine ae_one 5 rfl (by kernel_rfl) ?_
          refine s_call [.agg (List.toArray (A8.enc .i64 r29)), u0_0, .agg (List.toArray (A8.enc .i64 r126))] _ Try.func65 rfl rfl rfl (c_impl_power_times r29 a0 r126 h _ (hC.getP 0 rfl)) (fun ret128 w130 hR129 => ?_)
          obtain ⟨r131, r132, rfl, h, hB133⟩ := hR129
          refine ⟨_, rfl, ?_⟩
          replace hC := hC.grow hB133
          refine done ?_
          refine ak_intro (by assumption) (listed' := (List.toArray [true, true, true, true, true, true, false, false, false, true, false, false])) rfl ?_
          refine ae_lookF 6 (.tuple #[.agg (List.toArray (A8.enc .i64 r131)), .int .i64 r132]) rfl rfl (by kernel_rfl) (by kernel_rfl) (by kernel_rfl) (fun w_ => .inl ⟨rfl, by exact r_mv (v := .tuple #[.agg (List.toArray (A8.enc .i64 r131)), .int .i64 r132]) rfl⟩) (listed' := (List.toArray [true, true, true, true, true, true, true, false, false, true, false, false])) rfl ?_
          refine ae_lookF 7 (.agg (List.toArray (A8.enc .i64 r131))) rfl rfl (by kernel_rfl) (by kernel_rfl) (by kernel_rfl) (fun w_ => .inl ⟨rfl, by exact r_ext (v := .agg (List.toArray (A8.enc .i64 r131))) rfl rfl⟩) (listed' := (List.toArray [true, true, true, true, true, true, true, true, false, true, false, false])) rfl ?_
          refine ae_lookF 8 (.int .i64 r132) rfl rfl (by kernel_rfl) (by kernel_rfl) (by kernel_rfl) (fun w_ => .inl ⟨rfl, by exact r_ext (v := .int .i64 r132) rfl rfl⟩) (listed' := (List.toArray [true, true, true, true, true, true, true, true, true, true, false, false])) rfl ?_
          refine ae_one 10 rfl (by kernel_rfl) ?_
          refine s_store (v := .agg (List.toArray (A8.enc .i64 r131))) hC 0 (A8.enc .i64 r131) (A8.enc .i64 r131) rfl ag85.size rfl rfl rfl rfl rfl (Nat.le_of_ble_eq_true rfl) rfl fun w134 hC => ?_
          refine done ?_
          refine ak_introN (by decide) (listed' := (List.toArray [true, true, true, true, true, true, true, true, true, true, true, false])) rfl ?_
          refine ae_tail 11 (by decide) (by decide) (by kernel_rfl) rfl rfl ?_
          refine s_as (v := .int .i64 r132) rfl ?_
          refine done ?_
          refine qn_norm ?_
          refine then_norm ?_
          refine wp_seq ?_
          refine wp_seq ?_
          refine cw_region ?_
          refine s_mv (v := .int .i64 r132) rfl ?_
          refine s_eql rfl rfl ?_
          refine done ?_
          refine then_norm ?_
          refine cw_cond rfl (fun hb135 => ?_) (fun hb135 => ?_)
          · replace h := ift h (ct hb135)
            refine wp_seq ?_
            refine cw_region ?_
            refine s_build [] rfl (bl24   _) ?_
            refine s_store (v := .agg (List.toArray (A8.enc .u8 A8.zero))) hC 1 (A8.enc .u8 A8.zero) (A8.enc .u8 A8.zero) rfl ag24.size rfl rfl rfl rfl rfl (Nat.le_of_ble_eq_true rfl) rfl fun w136 hC => ?_
            refine s_as (v := .int .i64 0) rfl ?_
            refine s_as (v := .int .i64 0) rfl ?_
            refine done ?_
            refine then_norm ?_
            refine wp_ret (then_ret ?_)
            refine ret3 (fn := Try.f16) rfl ?_ ?_ ?_ ⟨A8.zero, 0, 0, rfl, h, hC.below⟩ (.inl rfl)
            · exact res_cellA hC 1 rfl ag24 rfl rfl
            · exact res_tmp rfl
            · exact res_tmp rfl
          · replace h := iff_ h (cf hb135)
            refine wp_skip ?_
            refine then_norm ?_
            refine wp_seq ?_
            refine cw_region ?_
            refine s_makeMap hC (kvA .i64) (vvI .i64) fun b137 w139 hB_ hC => ?_
            refine s_loadA hC 1 (A8.enc .i64 r131) rfl ag85 rfl rfl rfl ?_
            refine s_mapset hC 0 r131 1 rfl kt85 Try.underlying90 rfl rfl rfl (fun w140 hC => ?_) (.inr rfl)
            refine s_mv (v := .map (some b137)) rfl ?_
            refine s_call [.map (some b137)] _ Try.func66 rfl rfl rfl (c_impl_sum_form (mset ([] : List (A8 × Int)) r131 1) h _ (hC.getM 0 rfl)) (fun ret141 w143 hR142 => ?_)
            obtain ⟨r144, u145, f146, r149, rfl, h, hr147, hf148, hB150⟩ := hR142
            refine ⟨_, rfl, ?_⟩
            replace hC := hC.push hB150 (Tr.item (TrForm 93) r144 [u145] f146) hr147 hf148
            obtain ⟨ho152, hf153⟩ := form_split (hC.getM 0 rfl)
            subst hf153
            replace hC := hC.recast (c := own 93 9 u145 r144.terms.length (ETerm.encs r144.terms)) (fun _ h_ => h_) (fun _ => ho152)
            refine s_mv (v := .tuple #[.agg #[u145], .int .i64 r149]) rfl ?_
            refine s_ext (v := .agg #[u145]) rfl rfl ?_
            refine s_ext (v := .int .i64 r149) rfl rfl ?_
            refine s_alloc hC [.slice none 0 0] z51 rfl fun b155 w157 hB_ hC => ?_
            refine s_store (v := .agg #[u145]) hC 0 [u145] [u145] rfl ag51.size rfl rfl rfl rfl (all_c (own_oneC (hC.getM 1 rfl)) rfl) (Nat.le_of_ble_eq_true rfl) rfl fun w158 hC => ?_
            refine s_as (v := .int .i64 r149) rfl ?_
            refine done ?_
            refine then_norm ?_
            refine wp_seq ?_
            refine wp_seq ?_
            refine cw_region ?_
            refine s_mv (v := .int .i64 r149) rfl ?_
            refine s_neq rfl rfl ?_
            refine done ?_
            refine then_norm ?_
            refine cw_cond rfl (fun hb159 => ?_) (fun hb159 => ?_)
            · replace h := ift h (ct hb159)
              refine wp_seq ?_
              refine cw_region ?_
              refine s_build [] rfl (bl24   _) ?_
              refine s_mv (v := .int .i64 r149) rfl ?_
              refine s_store (v := .agg (List.toArray (A8.enc .u8 A8.zero))) hC 4 (A8.enc .u8 A8.zero) (A8.enc .u8 A8.zero) rfl ag24.size rfl rfl rfl rfl rfl (Nat.le_of_ble_eq_true rfl) rfl fun w160 hC => ?_
              refine s_as (v := .int .i64 0) rfl ?_
              refine s_as (v := .int .i64 r149) rfl ?_
              refine done ?_
              refine then_norm ?_
              refine wp_ret (then_ret ?_)
              refine ret3 (fn := Try.f16) rfl ?_ ?_ ?_ ⟨A8.zero, 0, r149, rfl, h, hC.below⟩ (.inl rfl)
              · exact res_cellA hC 4 rfl ag24 rfl rfl
              · exact res_tmp rfl
              · exact res_tmp rfl
            · replace h := iff_ h (cf hb159)
              refine wp_skip ?_
              refine then_norm ?_
              refine wp_seq ?_
              refine cw_region ?_
              refine s_faddrB 0 Try.underlying51 rfl sc49.size rfl rfl ?_
              refine s_loadS hC 0 (u145) rfl sc49 rfl rfl ?_
              obtain ⟨⟨h0_161, h1_162⟩, h⟩ := h
              obtain ⟨Ad163, c164, hv165⟩ := own_formE (hC.getM 1 rfl) (Nat.lt_of_le_of_lt (Nat.zero_le _) (show 0 < r144.terms.length by omega))
              refine s_iaddrO (0 * 9) Try.underlying49 ag93.size (tr rfl hv165) rfl h0_161 h1_162 rfl ?_
              refine s_faddrB (0 * 9 + 0) Try.underlying93 rfl ag24.size rfl rfl ?_
              refine s_loadCA (A8.enc .u8 ((r144.terms.getD 0 default).mono)) (cells_subO (o := 0) (k := 8) (own_cellsE (hC.getM 1 rfl) hv165 0 (show 0 < r144.terms.length by omega)) rfl) ag24 rfl rfl ?_
              refine s_mv (v := .int .i64 r132) rfl ?_
              refine s_store (v := .agg (List.toArray (A8.enc .u8 ((r144.terms.getD 0 default).mono)))) hC 4 (A8.enc .u8 ((r144.terms.getD 0 default).mono)) (A8.enc .u8 ((r144.terms.getD 0 default).mono)) rfl ag24.size rfl rfl rfl rfl rfl (Nat.le_of_ble_eq_true rfl) rfl fun w166 hC => ?_
              refine s_as (v := .int .i64 r132) rfl ?_
              refine s_as (v := .int .i64 0) rfl ?_
              refine done ?_
              refine then_norm ?_
              refine wp_ret ?_
              refine ret3 (fn := Try.f16) rfl ?_ ?_ ?_ ⟨(r144.terms.getD 0 default).mono, r132, 0, rfl, h, hC.below⟩ (.inl rfl)
              · exact res_cellA hC 4 rfl ag24 rfl rfl
              · exact res_tmp rfl
              · exact res_tmp rfl
      · skip
        refine s_alloc hC (A8.enc .i64 A8.zero) z85 rfl fun b167 w169 hB_ hC => ?_
        refine done ?_
        refine ak_intro (by assumption) (listed' := (List.toArray [true, false, true, true, false, false, false, false, false, true, false, false])) rfl ?_
        refine ae_one 1 rfl (by kernel_rfl) ?_
        refine s_call [.agg (List.toArray (A8.enc .u8 a1))] _ Try.func64 rfl rfl rfl (c_impl_powerOf a1 h _) (fun ret170 w172 hR171 => ?_)
        obtain ⟨r173, rfl, h, hB174⟩ := hR171
        refine ⟨_, rfl, ?_⟩
        replace hC := hC.grow hB174
        refine done ?_
        refine ak_intro (by assumption) (listed' := (List.toArray [true, true, true, true, false, false, false, false, false, true, false, false])) rfl ?_
        refine ae_one 4 rfl (by kernel_rfl) ?_
        refine s_call [.agg (List.toArray (A8.enc .u8 a2))] _ Try.func64 rfl rfl rfl (c_impl_powerOf a2 h _) (fun ret175 w177 hR176 => ?_)
        obtain ⟨r178, rfl, h, hB179⟩ := hR176
        refine ⟨_, rfl, ?_⟩
        replace hC := hC.grow hB179
        refine done ?_
        refine ak_intro (by assumption) (listed' := (List.toArray [true, true, true, true, true, false, false, false, false, true, false, false])) rfl ?_
        refine ae_one 5 rfl (by kernel_rfl) ?_
        refine s_call [.agg (List.toArray (A8.enc .i64 r173)), u0_0, .agg (List.toArray (A8.enc .i64 r178))] _ Try.func65 rfl rfl rfl (c_impl_power_times r173 a0 r178 h _ (hC.getP 0 rfl)) (fun ret180 w182 hR181 => ?_)
        obtain ⟨r183, r184, rfl, h, hB185⟩ := hR181
        refine ⟨_, rfl, ?_⟩
        replace hC := hC.grow hB185
        refine done ?_
        refine ak_intro (by assumption) (listed' := (List.toArray [true, true, true, true, true, true, false, false, false, true, false, false])) rfl ?_
        refine ae_lookF 6 (.tuple #[.agg (List.toArray (A8.enc .i64 r183)), .int .i64 r184]) rfl rfl (by kernel_rfl) (by kernel_rfl) (by kernel_rfl) (fun w_ => .inl ⟨rfl, by exact r_mv (v := .tuple #[.agg (List.toArray (A8.enc .i64 r183)), .int .i64 r184]) rfl⟩) (listed' := (List.toArray [true, true, true, true, true, true, true, false, false, true, false, false])) rfl ?_
        refine ae_lookF 7 (.agg (List.toArray (A8.enc .i64 r183))) rfl rfl (by kernel_rfl) (by kernel_rfl) (by kernel_rfl) (fun w_ => .inl ⟨rfl, by exact r_ext (v := .agg (List.toArray (A8.enc .i64 r183))) rfl rfl⟩) (listed' := (List.toArray [true, true, true, true, true, true, true, true, false, true, false, false])) rfl ?_
        refine ae_lookF 8 (.int .i64 r184) rfl rfl (by kernel_rfl) (by kernel_rfl) (by kernel_rfl) (fun w_ => .inl ⟨rfl, by exact r_ext (v := .int .i64 r184) rfl rfl⟩) (listed' := (List.toArray [true, true, true, true, true, true, true, true, true, true, false, false])) rfl ?_
        refine ae_one 10 rfl (by kernel_rfl) ?_
        refine s_store (v := .agg (List.toArray (A8.enc .i64 r183))) hC 0 (A8.enc .i64 r183) (A8.enc .i64 r183) rfl ag85.size rfl rfl rfl rfl rfl (Nat.le_of_ble_eq_true rfl) rfl fun w186 hC => ?_
        refine done ?_
        refine ak_introN (by decide) (listed' := (List.toArray [true, true, true, true, true, true, true, true, true, true, true, false])) rfl ?_
        refine ae_tail 11 (by decide) (by decide) (by kernel_rfl) rfl rfl ?_
        refine s_as (v := .int .i64 r184) rfl ?_
        refine done ?_
        refine qn_norm ?_
        refine then_norm ?_
        refine wp_seq ?_
        refine wp_seq ?_
        refine cw_region ?_
        refine s_mv (v := .int .i64 r184) rfl ?_
        refine s_eql rfl rfl ?_
        refine done ?_
        refine then_norm ?_
        refine cw_cond rfl (fun hb187 => ?_) (fun hb187 => ?_)
        · replace h := ift h (ct hb187)
          refine wp_seq ?_
          refine cw_region ?_
          refine s_build [] rfl (bl24   _) ?_
          refine s_store (v := .agg (List.toArray (A8.enc .u8 A8.zero))) hC 1 (A8.enc .u8 A8.zero) (A8.enc .u8 A8.zero) rfl ag24.size rfl rfl rfl rfl rfl (Nat.le_of_ble_eq_true rfl) rfl fun w188 hC => ?_
          refine s_as (v := .int .i64 0) rfl ?_
          refine s_as (v := .int .i64 0) rfl ?_
          refine done ?_
          refine then_norm ?_
          refine wp_ret (then_ret ?_)
          refine ret3 (fn := Try.f16) rfl ?_ ?_ ?_ ⟨A8.zero, 0, 0, rfl, h, hC.below⟩ (.inl rfl)
          · exact res_cellA hC 1 rfl ag24 rfl rfl
          · exact res_tmp rfl
          · exact res_tmp rfl
        · replace h := iff_ h (cf hb187)
          refine wp_skip ?_
          refine then_norm ?_
          refine wp_seq ?_
          refine cw_region ?_
          refine s_makeMap hC (kvA .i64) (vvI .i64) fun b189 w191 hB_ hC => ?_
          refine s_loadA hC 1 (A8.enc .i64 r183) rfl ag85 rfl rfl rfl ?_
          refine s_mapset hC 0 r183 1 rfl kt85 Try.underlying90 rfl rfl rfl (fun w192 hC => ?_) (.inr rfl)
          refine s_mv (v := .map (some b189)) rfl ?_
          refine s_call [.map (some b189)] _ Try.func66 rfl rfl rfl (c_impl_sum_form (mset ([] : List (A8 × Int)) r183 1) h _ (hC.getM 0 rfl)) (fun ret193 w195 hR194 => ?_)
          obtain ⟨r196, u197, f198, r201, rfl, h, hr199, hf200, hB202⟩ := hR194
          refine ⟨_, rfl, ?_⟩
          replace hC := hC.push hB202 (Tr.item (TrForm 93) r196 [u197] f198) hr199 hf200
          obtain ⟨ho204, hf205⟩ := form_split (hC.getM 0 rfl)
          subst hf205
          replace hC := hC.recast (c := own 93 9 u197 r196.terms.length (ETerm.encs r196.terms)) (fun _ h_ => h_) (fun _ => ho204)
          refine s_mv (v := .tuple #[.agg #[u197], .int .i64 r201]) rfl ?_
          refine s_ext (v := .agg #[u197]) rfl rfl ?_
          refine s_ext (v := .int .i64 r201) rfl rfl ?_
          refine s_alloc hC [.slice none 0 0] z51 rfl fun b207 w209 hB_ hC => ?_
          refine s_store (v := .agg #[u197]) hC 0 [u197] [u197] rfl ag51.size rfl rfl rfl rfl (all_c (own_oneC (hC.getM 1 rfl)) rfl) (Nat.le_of_ble_eq_true rfl) rfl fun w210 hC => ?_
          refine s_as (v := .int .i64 r201) rfl ?_
          refine done ?_
          refine then_norm ?_
          refine wp_seq ?_
          refine wp_seq ?_
          refine cw_region ?_
          refine s_mv (v := .int .i64 r201) rfl ?_
          refine s_neq rfl rfl ?_
          refine done ?_
          refine then_norm ?_
          refine cw_cond rfl (fun hb211 => ?_) (fun hb211 => ?_)
          · replace h := ift h (ct hb211)
            refine wp_seq ?_
            refine cw_region ?_
            refine s_build [] rfl (bl24   _) ?_
            refine s_mv (v := .int .i64 r201) rfl ?_
            refine s_store (v := .agg (List.toArray (A8.enc .u8 A8.zero))) hC 4 (A8.enc .u8 A8.zero) (A8.enc .u8 A8.zero) rfl ag24.size rfl rfl rfl rfl rfl (Nat.le_of_ble_eq_true rfl) rfl fun w212 hC => ?_
            refine s_as (v := .int .i64 0) rfl ?_
            refine s_as (v := .int .i64 r201) rfl ?_
            refine done ?_
            refine then_norm ?_
            refine wp_ret (then_ret ?_)
            refine ret3 (fn := Try.f16) rfl ?_ ?_ ?_ ⟨A8.zero, 0, r201, rfl, h, hC.below⟩ (.inl rfl)
            · exact res_cellA hC 4 rfl ag24 rfl rfl
            · exact res_tmp rfl
            · exact res_tmp rfl
          · replace h := iff_ h (cf hb211)
            refine wp_skip ?_
            refine then_norm ?_
            refine wp_seq ?_
            refine cw_region ?_
            refine s_faddrB 0 Try.underlying51 rfl sc49.size rfl rfl ?_
            refine s_loadS hC 0 (u197) rfl sc49 rfl rfl ?_
            obtain ⟨⟨h0_213, h1_214⟩, h⟩ := h
            obtain ⟨Ad215, c216, hv217⟩ := own_formE (hC.getM 1 rfl) (Nat.lt_of_le_of_lt (Nat.zero_le _) (show 0 < r196.terms.length by omega))
            refine s_iaddrO (0 * 9) Try.underlying49 ag93.size (tr rfl hv217) rfl h0_213 h1_214 rfl ?_
            refine s_faddrB (0 * 9 + 0) Try.underlying93 rfl ag24.size rfl rfl ?_
            refine s_loadCA (A8.enc .u8 ((r196.terms.getD 0 default).mono)) (cells_subO (o := 0) (k := 8) (own_cellsE (hC.getM 1 rfl) hv217 0 (show 0 < r196.terms.length by omega)) rfl) ag24 rfl rfl ?_
            refine s_mv (v := .int .i64 r184) rfl ?_
            refine s_store (v := .agg (List.toArray (A8.enc .u8 ((r196.terms.getD 0 default).mono)))) hC 4 (A8.enc .u8 ((r196.terms.getD 0 default).mono)) (A8.enc .u8 ((r196.terms.getD 0 default).mono)) rfl ag24.size rfl rfl rfl rfl rfl (Nat.le_of_ble_eq_true rfl) rfl fun w218 hC => ?_
            refine s_as (v := .int .i64 r184) rfl ?_
            refine s_as (v := .int .i64 0) rfl ?_
            refine done ?_
            refine then_norm ?_
            refine wp_ret ?_
            refine ret3 (fn := Try.f16) rfl ?_ ?_ ?_ ⟨(r196.terms.getD 0 default).mono, r184, 0, rfl, h, hC.below⟩ (.inl rfl)
            · exact res_cellA hC 4 rfl ag24 rfl rfl
            · exact res_tmp rfl
            · exact res_tmp rfl
end Go.Proofs.Ytjngkbalaipdbaa
