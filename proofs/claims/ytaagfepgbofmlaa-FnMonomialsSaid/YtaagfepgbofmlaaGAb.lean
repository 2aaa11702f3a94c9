/- Printed by vcgen.py: functions of the program as predicates, and that the machine's calls meet them. -/
import Derived.Test.YtaagfepgbofmlaaGAa
set_option linter.unusedVariables false
set_option linter.unusedSimpArgs false
set_option maxRecDepth 4000
set_option maxHeartbeats 4000000
namespace Go.Proofs.Ytaagfepgbofmlaa
open Go Go.RowKit Vc
def f_impl_powerOf (a0 : A8) (K : A8 → Prop) : Prop :=
 forN (fun i21 (s22 : A8) next23 => next23 (s22.set i21 (IntKind.i64.wrap (a0.get i21)))) (fun (s22 : A8) => K s22) 8 0 A8.zero
theorem c_impl_powerOf (a0 : A8)  {K : A8 → Prop} (h : f_impl_powerOf a0 K) (w0 : World)  :
  Calls Try.prog 79 #[.agg (List.toArray (A8.enc .u8 a0))] w0 fun e w' => ∃ (r0 : A8), 
   e = .returned (.agg (List.toArray (A8.enc .i64 r0))) ∧ K r0 ∧ Bel w0 w' := by
 unfold f_impl_powerOf at h
 refine calls_of (args := [.agg (List.toArray (A8.enc .u8 a0))]) Try.func79 rfl 18 Try.ntmps79 (Nat.le_of_ble_eq_true rfl) ?_
 have hC := Ctx.start (X := Nox) w0 [] (by simp)
 refine sr ?_
 refine s_box (v := .agg (List.toArray (A8.enc .u8 a0))) hC (A8.enc .u8 a0) rfl rfl fun b1 w3 hB_ hC => ?_
 refine s_alloc hC (A8.enc .i64 A8.zero) z101 rfl fun b4 w6 hB_ hC => ?_
 refine dn ?_
 refine sr ?_
 refine s_build [] rfl (bl101   _) ?_
 refine s_alloc hC (A8.enc .i64 A8.zero) z101 rfl fun b7 w9 hB_ hC => ?_
 refine s_store (v := .agg (List.toArray (A8.enc .i64 A8.zero))) hC 0 (A8.enc .i64 A8.zero) (A8.enc .i64 A8.zero) rfl ag101.size rfl rfl rfl rfl rfl (Nat.le_of_ble_eq_true rfl) rfl fun w10 hC => ?_
 refine dn ?_
 refine wp_seq ?_
 refine sr ?_
 refine s_loadA hC 2 (A8.enc .u8 a0) rfl ag49 rfl rfl rfl ?_
 refine s_mv (v := .int .i64 0) rfl ?_
 refine dn ?_
 refine wp_block ?_
 refine loopN (S := A8) _ _ (fun i21 s22 e_ w_ => Slots e_ [(2, .pointer (some ⟨b4, 0, none⟩)), (3, .pointer (some ⟨b7, 0, none⟩)), (7, .agg (List.toArray (A8.enc .u8 a0))), (8, .int .i64 (i21 : Int))] ∧ Ctx Nox w0 w_ [blk b7 101 (A8.enc .i64 s22), blk b4 101 (A8.enc .i64 A8.zero)] []) 8 ?_ ?_ (s0 := A8.zero) ?_ h
 ·clear hC h
  rintro i21 s22 e_ w27 next23 K24 hi26 ⟨hS_, hC⟩ h hK25
  refine sr ?_
  refine s_lss (sx hS_ 3 rfl) rfl ?_
  refine dn ?_
  refine wp_seq ?_
  refine cw_true rfl (decide_eq_true (by omega)) ?_
  refine wp_skip ?_
  refine then_norm ?_
  refine wp_seq ?_
  refine wp_block ?_
  refine sr ?_
  refine s_mv (v := .int .i64 (i21 : Int)) (sx hS_ 3 rfl) ?_
  refine s_index (.int .u8 (a0.get i21)) Try.underlying49 (sx hS_ 2 rfl) (sx hS_ 3 rfl) (Int.natCast_nonneg _) (by omega) sc5 (A8.enc_get _ _ hi26) ?_
  refine s_as (v := .int .i64 (i21 : Int)) rfl ?_
  refine s_as (v := .int .u8 (a0.get i21)) rfl ?_
  refine dn ?_
  refine cw_region ?_
  refine s_mv (v := .int .i64 (i21 : Int)) rfl ?_
  refine s_mv (v := .int .u8 (a0.get i21)) rfl ?_
  refine s_conv Try.underlying5 Try.underlying3 rfl ?_
  refine s_iaddrB i21 Try.underlying101 sc3.size (sx hS_ 1 rfl) rfl (Int.natCast_nonneg _) (by omega) (by omega) ?_
  refine s_store (v := .int .i64 (IntKind.i64.wrap (a0.get i21))) hC 0 [.int .i64 (IntKind.i64.wrap (a0.get i21))] (A8.enc .i64 (s22.set i21 (IntKind.i64.wrap (a0.get i21)))) rfl sc3.size rfl rfl rfl rfl rfl hi26 (A8.enc_set _ _ _ hi26) fun w28 hC => ?_
  refine done ?_
  refine blk_norm ?_
  refine then_norm ?_
  refine cw_region ?_
  refine s_add (sx hS_ 3 rfl) rfl ?_
  refine s_mv (v := .int .i64 (IntKind.i64.wrap ((i21 : Int) + 1))) rfl ?_
  refine done ?_
  exact hK25 (s22.set i21 (IntKind.i64.wrap (a0.get i21))) _ _ ⟨(sk (sx hS_ 0 rfl) (sk (sx hS_ 1 rfl) (sk (sx hS_ 2 rfl) (sk (tr rfl (congrArg _ (wrap64_nat hi26 (by decide)))) sn)))), hC⟩ h
 ·clear hC h
  rintro s22 e_ w29 K24 ⟨hS_, hC⟩ h
  refine sr ?_
  refine s_lss (sx hS_ 3 rfl) rfl ?_
  refine dn ?_
  refine wp_seq ?_
  refine cw_false rfl (decide_eq_false (by omega)) ?_
  refine wp_exit (then_exit (then_exit (exit_in ?_)))
  refine then_norm ?_
  refine sr ?_
  refine s_loadA hC 0 (A8.enc .i64 s22) rfl ag101 (sx hS_ 1 rfl) rfl rfl ?_
  refine s_store (v := .agg (List.toArray (A8.enc .i64 s22))) hC 1 (A8.enc .i64 s22) (A8.enc .i64 s22) rfl ag101.size (sx hS_ 0 rfl) rfl rfl rfl rfl (Nat.le_of_ble_eq_true rfl) rfl fun w30 hC => ?_
  refine dn ?_
  refine wp_ret ?_
  refine ret1 (fn := Try.f79) rfl ?_ ⟨s22, rfl, h, hC.below⟩ (.inl rfl)
  exact res_cellA hC 1 rfl ag101 (sx hS_ 0 rfl) rfl
 ·skip
  replace hC := hC.sM [0, 1] (M' := [blk b7 101 (A8.enc .i64 A8.zero), blk b4 101 (A8.enc .i64 A8.zero)]) (by decide) rfl
  exact ⟨(sk rfl (sk rfl (sk rfl (sk rfl sn)))), hC⟩
def f_impl_power_times (a0 : A8) (a1 : List Int) (a2 : A8) (K : A8 → Int → Prop) : Prop :=
 forN (fun i220 (s221 : Int) next223 => (if Int.tmod (a1.getD i220 default) 2 = 0 then next223 s221 else ((0 ≤ (i220 : Int) ∧ (i220 : Int) < 8) ∧ (if a0.get i220 > 0 then ((0 ≤ (i220 : Int) ∧ (i220 : Int) < 8) ∧ (if a2.get i220 > 0 then K A8.zero 0 else ((0 ≤ (i220 : Int) ∧ (i220 : Int) < 8) ∧ next223 s221))) else ((0 ≤ (i220 : Int) ∧ (i220 : Int) < 8) ∧ (if a2.get i220 > 0 then whileP (fun (s274 : Int × Int) next275 => (if s274.1 < (a1.length : Int) then ((0 ≤ s274.1 ∧ s274.1 < (a1.length : Int)) ∧ ((0 ≤ s274.1 ∧ s274.1 < 8) ∧ next275 (IntKind.i64.wrap (s274.1 + 1), IntKind.i64.wrap (s274.2 + (IntKind.i64.wrap ((Int.tmod (a1.getD s274.1.toNat default) 2) * (a0.get s274.1.toNat))))))) else next223 s274.2)) (IntKind.i64.wrap ((i220 : Int) + 1), s221) else next223 s221)))))) (fun (s221 : Int) => forN (fun i314 (s315 : A8) next316 => next316 (s315.set i314 (IntKind.i64.wrap ((s315.get i314) + (a2.get i314))))) (fun (s315 : A8) => (if Int.tmod s221 2 = 1 then K s315 (-1) else K s315 1)) 8 0 a0) a1.length 0 0
theorem c_impl_power_times (a0 : A8) (a1 : List Int) (a2 : A8) {u1_0 : Value} {fp1 : List Nat} {K : A8 → Int → Prop} (h : f_impl_power_times a0 a1 a2 K) (w0 : World) (q1 : ((EI .i64).ty.sl).rep a1 [u1_0] fp1 w0) :
  Calls Try.prog 80 #[.agg (List.toArray (A8.enc .i64 a0)), u1_0, .agg (List.toArray (A8.enc .i64 a2))] w0 fun e w' => ∃ (r0 : A8) (r1 : Int), 
   e = .returned (.tuple #[.agg (List.toArray (A8.enc .i64 r0)), .int .i64 r1]) ∧ K r0 r1 ∧ Bel w0 w' := by
 unfold f_impl_power_times at h
 refine calls_of (args := [.agg (List.toArray (A8.enc .i64 a0)), u1_0, .agg (List.toArray (A8.enc .i64 a2))]) Try.func80 rfl 75 Try.ntmps80 (Nat.le_of_ble_eq_true rfl) ?_
 have hC := Ctx.start (X := Nox) w0 [Ty.item ((EI .i64).ty.sl) a1 [u1_0] fp1] (by simp only [List.mem_cons, List.not_mem_nil, or_false, forall_eq_or_imp, forall_eq]; exact q1)
 refine sr ?_
 refine s_box (v := .agg (List.toArray (A8.enc .i64 a0))) hC (A8.enc .i64 a0) rfl rfl fun b2 w4 hB_ hC => ?_
 refine s_box (v := .agg (List.toArray (A8.enc .i64 a2))) hC (A8.enc .i64 a2) rfl rfl fun b5 w7 hB_ hC => ?_
 refine s_alloc hC (A8.enc .i64 A8.zero) z101 rfl fun b8 w10 hB_ hC => ?_
 refine s_as (v := .int .i64 0) rfl ?_
 refine dn ?_
 refine sr ?_
 refine s_as (v := .int .i64 0) rfl ?_
 refine dn ?_
 refine wp_seq ?_
 refine sr ?_
 refine s_mv (v := u1_0) rfl ?_
 obtain ⟨Ad11, c12, hv13⟩ := sl_len (hC.getP 0 rfl)
 refine s_len Try.underlying22 (tr rfl hv13) ?_
 refine s_mv (v := .int .i64 0) rfl ?_
 refine dn ?_
 refine wp_block ?_
 have hN222 : a1.length ≤ 9223372036854775807 := sl_max (hC.getP 0 rfl)
 refine loopN (S := Int) _ _ (fun i220 s221 e_ w_ => Slots e_ [(1, u1_0), (3, .pointer (some ⟨b2, 0, none⟩)), (5, .pointer (some ⟨b5, 0, none⟩)), (6, .pointer (some ⟨b8, 0, none⟩)), (7, .int .i64 0), (8, .int .i64 s221), (13, u1_0), (14, .int .i64 (a1.length : Int)), (15, .int .i64 (i220 : Int))] ∧ Ctx Nox w0 w_ [blk b8 101 (A8.enc .i64 A8.zero), blk b5 101 (A8.enc .i64 a2), blk b2 101 (A8.enc .i64 a0)] [Ty.item ((EI .i64).ty.sl) a1 [u1_0] fp1]) a1.length ?_ ?_ (s0 := 0) ?_ h
 ·clear hC h
  rintro i220 s221 e_ w227 next223 K224 hi226 ⟨hS_, hC⟩ h hK225
  refine sr ?_
  refine s_lss (sx hS_ 8 rfl) (sx hS_ 7 rfl) ?_
  refine dn ?_
  refine wp_seq ?_
  refine cw_true rfl (decide_eq_true (by omega)) ?_
  refine wp_skip ?_
  refine then_norm ?_
  refine wp_seq ?_
  refine wp_block ?_
  refine sr ?_
  refine s_mv (v := .int .i64 (i220 : Int)) (sx hS_ 8 rfl) ?_
  obtain ⟨Ad228, c229, hv230⟩ := sl_form (hC.getP 0 rfl) i220 hi226
  refine s_iaddrS (len := a1.length) Try.underlying22 sc2.size (tr (sx hS_ 6 rfl) hv230) (sx hS_ 8 rfl) (Int.natCast_nonneg _) (Int.ofNat_lt.2 hi226) ?_
  refine s_loadCS (.int .i64 (a1.getD i220 default)) (sl_cellsE (hC.getP 0 rfl) hv230 i220 hi226) sc2 rfl ?_
  refine s_as (v := .int .i64 (i220 : Int)) rfl ?_
  refine s_as (v := .int .i64 (a1.getD i220 default)) rfl ?_
  refine dn ?_
  refine wp_seq ?_
  refine sr ?_
  refine s_mv (v := .int .i64 (a1.getD i220 default)) rfl ?_
  refine s_rem rfl rfl (by decide) ?_
  refine s_eql rfl rfl ?_
  refine dn ?_
  refine cw_cond rfl (fun hb231 => ?_) (fun hb231 => ?_)
  ·replace h := ift h (ct hb231)
   refine wp_exit (then_exit (exit_in ?_))
   refine then_norm ?_
   refine cw_region ?_
   refine s_add (sx hS_ 8 rfl) rfl ?_
   refine s_mv (v := .int .i64 (IntKind.i64.wrap ((i220 : Int) + 1))) rfl ?_
   refine done ?_
   exact hK225 s221 _ _ ⟨(sk (sx hS_ 0 rfl) (sk (sx hS_ 1 rfl) (sk (sx hS_ 2 rfl) (sk (sx hS_ 3 rfl) (sk (sx hS_ 4 rfl) (sk (sx hS_ 5 rfl) (sk (sx hS_ 6 rfl) (sk (sx hS_ 7 rfl) (sk (tr rfl (congrArg _ (wrap64_nat hi226 hN222))) sn))))))))), hC⟩ h
  ·replace h := iff_ h (cf hb231)
   refine wp_skip ?_
   refine then_norm ?_
   refine wp_seq ?_
   refine sr ?_
   refine s_mv (v := .int .i64 (i220 : Int)) rfl ?_
   obtain ⟨⟨h0_232, h1_233⟩, h⟩ := h
   refine s_iaddrB i220 Try.underlying101 sc3.size (sx hS_ 1 rfl) rfl h0_232 h1_233 (by omega) ?_
   refine s_loadS hC 2 (.int .i64 (a0.get i220)) rfl sc3 rfl (A8.enc_get _ _ (show i220 < 8 by omega)) ?_
   refine s_gtr rfl rfl ?_
   refine s_mv (v := .bool (decide (a0.get i220 > 0))) rfl ?_
   refine bsplit (decide (a0.get i220 > 0)) (fun hb234 => ?_) (fun hb234 => ?_)
   ·replace h := ift h (ct hb234)
    refine guardOn 4 27 rfl rfl hb234 ?_
    refine s_mv (v := .int .i64 (i220 : Int)) rfl ?_
    refine guardOn 4 27 rfl rfl hb234 ?_
    obtain ⟨⟨h0_235, h1_236⟩, h⟩ := h
    refine s_iaddrB i220 Try.underlying101 sc3.size (sx hS_ 2 rfl) rfl h0_235 h1_236 (by omega) ?_
    refine guardOn 4 27 rfl rfl hb234 ?_
    refine s_loadS hC 1 (.int .i64 (a2.get i220)) rfl sc3 rfl (A8.enc_get _ _ (show i220 < 8 by omega)) ?_
    refine guardOn 4 27 rfl rfl hb234 ?_
    refine s_gtr rfl rfl ?_
    refine s_pick (v := .bool (decide (a2.get i220 > 0))) (b := true) (tr rfl (congrArg _ hb234)) rfl ?_
    refine dn ?_
    refine cw_cond rfl (fun hb237 => ?_) (fun hb237 => ?_)
    ·replace h := ift h (ct hb237)
     refine sr ?_
     refine s_build [] rfl (bl101   _) ?_
     refine s_store (v := .agg (List.toArray (A8.enc .i64 A8.zero))) hC 0 (A8.enc .i64 A8.zero) (A8.enc .i64 A8.zero) rfl ag101.size (sx hS_ 3 rfl) rfl rfl rfl rfl (Nat.le_of_ble_eq_true rfl) rfl fun w238 hC => ?_
     refine s_as (v := .int .i64 0) rfl ?_
     refine dn ?_
     refine wp_ret (then_ret (blk_ret (then_ret (then_ret (blk_ret (then_ret ?_))))))
     refine ret2 (fn := Try.f80) rfl ?_ ?_ ⟨A8.zero, 0, rfl, h, hC.below⟩ (.inl rfl)
     ·exact res_cellA hC 0 rfl ag101 (sx hS_ 3 rfl) rfl
     ·exact res_tmp rfl
    ·replace h := iff_ h (cf hb237)
     refine wp_skip ?_
     refine then_norm ?_
     refine sr ?_
     refine s_mv (v := .int .i64 (i220 : Int)) rfl ?_
     obtain ⟨⟨h0_239, h1_240⟩, h⟩ := h
     refine s_iaddrB i220 Try.underlying101 sc3.size (sx hS_ 2 rfl) rfl h0_239 h1_240 (by omega) ?_
     refine s_loadS hC 1 (.int .i64 (a2.get i220)) rfl sc3 rfl (A8.enc_get _ _ (show i220 < 8 by omega)) ?_
     refine s_gtr rfl rfl ?_
     refine dn ?_
     refine cw_false rfl hb237 ?_
     refine wp_skip ?_
     refine blk_norm ?_
     refine then_norm ?_
     refine cw_region ?_
     refine s_add (sx hS_ 8 rfl) rfl ?_
     refine s_mv (v := .int .i64 (IntKind.i64.wrap ((i220 : Int) + 1))) rfl ?_
     refine done ?_
     exact hK225 s221 _ _ ⟨(sk (sx hS_ 0 rfl) (sk (sx hS_ 1 rfl) (sk (sx hS_ 2 rfl) (sk (sx hS_ 3 rfl) (sk (sx hS_ 4 rfl) (sk (sx hS_ 5 rfl) (sk (sx hS_ 6 rfl) (sk (sx hS_ 7 rfl) (sk (tr rfl (congrArg _ (wrap64_nat hi226 hN222))) sn))))))))), hC⟩ h
   ·replace h := iff_ h (cf hb234)
    refine guardOff (b := false) 4 27 rfl (tr rfl (congrArg _ hb234)) (by decide) ?_
    refine guardOff (b := false) 4 27 rfl (tr rfl (congrArg _ hb234)) (by decide) ?_
    refine guardOff (b := false) 4 27 rfl (tr rfl (congrArg _ hb234)) (by decide) ?_
    refine guardOff (b := false) 4 27 rfl (tr rfl (congrArg _ hb234)) (by decide) ?_
    refine s_pick (v := .bool false) (b := false) (tr rfl (congrArg _ hb234)) rfl ?_
    refine dn ?_
    refine cw_false rfl rfl ?_
    refine wp_skip ?_
    refine then_norm ?_
    refine sr ?_
    refine s_mv (v := .int .i64 (i220 : Int)) rfl ?_
    obtain ⟨⟨h0_241, h1_242⟩, h⟩ := h
    refine s_iaddrB i220 Try.underlying101 sc3.size (sx hS_ 2 rfl) rfl h0_241 h1_242 (by omega) ?_
    refine s_loadS hC 1 (.int .i64 (a2.get i220)) rfl sc3 rfl (A8.enc_get _ _ (show i220 < 8 by omega)) ?_
    refine s_gtr rfl rfl ?_
    refine dn ?_
    refine cw_cond rfl (fun hb243 => ?_) (fun hb243 => ?_)
    ·replace h := ift h (ct hb243)
     refine sr ?_
     refine s_mv (v := .int .i64 (i220 : Int)) rfl ?_
     refine s_add rfl rfl ?_
     refine s_as (v := .int .i64 (IntKind.i64.wrap ((i220 : Int) + 1))) rfl ?_
     refine dn ?_
     refine wp_block ?_
     refine loopW (S := Int × Int) _ (fun s274 e_ w_ => Slots e_ [(1, u1_0), (3, .pointer (some ⟨b2, 0, none⟩)), (5, .pointer (some ⟨b5, 0, none⟩)), (6, .pointer (some ⟨b8, 0, none⟩)), (7, .int .i64 0), (8, .int .i64 s274.2), (9, .int .i64 (i220 : Int)), (10, .int .i64 (a1.getD i220 default)), (11, .int .i64 s274.1), (13, u1_0), (14, .int .i64 (a1.length : Int)), (15, .int .i64 (i220 : Int)), (16, .bool (decide ((i220 : Int) < (a1.length : Int)))), (17, .int .i64 (i220 : Int)), (18, .pointer (some (Ad228.add (i220 * 1)))), (19, .int .i64 (a1.getD i220 default)), (20, .int .i64 (a1.getD i220 default)), (21, .int .i64 (Int.tmod (a1.getD i220 default) 2)), (22, .bool (decide (Int.tmod (a1.getD i220 default) 2 = 0))), (23, .int .i64 (i220 : Int)), (24, .pointer (some ⟨b2, i220, none⟩)), (25, .int .i64 (a0.get i220)), (26, .bool (decide (a0.get i220 > 0))), (27, .bool (decide (a0.get i220 > 0))), (32, .bool false), (34, .int .i64 (i220 : Int)), (35, .pointer (some ⟨b5, i220, none⟩)), (36, .int .i64 (a2.get i220)), (37, .bool (decide (a2.get i220 > 0))), (38, .int .i64 (i220 : Int)), (39, .int .i64 (IntKind.i64.wrap ((i220 : Int) + 1)))] ∧ Ctx Nox w0 w_ [blk b8 101 (A8.enc .i64 A8.zero), blk b5 101 (A8.enc .i64 a2), blk b2 101 (A8.enc .i64 a0)] [Ty.item ((EI .i64).ty.sl) a1 [u1_0] fp1]) ?_ (s0 := (IntKind.i64.wrap ((i220 : Int) + 1), s221)) ?_ h
     ·clear hC h
      rintro s274 e_ w278 next275 K276 ⟨hS_, hC⟩ h hK277
      refine wp_seq ?_
      refine sr ?_
      refine s_mv (v := .int .i64 s274.1) (sx hS_ 8 rfl) ?_
      refine s_mv (v := u1_0) (sx hS_ 0 rfl) ?_
      obtain ⟨Ad279, c280, hv281⟩ := sl_len (hC.getP 0 rfl)
      refine s_len Try.underlying22 (tr rfl hv281) ?_
      refine s_lss rfl rfl ?_
      refine dn ?_
      refine cw_cond rfl (fun hb282 => ?_) (fun hb282 => ?_)
      ·replace h := ift h (ct hb282)
       refine wp_skip ?_
       refine then_norm ?_
       refine wp_seq ?_
       refine wp_block ?_
       refine cw_draw 10 mixed [0, 0, 0, 6, 14, 30, 0, 64, 192, 510, 1023, 2047] [3, 4, 7, 8] [0, 1, 2, 5, 6, 9] (by kernel_rfl) (by kernel_rfl) (by kernel_rfl) (fun hM284 hM285 w283 hB_ => ?_)
       replace hC := hC.grow hB_
       refine aF 0 (.int .i64 s274.2) rfl rfl (hM285 0 rfl) (rfl) (fun _ => by exact r_mv (v := .int .i64 s274.2) (sx hS_ 5 rfl)) (dbits 12 1) ?_
       refine aF 1 (u1_0) rfl rfl (hM285 1 rfl) (rfl) (fun _ => by exact r_mv (v := u1_0) (sx hS_ 0 rfl)) (dbits 12 3) ?_
       refine aF 2 (.int .i64 s274.1) rfl rfl (hM285 2 rfl) (rfl) (fun _ => by exact r_mv (v := .int .i64 s274.1) (sx hS_ 8 rfl)) (dbits 12 7) ?_
       obtain ⟨⟨h0_286, h1_287⟩, h⟩ := h
       obtain ⟨Ad288, c289, hv290⟩ := sl_form (hC.getP 0 rfl) s274.1.toNat (show s274.1.toNat < a1.length by omega)
       refine aL 3 (.pointer (some (Ad288.add (s274.1.toNat * 1)))) rfl rfl (hM284 3 rfl) (rfl) (fun _ hB_ => by exact r_iaddrS (len := a1.length) Try.underlying22 sc2.size (by exact tr rfl hv290) rfl h0_286 h1_287) (dbits 12 15) ?_
       refine aL 4 (.int .i64 (a1.getD s274.1.toNat default)) rfl rfl (hM284 4 rfl) (rfl) (fun _ hB_ => by exact r_loadCS (.int .i64 (a1.getD s274.1.toNat default)) (sl_cellsE ((hC.grow hB_).getP 0 rfl) hv290 s274.1.toNat (show s274.1.toNat < a1.length by omega)) sc2 rfl) (dbits 12 31) ?_
       refine aF 5 (.int .i64 (Int.tmod (a1.getD s274.1.toNat default) 2)) rfl rfl (hM285 5 rfl) (rfl) (fun _ => by exact r_rem rfl rfl (by decide)) (dbits 12 63) ?_
       refine aF 6 (.int .i64 s274.1) rfl rfl (hM285 6 rfl) (rfl) (fun _ => by exact r_mv (v := .int .i64 s274.1) (sx hS_ 8 rfl)) (dbits 12 127) ?_
       obtain ⟨⟨h0_291, h1_292⟩, h⟩ := h
       refine aL 7 (.pointer (some ⟨b2, s274.1.toNat, none⟩)) rfl rfl (hM284 7 rfl) (rfl) (fun _ hB_ => by exact r_iaddrB s274.1.toNat Try.underlying101 sc3.size (sx hS_ 1 rfl) rfl h0_291 h1_292 (by omega)) (dbits 12 255) ?_
       refine aL 8 (.int .i64 (a0.get s274.1.toNat)) rfl rfl (hM284 8 rfl) (rfl) (fun _ hB_ => by exact r_loadS (hC.grow hB_) 2 (.int .i64 (a0.get s274.1.toNat)) rfl sc3 rfl (A8.enc_get _ _ (show s274.1.toNat < 8 by omega))) (dbits 12 511) ?_
       refine aF 9 (.int .i64 (IntKind.i64.wrap ((Int.tmod (a1.getD s274.1.toNat default) 2) * (a0.get s274.1.toNat)))) rfl rfl (hM285 9 rfl) (rfl) (fun _ => by exact r_mul rfl rfl) (dbits 12 1023) ?_
       refine ae_tail 10 (by decide) (by decide) (by kernel_rfl) (by kernel_rfl) rfl ?_
       refine s_add rfl rfl ?_
       refine s_as (v := .int .i64 (IntKind.i64.wrap (s274.2 + (IntKind.i64.wrap ((Int.tmod (a1.getD s274.1.toNat default) 2) * (a0.get s274.1.toNat)))))) rfl ?_
       refine done ?_
       refine qn_norm ?_
       refine blk_norm ?_
       refine then_norm ?_
       refine cw_region ?_
       refine s_mv (v := .int .i64 s274.1) (sx hS_ 8 rfl) ?_
       refine s_add rfl rfl ?_
       refine s_as (v := .int .i64 (IntKind.i64.wrap (s274.1 + 1))) rfl ?_
       refine done ?_
       exact hK277 (IntKind.i64.wrap (s274.1 + 1), IntKind.i64.wrap (s274.2 + (IntKind.i64.wrap ((Int.tmod (a1.getD s274.1.toNat default) 2) * (a0.get s274.1.toNat))))) _ _ ⟨(sk (sx hS_ 0 rfl) (sk (sx hS_ 1 rfl) (sk (sx hS_ 2 rfl) (sk (sx hS_ 3 rfl) (sk (sx hS_ 4 rfl) (sk rfl (sk (sx hS_ 6 rfl) (sk (sx hS_ 7 rfl) (sk rfl (sk (sx hS_ 9 rfl) (sk (sx hS_ 10 rfl) (sk (sx hS_ 11 rfl) (sk (sx hS_ 12 rfl) (sk (sx hS_ 13 rfl) (sk (sx hS_ 14 rfl) (sk (sx hS_ 15 rfl) (sk (sx hS_ 16 rfl) (sk (sx hS_ 17 rfl) (sk (sx hS_ 18 rfl) (sk (sx hS_ 19 rfl) (sk (sx hS_ 20 rfl) (sk (sx hS_ 21 rfl) (sk (sx hS_ 22 rfl) (sk (sx hS_ 23 rfl) (sk (sx hS_ 24 rfl) (sk (sx hS_ 25 rfl) (sk (sx hS_ 26 rfl) (sk (sx hS_ 27 rfl) (sk (sx hS_ 28 rfl) (sk (sx hS_ 29 rfl) (sk (sx hS_ 30 rfl) sn))))))))))))))))))))))))))))))), hC⟩ h
      ·replace h := iff_ h (cf hb282)
       refine wp_exit (then_exit (then_exit (exit_in ?_)))
       refine blk_norm ?_
       refine then_norm ?_
       refine cw_region ?_
       refine s_add (sx hS_ 11 rfl) rfl ?_
       refine s_mv (v := .int .i64 (IntKind.i64.wrap ((i220 : Int) + 1))) rfl ?_
       refine done ?_
       exact hK225 s274.2 _ _ ⟨(sk (sx hS_ 0 rfl) (sk (sx hS_ 1 rfl) (sk (sx hS_ 2 rfl) (sk (sx hS_ 3 rfl) (sk (sx hS_ 4 rfl) (sk (sx hS_ 5 rfl) (sk (sx hS_ 9 rfl) (sk (sx hS_ 10 rfl) (sk (tr rfl (congrArg _ (wrap64_nat hi226 hN222))) sn))))))))), hC⟩ h
     ·skip
      exact ⟨(sk (sx hS_ 0 rfl) (sk (sx hS_ 1 rfl) (sk (sx hS_ 2 rfl) (sk (sx hS_ 3 rfl) (sk (sx hS_ 4 rfl) (sk (sx hS_ 5 rfl) (sk rfl (sk rfl (sk rfl (sk (sx hS_ 6 rfl) (sk (sx hS_ 7 rfl) (sk (sx hS_ 8 rfl) (sk rfl (sk rfl (sk rfl (sk rfl (sk rfl (sk rfl (sk rfl (sk rfl (sk rfl (sk rfl (sk rfl (sk rfl (sk rfl (sk rfl (sk rfl (sk rfl (sk rfl (sk rfl (sk rfl sn))))))))))))))))))))))))))))))), hC⟩
    ·replace h := iff_ h (cf hb243)
     refine wp_skip ?_
     refine blk_norm ?_
     refine then_norm ?_
     refine cw_region ?_
     refine s_add (sx hS_ 8 rfl) rfl ?_
     refine s_mv (v := .int .i64 (IntKind.i64.wrap ((i220 : Int) + 1))) rfl ?_
     refine done ?_
     exact hK225 s221 _ _ ⟨(sk (sx hS_ 0 rfl) (sk (sx hS_ 1 rfl) (sk (sx hS_ 2 rfl) (sk (sx hS_ 3 rfl) (sk (sx hS_ 4 rfl) (sk (sx hS_ 5 rfl) (sk (sx hS_ 6 rfl) (sk (sx hS_ 7 rfl) (sk (tr rfl (congrArg _ (wrap64_nat hi226 hN222))) sn))))))))), hC⟩ h
 ·clear hC h
  rintro s221 e_ w293 K224 ⟨hS_, hC⟩ h
  refine sr ?_
  refine s_lss (sx hS_ 8 rfl) (sx hS_ 7 rfl) ?_
  refine dn ?_
  refine wp_seq ?_
  refine cw_false rfl (decide_eq_false (by omega)) ?_
  refine wp_exit (then_exit (then_exit (exit_in ?_)))
  refine then_norm ?_
  refine wp_seq ?_
  refine sr ?_
  refine s_mv (v := .int .i64 0) rfl ?_
  refine dn ?_
  refine wp_block ?_
  refine loopN (S := A8) _ _ (fun i314 s315 e_ w_ => Slots e_ [(3, .pointer (some ⟨b2, 0, none⟩)), (5, .pointer (some ⟨b5, 0, none⟩)), (6, .pointer (some ⟨b8, 0, none⟩)), (7, .int .i64 0), (8, .int .i64 s221), (58, .int .i64 (i314 : Int))] ∧ Ctx Nox w0 w_ [blk b8 101 (A8.enc .i64 A8.zero), blk b5 101 (A8.enc .i64 a2), blk b2 101 (A8.enc .i64 s315)] [Ty.item ((EI .i64).ty.sl) a1 [u1_0] fp1]) 8 ?_ ?_ (s0 := a0) ?_ h
  ·clear hC h
   rintro i314 s315 e_ w320 next316 K317 hi319 ⟨hS_, hC⟩ h hK318
   refine sr ?_
   refine s_lss (sx hS_ 5 rfl) rfl ?_
   refine dn ?_
   refine wp_seq ?_
   refine cw_true rfl (decide_eq_true (by omega)) ?_
   refine wp_skip ?_
   refine then_norm ?_
   refine wp_seq ?_
   refine wp_block ?_
   refine sr ?_
   refine s_mv (v := .int .i64 (i314 : Int)) (sx hS_ 5 rfl) ?_
   refine s_as (v := .int .i64 (i314 : Int)) rfl ?_
   refine dn ?_
   refine cw_draw 6 mixed [0, 1, 3, 0, 8, 24, 63, 127, 255] [1, 2, 4, 5] [0, 3] (by kernel_rfl) (by kernel_rfl) (by kernel_rfl) (fun hM322 hM323 w321 hB_ => ?_)
   replace hC := hC.grow hB_
   refine aF 0 (.int .i64 (i314 : Int)) rfl rfl (hM323 0 rfl) (rfl) (fun _ => by exact r_mv (v := .int .i64 (i314 : Int)) rfl) (dbits 9 1) ?_
   refine aL 1 (.pointer (some ⟨b2, i314, none⟩)) rfl rfl (hM322 1 rfl) (rfl) (fun _ hB_ => by exact r_iaddrB i314 Try.underlying101 sc3.size (sx hS_ 0 rfl) rfl (Int.natCast_nonneg _) (by omega) (by omega)) (dbits 9 3) ?_
   refine aL 2 (.int .i64 (s315.get i314)) rfl rfl (hM322 2 rfl) (rfl) (fun _ hB_ => by exact r_loadS (hC.grow hB_) 2 (.int .i64 (s315.get i314)) rfl sc3 rfl (A8.enc_get _ _ hi319)) (dbits 9 7) ?_
   refine aF 3 (.int .i64 (i314 : Int)) rfl rfl (hM323 3 rfl) (rfl) (fun _ => by exact r_mv (v := .int .i64 (i314 : Int)) rfl) (dbits 9 15) ?_
   refine aL 4 (.pointer (some ⟨b5, i314, none⟩)) rfl rfl (hM322 4 rfl) (rfl) (fun _ hB_ => by exact r_iaddrB i314 Try.underlying101 sc3.size (sx hS_ 1 rfl) rfl (Int.natCast_nonneg _) (by omega) (by omega)) (dbits 9 31) ?_
   refine aL 5 (.int .i64 (a2.get i314)) rfl rfl (hM322 5 rfl) (rfl) (fun _ hB_ => by exact r_loadS (hC.grow hB_) 1 (.int .i64 (a2.get i314)) rfl sc3 rfl (A8.enc_get _ _ hi319)) (dbits 9 63) ?_
   refine ae_tail 6 (by decide) (by decide) (by kernel_rfl) (by kernel_rfl) rfl ?_
   refine s_add rfl rfl ?_
   refine s_iaddrB i314 Try.underlying101 sc3.size (sx hS_ 0 rfl) rfl (Int.natCast_nonneg _) (by omega) (by omega) ?_
   refine s_store (v := .int .i64 (IntKind.i64.wrap ((s315.get i314) + (a2.get i314)))) hC 2 [.int .i64 (IntKind.i64.wrap ((s315.get i314) + (a2.get i314)))] (A8.enc .i64 (s315.set i314 (IntKind.i64.wrap ((s315.get i314) + (a2.get i314))))) rfl sc3.size rfl rfl rfl rfl rfl hi319 (A8.enc_set _ _ _ hi319) fun w324 hC => ?_
   refine done ?_
   refine qn_norm ?_
   refine blk_norm ?_
   refine then_norm ?_
   refine cw_region ?_
   refine s_add (sx hS_ 5 rfl) rfl ?_
   refine s_mv (v := .int .i64 (IntKind.i64.wrap ((i314 : Int) + 1))) rfl ?_
   refine done ?_
   exact hK318 (s315.set i314 (IntKind.i64.wrap ((s315.get i314) + (a2.get i314)))) _ _ ⟨(sk (sx hS_ 0 rfl) (sk (sx hS_ 1 rfl) (sk (sx hS_ 2 rfl) (sk (sx hS_ 3 rfl) (sk (sx hS_ 4 rfl) (sk (tr rfl (congrArg _ (wrap64_nat hi319 (by decide)))) sn)))))), hC⟩ h
  ·clear hC h
   rintro s315 e_ w325 K317 ⟨hS_, hC⟩ h
   refine sr ?_
   refine s_lss (sx hS_ 5 rfl) rfl ?_
   refine dn ?_
   refine wp_seq ?_
   refine cw_false rfl (decide_eq_false (by omega)) ?_
   refine wp_exit (then_exit (then_exit (exit_in ?_)))
   refine then_norm ?_
   refine wp_seq ?_
   refine sr ?_
   refine s_mv (v := .int .i64 s221) (sx hS_ 4 rfl) ?_
   refine s_rem rfl rfl (by decide) ?_
   refine s_eql rfl rfl ?_
   refine dn ?_
   refine cw_cond rfl (fun hb326 => ?_) (fun hb326 => ?_)
   ·replace h := ift h (ct hb326)
    refine sr ?_
    refine s_loadA hC 2 (A8.enc .i64 s315) rfl ag101 (sx hS_ 0 rfl) rfl rfl ?_
    refine s_store (v := .agg (List.toArray (A8.enc .i64 s315))) hC 0 (A8.enc .i64 s315) (A8.enc .i64 s315) rfl ag101.size (sx hS_ 2 rfl) rfl rfl rfl rfl (Nat.le_of_ble_eq_true rfl) rfl fun w327 hC => ?_
    refine s_as (v := .int .i64 (-1)) rfl ?_
    refine dn ?_
    refine wp_ret (then_ret ?_)
    refine ret2 (fn := Try.f80) rfl ?_ ?_ ⟨s315, (-1), rfl, h, hC.below⟩ (.inl rfl)
    ·exact res_cellA hC 0 rfl ag101 (sx hS_ 2 rfl) rfl
    ·exact res_tmp rfl
   ·replace h := iff_ h (cf hb326)
    refine wp_skip ?_
    refine then_norm ?_
    refine sr ?_
    refine s_loadA hC 2 (A8.enc .i64 s315) rfl ag101 (sx hS_ 0 rfl) rfl rfl ?_
    refine s_store (v := .agg (List.toArray (A8.enc .i64 s315))) hC 0 (A8.enc .i64 s315) (A8.enc .i64 s315) rfl ag101.size (sx hS_ 2 rfl) rfl rfl rfl rfl (Nat.le_of_ble_eq_true rfl) rfl fun w328 hC => ?_
    refine s_as (v := .int .i64 1) rfl ?_
    refine dn ?_
    refine wp_ret ?_
    refine ret2 (fn := Try.f80) rfl ?_ ?_ ⟨s315, 1, rfl, h, hC.below⟩ (.inl rfl)
    ·exact res_cellA hC 0 rfl ag101 (sx hS_ 2 rfl) rfl
    ·exact res_tmp rfl
  ·skip
   exact ⟨(sk (sx hS_ 1 rfl) (sk (sx hS_ 2 rfl) (sk (sx hS_ 3 rfl) (sk (sx hS_ 4 rfl) (sk (sx hS_ 5 rfl) (sk rfl sn)))))), hC⟩
 ·skip
  exact ⟨(sk rfl (sk rfl (sk rfl (sk rfl (sk rfl (sk rfl (sk rfl (sk rfl (sk rfl sn))))))))), hC⟩
def f_impl_power_compare (a0 : A8) (a1 : A8) (K : Int → Prop) : Prop :=
 forN (fun i17 (s18 : Unit) next19 => (if a0.get i17 ≠ a1.get i17 then K (IntKind.i64.wrap ((a1.get i17) - (a0.get i17))) else next19 ())) (fun (s18 : Unit) => K 0) 8 0 ()
theorem c_impl_power_compare (a0 : A8) (a1 : A8)  {K : Int → Prop} (h : f_impl_power_compare a0 a1 K) (w0 : World)  :
  Calls Try.prog 142 #[.agg (List.toArray (A8.enc .i64 a0)), .agg (List.toArray (A8.enc .i64 a1))] w0 fun e w' => ∃ (r0 : Int), 
   e = .returned (.int .i64 r0) ∧ K r0 ∧ Bel w0 w' := by
 unfold f_impl_power_compare at h
 refine calls_of (args := [.agg (List.toArray (A8.enc .i64 a0)), .agg (List.toArray (A8.enc .i64 a1))]) Try.func142 rfl 24 Try.ntmps142 (Nat.le_of_ble_eq_true rfl) ?_
 have hC := Ctx.start (X := Nox) w0 [] (by simp)
 refine sr ?_
 refine s_box (v := .agg (List.toArray (A8.enc .i64 a0))) hC (A8.enc .i64 a0) rfl rfl fun b1 w3 hB_ hC => ?_
 refine s_box (v := .agg (List.toArray (A8.enc .i64 a1))) hC (A8.enc .i64 a1) rfl rfl fun b4 w6 hB_ hC => ?_
 refine s_as (v := .int .i64 0) rfl ?_
 refine dn ?_
 refine wp_seq ?_
 refine sr ?_
 refine s_mv (v := .int .i64 0) rfl ?_
 refine dn ?_
 refine wp_block ?_
 refine loopN (S := Unit) _ _ (fun i17 s18 e_ w_ => Slots e_ [(2, .pointer (some ⟨b1, 0, none⟩)), (3, .pointer (some ⟨b4, 0, none⟩)), (4, .int .i64 0), (6, .int .i64 (i17 : Int))] ∧ Ctx Nox w0 w_ [blk b4 101 (A8.enc .i64 a1), blk b1 101 (A8.enc .i64 a0)] []) 8 ?_ ?_ (s0 := ()) ?_ h
 ·clear hC h
  rintro i17 s18 e_ w23 next19 K20 hi22 ⟨hS_, hC⟩ h hK21
  refine sr ?_
  refine s_lss (sx hS_ 3 rfl) rfl ?_
  refine dn ?_
  refine wp_seq ?_
  refine cw_true rfl (decide_eq_true (by omega)) ?_
  refine wp_skip ?_
  refine then_norm ?_
  refine wp_seq ?_
  refine wp_block ?_
  refine sr ?_
  refine s_mv (v := .int .i64 (i17 : Int)) (sx hS_ 3 rfl) ?_
  refine s_as (v := .int .i64 (i17 : Int)) rfl ?_
  refine dn ?_
  refine wp_seq ?_
  refine cw_draw 6 mixed [0, 1, 3, 0, 8, 24, 63] [1, 2, 4, 5] [0, 3] (by kernel_rfl) (by kernel_rfl) (by kernel_rfl) (fun hM25 hM26 w24 hB_ => ?_)
  replace hC := hC.grow hB_
  refine aF 0 (.int .i64 (i17 : Int)) rfl rfl (hM26 0 rfl) (rfl) (fun _ => by exact r_mv (v := .int .i64 (i17 : Int)) rfl) (dbits 7 1) ?_
  refine aL 1 (.pointer (some ⟨b1, i17, none⟩)) rfl rfl (hM25 1 rfl) (rfl) (fun _ hB_ => by exact r_iaddrB i17 Try.underlying101 sc3.size (sx hS_ 0 rfl) rfl (Int.natCast_nonneg _) (by omega) (by omega)) (dbits 7 3) ?_
  refine aL 2 (.int .i64 (a0.get i17)) rfl rfl (hM25 2 rfl) (rfl) (fun _ hB_ => by exact r_loadS (hC.grow hB_) 1 (.int .i64 (a0.get i17)) rfl sc3 rfl (A8.enc_get _ _ hi22)) (dbits 7 7) ?_
  refine aF 3 (.int .i64 (i17 : Int)) rfl rfl (hM26 3 rfl) (rfl) (fun _ => by exact r_mv (v := .int .i64 (i17 : Int)) rfl) (dbits 7 15) ?_
  refine aL 4 (.pointer (some ⟨b4, i17, none⟩)) rfl rfl (hM25 4 rfl) (rfl) (fun _ hB_ => by exact r_iaddrB i17 Try.underlying101 sc3.size (sx hS_ 1 rfl) rfl (Int.natCast_nonneg _) (by omega) (by omega)) (dbits 7 31) ?_
  refine aL 5 (.int .i64 (a1.get i17)) rfl rfl (hM25 5 rfl) (rfl) (fun _ hB_ => by exact r_loadS (hC.grow hB_) 0 (.int .i64 (a1.get i17)) rfl sc3 rfl (A8.enc_get _ _ hi22)) (dbits 7 63) ?_
  refine ae_tail 6 (by decide) (by decide) (by kernel_rfl) (by kernel_rfl) rfl ?_
  refine s_neq rfl rfl ?_
  refine done ?_
  refine qn_norm ?_
  refine then_norm ?_
  refine cw_cond rfl (fun hb27 => ?_) (fun hb27 => ?_)
  ·replace h := ift h (ct hb27)
   refine wp_seq ?_
   refine cw_draw 6 mixed [0, 1, 3, 0, 8, 24, 63, 127] [1, 2, 4, 5] [0, 3] (by kernel_rfl) (by kernel_rfl) (by kernel_rfl) (fun hM29 hM30 w28 hB_ => ?_)
   replace hC := hC.grow hB_
   refine aF 0 (.int .i64 (i17 : Int)) rfl rfl (hM30 0 rfl) (rfl) (fun _ => by exact r_mv (v := .int .i64 (i17 : Int)) rfl) (dbits 8 1) ?_
   refine aL 1 (.pointer (some ⟨b4, i17, none⟩)) rfl rfl (hM29 1 rfl) (rfl) (fun _ hB_ => by exact r_iaddrB i17 Try.underlying101 sc3.size (sx hS_ 1 rfl) rfl (Int.natCast_nonneg _) (by omega) (by omega)) (dbits 8 3) ?_
   refine aL 2 (.int .i64 (a1.get i17)) rfl rfl (hM29 2 rfl) (rfl) (fun _ hB_ => by exact r_loadS (hC.grow hB_) 0 (.int .i64 (a1.get i17)) rfl sc3 rfl (A8.enc_get _ _ hi22)) (dbits 8 7) ?_
   refine aF 3 (.int .i64 (i17 : Int)) rfl rfl (hM30 3 rfl) (rfl) (fun _ => by exact r_mv (v := .int .i64 (i17 : Int)) rfl) (dbits 8 15) ?_
   refine aL 4 (.pointer (some ⟨b1, i17, none⟩)) rfl rfl (hM29 4 rfl) (rfl) (fun _ hB_ => by exact r_iaddrB i17 Try.underlying101 sc3.size (sx hS_ 0 rfl) rfl (Int.natCast_nonneg _) (by omega) (by omega)) (dbits 8 31) ?_
   refine aL 5 (.int .i64 (a0.get i17)) rfl rfl (hM29 5 rfl) (rfl) (fun _ hB_ => by exact r_loadS (hC.grow hB_) 1 (.int .i64 (a0.get i17)) rfl sc3 rfl (A8.enc_get _ _ hi22)) (dbits 8 63) ?_
   refine ae_tail 6 (by decide) (by decide) (by kernel_rfl) (by kernel_rfl) rfl ?_
   refine s_sub rfl rfl ?_
   refine s_as (v := .int .i64 (IntKind.i64.wrap ((a1.get i17) - (a0.get i17)))) rfl ?_
   refine done ?_
   refine qn_norm ?_
   refine then_norm ?_
   refine wp_ret (blk_ret (then_ret (then_ret (blk_ret (then_ret ?_)))))
   refine ret1 (fn := Try.f142) rfl ?_ ⟨IntKind.i64.wrap ((a1.get i17) - (a0.get i17)), rfl, h, hC.below⟩ (.inl rfl)
   exact res_tmp rfl
  ·replace h := iff_ h (cf hb27)
   refine wp_skip ?_
   refine blk_norm ?_
   refine then_norm ?_
   refine cw_region ?_
   refine s_add (sx hS_ 3 rfl) rfl ?_
   refine s_mv (v := .int .i64 (IntKind.i64.wrap ((i17 : Int) + 1))) rfl ?_
   refine done ?_
   exact hK21 () _ _ ⟨(sk (sx hS_ 0 rfl) (sk (sx hS_ 1 rfl) (sk (sx hS_ 2 rfl) (sk (tr rfl (congrArg _ (wrap64_nat hi22 (by decide)))) sn)))), hC⟩ h
 ·clear hC h
  rintro s18 e_ w31 K20 ⟨hS_, hC⟩ h
  refine sr ?_
  refine s_lss (sx hS_ 3 rfl) rfl ?_
  refine dn ?_
  refine wp_seq ?_
  refine cw_false rfl (decide_eq_false (by omega)) ?_
  refine wp_exit (then_exit (then_exit (exit_in ?_)))
  refine then_norm ?_
  refine sr ?_
  refine s_as (v := .int .i64 0) rfl ?_
  refine dn ?_
  refine wp_ret ?_
  refine ret1 (fn := Try.f142) rfl ?_ ⟨0, rfl, h, hC.below⟩ (.inl rfl)
  exact res_tmp rfl
 ·skip
  exact ⟨(sk rfl (sk rfl (sk rfl (sk rfl sn)))), hC⟩
theorem pw_law : Cmp Try.prog Try.sortPow_ren (EA .i64) OkP pcmp 142 := ⟨Try.sortPow, ⟨_, OkP.zero⟩, ag101, pcmp_swo, ⟨_, Try.func142, rfl, rfl⟩, fun a b ha hb w => by
 refine (c_impl_power_compare a b (K := fun r => r = pcmp a b) (cmpText_meets (K := fun r => r = pcmp a b) ha hb rfl) w).mono ?_
 rintro e w' ⟨r, rfl, rfl, hB⟩
 exact ⟨rfl, hB⟩⟩
def f_impl_sum_powers (a0 : List (A8 × Int)) (K : List A8 → Prop) : Prop :=
 mapP (fun (q13 : A8 × Int) (s55 : (List A8)) next57 => (Room (s55.length + 1) 64 ∧ next57 (s55 ++ [q13.1]))) (fun (s55 : (List A8)) => SortP OkP pcmp s55 (fun xs66 => K xs66)) a0.length a0 []
theorem c_impl_sum_powers (a0 : List (A8 × Int)) {b0 : Nat} {K : List A8 → Prop} (h : f_impl_sum_powers a0 K) (w0 : World) (q0 : (mapI (kvA .i64) (vvI .i64) b0 a0).holds w0) :
  Calls Try.prog 124 #[.map (some b0)] w0 fun e w' => ∃ (r0 : List A8) (z0_0 : Value) (fz0 : List Nat), 
   e = .returned (z0_0) ∧ K r0 ∧ (Tr.item (Tr.sl 101 ((EA .i64).tr)) r0 [z0_0] fz0).holds w' ∧ (∀ b, b ∈ fz0 → w0.heap.size ≤ b) ∧ Bel w0 w' := by
 unfold f_impl_sum_powers at h
 refine calls_of (args := [.map (some b0)]) Try.func124 rfl 19 Try.ntmps124 (Nat.le_of_ble_eq_true rfl) ?_
 have hC := Ctx.start (X := Nox) w0 [mapI (kvA .i64) (vvI .i64) b0 a0] (by simp only [List.mem_cons, List.not_mem_nil, or_false, forall_eq_or_imp, forall_eq]; exact q0)
 refine sr ?_
 refine s_as (v := .slice none 0 0) rfl ?_
 refine dn ?_
 refine sr ?_
 refine s_bslice (sz := 8) hC [] ((EA .i64).encs []) rfl (fun _ => bs121_0  _) rfl (by decide) fun b2 w3 hB_ hC => ?_
 refine s_as (v := .slice (some ⟨b2, 0, none⟩) 0 0) rfl ?_
 refine dn ?_
 refine wp_seq ?_
 refine sr ?_
 refine s_mv (v := .map (some b0)) rfl ?_
 refine s_range hC 0 rfl Try.underlying99 rfl fun r5 es6 ck7 w12 hB_ hn8 hbn9 hC => ?_
 refine dn ?_
 refine wp_block ?_
 refine loopM (S := (List A8)) _ _ (fun l15 s55 e_ w_ => ∃ (v56 : Value), ∃ (la17 : Option MapEntry), Slots e_ [(2, .slice none 0 0), (3, v56), (7, .pointer (some ⟨r5, 0, none⟩))] ∧ Ctx Nox w0 w_ [itI (kvA .i64) (vvI .i64) r5 b0 es6 ck7 la17 l15, own 101 8 v56 s55.length ((EA .i64).encs s55)] [mapE b0 es6 ck7, mapI (kvA .i64) (vvI .i64) b0 a0]) ?_ (l0 := a0) (s0 := []) ?_ h
 ·clear hC h
  rintro l15 s55 e_ w60 next57 K58 ⟨v56, la17, hS_, hC⟩ h hK59
  refine sr ?_
  refine s_next hC 0 0 rfl rfl hn8 hbn9 (sx hS_ 2 rfl) (fun hr61 => ?_) (fun q13 l14 ent62 w65 hp16 hk63 hv64 hC => ?_)
  ·replace h := h.1 hr61
   refine s_ext (v := .bool false) rfl rfl ?_
   refine dn ?_
   refine wp_seq ?_
   refine cw_false rfl rfl ?_
   refine wp_exit (then_exit (then_exit (exit_in ?_)))
   refine then_norm ?_
   refine sr ?_
   refine s_mv (v := v56) (sx hS_ 1 rfl) ?_
   refine s_sort hC 1 pw_law rfl rfl Try.func151 rfl rfl rfl rfl h fun xs66 w67 h hC => ?_
   refine dn ?_
   refine sr ?_
   refine s_mv (v := v56) (sx hS_ 1 rfl) ?_
   refine s_as (v := v56) rfl ?_
   refine dn ?_
   refine wp_ret ?_
   refine ret1 (fn := Try.f124) rfl ?_ ⟨xs66, v56, (Option.toList (Value.ownBlock v56)), rfl, h, (own_item (hC.getM 1 rfl)), (own_fresh hC 1 rfl), hC.below⟩ (.inl rfl)
   exact res_tmp rfl
  ·replace h := h.2 q13 l14 hp16
   refine s_ext (v := .bool true) rfl rfl ?_
   refine dn ?_
   refine wp_seq ?_
   refine cw_true rfl rfl ?_
   refine wp_skip ?_
   refine then_norm ?_
   refine wp_block ?_
   refine sr ?_
   refine s_entry hC 0 0 q13 rfl rfl hn8 (sx hS_ 2 rfl) hk63 hv64 ?_
   refine s_ext (v := .agg (List.toArray (A8.enc .i64 q13.1))) rfl rfl ?_
   refine s_alloc hC (A8.enc .i64 A8.zero) z101 rfl fun b68 w70 hB_ hC => ?_
   refine s_store (v := .agg (List.toArray (A8.enc .i64 q13.1))) hC 0 (A8.enc .i64 q13.1) (A8.enc .i64 q13.1) rfl ag101.size rfl rfl rfl rfl rfl (Nat.le_of_ble_eq_true rfl) rfl fun w71 hC => ?_
   refine dn ?_
   refine cw_region ?_
   refine s_mv (v := v56) (sx hS_ 1 rfl) ?_
   refine s_loadA hC 0 (A8.enc .i64 q13.1) rfl ag101 rfl rfl rfl ?_
   refine s_bslice (sz := 8) hC [(0, .agg (List.toArray (A8.enc .i64 q13.1)))] ((EA .i64).encs [q13.1]) rfl (fun _ => bs121_1 q13.1 _) rfl (by decide) fun b72 w73 hB_ hC => ?_
   obtain ⟨hm77, h⟩ := h
   refine s_app hC 3 Try.underlying121 el101 rfl (by decide) (by decide) rfl (own_rdr (hC.getM 0 rfl)) (fun q hq => Enc.encs_one' (E := (EA .i64)) _ q hq) rfl rfl hm77 fun v75 w76 hC => ?_
   replace hC := own_re hC 3 ((s55 ++ [q13.1]).length) ((EA .i64).encs (s55 ++ [q13.1])) rfl (by simp) (by first | (simp [Enc.encs_append]; done) | simp [Enc.encs_append, Enc.encs])
   refine s_as (v := v75) rfl ?_
   refine done ?_
   refine blk_norm ?_
   replace hC := hC.sM [2, 3] (M' := [itI (kvA .i64) (vvI .i64) r5 b0 es6 ck7 (some ent62) l14, own 101 8 v75 ((s55 ++ [q13.1]).length) ((EA .i64).encs (s55 ++ [q13.1]))]) (by decide) rfl
   exact hK59 q13 l14 (s55 ++ [q13.1]) _ _ hp16 ⟨v75, (some ent62), (sk (sx hS_ 0 rfl) (sk rfl (sk (sx hS_ 2 rfl) sn))), hC⟩ h
 ·skip
  exact ⟨.slice (some ⟨b2, 0, none⟩) 0 0, none, (sk rfl (sk rfl (sk rfl sn))), hC⟩
def f_impl_sum_form (a0 : List (A8 × Int)) (K : Vc.Form → Int → Prop) : Prop :=
 (if (a0.length : Int) > 400 then K (⟨[]⟩ : Vc.Form) 3 else f_impl_sum_powers a0 (fun r14 => forN (fun i168 (s169 : (List Term)) next173 => forN (fun i221 (s222 : A8) next223 => (if (r14.getD i168 default).get i221 > 20 then K (⟨[]⟩ : Vc.Form) 3 else next223 (s222.set i221 (IntKind.u8.wrap ((r14.getD i168 default).get i221))))) (fun (s222 : A8) => (Room (s169.length + 1) 16 ∧ next173 (s169 ++ [(⟨s222, (mget a0 (r14.getD i168 default)).getD 0⟩ : Term)]))) 8 0 A8.zero) (fun (s169 : (List Term)) => K (⟨s169⟩ : Vc.Form) 0) r14.length 0 []))
theorem c_impl_sum_form (a0 : List (A8 × Int)) {b0 : Nat} {K : Vc.Form → Int → Prop} (h : f_impl_sum_form a0 K) (w0 : World) (q0 : (mapI (kvA .i64) (vvI .i64) b0 a0).holds w0) :
  Calls Try.prog 73 #[.map (some b0)] w0 fun e w' => ∃ (r0 : Vc.Form) (z0_0 : Value) (fz0 : List Nat) (r1 : Int), 
   e = .returned (.tuple #[.agg #[z0_0], .int .i64 r1]) ∧ K r0 r1 ∧ (Tr.item (TrForm 114) r0 [z0_0] fz0).holds w' ∧ (∀ b, b ∈ fz0 → w0.heap.size ≤ b) ∧ Bel w0 w' := by
 unfold f_impl_sum_form at h
 refine calls_of (args := [.map (some b0)]) Try.func73 rfl 48 Try.ntmps73 (Nat.le_of_ble_eq_true rfl) ?_
 have hC := Ctx.start (X := Nox) w0 [mapI (kvA .i64) (vvI .i64) b0 a0] (by simp only [List.mem_cons, List.not_mem_nil, or_false, forall_eq_or_imp, forall_eq]; exact q0)
 refine sr ?_
 refine s_alloc hC [.slice none 0 0] z95 rfl fun b2 w4 hB_ hC => ?_
 refine s_as (v := .int .i64 0) rfl ?_
 refine dn ?_
 refine wp_seq ?_
 refine sr ?_
 refine s_mv (v := .map (some b0)) rfl ?_
 refine s_maplen (hC.getP 0 rfl) Try.underlying99 rfl rfl ?_
 refine s_gtr rfl rfl ?_
 refine dn ?_
 refine cw_cond rfl (fun hb5 => ?_) (fun hb5 => ?_)
 ·replace h := ift h (ct hb5)
  refine sr ?_
  refine s_build [] rfl (bl95   _) ?_
  refine s_store (v := .agg #[.slice none 0 0]) hC 0 [.slice none 0 0] [.slice none 0 0] rfl ag95.size rfl rfl rfl rfl rfl (Nat.le_of_ble_eq_true rfl) rfl fun w6 hC => ?_
  refine s_as (v := .int .i64 3) rfl ?_
  refine dn ?_
  refine wp_ret (then_ret ?_)
  refine ret2 (fn := Try.f73) rfl ?_ ?_ ⟨(⟨[]⟩ : Vc.Form), .slice none 0 0, [], 3, rfl, h, (form_join (nil_item _ _ _)), (fun b hb => absurd hb (by simp)), hC.below⟩ (.inl rfl)
  ·exact res_cellA hC 0 rfl ag95 rfl rfl
  ·exact res_tmp rfl
 ·replace h := iff_ h (cf hb5)
  refine wp_skip ?_
  refine then_norm ?_
  refine sr ?_
  refine s_build [] rfl (bl95   _) ?_
  refine s_alloc hC [.slice none 0 0] z95 rfl fun b7 w9 hB_ hC => ?_
  refine s_store (v := .agg #[.slice none 0 0]) hC 0 [.slice none 0 0] [.slice none 0 0] rfl ag95.size rfl rfl rfl rfl rfl (Nat.le_of_ble_eq_true rfl) rfl fun w10 hC => ?_
  refine dn ?_
  refine wp_seq ?_
  refine sr ?_
  refine s_mv (v := .map (some b0)) rfl ?_
  refine s_call [.map (some b0)] _ Try.func124 rfl rfl rfl (c_impl_sum_powers a0 h _ (hC.getP 0 rfl)) (fun ret11 w13 hR12 => ?_)
  obtain ⟨r14, u15, f16, rfl, h, hr17, hf18, hB19⟩ := hR12
  refine ⟨_, rfl, ?_⟩
  replace hC := hC.push hB19 (Tr.item (Tr.sl 101 ((EA .i64).tr)) r14 [u15] f16) hr17 hf18
  obtain ⟨ho21, hf22⟩ := flat_tr (hC.getM 0 rfl).1
  subst hf22
  replace hC := hC.recast (c := own 101 8 u15 r14.length ((EA .i64).encs r14)) (fun _ h_ => h_) (fun _ => ho21)
  obtain ⟨Ad24, c25, hv26⟩ := own_form (hC.getM 0 rfl)
  refine s_len Try.underlying121 (tr rfl hv26) ?_
  refine s_mv (v := .int .i64 0) rfl ?_
  refine dn ?_
  refine wp_block ?_
  have hN172 : r14.length ≤ 9223372036854775807 := own_max (hC.getM 0 rfl)
  refine loopN (S := (List Term)) _ _ (fun i168 s169 e_ w_ => ∃ (v170 : Value), Slots e_ [(0, .map (some b0)), (2, .pointer (some ⟨b2, 0, none⟩)), (3, .int .i64 0), (4, .pointer (some ⟨b7, 0, none⟩)), (16, u15), (17, .int .i64 (r14.length : Int)), (18, .int .i64 (i168 : Int))] ∧ Ctx Nox w0 w_ [own 114 9 v170 s169.length (ETerm.encs s169), own 101 8 u15 r14.length ((EA .i64).encs r14), blk b7 95 [v170], blk b2 95 [.slice none 0 0]] [mapI (kvA .i64) (vvI .i64) b0 a0]) r14.length ?_ ?_ (s0 := []) ?_ h
  ·clear hC h
   rintro i168 s169 e_ w177 next173 K174 hi176 ⟨v170, hS_, hC⟩ h hK175
   refine sr ?_
   refine s_lss (sx hS_ 6 rfl) (sx hS_ 5 rfl) ?_
   refine dn ?_
   refine wp_seq ?_
   refine cw_true rfl (decide_eq_true (by omega)) ?_
   refine wp_skip ?_
   refine then_norm ?_
   refine wp_seq ?_
   refine wp_block ?_
   refine sr ?_
   obtain ⟨Ad178, c179, hv180⟩ := own_formE (hC.getM 1 rfl) (Nat.lt_of_le_of_lt (Nat.zero_le _) hi176)
   refine s_iaddrO (i168 * 8) Try.underlying121 ag101.size (tr (sx hS_ 4 rfl) hv180) (sx hS_ 6 rfl) (Int.natCast_nonneg _) (Int.ofNat_lt.2 hi176) rfl ?_
   refine s_loadCA (A8.enc .i64 (r14.getD i168 default)) (own_cellsE (hC.getM 1 rfl) hv180 i168 hi176) ag101 rfl rfl ?_
   refine s_alloc hC (A8.enc .i64 A8.zero) z101 rfl fun b181 w183 hB_ hC => ?_
   refine s_store (v := .agg (List.toArray (A8.enc .i64 (r14.getD i168 default)))) hC 0 (A8.enc .i64 (r14.getD i168 default)) (A8.enc .i64 (r14.getD i168 default)) rfl ag101.size rfl rfl rfl rfl rfl (Nat.le_of_ble_eq_true rfl) rfl fun w184 hC => ?_
   refine dn ?_
   refine sr ?_
   refine s_build [] rfl (bl49   _) ?_
   refine s_alloc hC (A8.enc .u8 A8.zero) z49 rfl fun b185 w187 hB_ hC => ?_
   refine s_store (v := .agg (List.toArray (A8.enc .u8 A8.zero))) hC 0 (A8.enc .u8 A8.zero) (A8.enc .u8 A8.zero) rfl ag49.size rfl rfl rfl rfl rfl (Nat.le_of_ble_eq_true rfl) rfl fun w188 hC => ?_
   refine dn ?_
   refine wp_seq ?_
   refine sr ?_
   refine s_loadA hC 1 (A8.enc .i64 (r14.getD i168 default)) rfl ag101 rfl rfl rfl ?_
   refine s_mv (v := .int .i64 0) rfl ?_
   refine dn ?_
   refine wp_block ?_
   refine loopN (S := A8) _ _ (fun i221 s222 e_ w_ => Slots e_ [(0, .map (some b0)), (2, .pointer (some ⟨b2, 0, none⟩)), (3, .int .i64 0), (4, .pointer (some ⟨b7, 0, none⟩)), (6, .pointer (some ⟨b181, 0, none⟩)), (7, .pointer (some ⟨b185, 0, none⟩)), (16, u15), (17, .int .i64 (r14.length : Int)), (18, .int .i64 (i168 : Int)), (19, .bool (decide ((i168 : Int) < (r14.length : Int)))), (20, .pointer (some ⟨Ad178, i168 * 8, none⟩)), (21, .agg (List.toArray (A8.enc .i64 (r14.getD i168 default)))), (22, .agg (List.toArray (A8.enc .u8 A8.zero))), (23, .agg (List.toArray (A8.enc .i64 (r14.getD i168 default)))), (24, .int .i64 (i221 : Int))] ∧ Ctx Nox w0 w_ [blk b185 49 (A8.enc .u8 s222), blk b181 101 (A8.enc .i64 (r14.getD i168 default)), own 114 9 v170 s169.length (ETerm.encs s169), own 101 8 u15 r14.length ((EA .i64).encs r14), blk b7 95 [v170], blk b2 95 [.slice none 0 0]] [mapI (kvA .i64) (vvI .i64) b0 a0]) 8 ?_ ?_ (s0 := A8.zero) ?_ h
   ·clear hC h
    rintro i221 s222 e_ w227 next223 K224 hi226 ⟨hS_, hC⟩ h hK225
    refine sr ?_
    refine s_lss (sx hS_ 14 rfl) rfl ?_
    refine dn ?_
    refine wp_seq ?_
    refine cw_true rfl (decide_eq_true (by omega)) ?_
    refine wp_skip ?_
    refine then_norm ?_
    refine wp_seq ?_
    refine wp_block ?_
    refine sr ?_
    refine s_mv (v := .int .i64 (i221 : Int)) (sx hS_ 14 rfl) ?_
    refine s_index (.int .i64 ((r14.getD i168 default).get i221)) Try.underlying101 (sx hS_ 13 rfl) (sx hS_ 14 rfl) (Int.natCast_nonneg _) (by omega) sc3 (A8.enc_get _ _ hi226) ?_
    refine s_as (v := .int .i64 (i221 : Int)) rfl ?_
    refine s_as (v := .int .i64 ((r14.getD i168 default).get i221)) rfl ?_
    refine dn ?_
    refine wp_seq ?_
    refine sr ?_
    refine s_mv (v := .int .i64 ((r14.getD i168 default).get i221)) rfl ?_
    refine s_gtr rfl rfl ?_
    refine dn ?_
    refine cw_cond rfl (fun hb228 => ?_) (fun hb228 => ?_)
    ·replace h := ift h (ct hb228)
     refine sr ?_
     refine s_build [] rfl (bl95   _) ?_
     refine s_store (v := .agg #[.slice none 0 0]) hC 5 [.slice none 0 0] [.slice none 0 0] rfl ag95.size (sx hS_ 1 rfl) rfl rfl rfl rfl (Nat.le_of_ble_eq_true rfl) rfl fun w229 hC => ?_
     refine s_as (v := .int .i64 3) rfl ?_
     refine dn ?_
     refine wp_ret (then_ret (blk_ret (then_ret (then_ret (blk_ret (then_ret (blk_ret (then_ret (then_ret (blk_ret (then_ret ?_)))))))))))
     refine ret2 (fn := Try.f73) rfl ?_ ?_ ⟨(⟨[]⟩ : Vc.Form), .slice none 0 0, [], 3, rfl, h, (form_join (nil_item _ _ _)), (fun b hb => absurd hb (by simp)), hC.below⟩ (.inl rfl)
     ·exact res_cellA hC 5 rfl ag95 (sx hS_ 1 rfl) rfl
     ·exact res_tmp rfl
    ·replace h := iff_ h (cf hb228)
     refine wp_skip ?_
     refine then_norm ?_
     refine cw_region ?_
     refine s_mv (v := .int .i64 (i221 : Int)) rfl ?_
     refine s_mv (v := .int .i64 ((r14.getD i168 default).get i221)) rfl ?_
     refine s_conv Try.underlying3 Try.underlying5 rfl ?_
     refine s_iaddrB i221 Try.underlying49 sc5.size (sx hS_ 5 rfl) rfl (Int.natCast_nonneg _) (by omega) (by omega) ?_
     refine s_store (v := .int .u8 (IntKind.u8.wrap ((r14.getD i168 default).get i221))) hC 0 [.int .u8 (IntKind.u8.wrap ((r14.getD i168 default).get i221))] (A8.enc .u8 (s222.set i221 (IntKind.u8.wrap ((r14.getD i168 default).get i221)))) rfl sc5.size rfl rfl rfl rfl rfl hi226 (A8.enc_set _ _ _ hi226) fun w230 hC => ?_
     refine done ?_
     refine blk_norm ?_
     refine then_norm ?_
     refine cw_region ?_
     refine s_add (sx hS_ 14 rfl) rfl ?_
     refine s_mv (v := .int .i64 (IntKind.i64.wrap ((i221 : Int) + 1))) rfl ?_
     refine done ?_
     exact hK225 (s222.set i221 (IntKind.u8.wrap ((r14.getD i168 default).get i221))) _ _ ⟨(sk (sx hS_ 0 rfl) (sk (sx hS_ 1 rfl) (sk (sx hS_ 2 rfl) (sk (sx hS_ 3 rfl) (sk (sx hS_ 4 rfl) (sk (sx hS_ 5 rfl) (sk (sx hS_ 6 rfl) (sk (sx hS_ 7 rfl) (sk (sx hS_ 8 rfl) (sk (sx hS_ 9 rfl) (sk (sx hS_ 10 rfl) (sk (sx hS_ 11 rfl) (sk (sx hS_ 12 rfl) (sk (sx hS_ 13 rfl) (sk (tr rfl (congrArg _ (wrap64_nat hi226 (by decide)))) sn))))))))))))))), hC⟩ h
   ·clear hC h
    rintro s222 e_ w231 K224 ⟨hS_, hC⟩ h
    refine sr ?_
    refine s_lss (sx hS_ 14 rfl) rfl ?_
    refine dn ?_
    refine wp_seq ?_
    refine cw_false rfl (decide_eq_false (by omega)) ?_
    refine wp_exit (then_exit (then_exit (exit_in ?_)))
    refine then_norm ?_
    refine cw_draw 8 mixed [0, 1, 0, 0, 0, 24, 60, 124, 255, 511, 1023] [1, 2, 4, 5, 6] [0, 3] (by kernel_rfl) (by kernel_rfl) (by kernel_rfl) (fun hM233 hM234 w232 hB_ => ?_)
    replace hC := hC.grow hB_
    refine aF 0 (.pointer (some ⟨b7, 0, none⟩)) rfl rfl (hM234 0 rfl) (rfl) (fun _ => by exact r_faddrB 0 Try.underlying95 rfl sc93.size (sx hS_ 3 rfl) rfl) (dbits 11 1) ?_
    refine aL 1 (v170) rfl rfl (hM233 1 rfl) (rfl) (fun _ hB_ => by exact r_loadS (hC.grow hB_) 4 (v170) rfl sc93 rfl rfl) (dbits 11 3) ?_
    refine aL 2 (.agg (List.toArray (A8.enc .u8 s222))) rfl rfl (hM233 2 rfl) (rfl) (fun _ hB_ => by exact r_loadA (hC.grow hB_) 0 (A8.enc .u8 s222) rfl ag49 (sx hS_ 5 rfl) rfl rfl) (dbits 11 7) ?_
    refine aF 3 (.map (some b0)) rfl rfl (hM234 3 rfl) (rfl) (fun _ => by exact r_mv (v := .map (some b0)) (sx hS_ 0 rfl)) (dbits 11 15) ?_
    refine aL 4 (.agg (List.toArray (A8.enc .i64 (r14.getD i168 default)))) rfl rfl (hM233 4 rfl) (rfl) (fun _ hB_ => by exact r_loadA (hC.grow hB_) 1 (A8.enc .i64 (r14.getD i168 default)) rfl ag101 (sx hS_ 4 rfl) rfl rfl) (dbits 11 31) ?_
    refine aL 5 (.int .i64 ((mget a0 (r14.getD i168 default)).getD 0)) rfl rfl (hM233 5 rfl) (rfl) (fun _ hB_ => by exact r_lookup (r14.getD i168 default) 0 ((hC.grow hB_).getP 0 rfl) kt101 Try.underlying99 z2 rfl rfl) (dbits 11 63) ?_
    refine aL 6 (.agg (List.toArray (Term.enc (⟨s222, (mget a0 (r14.getD i168 default)).getD 0⟩ : Term)))) rfl rfl (hM233 6 rfl) (rfl) (fun _ hB_ => by exact r_build [(0, .agg (List.toArray (A8.enc .u8 s222))), (1, .int .i64 ((mget a0 (r14.getD i168 default)).getD 0))] rfl (bl114_0flat_1int s222 ((mget a0 (r14.getD i168 default)).getD 0)  _)) (dbits 11 127) ?_
    refine aO 7 rfl ?_
    refine s_bslice (sz := 9) hC [(0, .agg (List.toArray (Term.enc (⟨s222, (mget a0 (r14.getD i168 default)).getD 0⟩ : Term))))] (ETerm.encs [(⟨s222, (mget a0 (r14.getD i168 default)).getD 0⟩ : Term)]) rfl (fun _ => bs93_1 (⟨s222, (mget a0 (r14.getD i168 default)).getD 0⟩ : Term) _) rfl (by decide) fun b235 w236 hB_ hC => ?_
    refine done ?_
    refine aK (by assumption) (dbits 11 255) ?_
    refine ae_tail 8 (by decide) (by decide) (by kernel_rfl) (by kernel_rfl) rfl ?_
    obtain ⟨hm240, h⟩ := h
    refine s_app hC 3 Try.underlying93 el114 rfl (by decide) (by decide) rfl (own_rdr (hC.getM 0 rfl)) (fun q hq => Enc.encs_one' (E := ETerm) _ q hq) rfl rfl hm240 fun v238 w239 hC => ?_
    replace hC := own_re hC 3 ((s169 ++ [(⟨s222, (mget a0 (r14.getD i168 default)).getD 0⟩ : Term)]).length) (ETerm.encs (s169 ++ [(⟨s222, (mget a0 (r14.getD i168 default)).getD 0⟩ : Term)])) rfl (by simp) (by first | (simp [Enc.encs_append]; done) | simp [Enc.encs_append, Enc.encs])
    refine s_faddrB 0 Try.underlying95 rfl sc93.size (sx hS_ 3 rfl) rfl ?_
    refine s_store (v := v238) hC 5 [v238] [v238] rfl sc93.size rfl rfl (own_cellsV (hC.getM 3 rfl)) rfl (all_c (own_oneC (hC.getM 3 rfl)) rfl) (Nat.le_of_ble_eq_true rfl) rfl fun w241 hC => ?_
    refine done ?_
    refine qn_norm ?_
    refine blk_norm ?_
    refine then_norm ?_
    refine cw_region ?_
    refine s_add (sx hS_ 8 rfl) rfl ?_
    refine s_mv (v := .int .i64 (IntKind.i64.wrap ((i168 : Int) + 1))) rfl ?_
    refine done ?_
    replace hC := hC.sM [3, 4, 5, 6] (M' := [own 114 9 v238 ((s169 ++ [(⟨s222, (mget a0 (r14.getD i168 default)).getD 0⟩ : Term)]).length) (ETerm.encs (s169 ++ [(⟨s222, (mget a0 (r14.getD i168 default)).getD 0⟩ : Term)])), own 101 8 u15 r14.length ((EA .i64).encs r14), blk b7 95 [v238], blk b2 95 [.slice none 0 0]]) (by decide) rfl
    exact hK175 (s169 ++ [(⟨s222, (mget a0 (r14.getD i168 default)).getD 0⟩ : Term)]) _ _ ⟨v238, (sk (sx hS_ 0 rfl) (sk (sx hS_ 1 rfl) (sk (sx hS_ 2 rfl) (sk (sx hS_ 3 rfl) (sk (sx hS_ 6 rfl) (sk (sx hS_ 7 rfl) (sk (tr rfl (congrArg _ (wrap64_nat hi176 hN172))) sn))))))), hC⟩ h
   ·skip
    exact ⟨(sk (sx hS_ 0 rfl) (sk (sx hS_ 1 rfl) (sk (sx hS_ 2 rfl) (sk (sx hS_ 3 rfl) (sk rfl (sk rfl (sk (sx hS_ 4 rfl) (sk (sx hS_ 5 rfl) (sk (sx hS_ 6 rfl) (sk rfl (sk rfl (sk rfl (sk rfl (sk rfl (sk rfl sn))))))))))))))), hC⟩
  ·clear hC h
   rintro s169 e_ w242 K174 ⟨v170, hS_, hC⟩ h
   refine sr ?_
   refine s_lss (sx hS_ 6 rfl) (sx hS_ 5 rfl) ?_
   refine dn ?_
   refine wp_seq ?_
   refine cw_false rfl (decide_eq_false (by omega)) ?_
   refine wp_exit (then_exit (then_exit (exit_in ?_)))
   refine then_norm ?_
   refine sr ?_
   refine s_loadA hC 2 [v170] rfl ag95 (sx hS_ 3 rfl) rfl rfl ?_
   refine s_store (v := .agg #[v170]) hC 3 [v170] [v170] rfl ag95.size (sx hS_ 1 rfl) rfl rfl rfl (all_c (own_oneC (hC.getM 0 rfl)) rfl) (Nat.le_of_ble_eq_true rfl) rfl fun w243 hC => ?_
   refine s_as (v := .int .i64 0) rfl ?_
   refine dn ?_
   refine wp_ret ?_
   refine ret2 (fn := Try.f73) rfl ?_ ?_ ⟨(⟨s169⟩ : Vc.Form), v170, (Option.toList (Value.ownBlock v170)), 0, rfl, h, (form_join (own_item (hC.getM 0 rfl))), (own_fresh hC 0 rfl), hC.below⟩ (.inl rfl)
   ·exact res_cellA hC 3 rfl ag95 (sx hS_ 1 rfl) rfl
   ·exact res_tmp rfl
  ·skip
   replace hC := hC.pushNil 114 9
   exact ⟨.slice none 0 0, (sk rfl (sk rfl (sk rfl (sk rfl (sk rfl (sk rfl (sk rfl sn))))))), hC⟩
def f_impl_within (a0 : Int) (a1 : Int) (a2 : Int) (K : Bool → Prop) : Prop :=
 (if a0 ≥ a1 then K (decide (a0 ≤ a2)) else K false)
theorem c_impl_within (a0 : Int) (a1 : Int) (a2 : Int)  {K : Bool → Prop} (h : f_impl_within a0 a1 a2 K) (w0 : World)  :
  Calls Try.prog 48 #[.int .i64 a0, .int .i64 a1, .int .i64 a2] w0 fun e w' => ∃ (r0 : Bool), 
   e = .returned (.bool r0) ∧ K r0 ∧ Bel w0 w' := by
 unfold f_impl_within at h
 refine calls_of (args := [.int .i64 a0, .int .i64 a1, .int .i64 a2]) Try.func48 rfl 15 Try.ntmps48 (Nat.le_of_ble_eq_true rfl) ?_
 have hC := Ctx.start (X := Nox) w0 [] (by simp)
 refine sr ?_
 refine s_as (v := .bool false) rfl ?_
 refine dn ?_
 refine sr ?_
 refine s_mv (v := .int .i64 a0) rfl ?_
 refine s_mv (v := .int .i64 a1) rfl ?_
 refine s_geq rfl rfl ?_
 refine s_mv (v := .bool (decide (a0 ≥ a1))) rfl ?_
 refine bsplit (decide (a0 ≥ a1)) (fun hb1 => ?_) (fun hb1 => ?_)
 ·replace h := ift h (ct hb1)
  refine guardOn 3 10 rfl rfl hb1 ?_
  refine s_mv (v := .int .i64 a0) rfl ?_
  refine guardOn 3 10 rfl rfl hb1 ?_
  refine s_mv (v := .int .i64 a2) rfl ?_
  refine guardOn 3 10 rfl rfl hb1 ?_
  refine s_leq rfl rfl ?_
  refine s_pick (v := .bool (decide (a0 ≤ a2))) (b := true) (tr rfl (congrArg _ hb1)) rfl ?_
  refine s_as (v := .bool (decide (a0 ≤ a2))) rfl ?_
  refine dn ?_
  refine wp_ret ?_
  refine ret1 (fn := Try.f48) rfl ?_ ⟨decide (a0 ≤ a2), rfl, h, hC.below⟩ (.inl rfl)
  exact res_tmp rfl
 ·replace h := iff_ h (cf hb1)
  refine guardOff (b := false) 3 10 rfl (tr rfl (congrArg _ hb1)) (by decide) ?_
  refine guardOff (b := false) 3 10 rfl (tr rfl (congrArg _ hb1)) (by decide) ?_
  refine guardOff (b := false) 3 10 rfl (tr rfl (congrArg _ hb1)) (by decide) ?_
  refine s_pick (v := .bool false) (b := false) (tr rfl (congrArg _ hb1)) rfl ?_
  refine s_as (v := .bool false) rfl ?_
  refine dn ?_
  refine wp_ret ?_
  refine ret1 (fn := Try.f48) rfl ?_ ⟨false, rfl, h, hC.below⟩ (.inl rfl)
  exact res_tmp rfl
def f_slices_IndexFunc_int64_int64 (a0 : List Int) (p1 : Int → (Bool → Prop) → Prop) (K : Int → Prop) : Prop :=
 forN (fun i17 (s18 : Unit) next20 => p1 (a0.getD i17 default) (fun r32 => (if r32 = true then K (i17 : Int) else next20 ()))) (fun (s18 : Unit) => K (-1)) a0.length 0 ()
theorem c_slices_IndexFunc_int64_int64 (a0 : List Int) (p1 : Int → (Bool → Prop) → Prop) {u0_0 : Value} {fp0 : List Nat} {K : Int → Prop} (h : f_slices_IndexFunc_int64_int64 a0 p1 K) (w0 : World) (q0 : ((EI .i64).ty.sl).rep a0 [u0_0] fp0 w0) {g1 : Nat} {cp1 : List Value} {fn1 : Func} (hf1 : Try.prog.funcs[g1]? = some fn1) (hb1 : fn1.body.isNone = false) (hn1 : (fn1.name == "runtime.NumGoroutine") = false) (hp1 : ∀ (y0 : Int) (K_ : Bool → Prop) (w_ : World), Bel w0 w_ → p1 y0 K_ → Calls Try.prog g1 (List.toArray ([.int .i64 y0] ++ cp1)) w_ fun e w' => ∃ (z0 : Bool), e = .returned (.bool z0) ∧ K_ z0 ∧ Bel w_ w') :
  Calls Try.prog 126 #[u0_0, .func (.func g1) #[] (List.toArray cp1)] w0 fun e w' => ∃ (r0 : Int), 
   e = .returned (.int .i64 r0) ∧ K r0 ∧ Bel w0 w' := by
 unfold f_slices_IndexFunc_int64_int64 at h
 refine calls_of (args := [u0_0, .func (.func g1) #[] (List.toArray cp1)]) Try.func126 rfl 19 Try.ntmps126 (Nat.le_of_ble_eq_true rfl) ?_
 have hC := Ctx.start (X := Nox) w0 [Ty.item ((EI .i64).ty.sl) a0 [u0_0] fp0] (by simp only [List.mem_cons, List.not_mem_nil, or_false, forall_eq_or_imp, forall_eq]; exact q0)
 refine sr ?_
 refine s_as (v := .int .i64 0) rfl ?_
 refine dn ?_
 refine wp_seq ?_
 refine sr ?_
 refine s_mv (v := u0_0) rfl ?_
 obtain ⟨Ad2, c3, hv4⟩ := sl_len (hC.getP 0 rfl)
 refine s_len Try.underlying22 (tr rfl hv4) ?_
 refine s_mv (v := .int .i64 0) rfl ?_
 refine dn ?_
 refine wp_block ?_
 have hN19 : a0.length ≤ 9223372036854775807 := sl_max (hC.getP 0 rfl)
 refine loopN (S := Unit) _ _ (fun i17 s18 e_ w_ => Slots e_ [(0, u0_0), (1, .func (.func g1) #[] (List.toArray cp1)), (4, .int .i64 0), (7, .int .i64 (a0.length : Int)), (8, .int .i64 (i17 : Int))] ∧ Ctx Nox w0 w_ [] [Ty.item ((EI .i64).ty.sl) a0 [u0_0] fp0]) a0.length ?_ ?_ (s0 := ()) ?_ h
 ·clear hC h
  rintro i17 s18 e_ w24 next20 K21 hi23 ⟨hS_, hC⟩ h hK22
  refine sr ?_
  refine s_lss (sx hS_ 4 rfl) (sx hS_ 3 rfl) ?_
  refine dn ?_
  refine wp_seq ?_
  refine cw_true rfl (decide_eq_true (by omega)) ?_
  refine wp_skip ?_
  refine then_norm ?_
  refine wp_seq ?_
  refine wp_block ?_
  refine sr ?_
  refine s_mv (v := .int .i64 (i17 : Int)) (sx hS_ 4 rfl) ?_
  refine s_as (v := .int .i64 (i17 : Int)) rfl ?_
  refine dn ?_
  refine sr ?_
  refine s_mv (v := .func (.func g1) #[] (List.toArray cp1)) (sx hS_ 1 rfl) ?_
  refine s_mv (v := u0_0) (sx hS_ 0 rfl) ?_
  refine s_mv (v := .int .i64 (i17 : Int)) rfl ?_
  obtain ⟨Ad25, c26, hv27⟩ := sl_form (hC.getP 0 rfl) i17 hi23
  refine s_iaddrS (len := a0.length) Try.underlying22 sc2.size (tr rfl hv27) rfl (Int.natCast_nonneg _) (Int.ofNat_lt.2 hi23) ?_
  refine s_loadCS (.int .i64 (a0.getD i17 default)) (sl_cellsE (hC.getP 0 rfl) hv27 i17 hi23) sc2 rfl ?_
  refine s_callv [.int .i64 (a0.getD i17 default)] _ rfl hf1 hb1 hn1 rfl (hp1 _ _ _ hC.below  h) (fun ret28 w30 hR29 => ?_)
  obtain ⟨r32, rfl, h, hB31⟩ := hR29
  refine ⟨_, rfl, ?_⟩
  replace hC := hC.grow hB31
  refine dn ?_
  refine cw_cond rfl (fun hb33 => ?_) (fun hb33 => ?_)
  ·replace h := ift h (hb33)
   refine sr ?_
   refine s_mv (v := .int .i64 (i17 : Int)) rfl ?_
   refine s_as (v := .int .i64 (i17 : Int)) rfl ?_
   refine dn ?_
   refine wp_ret (blk_ret (then_ret (then_ret (blk_ret (then_ret ?_)))))
   refine ret1 (fn := Try.f126) rfl ?_ ⟨(i17 : Int), rfl, h, hC.below⟩ (.inl rfl)
   exact res_tmp rfl
  ·replace h := iff_ h (ne_t hb33)
   refine wp_skip ?_
   refine blk_norm ?_
   refine then_norm ?_
   refine cw_region ?_
   refine s_add (sx hS_ 4 rfl) rfl ?_
   refine s_mv (v := .int .i64 (IntKind.i64.wrap ((i17 : Int) + 1))) rfl ?_
   refine done ?_
   exact hK22 () _ _ ⟨(sk (sx hS_ 0 rfl) (sk (sx hS_ 1 rfl) (sk (sx hS_ 2 rfl) (sk (sx hS_ 3 rfl) (sk (tr rfl (congrArg _ (wrap64_nat hi23 hN19))) sn))))), hC⟩ h
 ·clear hC h
  rintro s18 e_ w34 K21 ⟨hS_, hC⟩ h
  refine sr ?_
  refine s_lss (sx hS_ 4 rfl) (sx hS_ 3 rfl) ?_
  refine dn ?_
  refine wp_seq ?_
  refine cw_false rfl (decide_eq_false (by omega)) ?_
  refine wp_exit (then_exit (then_exit (exit_in ?_)))
  refine then_norm ?_
  refine sr ?_
  refine s_as (v := .int .i64 (-1)) rfl ?_
  refine dn ?_
  refine wp_ret ?_
  refine ret1 (fn := Try.f126) rfl ?_ ⟨(-1), rfl, h, hC.below⟩ (.inl rfl)
  exact res_tmp rfl
 ·skip
  exact ⟨(sk rfl (sk rfl (sk rfl (sk rfl (sk rfl sn))))), hC⟩
def f_slices_ContainsFunc_int64_int64 (a0 : List Int) (p1 : Int → (Bool → Prop) → Prop) (K : Bool → Prop) : Prop :=
 f_slices_IndexFunc_int64_int64 a0 p1 (fun r5 => K (decide (r5 ≥ 0)))
theorem c_slices_ContainsFunc_int64_int64 (a0 : List Int) (p1 : Int → (Bool → Prop) → Prop) {u0_0 : Value} {fp0 : List Nat} {K : Bool → Prop} (h : f_slices_ContainsFunc_int64_int64 a0 p1 K) (w0 : World) (q0 : ((EI .i64).ty.sl).rep a0 [u0_0] fp0 w0) {g1 : Nat} {cp1 : List Value} {fn1 : Func} (hf1 : Try.prog.funcs[g1]? = some fn1) (hb1 : fn1.body.isNone = false) (hn1 : (fn1.name == "runtime.NumGoroutine") = false) (hp1 : ∀ (y0 : Int) (K_ : Bool → Prop) (w_ : World), Bel w0 w_ → p1 y0 K_ → Calls Try.prog g1 (List.toArray ([.int .i64 y0] ++ cp1)) w_ fun e w' => ∃ (z0 : Bool), e = .returned (.bool z0) ∧ K_ z0 ∧ Bel w_ w') :
  Calls Try.prog 85 #[u0_0, .func (.func g1) #[] (List.toArray cp1)] w0 fun e w' => ∃ (r0 : Bool), 
   e = .returned (.bool r0) ∧ K r0 ∧ Bel w0 w' := by
 unfold f_slices_ContainsFunc_int64_int64 at h
 refine calls_of (args := [u0_0, .func (.func g1) #[] (List.toArray cp1)]) Try.func85 rfl 9 Try.ntmps85 (Nat.le_of_ble_eq_true rfl) ?_
 have hC := Ctx.start (X := Nox) w0 [Ty.item ((EI .i64).ty.sl) a0 [u0_0] fp0] (by simp only [List.mem_cons, List.not_mem_nil, or_false, forall_eq_or_imp, forall_eq]; exact q0)
 refine sr ?_
 refine s_as (v := .bool false) rfl ?_
 refine dn ?_
 refine sr ?_
 refine s_mv (v := u0_0) rfl ?_
 refine s_mv (v := .func (.func g1) #[] (List.toArray cp1)) rfl ?_
 refine s_call [u0_0, .func (.func g1) #[] (List.toArray cp1)] _ Try.func126 rfl rfl rfl (c_slices_IndexFunc_int64_int64 a0 p1 h _ (hC.getP 0 rfl) hf1 hb1 hn1 (fun x0_ K_ w_ hb_ => hp1 x0_ K_ w_ (below_on hC.below hb_))) (fun ret2 w4 hR3 => ?_)
 obtain ⟨r5, rfl, h, hB6⟩ := hR3
 refine ⟨_, rfl, ?_⟩
 replace hC := hC.grow hB6
 refine s_geq rfl rfl ?_
 refine s_as (v := .bool (decide (r5 ≥ 0))) rfl ?_
 refine dn ?_
 refine wp_ret ?_
 refine ret1 (fn := Try.f85) rfl ?_ ⟨decide (r5 ≥ 0), rfl, h, hC.below⟩ (.inl rfl)
 exact res_tmp rfl
def f_impl_AreDegrees_1 (a0 : Int) (K : Bool → Prop) : Prop :=
 f_impl_within a0 1 12 (fun r4 => K (!r4))
theorem c_impl_AreDegrees_1 (a0 : Int)  {K : Bool → Prop} (h : f_impl_AreDegrees_1 a0 K) (w0 : World)  :
  Calls Try.prog 86 #[.int .i64 a0] w0 fun e w' => ∃ (r0 : Bool), 
   e = .returned (.bool r0) ∧ K r0 ∧ Bel w0 w' := by
 unfold f_impl_AreDegrees_1 at h
 refine calls_of (args := [.int .i64 a0]) Try.func86 rfl 6 Try.ntmps86 (Nat.le_of_ble_eq_true rfl) ?_
 have hC := Ctx.start (X := Nox) w0 [] (by simp)
 refine sr ?_
 refine s_as (v := .bool false) rfl ?_
 refine dn ?_
 refine sr ?_
 refine s_mv (v := .int .i64 a0) rfl ?_
 refine s_call [.int .i64 a0, .int .i64 1, .int .i64 12] _ Try.func48 rfl rfl rfl (c_impl_within a0 1 12 h _) (fun ret1 w3 hR2 => ?_)
 obtain ⟨r4, rfl, h, hB5⟩ := hR2
 refine ⟨_, rfl, ?_⟩
 replace hC := hC.grow hB5
 refine s_not rfl ?_
 refine s_as (v := .bool (!r4)) rfl ?_
 refine dn ?_
 refine wp_ret ?_
 refine ret1 (fn := Try.f86) rfl ?_ ⟨!r4, rfl, h, hC.below⟩ (.inl rfl)
 exact res_tmp rfl
def f_impl_AreDegrees (a0 : List Int) (K : Bool → Prop) : Prop :=
 (if (a0.length : Int) ≤ 8 then f_slices_ContainsFunc_int64_int64 a0 f_impl_AreDegrees_1 (fun r9 => K (!r9)) else K false)
theorem c_impl_AreDegrees (a0 : List Int) {u0_0 : Value} {fp0 : List Nat} {K : Bool → Prop} (h : f_impl_AreDegrees a0 K) (w0 : World) (q0 : ((EI .i64).ty.sl).rep a0 [u0_0] fp0 w0) :
  Calls Try.prog 30 #[u0_0] w0 fun e w' => ∃ (r0 : Bool), 
   e = .returned (.bool r0) ∧ K r0 ∧ Bel w0 w' := by
 unfold f_impl_AreDegrees at h
 refine calls_of (args := [u0_0]) Try.func30 rfl 11 Try.ntmps30 (Nat.le_of_ble_eq_true rfl) ?_
 have hC := Ctx.start (X := Nox) w0 [Ty.item ((EI .i64).ty.sl) a0 [u0_0] fp0] (by simp only [List.mem_cons, List.not_mem_nil, or_false, forall_eq_or_imp, forall_eq]; exact q0)
 refine sr ?_
 refine s_as (v := .bool false) rfl ?_
 refine dn ?_
 refine sr ?_
 refine s_mv (v := u0_0) rfl ?_
 obtain ⟨Ad2, c3, hv4⟩ := sl_len (hC.getP 0 rfl)
 refine s_len Try.underlying22 (tr rfl hv4) ?_
 refine s_leq rfl rfl ?_
 refine s_mv (v := .bool (decide ((a0.length : Int) ≤ 8))) rfl ?_
 refine bsplit (decide ((a0.length : Int) ≤ 8)) (fun hb5 => ?_) (fun hb5 => ?_)
 ·replace h := ift h (ct hb5)
  refine guardOn 3 6 rfl rfl hb5 ?_
  refine s_mv (v := u0_0) rfl ?_
  refine guardOn 3 6 rfl rfl hb5 ?_
  refine s_call [u0_0, .func (.func 86) #[] (List.toArray [])] _ Try.func85 rfl rfl rfl (c_slices_ContainsFunc_int64_int64 a0 f_impl_AreDegrees_1 h _ (hC.getP 0 rfl) Try.func86 rfl rfl (fun x0_ K_ w_ _ hq_ => c_impl_AreDegrees_1 x0_ hq_ w_)) (fun ret6 w8 hR7 => ?_)
  obtain ⟨r9, rfl, h, hB10⟩ := hR7
  refine ⟨_, rfl, ?_⟩
  replace hC := hC.grow hB10
  refine guardOn 3 6 rfl rfl hb5 ?_
  refine s_not rfl ?_
  refine s_pick (v := .bool (!r9)) (b := true) (tr rfl (congrArg _ hb5)) rfl ?_
  refine s_as (v := .bool (!r9)) rfl ?_
  refine dn ?_
  refine wp_ret ?_
  refine ret1 (fn := Try.f30) rfl ?_ ⟨!r9, rfl, h, hC.below⟩ (.inl rfl)
  exact res_tmp rfl
 ·replace h := iff_ h (cf hb5)
  refine guardOff (b := false) 3 6 rfl (tr rfl (congrArg _ hb5)) (by decide) ?_
  refine guardOff (b := false) 3 6 rfl (tr rfl (congrArg _ hb5)) (by decide) ?_
  refine guardOff (b := false) 3 6 rfl (tr rfl (congrArg _ hb5)) (by decide) ?_
  refine s_pick (v := .bool false) (b := false) (tr rfl (congrArg _ hb5)) rfl ?_
  refine s_as (v := .bool false) rfl ?_
  refine dn ?_
  refine wp_ret ?_
  refine ret1 (fn := Try.f30) rfl ?_ ⟨false, rfl, h, hC.below⟩ (.inl rfl)
  exact res_tmp rfl
def f_impl_isMonomial (a0 : List Int) (a1 : A8) (K : Bool → Prop) : Prop :=
 forN (fun i21 (s22 : Unit) next23 => (if (i21 : Int) < (a0.length : Int) then ((0 ≤ (i21 : Int) ∧ (i21 : Int) < (a0.length : Int)) ∧ (if Int.tmod (a0.getD i21 default) 2 = 1 then (if a1.get i21 > 1 then K false else next23 ()) else (if a1.get i21 > 20 then K false else next23 ()))) else (if a1.get i21 > 0 then K false else next23 ()))) (fun (s22 : Unit) => K true) 8 0 ()
theorem c_impl_isMonomial (a0 : List Int) (a1 : A8) {u0_0 : Value} {fp0 : List Nat} {K : Bool → Prop} (h : f_impl_isMonomial a0 a1 K) (w0 : World) (q0 : ((EI .i64).ty.sl).rep a0 [u0_0] fp0 w0) :
  Calls Try.prog 84 #[u0_0, .agg (List.toArray (A8.enc .u8 a1))] w0 fun e w' => ∃ (r0 : Bool), 
   e = .returned (.bool r0) ∧ K r0 ∧ Bel w0 w' := by
 unfold f_impl_isMonomial at h
 refine calls_of (args := [u0_0, .agg (List.toArray (A8.enc .u8 a1))]) Try.func84 rfl 27 Try.ntmps84 (Nat.le_of_ble_eq_true rfl) ?_
 have hC := Ctx.start (X := Nox) w0 [Ty.item ((EI .i64).ty.sl) a0 [u0_0] fp0] (by simp only [List.mem_cons, List.not_mem_nil, or_false, forall_eq_or_imp, forall_eq]; exact q0)
 refine sr ?_
 refine s_box (v := .agg (List.toArray (A8.enc .u8 a1))) hC (A8.enc .u8 a1) rfl rfl fun b2 w4 hB_ hC => ?_
 refine s_as (v := .bool false) rfl ?_
 refine dn ?_
 refine wp_seq ?_
 refine sr ?_
 refine s_loadA hC 0 (A8.enc .u8 a1) rfl ag49 rfl rfl rfl ?_
 refine s_mv (v := .int .i64 0) rfl ?_
 refine dn ?_
 refine wp_block ?_
 refine loopN (S := Unit) _ _ (fun i21 s22 e_ w_ => Slots e_ [(0, u0_0), (4, .bool false), (8, .agg (List.toArray (A8.enc .u8 a1))), (9, .int .i64 (i21 : Int))] ∧ Ctx Nox w0 w_ [] [Ty.item ((EI .i64).ty.sl) a0 [u0_0] fp0]) 8 ?_ ?_ (s0 := ()) ?_ h
 ·clear hC h
  rintro i21 s22 e_ w27 next23 K24 hi26 ⟨hS_, hC⟩ h hK25
  refine sr ?_
  refine s_lss (sx hS_ 3 rfl) rfl ?_
  refine dn ?_
  refine wp_seq ?_
  refine cw_true rfl (decide_eq_true (by omega)) ?_
  refine wp_skip ?_
  refine then_norm ?_
  refine wp_seq ?_
  refine wp_block ?_
  refine sr ?_
  refine s_mv (v := .int .i64 (i21 : Int)) (sx hS_ 3 rfl) ?_
  refine s_index (.int .u8 (a1.get i21)) Try.underlying49 (sx hS_ 2 rfl) (sx hS_ 3 rfl) (Int.natCast_nonneg _) (by omega) sc5 (A8.enc_get _ _ hi26) ?_
  refine s_as (v := .int .i64 (i21 : Int)) rfl ?_
  refine s_as (v := .int .u8 (a1.get i21)) rfl ?_
  refine dn ?_
  refine sr ?_
  refine s_as (v := .int .u8 0) rfl ?_
  refine dn ?_
  refine wp_seq ?_
  refine sr ?_
  refine s_mv (v := .int .i64 (i21 : Int)) rfl ?_
  refine s_mv (v := u0_0) (sx hS_ 0 rfl) ?_
  obtain ⟨Ad28, c29, hv30⟩ := sl_len (hC.getP 0 rfl)
  refine s_len Try.underlying22 (tr rfl hv30) ?_
  refine s_lss rfl rfl ?_
  refine dn ?_
  refine cw_cond rfl (fun hb31 => ?_) (fun hb31 => ?_)
  ·replace h := ift h (ct hb31)
   refine sr ?_
   refine s_as (v := .int .u8 20) rfl ?_
   refine dn ?_
   refine sr ?_
   refine s_mv (v := u0_0) (sx hS_ 0 rfl) ?_
   refine s_mv (v := .int .i64 (i21 : Int)) rfl ?_
   obtain ⟨⟨h0_32, h1_33⟩, h⟩ := h
   obtain ⟨Ad34, c35, hv36⟩ := sl_form (hC.getP 0 rfl) i21 (show i21 < a0.length by omega)
   refine s_iaddrS (len := a0.length) Try.underlying22 sc2.size (tr rfl hv36) rfl h0_32 h1_33 ?_
   refine s_loadCS (.int .i64 (a0.getD i21 default)) (sl_cellsE (hC.getP 0 rfl) hv36 i21 (show i21 < a0.length by omega)) sc2 rfl ?_
   refine s_rem rfl rfl (by decide) ?_
   refine s_eql rfl rfl ?_
   refine dn ?_
   refine cw_cond rfl (fun hb37 => ?_) (fun hb37 => ?_)
   ·replace h := ift h (ct hb37)
    refine cw_region ?_
    refine s_as (v := .int .u8 1) rfl ?_
    refine dn ?_
    refine sr ?_
    refine s_mv (v := .int .u8 (a1.get i21)) rfl ?_
    refine s_mv (v := .int .u8 1) rfl ?_
    refine s_gtr rfl rfl ?_
    refine dn ?_
    refine cw_cond rfl (fun hb38 => ?_) (fun hb38 => ?_)
    ·replace h := ift h (ct hb38)
     refine sr ?_
     refine s_as (v := .bool false) rfl ?_
     refine dn ?_
     refine wp_ret (blk_ret (then_ret (then_ret (blk_ret (then_ret ?_)))))
     refine ret1 (fn := Try.f84) rfl ?_ ⟨false, rfl, h, hC.below⟩ (.inl rfl)
     exact res_tmp rfl
    ·replace h := iff_ h (cf hb38)
     refine wp_skip ?_
     refine blk_norm ?_
     refine then_norm ?_
     refine cw_region ?_
     refine s_add (sx hS_ 3 rfl) rfl ?_
     refine s_mv (v := .int .i64 (IntKind.i64.wrap ((i21 : Int) + 1))) rfl ?_
     refine done ?_
     exact hK25 () _ _ ⟨(sk (sx hS_ 0 rfl) (sk (sx hS_ 1 rfl) (sk (sx hS_ 2 rfl) (sk (tr rfl (congrArg _ (wrap64_nat hi26 (by decide)))) sn)))), hC⟩ h
   ·replace h := iff_ h (cf hb37)
    refine wp_skip ?_
    refine then_norm ?_
    refine sr ?_
    refine s_mv (v := .int .u8 (a1.get i21)) rfl ?_
    refine s_mv (v := .int .u8 20) rfl ?_
    refine s_gtr rfl rfl ?_
    refine dn ?_
    refine cw_cond rfl (fun hb39 => ?_) (fun hb39 => ?_)
    ·replace h := ift h (ct hb39)
     refine sr ?_
     refine s_as (v := .bool false) rfl ?_
     refine dn ?_
     refine wp_ret (blk_ret (then_ret (then_ret (blk_ret (then_ret ?_)))))
     refine ret1 (fn := Try.f84) rfl ?_ ⟨false, rfl, h, hC.below⟩ (.inl rfl)
     exact res_tmp rfl
    ·replace h := iff_ h (cf hb39)
     refine wp_skip ?_
     refine blk_norm ?_
     refine then_norm ?_
     refine cw_region ?_
     refine s_add (sx hS_ 3 rfl) rfl ?_
     refine s_mv (v := .int .i64 (IntKind.i64.wrap ((i21 : Int) + 1))) rfl ?_
     refine done ?_
     exact hK25 () _ _ ⟨(sk (sx hS_ 0 rfl) (sk (sx hS_ 1 rfl) (sk (sx hS_ 2 rfl) (sk (tr rfl (congrArg _ (wrap64_nat hi26 (by decide)))) sn)))), hC⟩ h
  ·replace h := iff_ h (cf hb31)
   refine wp_skip ?_
   refine then_norm ?_
   refine sr ?_
   refine s_mv (v := .int .u8 (a1.get i21)) rfl ?_
   refine s_mv (v := .int .u8 0) rfl ?_
   refine s_gtr rfl rfl ?_
   refine dn ?_
   refine cw_cond rfl (fun hb40 => ?_) (fun hb40 => ?_)
   ·replace h := ift h (ct hb40)
    refine sr ?_
    refine s_as (v := .bool false) rfl ?_
    refine dn ?_
    refine wp_ret (blk_ret (then_ret (then_ret (blk_ret (then_ret ?_)))))
    refine ret1 (fn := Try.f84) rfl ?_ ⟨false, rfl, h, hC.below⟩ (.inl rfl)
    exact res_tmp rfl
   ·replace h := iff_ h (cf hb40)
    refine wp_skip ?_
    refine blk_norm ?_
    refine then_norm ?_
    refine cw_region ?_
    refine s_add (sx hS_ 3 rfl) rfl ?_
    refine s_mv (v := .int .i64 (IntKind.i64.wrap ((i21 : Int) + 1))) rfl ?_
    refine done ?_
    exact hK25 () _ _ ⟨(sk (sx hS_ 0 rfl) (sk (sx hS_ 1 rfl) (sk (sx hS_ 2 rfl) (sk (tr rfl (congrArg _ (wrap64_nat hi26 (by decide)))) sn)))), hC⟩ h
 ·clear hC h
  rintro s22 e_ w41 K24 ⟨hS_, hC⟩ h
  refine sr ?_
  refine s_lss (sx hS_ 3 rfl) rfl ?_
  refine dn ?_
  refine wp_seq ?_
  refine cw_false rfl (decide_eq_false (by omega)) ?_
  refine wp_exit (then_exit (then_exit (exit_in ?_)))
  refine then_norm ?_
  refine sr ?_
  refine s_as (v := .bool true) rfl ?_
  refine dn ?_
  refine wp_ret ?_
  refine ret1 (fn := Try.f84) rfl ?_ ⟨true, rfl, h, hC.below⟩ (.inl rfl)
  exact res_tmp rfl
 ·skip
  replace hC := hC.sM [] (M' := []) (by decide) rfl
  exact ⟨(sk rfl (sk rfl (sk rfl (sk rfl sn)))), hC⟩
def f_impl_isFactor (a0 : Int) (K : Bool → Prop) : Prop :=
 f_impl_within a0 1 10006 (fun r4 => K r4)
theorem c_impl_isFactor (a0 : Int)  {K : Bool → Prop} (h : f_impl_isFactor a0 K) (w0 : World)  :
  Calls Try.prog 93 #[.int .i64 a0] w0 fun e w' => ∃ (r0 : Bool), 
   e = .returned (.bool r0) ∧ K r0 ∧ Bel w0 w' := by
 unfold f_impl_isFactor at h
 refine calls_of (args := [.int .i64 a0]) Try.func93 rfl 5 Try.ntmps93 (Nat.le_of_ble_eq_true rfl) ?_
 have hC := Ctx.start (X := Nox) w0 [] (by simp)
 refine sr ?_
 refine s_as (v := .bool false) rfl ?_
 refine dn ?_
 refine sr ?_
 refine s_mv (v := .int .i64 a0) rfl ?_
 refine s_call [.int .i64 a0, .int .i64 1, .int .i64 10006] _ Try.func48 rfl rfl rfl (c_impl_within a0 1 10006 h _) (fun ret1 w3 hR2 => ?_)
 obtain ⟨r4, rfl, h, hB5⟩ := hR2
 refine ⟨_, rfl, ?_⟩
 replace hC := hC.grow hB5
 refine s_as (v := .bool r4) rfl ?_
 refine dn ?_
 refine wp_ret ?_
 refine ret1 (fn := Try.f93) rfl ?_ ⟨r4, rfl, h, hC.below⟩ (.inl rfl)
 exact res_tmp rfl
def f_impl_power_degree (a0 : A8) (a1 : List Int) (K : Int → Prop) : Prop :=
 forN (fun i24 (s25 : Int) next27 => ((0 ≤ (i24 : Int) ∧ (i24 : Int) < 8) ∧ next27 (IntKind.i64.wrap (s25 + (IntKind.i64.wrap ((a1.getD i24 default) * (a0.get i24))))))) (fun (s25 : Int) => K s25) a1.length 0 0
theorem c_impl_power_degree (a0 : A8) (a1 : List Int) {u1_0 : Value} {fp1 : List Nat} {K : Int → Prop} (h : f_impl_power_degree a0 a1 K) (w0 : World) (q1 : ((EI .i64).ty.sl).rep a1 [u1_0] fp1 w0) :
  Calls Try.prog 87 #[.agg (List.toArray (A8.enc .i64 a0)), u1_0] w0 fun e w' => ∃ (r0 : Int), 
   e = .returned (.int .i64 r0) ∧ K r0 ∧ Bel w0 w' := by
 unfold f_impl_power_degree at h
 refine calls_of (args := [.agg (List.toArray (A8.enc .i64 a0)), u1_0]) Try.func87 rfl 24 Try.ntmps87 (Nat.le_of_ble_eq_true rfl) ?_
 have hC := Ctx.start (X := Nox) w0 [Ty.item ((EI .i64).ty.sl) a1 [u1_0] fp1] (by simp only [List.mem_cons, List.not_mem_nil, or_false, forall_eq_or_imp, forall_eq]; exact q1)
 refine sr ?_
 refine s_box (v := .agg (List.toArray (A8.enc .i64 a0))) hC (A8.enc .i64 a0) rfl rfl fun b2 w4 hB_ hC => ?_
 refine s_as (v := .int .i64 0) rfl ?_
 refine dn ?_
 refine sr ?_
 refine s_as (v := .int .i64 0) rfl ?_
 refine dn ?_
 refine wp_seq ?_
 refine sr ?_
 refine s_mv (v := u1_0) rfl ?_
 obtain ⟨Ad5, c6, hv7⟩ := sl_len (hC.getP 0 rfl)
 refine s_len Try.underlying22 (tr rfl hv7) ?_
 refine s_mv (v := .int .i64 0) rfl ?_
 refine dn ?_
 refine wp_block ?_
 have hN26 : a1.length ≤ 9223372036854775807 := sl_max (hC.getP 0 rfl)
 refine loopN (S := Int) _ _ (fun i24 s25 e_ w_ => Slots e_ [(2, .pointer (some ⟨b2, 0, none⟩)), (4, .int .i64 0), (5, .int .i64 s25), (8, u1_0), (9, .int .i64 (a1.length : Int)), (10, .int .i64 (i24 : Int))] ∧ Ctx Nox w0 w_ [blk b2 101 (A8.enc .i64 a0)] [Ty.item ((EI .i64).ty.sl) a1 [u1_0] fp1]) a1.length ?_ ?_ (s0 := 0) ?_ h
 ·clear hC h
  rintro i24 s25 e_ w31 next27 K28 hi30 ⟨hS_, hC⟩ h hK29
  refine sr ?_
  refine s_lss (sx hS_ 5 rfl) (sx hS_ 4 rfl) ?_
  refine dn ?_
  refine wp_seq ?_
  refine cw_true rfl (decide_eq_true (by omega)) ?_
  refine wp_skip ?_
  refine then_norm ?_
  refine wp_seq ?_
  refine wp_block ?_
  refine sr ?_
  refine s_mv (v := .int .i64 (i24 : Int)) (sx hS_ 5 rfl) ?_
  obtain ⟨Ad32, c33, hv34⟩ := sl_form (hC.getP 0 rfl) i24 hi30
  refine s_iaddrS (len := a1.length) Try.underlying22 sc2.size (tr (sx hS_ 3 rfl) hv34) (sx hS_ 5 rfl) (Int.natCast_nonneg _) (Int.ofNat_lt.2 hi30) ?_
  refine s_loadCS (.int .i64 (a1.getD i24 default)) (sl_cellsE (hC.getP 0 rfl) hv34 i24 hi30) sc2 rfl ?_
  refine s_as (v := .int .i64 (i24 : Int)) rfl ?_
  refine s_as (v := .int .i64 (a1.getD i24 default)) rfl ?_
  refine dn ?_
  refine cw_region ?_
  refine s_mv (v := .int .i64 s25) (sx hS_ 2 rfl) ?_
  refine s_mv (v := .int .i64 (a1.getD i24 default)) rfl ?_
  refine s_mv (v := .int .i64 (i24 : Int)) rfl ?_
  obtain ⟨⟨h0_35, h1_36⟩, h⟩ := h
  refine s_iaddrB i24 Try.underlying101 sc3.size (sx hS_ 0 rfl) rfl h0_35 h1_36 (by omega) ?_
  refine s_loadS hC 0 (.int .i64 (a0.get i24)) rfl sc3 rfl (A8.enc_get _ _ (show i24 < 8 by omega)) ?_
  refine s_mul rfl rfl ?_
  refine s_add rfl rfl ?_
  refine s_as (v := .int .i64 (IntKind.i64.wrap (s25 + (IntKind.i64.wrap ((a1.getD i24 default) * (a0.get i24)))))) rfl ?_
  refine done ?_
  refine blk_norm ?_
  refine then_norm ?_
  refine cw_region ?_
  refine s_add (sx hS_ 5 rfl) rfl ?_
  refine s_mv (v := .int .i64 (IntKind.i64.wrap ((i24 : Int) + 1))) rfl ?_
  refine done ?_
  exact hK29 (IntKind.i64.wrap (s25 + (IntKind.i64.wrap ((a1.getD i24 default) * (a0.get i24))))) _ _ ⟨(sk (sx hS_ 0 rfl) (sk (sx hS_ 1 rfl) (sk rfl (sk (sx hS_ 3 rfl) (sk (sx hS_ 4 rfl) (sk (tr rfl (congrArg _ (wrap64_nat hi30 hN26))) sn)))))), hC⟩ h
 ·clear hC h
  rintro s25 e_ w37 K28 ⟨hS_, hC⟩ h
  refine sr ?_
  refine s_lss (sx hS_ 5 rfl) (sx hS_ 4 rfl) ?_
  refine dn ?_
  refine wp_seq ?_
  refine cw_false rfl (decide_eq_false (by omega)) ?_
  refine wp_exit (then_exit (then_exit (exit_in ?_)))
  refine then_norm ?_
  refine sr ?_
  refine s_mv (v := .int .i64 s25) (sx hS_ 2 rfl) ?_
  refine s_as (v := .int .i64 s25) rfl ?_
  refine dn ?_
  refine wp_ret ?_
  refine ret1 (fn := Try.f87) rfl ?_ ⟨s25, rfl, h, hC.below⟩ (.inl rfl)
  exact res_tmp rfl
 ·skip
  exact ⟨(sk rfl (sk rfl (sk rfl (sk rfl (sk rfl (sk rfl sn)))))), hC⟩
end Go.Proofs.Ytaagfepgbofmlaa
