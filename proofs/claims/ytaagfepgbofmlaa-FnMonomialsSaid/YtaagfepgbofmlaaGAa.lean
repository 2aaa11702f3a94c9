/- Printed by vcgen.py: functions of the program as predicates, and that the machine's calls meet them. -/
import Derived.Test.YtaagfepgbofmlaaVt
import Derived.Test.YtaagfepgbofmlaaVm
import Derived.Test.YtaagfepgbofmlaaVs
import Derived.Test.YtaagfepgbofmlaaProg
import Derived.KernelRfl
set_option linter.unusedVariables false
set_option linter.unusedSimpArgs false
set_option maxRecDepth 4000
set_option maxHeartbeats 4000000
namespace Go.Proofs.Ytaagfepgbofmlaa
open Go Go.RowKit Vc
theorem sc2 : ScaT Try.prog 2 := ⟨⟨_, Try.underlying2, rfl⟩, by kernel_rfl⟩
theorem sc5 : ScaT Try.prog 5 := ⟨⟨_, Try.underlying5, rfl⟩, by kernel_rfl⟩
theorem z95 : ZeroT Try.prog 95 (.agg #[.slice none 0 0]) := by unfold ZeroT; kernel_rfl
theorem bl95  (w : World) : (Instr.build 95 #[]).run Try.prog w = .ok (.agg #[.slice none 0 0]) w := by kernel_rfl
theorem ag95 : AggT Try.prog 95 1 := ⟨⟨_, Try.underlying95, rfl⟩, by kernel_rfl⟩
theorem mixed : Try.prog.follows .mixedOrders = true := by kernel_rfl
theorem ag49 : AggT Try.prog 49 8 := ⟨⟨_, Try.underlying49, rfl⟩, by kernel_rfl⟩
theorem bl114_0flat_1int (x0 : A8) (x1 : Int) (w : World) : (Instr.build 114 #[(0, .agg (List.toArray (A8.enc .u8 x0))), (1, .int .i64 x1)]).run Try.prog w = .ok (.agg (List.toArray (Term.enc (⟨x0, x1⟩ : Term)))) w := by kernel_rfl
theorem bs93_1 (x0 : Term) (w : World) : (Instr.buildSlice 93 1 #[(0, .agg (List.toArray (Term.enc x0)))]).run Try.prog w = .ok (.slice (some ⟨w.heap.size, 0, none⟩) 1 1) (w.alloc (.cells (List.toArray (ETerm.encs [x0])) 114)) := by kernel_rfl
theorem sc93 : ScaT Try.prog 93 := ⟨⟨_, Try.underlying93, rfl⟩, by kernel_rfl⟩
theorem ag114 : AggT Try.prog 114 9 := ⟨⟨_, Try.underlying114, rfl⟩, by kernel_rfl⟩
theorem el114 : ElemT Try.prog 114 (.agg (List.toArray (Term.enc (⟨A8.zero, 0⟩ : Term)))) 9 16 := by unfold ElemT; kernel_rfl
theorem z49 : ZeroT Try.prog 49 (.agg (List.toArray (A8.enc .u8 A8.zero))) := by unfold ZeroT; kernel_rfl
theorem bl49  (w : World) : (Instr.build 49 #[]).run Try.prog w = .ok (.agg (List.toArray (A8.enc .u8 A8.zero))) w := by kernel_rfl
theorem sc22 : ScaT Try.prog 22 := ⟨⟨_, Try.underlying22, rfl⟩, by kernel_rfl⟩
theorem z101 : ZeroT Try.prog 101 (.agg (List.toArray (A8.enc .i64 A8.zero))) := by unfold ZeroT; kernel_rfl
theorem bl101  (w : World) : (Instr.build 101 #[]).run Try.prog w = .ok (.agg (List.toArray (A8.enc .i64 A8.zero))) w := by kernel_rfl
theorem ag101 : AggT Try.prog 101 8 := ⟨⟨_, Try.underlying101, rfl⟩, by kernel_rfl⟩
theorem sc3 : ScaT Try.prog 3 := ⟨⟨_, Try.underlying3, rfl⟩, by kernel_rfl⟩
theorem kt101 : KeyT Try.prog 101 (kvA .i64) := keyA8 Try.underlying101 Try.underlying3 sc3
theorem z2 : ZeroT Try.prog 2 (.int .i64 0) := by unfold ZeroT; kernel_rfl
theorem bs121_0  (w : World) : (Instr.buildSlice 121 0 #[]).run Try.prog w = .ok (.slice (some ⟨w.heap.size, 0, none⟩) 0 0) (w.alloc (.cells (List.toArray ((EA .i64).encs [])) 101)) := by kernel_rfl
theorem bs121_1 (x0 : A8) (w : World) : (Instr.buildSlice 121 1 #[(0, .agg (List.toArray (A8.enc .i64 x0)))]).run Try.prog w = .ok (.slice (some ⟨w.heap.size, 0, none⟩) 1 1) (w.alloc (.cells (List.toArray ((EA .i64).encs [x0])) 101)) := by kernel_rfl
theorem el101 : ElemT Try.prog 101 (.agg (List.toArray (A8.enc .i64 A8.zero))) 8 64 := by unfold ElemT; kernel_rfl
theorem el2 : ElemT Try.prog 2 (.int .i64 0) 1 8 := by unfold ElemT; kernel_rfl
def f_spec_l01In (a0 : Int) (a1 : Int) (a2 : Int) (K : Bool → Prop) : Prop :=
 (if a0 ≥ a1 then K (decide (a0 ≤ a2)) else K false)
theorem c_spec_l01In (a0 : Int) (a1 : Int) (a2 : Int)  {K : Bool → Prop} (h : f_spec_l01In a0 a1 a2 K) (w0 : World)  :
  Calls Try.prog 60 #[.int .i64 a0, .int .i64 a1, .int .i64 a2] w0 fun e w' => ∃ (r0 : Bool), 
   e = .returned (.bool r0) ∧ K r0 ∧ Bel w0 w' := by
 unfold f_spec_l01In at h
 refine calls_of (args := [.int .i64 a0, .int .i64 a1, .int .i64 a2]) Try.func60 rfl 15 Try.ntmps60 (Nat.le_of_ble_eq_true rfl) ?_
 have hC := Ctx.start (X := Nox) w0 [] (by simp)
 refine sr ?_
 refine s_as (v := .bool false) rfl ?_
 refine dn ?_
 refine sr ?_
 refine s_mv (v := .int .i64 a0) rfl ?_
 refine s_mv (v := .int .i64 a1) rfl ?_
 refine s_geq rfl rfl ?_
 refine s_mv (v := .bool (decide (a0 ≥ a1))) rfl ?_
 refine bsplit (decide (a0 ≥ a1)) (fun hb1 => ?_) (fun hb1 => ?_)
 ·replace h := ift h (ct hb1)
  refine guardOn 3 10 rfl rfl hb1 ?_
  refine s_mv (v := .int .i64 a0) rfl ?_
  refine guardOn 3 10 rfl rfl hb1 ?_
  refine s_mv (v := .int .i64 a2) rfl ?_
  refine guardOn 3 10 rfl rfl hb1 ?_
  refine s_leq rfl rfl ?_
  refine s_pick (v := .bool (decide (a0 ≤ a2))) (b := true) (tr rfl (congrArg _ hb1)) rfl ?_
  refine s_as (v := .bool (decide (a0 ≤ a2))) rfl ?_
  refine dn ?_
  refine wp_ret ?_
  refine ret1 (fn := Try.f60) rfl ?_ ⟨decide (a0 ≤ a2), rfl, h, hC.below⟩ (.inl rfl)
  exact res_tmp rfl
 ·replace h := iff_ h (cf hb1)
  refine guardOff (b := false) 3 10 rfl (tr rfl (congrArg _ hb1)) (by decide) ?_
  refine guardOff (b := false) 3 10 rfl (tr rfl (congrArg _ hb1)) (by decide) ?_
  refine guardOff (b := false) 3 10 rfl (tr rfl (congrArg _ hb1)) (by decide) ?_
  refine s_pick (v := .bool false) (b := false) (tr rfl (congrArg _ hb1)) rfl ?_
  refine s_as (v := .bool false) rfl ?_
  refine dn ?_
  refine wp_ret ?_
  refine ret1 (fn := Try.f60) rfl ?_ ⟨false, rfl, h, hC.below⟩ (.inl rfl)
  exact res_tmp rfl
def f_spec_l01Degrees (a0 : List Int) (K : Bool → Prop) : Prop :=
 forN (fun i23 (s24 : Unit) next26 => f_spec_l01In (a0.getD i23 default) 1 12 (fun r40 => (if ¬ (r40 = true) then K false else next26 ()))) (fun (s24 : Unit) => K (decide ((a0.length : Int) ≤ 8))) a0.length 0 ()
theorem c_spec_l01Degrees (a0 : List Int) {u0_0 : Value} {fp0 : List Nat} {K : Bool → Prop} (h : f_spec_l01Degrees a0 K) (w0 : World) (q0 : ((EI .i64).ty.sl).rep a0 [u0_0] fp0 w0) :
  Calls Try.prog 81 #[u0_0] w0 fun e w' => ∃ (r0 : Bool), 
   e = .returned (.bool r0) ∧ K r0 ∧ Bel w0 w' := by
 unfold f_spec_l01Degrees at h
 refine calls_of (args := [u0_0]) Try.func81 rfl 19 Try.ntmps81 (Nat.le_of_ble_eq_true rfl) ?_
 have hC := Ctx.start (X := Nox) w0 [Ty.item ((EI .i64).ty.sl) a0 [u0_0] fp0] (by simp only [List.mem_cons, List.not_mem_nil, or_false, forall_eq_or_imp, forall_eq]; exact q0)
 refine sr ?_
 refine s_as (v := .bool false) rfl ?_
 refine dn ?_
 refine wp_seq ?_
 refine sr ?_
 refine s_as (v := .int .i64 0) rfl ?_
 refine dn ?_
 refine wp_block ?_
 have hN25 : a0.length ≤ 9223372036854775807 := sl_max (hC.getP 0 rfl)
 refine loopN (S := Unit) _ _ (fun i23 s24 e_ w_ => Slots e_ [(0, u0_0), (2, .bool false), (3, .int .i64 (i23 : Int))] ∧ Ctx Nox w0 w_ [] [Ty.item ((EI .i64).ty.sl) a0 [u0_0] fp0]) a0.length ?_ ?_ (s0 := ()) ?_ h
 ·clear hC h
  rintro i23 s24 e_ w30 next26 K27 hi29 ⟨hS_, hC⟩ h hK28
  refine wp_seq ?_
  refine sr ?_
  refine s_mv (v := .int .i64 (i23 : Int)) (sx hS_ 2 rfl) ?_
  refine s_mv (v := u0_0) (sx hS_ 0 rfl) ?_
  obtain ⟨Ad31, c32, hv33⟩ := sl_len (hC.getP 0 rfl)
  refine s_len Try.underlying22 (tr rfl hv33) ?_
  refine s_lss rfl rfl ?_
  refine dn ?_
  refine cw_true rfl (decide_eq_true (by omega)) ?_
  refine wp_skip ?_
  refine then_norm ?_
  refine wp_seq ?_
  refine wp_block ?_
  refine sr ?_
  refine s_mv (v := u0_0) (sx hS_ 0 rfl) ?_
  refine s_mv (v := .int .i64 (i23 : Int)) (sx hS_ 2 rfl) ?_
  obtain ⟨Ad34, c35, hv36⟩ := sl_form (hC.getP 0 rfl) i23 hi29
  refine s_iaddrS (len := a0.length) Try.underlying22 sc2.size (tr rfl hv36) rfl (Int.natCast_nonneg _) (Int.ofNat_lt.2 hi29) ?_
  refine s_loadCS (.int .i64 (a0.getD i23 default)) (sl_cellsE (hC.getP 0 rfl) hv36 i23 hi29) sc2 rfl ?_
  refine s_call [.int .i64 (a0.getD i23 default), .int .i64 1, .int .i64 12] _ Try.func60 rfl rfl rfl (c_spec_l01In (a0.getD i23 default) 1 12 h _) (fun ret37 w39 hR38 => ?_)
  obtain ⟨r40, rfl, h, hB41⟩ := hR38
  refine ⟨_, rfl, ?_⟩
  replace hC := hC.grow hB41
  refine s_not rfl ?_
  refine dn ?_
  refine cw_cond rfl (fun hb42 => ?_) (fun hb42 => ?_)
  ·replace h := ift h (ne_t (not_t hb42))
   refine sr ?_
   refine s_as (v := .bool false) rfl ?_
   refine dn ?_
   refine wp_ret (blk_ret (then_ret (then_ret (blk_ret (then_ret ?_)))))
   refine ret1 (fn := Try.f81) rfl ?_ ⟨false, rfl, h, hC.below⟩ (.inl rfl)
   exact res_tmp rfl
  ·replace h := iff_ h (not_not_intro ((not_f hb42)))
   refine wp_skip ?_
   refine blk_norm ?_
   refine then_norm ?_
   refine cw_region ?_
   refine s_mv (v := .int .i64 (i23 : Int)) (sx hS_ 2 rfl) ?_
   refine s_add rfl rfl ?_
   refine s_as (v := .int .i64 (IntKind.i64.wrap ((i23 : Int) + 1))) rfl ?_
   refine done ?_
   exact hK28 () _ _ ⟨(sk (sx hS_ 0 rfl) (sk (sx hS_ 1 rfl) (sk (tr rfl (congrArg _ (wrap64_nat hi29 hN25))) sn))), hC⟩ h
 ·clear hC h
  rintro s24 e_ w43 K27 ⟨hS_, hC⟩ h
  refine wp_seq ?_
  refine sr ?_
  refine s_mv (v := .int .i64 (a0.length : Int)) (sx hS_ 2 rfl) ?_
  refine s_mv (v := u0_0) (sx hS_ 0 rfl) ?_
  obtain ⟨Ad44, c45, hv46⟩ := sl_len (hC.getP 0 rfl)
  refine s_len Try.underlying22 (tr rfl hv46) ?_
  refine s_lss rfl rfl ?_
  refine dn ?_
  refine cw_false rfl (decide_eq_false (by omega)) ?_
  refine wp_exit (then_exit (then_exit (exit_in ?_)))
  refine then_norm ?_
  refine sr ?_
  refine s_mv (v := u0_0) (sx hS_ 0 rfl) ?_
  obtain ⟨Ad47, c48, hv49⟩ := sl_len (hC.getP 0 rfl)
  refine s_len Try.underlying22 (tr rfl hv49) ?_
  refine s_leq rfl rfl ?_
  refine s_as (v := .bool (decide ((a0.length : Int) ≤ 8))) rfl ?_
  refine dn ?_
  refine wp_ret ?_
  refine ret1 (fn := Try.f81) rfl ?_ ⟨decide ((a0.length : Int) ≤ 8), rfl, h, hC.below⟩ (.inl rfl)
  exact res_tmp rfl
 ·skip
  exact ⟨(sk rfl (sk rfl (sk rfl sn))), hC⟩
def f_spec_l01Mono (a0 : List Int) (a1 : A8) (K : Bool → Prop) : Prop :=
 forN (fun i21 (s22 : Unit) next23 => (if (i21 : Int) ≥ (a0.length : Int) then (if a1.get i21 ≠ 0 then K false else next23 ()) else (if a1.get i21 > 20 then K false else ((0 ≤ (i21 : Int) ∧ (i21 : Int) < (a0.length : Int)) ∧ (if Int.tmod (a0.getD i21 default) 2 ≠ 0 then (if a1.get i21 > 1 then K false else next23 ()) else next23 ()))))) (fun (s22 : Unit) => K true) 8 0 ()
theorem c_spec_l01Mono (a0 : List Int) (a1 : A8) {u0_0 : Value} {fp0 : List Nat} {K : Bool → Prop} (h : f_spec_l01Mono a0 a1 K) (w0 : World) (q0 : ((EI .i64).ty.sl).rep a0 [u0_0] fp0 w0) :
  Calls Try.prog 82 #[u0_0, .agg (List.toArray (A8.enc .u8 a1))] w0 fun e w' => ∃ (r0 : Bool), 
   e = .returned (.bool r0) ∧ K r0 ∧ Bel w0 w' := by
 unfold f_spec_l01Mono at h
 refine calls_of (args := [u0_0, .agg (List.toArray (A8.enc .u8 a1))]) Try.func82 rfl 38 Try.ntmps82 (Nat.le_of_ble_eq_true rfl) ?_
 have hC := Ctx.start (X := Nox) w0 [Ty.item ((EI .i64).ty.sl) a0 [u0_0] fp0] (by simp only [List.mem_cons, List.not_mem_nil, or_false, forall_eq_or_imp, forall_eq]; exact q0)
 refine sr ?_
 refine s_box (v := .agg (List.toArray (A8.enc .u8 a1))) hC (A8.enc .u8 a1) rfl rfl fun b2 w4 hB_ hC => ?_
 refine s_as (v := .bool false) rfl ?_
 refine dn ?_
 refine wp_seq ?_
 refine sr ?_
 refine s_as (v := .int .i64 0) rfl ?_
 refine dn ?_
 refine wp_block ?_
 refine loopN (S := Unit) _ _ (fun i21 s22 e_ w_ => Slots e_ [(0, u0_0), (3, .pointer (some ⟨b2, 0, none⟩)), (4, .bool false), (5, .int .i64 (i21 : Int))] ∧ Ctx Nox w0 w_ [blk b2 49 (A8.enc .u8 a1)] [Ty.item ((EI .i64).ty.sl) a0 [u0_0] fp0]) 8 ?_ ?_ (s0 := ()) ?_ h
 ·clear hC h
  rintro i21 s22 e_ w27 next23 K24 hi26 ⟨hS_, hC⟩ h hK25
  refine wp_seq ?_
  refine sr ?_
  refine s_mv (v := .int .i64 (i21 : Int)) (sx hS_ 3 rfl) ?_
  refine s_lss rfl rfl ?_
  refine dn ?_
  refine cw_true rfl (decide_eq_true (by omega)) ?_
  refine wp_skip ?_
  refine then_norm ?_
  refine wp_seq ?_
  refine wp_block ?_
  refine wp_block ?_
  refine sr ?_
  refine s_mv (v := .int .i64 (i21 : Int)) (sx hS_ 3 rfl) ?_
  refine s_mv (v := u0_0) (sx hS_ 0 rfl) ?_
  obtain ⟨Ad28, c29, hv30⟩ := sl_len (hC.getP 0 rfl)
  refine s_len Try.underlying22 (tr rfl hv30) ?_
  refine s_geq rfl rfl ?_
  refine s_as (v := .bool (decide ((i21 : Int) ≥ (a0.length : Int)))) rfl ?_
  refine dn ?_
  refine cw_cond rfl (fun hb31 => ?_) (fun hb31 => ?_)
  ·replace h := ift h (ct hb31)
   refine sr ?_
   refine s_mv (v := .int .i64 (i21 : Int)) (sx hS_ 3 rfl) ?_
   refine s_iaddrB i21 Try.underlying49 sc5.size (sx hS_ 1 rfl) rfl (Int.natCast_nonneg _) (by omega) (by omega) ?_
   refine s_loadS hC 0 (.int .u8 (a1.get i21)) rfl sc5 rfl (A8.enc_get _ _ hi26) ?_
   refine s_neq rfl rfl ?_
   refine dn ?_
   refine cw_cond rfl (fun hb32 => ?_) (fun hb32 => ?_)
   ·replace h := ift h (ct hb32)
    refine sr ?_
    refine s_as (v := .bool false) rfl ?_
    refine dn ?_
    refine wp_ret (blk_ret (blk_ret (then_ret (then_ret (blk_ret (then_ret ?_))))))
    refine ret1 (fn := Try.f82) rfl ?_ ⟨false, rfl, h, hC.below⟩ (.inl rfl)
    exact res_tmp rfl
   ·replace h := iff_ h (cf hb32)
    refine wp_skip ?_
    refine blk_norm ?_
    refine blk_norm ?_
    refine then_norm ?_
    refine cw_region ?_
    refine s_mv (v := .int .i64 (i21 : Int)) (sx hS_ 3 rfl) ?_
    refine s_add rfl rfl ?_
    refine s_as (v := .int .i64 (IntKind.i64.wrap ((i21 : Int) + 1))) rfl ?_
    refine done ?_
    exact hK25 () _ _ ⟨(sk (sx hS_ 0 rfl) (sk (sx hS_ 1 rfl) (sk (sx hS_ 2 rfl) (sk (tr rfl (congrArg _ (wrap64_nat hi26 (by decide)))) sn)))), hC⟩ h
  ·replace h := iff_ h (cf hb31)
   refine sr ?_
   refine s_mv (v := .int .i64 (i21 : Int)) (sx hS_ 3 rfl) ?_
   refine s_iaddrB i21 Try.underlying49 sc5.size (sx hS_ 1 rfl) rfl (Int.natCast_nonneg _) (by omega) (by omega) ?_
   refine s_loadS hC 0 (.int .u8 (a1.get i21)) rfl sc5 rfl (A8.enc_get _ _ hi26) ?_
   refine s_gtr rfl rfl ?_
   refine s_mv (v := .bool (decide (a1.get i21 > 20))) rfl ?_
   refine bsplit (decide (a1.get i21 > 20)) (fun hb33 => ?_) (fun hb33 => ?_)
   ·replace h := ift h (ct hb33)
    refine guardOff (b := true) 4 24 rfl (tr rfl (congrArg _ hb33)) (by decide) ?_
    refine guardOff (b := true) 4 24 rfl (tr rfl (congrArg _ hb33)) (by decide) ?_
    refine guardOff (b := true) 4 24 rfl (tr rfl (congrArg _ hb33)) (by decide) ?_
    refine guardOff (b := true) 4 24 rfl (tr rfl (congrArg _ hb33)) (by decide) ?_
    refine guardOff (b := true) 4 24 rfl (tr rfl (congrArg _ hb33)) (by decide) ?_
    refine guardOff (b := true) 4 24 rfl (tr rfl (congrArg _ hb33)) (by decide) ?_
    refine guardOff (b := true) 4 24 rfl (tr rfl (congrArg _ hb33)) (by decide) ?_
    refine guardOffU 11 31 rfl rfl ?_
    refine guardOffU 11 31 rfl rfl ?_
    refine guardOffU 11 31 rfl rfl ?_
    refine guardOffU 11 31 rfl rfl ?_
    refine guardOff (b := true) 4 24 rfl (tr rfl (congrArg _ hb33)) (by decide) ?_
    refine s_pick (v := .bool true) (b := true) (tr rfl (congrArg _ hb33)) rfl ?_
    refine s_as (v := .bool true) rfl ?_
    refine dn ?_
    refine cw_true rfl rfl ?_
    refine sr ?_
    refine s_as (v := .bool false) rfl ?_
    refine dn ?_
    refine wp_ret (blk_ret (blk_ret (then_ret (then_ret (blk_ret (then_ret ?_))))))
    refine ret1 (fn := Try.f82) rfl ?_ ⟨false, rfl, h, hC.below⟩ (.inl rfl)
    exact res_tmp rfl
   ·replace h := iff_ h (cf hb33)
    refine guardOn 4 24 rfl rfl hb33 ?_
    refine s_mv (v := u0_0) (sx hS_ 0 rfl) ?_
    refine guardOn 4 24 rfl rfl hb33 ?_
    refine s_mv (v := .int .i64 (i21 : Int)) (sx hS_ 3 rfl) ?_
    refine guardOn 4 24 rfl rfl hb33 ?_
    obtain ⟨⟨h0_34, h1_35⟩, h⟩ := h
    obtain ⟨Ad36, c37, hv38⟩ := sl_form (hC.getP 0 rfl) i21 (show i21 < a0.length by omega)
    refine s_iaddrS (len := a0.length) Try.underlying22 sc2.size (tr rfl hv38) rfl h0_34 h1_35 ?_
    refine guardOn 4 24 rfl rfl hb33 ?_
    refine s_loadCS (.int .i64 (a0.getD i21 default)) (sl_cellsE (hC.getP 0 rfl) hv38 i21 (show i21 < a0.length by omega)) sc2 rfl ?_
    refine guardOn 4 24 rfl rfl hb33 ?_
    refine s_rem rfl rfl (by decide) ?_
    refine guardOn 4 24 rfl rfl hb33 ?_
    refine s_neq rfl rfl ?_
    refine guardOn 4 24 rfl rfl hb33 ?_
    refine s_mv (v := .bool (decide (Int.tmod (a0.getD i21 default) 2 ≠ 0))) rfl ?_
    refine bsplit (decide (Int.tmod (a0.getD i21 default) 2 ≠ 0)) (fun hb39 => ?_) (fun hb39 => ?_)
    ·replace h := ift h (ct hb39)
     refine guardOn 11 31 rfl rfl hb39 ?_
     refine s_mv (v := .int .i64 (i21 : Int)) (sx hS_ 3 rfl) ?_
     refine guardOn 11 31 rfl rfl hb39 ?_
     refine s_iaddrB i21 Try.underlying49 sc5.size (sx hS_ 1 rfl) rfl (Int.natCast_nonneg _) (by omega) (by omega) ?_
     refine guardOn 11 31 rfl rfl hb39 ?_
     refine s_loadS hC 0 (.int .u8 (a1.get i21)) rfl sc5 rfl (A8.enc_get _ _ hi26) ?_
     refine guardOn 11 31 rfl rfl hb39 ?_
     refine s_gtr rfl rfl ?_
     refine guardOn 4 24 rfl rfl hb33 ?_
     refine s_pick (v := .bool (decide (a1.get i21 > 1))) (b := true) (tr rfl (congrArg _ hb39)) rfl ?_
     refine s_pick (v := .bool (decide (a1.get i21 > 1))) (b := false) (tr rfl (congrArg _ hb33)) rfl ?_
     refine s_as (v := .bool (decide (a1.get i21 > 1))) rfl ?_
     refine dn ?_
     refine cw_cond rfl (fun hb40 => ?_) (fun hb40 => ?_)
     ·replace h := ift h (ct hb40)
      refine sr ?_
      refine s_as (v := .bool false) rfl ?_
      refine dn ?_
      refine wp_ret (blk_ret (blk_ret (then_ret (then_ret (blk_ret (then_ret ?_))))))
      refine ret1 (fn := Try.f82) rfl ?_ ⟨false, rfl, h, hC.below⟩ (.inl rfl)
      exact res_tmp rfl
     ·replace h := iff_ h (cf hb40)
      refine wp_skip ?_
      refine blk_norm ?_
      refine blk_norm ?_
      refine then_norm ?_
      refine cw_region ?_
      refine s_mv (v := .int .i64 (i21 : Int)) (sx hS_ 3 rfl) ?_
      refine s_add rfl rfl ?_
      refine s_as (v := .int .i64 (IntKind.i64.wrap ((i21 : Int) + 1))) rfl ?_
      refine done ?_
      exact hK25 () _ _ ⟨(sk (sx hS_ 0 rfl) (sk (sx hS_ 1 rfl) (sk (sx hS_ 2 rfl) (sk (tr rfl (congrArg _ (wrap64_nat hi26 (by decide)))) sn)))), hC⟩ h
    ·replace h := iff_ h (cf hb39)
     refine guardOff (b := false) 11 31 rfl (tr rfl (congrArg _ hb39)) (by decide) ?_
     refine guardOff (b := false) 11 31 rfl (tr rfl (congrArg _ hb39)) (by decide) ?_
     refine guardOff (b := false) 11 31 rfl (tr rfl (congrArg _ hb39)) (by decide) ?_
     refine guardOff (b := false) 11 31 rfl (tr rfl (congrArg _ hb39)) (by decide) ?_
     refine guardOn 4 24 rfl rfl hb33 ?_
     refine s_pick (v := .bool false) (b := false) (tr rfl (congrArg _ hb39)) rfl ?_
     refine s_pick (v := .bool false) (b := false) (tr rfl (congrArg _ hb33)) rfl ?_
     refine s_as (v := .bool false) rfl ?_
     refine dn ?_
     refine cw_false rfl rfl ?_
     refine wp_skip ?_
     refine blk_norm ?_
     refine blk_norm ?_
     refine then_norm ?_
     refine cw_region ?_
     refine s_mv (v := .int .i64 (i21 : Int)) (sx hS_ 3 rfl) ?_
     refine s_add rfl rfl ?_
     refine s_as (v := .int .i64 (IntKind.i64.wrap ((i21 : Int) + 1))) rfl ?_
     refine done ?_
     exact hK25 () _ _ ⟨(sk (sx hS_ 0 rfl) (sk (sx hS_ 1 rfl) (sk (sx hS_ 2 rfl) (sk (tr rfl (congrArg _ (wrap64_nat hi26 (by decide)))) sn)))), hC⟩ h
 ·clear hC h
  rintro s22 e_ w41 K24 ⟨hS_, hC⟩ h
  refine wp_seq ?_
  refine sr ?_
  refine s_mv (v := .int .i64 8) (sx hS_ 3 rfl) ?_
  refine s_lss rfl rfl ?_
  refine dn ?_
  refine cw_false rfl (decide_eq_false (by omega)) ?_
  refine wp_exit (then_exit (then_exit (exit_in ?_)))
  refine then_norm ?_
  refine sr ?_
  refine s_as (v := .bool true) rfl ?_
  refine dn ?_
  refine wp_ret ?_
  refine ret1 (fn := Try.f82) rfl ?_ ⟨true, rfl, h, hC.below⟩ (.inl rfl)
  exact res_tmp rfl
 ·skip
  exact ⟨(sk rfl (sk rfl (sk rfl (sk rfl sn)))), hC⟩
def f_spec_l01Joined (a0 : List Int) (a1 : A8) (a2 : A8) (K : A8 → Int → Prop) : Prop :=
 forN (fun i178 (s179 : A8 × Int) next181 => ((0 ≤ (i178 : Int) ∧ (i178 : Int) < 8) ∧ ((0 ≤ (i178 : Int) ∧ (i178 : Int) < 8) ∧ ((0 ≤ (i178 : Int) ∧ (i178 : Int) < 8) ∧ (if Int.tmod (a0.getD i178 default) 2 = 0 then next181 (s179.1.set i178 (IntKind.u8.wrap ((a1.get i178) + (a2.get i178))), s179.2) else ((0 ≤ (i178 : Int) ∧ (i178 : Int) < 8) ∧ (if (s179.1.set i178 (IntKind.u8.wrap ((a1.get i178) + (a2.get i178)))).get i178 > 1 then K A8.zero 0 else whileP (fun (s241 : Int × Int) next242 => (if s241.1 < (a0.length : Int) then ((0 ≤ (i178 : Int) ∧ (i178 : Int) < 8) ∧ (if a2.get i178 = 1 then ((0 ≤ s241.1 ∧ s241.1 < (a0.length : Int)) ∧ (if Int.tmod (a0.getD s241.1.toNat default) 2 ≠ 0 then ((0 ≤ s241.1 ∧ s241.1 < 8) ∧ (if a1.get s241.1.toNat = 1 then next242 (IntKind.i64.wrap (s241.1 + 1), IntKind.i64.wrap (0 - s241.2)) else next242 (IntKind.i64.wrap (s241.1 + 1), s241.2))) else next242 (IntKind.i64.wrap (s241.1 + 1), s241.2))) else next181 (s179.1.set i178 (IntKind.u8.wrap ((a1.get i178) + (a2.get i178))), s241.2))) else next181 (s179.1.set i178 (IntKind.u8.wrap ((a1.get i178) + (a2.get i178))), s241.2))) (IntKind.i64.wrap ((i178 : Int) + 1), s179.2)))))))) (fun (s179 : A8 × Int) => K s179.1 s179.2) a0.length 0 (A8.zero, 1)
theorem c_spec_l01Joined (a0 : List Int) (a1 : A8) (a2 : A8) {u0_0 : Value} {fp0 : List Nat} {K : A8 → Int → Prop} (h : f_spec_l01Joined a0 a1 a2 K) (w0 : World) (q0 : ((EI .i64).ty.sl).rep a0 [u0_0] fp0 w0) :
  Calls Try.prog 83 #[u0_0, .agg (List.toArray (A8.enc .u8 a1)), .agg (List.toArray (A8.enc .u8 a2))] w0 fun e w' => ∃ (r0 : A8) (r1 : Int), 
   e = .returned (.tuple #[.agg (List.toArray (A8.enc .u8 r0)), .int .i64 r1]) ∧ K r0 r1 ∧ Bel w0 w' := by
 unfold f_spec_l01Joined at h
 refine calls_of (args := [u0_0, .agg (List.toArray (A8.enc .u8 a1)), .agg (List.toArray (A8.enc .u8 a2))]) Try.func83 rfl 69 Try.ntmps83 (Nat.le_of_ble_eq_true rfl) ?_
 have hC := Ctx.start (X := Nox) w0 [Ty.item ((EI .i64).ty.sl) a0 [u0_0] fp0] (by simp only [List.mem_cons, List.not_mem_nil, or_false, forall_eq_or_imp, forall_eq]; exact q0)
 refine sr ?_
 refine s_box (v := .agg (List.toArray (A8.enc .u8 a1))) hC (A8.enc .u8 a1) rfl rfl fun b2 w4 hB_ hC => ?_
 refine s_box (v := .agg (List.toArray (A8.enc .u8 a2))) hC (A8.enc .u8 a2) rfl rfl fun b5 w7 hB_ hC => ?_
 refine s_alloc hC (A8.enc .u8 A8.zero) z49 rfl fun b8 w10 hB_ hC => ?_
 refine s_as (v := .int .i64 0) rfl ?_
 refine dn ?_
 refine sr ?_
 refine s_build [] rfl (bl49   _) ?_
 refine s_alloc hC (A8.enc .u8 A8.zero) z49 rfl fun b11 w13 hB_ hC => ?_
 refine s_store (v := .agg (List.toArray (A8.enc .u8 A8.zero))) hC 0 (A8.enc .u8 A8.zero) (A8.enc .u8 A8.zero) rfl ag49.size rfl rfl rfl rfl rfl (Nat.le_of_ble_eq_true rfl) rfl fun w14 hC => ?_
 refine s_as (v := .int .i64 1) rfl ?_
 refine dn ?_
 refine wp_seq ?_
 refine sr ?_
 refine s_as (v := .int .i64 0) rfl ?_
 refine dn ?_
 refine wp_block ?_
 have hN180 : a0.length ≤ 9223372036854775807 := sl_max (hC.getP 0 rfl)
 refine loopN (S := A8 × Int) _ _ (fun i178 s179 e_ w_ => Slots e_ [(0, u0_0), (4, .pointer (some ⟨b2, 0, none⟩)), (5, .pointer (some ⟨b5, 0, none⟩)), (6, .pointer (some ⟨b8, 0, none⟩)), (7, .int .i64 0), (8, .pointer (some ⟨b11, 0, none⟩)), (9, .int .i64 s179.2), (10, .int .i64 (i178 : Int))] ∧ Ctx Nox w0 w_ [blk b11 49 (A8.enc .u8 s179.1), blk b8 49 (A8.enc .u8 A8.zero), blk b5 49 (A8.enc .u8 a2), blk b2 49 (A8.enc .u8 a1)] [Ty.item ((EI .i64).ty.sl) a0 [u0_0] fp0]) a0.length ?_ ?_ (s0 := (A8.zero, 1)) ?_ h
 ·clear hC h
  rintro i178 s179 e_ w185 next181 K182 hi184 ⟨hS_, hC⟩ h hK183
  refine wp_seq ?_
  refine sr ?_
  refine s_mv (v := .int .i64 (i178 : Int)) (sx hS_ 7 rfl) ?_
  refine s_mv (v := u0_0) (sx hS_ 0 rfl) ?_
  obtain ⟨Ad186, c187, hv188⟩ := sl_len (hC.getP 0 rfl)
  refine s_len Try.underlying22 (tr rfl hv188) ?_
  refine s_lss rfl rfl ?_
  refine dn ?_
  refine cw_true rfl (decide_eq_true (by omega)) ?_
  refine wp_skip ?_
  refine then_norm ?_
  refine wp_seq ?_
  refine wp_block ?_
  refine wp_seq ?_
  refine cw_draw 8 mixed [0, 0, 2, 6, 0, 16, 48, 126, 255, 511] [2, 3, 5, 6] [0, 1, 4, 7] (by kernel_rfl) (by kernel_rfl) (by kernel_rfl) (fun hM190 hM191 w189 hB_ => ?_)
  replace hC := hC.grow hB_
  refine aF 0 (.int .i64 (i178 : Int)) rfl rfl (hM191 0 rfl) (rfl) (fun _ => by exact r_mv (v := .int .i64 (i178 : Int)) (sx hS_ 7 rfl)) (dbits 10 1) ?_
  refine aF 1 (.int .i64 (i178 : Int)) rfl rfl (hM191 1 rfl) (rfl) (fun _ => by exact r_mv (v := .int .i64 (i178 : Int)) (sx hS_ 7 rfl)) (dbits 10 3) ?_
  obtain ⟨⟨h0_192, h1_193⟩, h⟩ := h
  refine aL 2 (.pointer (some ⟨b2, i178, none⟩)) rfl rfl (hM190 2 rfl) (rfl) (fun _ hB_ => by exact r_iaddrB i178 Try.underlying49 sc5.size (sx hS_ 1 rfl) rfl h0_192 h1_193 (by omega)) (dbits 10 7) ?_
  refine aL 3 (.int .u8 (a1.get i178)) rfl rfl (hM190 3 rfl) (rfl) (fun _ hB_ => by exact r_loadS (hC.grow hB_) 3 (.int .u8 (a1.get i178)) rfl sc5 rfl (A8.enc_get _ _ (show i178 < 8 by omega))) (dbits 10 15) ?_
  refine aF 4 (.int .i64 (i178 : Int)) rfl rfl (hM191 4 rfl) (rfl) (fun _ => by exact r_mv (v := .int .i64 (i178 : Int)) (sx hS_ 7 rfl)) (dbits 10 31) ?_
  obtain ⟨⟨h0_194, h1_195⟩, h⟩ := h
  refine aL 5 (.pointer (some ⟨b5, i178, none⟩)) rfl rfl (hM190 5 rfl) (rfl) (fun _ hB_ => by exact r_iaddrB i178 Try.underlying49 sc5.size (sx hS_ 2 rfl) rfl h0_194 h1_195 (by omega)) (dbits 10 63) ?_
  refine aL 6 (.int .u8 (a2.get i178)) rfl rfl (hM190 6 rfl) (rfl) (fun _ hB_ => by exact r_loadS (hC.grow hB_) 2 (.int .u8 (a2.get i178)) rfl sc5 rfl (A8.enc_get _ _ (show i178 < 8 by omega))) (dbits 10 127) ?_
  refine aF 7 (.int .u8 (IntKind.u8.wrap ((a1.get i178) + (a2.get i178)))) rfl rfl (hM191 7 rfl) (rfl) (fun _ => by exact r_add rfl rfl) (dbits 10 255) ?_
  refine ae_tail 8 (by decide) (by decide) (by kernel_rfl) (by kernel_rfl) rfl ?_
  obtain ⟨⟨h0_196, h1_197⟩, h⟩ := h
  refine s_iaddrB i178 Try.underlying49 sc5.size (sx hS_ 5 rfl) rfl h0_196 h1_197 (by omega) ?_
  refine s_store (v := .int .u8 (IntKind.u8.wrap ((a1.get i178) + (a2.get i178)))) hC 0 [.int .u8 (IntKind.u8.wrap ((a1.get i178) + (a2.get i178)))] (A8.enc .u8 (s179.1.set i178 (IntKind.u8.wrap ((a1.get i178) + (a2.get i178))))) rfl sc5.size rfl rfl rfl rfl rfl (show i178 < 8 by omega) (A8.enc_set _ _ _ (show i178 < 8 by omega)) fun w198 hC => ?_
  refine done ?_
  refine qn_norm ?_
  refine then_norm ?_
  refine wp_seq ?_
  refine sr ?_
  refine s_mv (v := u0_0) (sx hS_ 0 rfl) ?_
  refine s_mv (v := .int .i64 (i178 : Int)) (sx hS_ 7 rfl) ?_
  obtain ⟨Ad199, c200, hv201⟩ := sl_form (hC.getP 0 rfl) i178 hi184
  refine s_iaddrS (len := a0.length) Try.underlying22 sc2.size (tr rfl hv201) rfl (Int.natCast_nonneg _) (Int.ofNat_lt.2 hi184) ?_
  refine s_loadCS (.int .i64 (a0.getD i178 default)) (sl_cellsE (hC.getP 0 rfl) hv201 i178 hi184) sc2 rfl ?_
  refine s_rem rfl rfl (by decide) ?_
  refine s_eql rfl rfl ?_
  refine dn ?_
  refine cw_cond rfl (fun hb202 => ?_) (fun hb202 => ?_)
  ·replace h := ift h (ct hb202)
   refine wp_exit (then_exit (exit_in ?_))
   refine then_norm ?_
   refine cw_region ?_
   refine s_mv (v := .int .i64 (i178 : Int)) (sx hS_ 7 rfl) ?_
   refine s_add rfl rfl ?_
   refine s_as (v := .int .i64 (IntKind.i64.wrap ((i178 : Int) + 1))) rfl ?_
   refine done ?_
   exact hK183 (s179.1.set i178 (IntKind.u8.wrap ((a1.get i178) + (a2.get i178))), s179.2) _ _ ⟨(sk (sx hS_ 0 rfl) (sk (sx hS_ 1 rfl) (sk (sx hS_ 2 rfl) (sk (sx hS_ 3 rfl) (sk (sx hS_ 4 rfl) (sk (sx hS_ 5 rfl) (sk (sx hS_ 6 rfl) (sk (tr rfl (congrArg _ (wrap64_nat hi184 hN180))) sn)))))))), hC⟩ h
  ·replace h := iff_ h (cf hb202)
   refine wp_skip ?_
   refine then_norm ?_
   refine wp_seq ?_
   refine sr ?_
   refine s_mv (v := .int .i64 (i178 : Int)) (sx hS_ 7 rfl) ?_
   obtain ⟨⟨h0_203, h1_204⟩, h⟩ := h
   refine s_iaddrB i178 Try.underlying49 sc5.size (sx hS_ 5 rfl) rfl h0_203 h1_204 (by omega) ?_
   refine s_loadS hC 0 (.int .u8 ((s179.1.set i178 (IntKind.u8.wrap ((a1.get i178) + (a2.get i178)))).get i178)) rfl sc5 rfl (A8.enc_get _ _ (show i178 < 8 by omega)) ?_
   refine s_gtr rfl rfl ?_
   refine dn ?_
   refine cw_cond rfl (fun hb205 => ?_) (fun hb205 => ?_)
   ·replace h := ift h (ct hb205)
    refine sr ?_
    refine s_build [] rfl (bl49   _) ?_
    refine s_store (v := .agg (List.toArray (A8.enc .u8 A8.zero))) hC 1 (A8.enc .u8 A8.zero) (A8.enc .u8 A8.zero) rfl ag49.size (sx hS_ 3 rfl) rfl rfl rfl rfl (Nat.le_of_ble_eq_true rfl) rfl fun w206 hC => ?_
    refine s_as (v := .int .i64 0) rfl ?_
    refine dn ?_
    refine wp_ret (then_ret (blk_ret (then_ret (then_ret (blk_ret (then_ret ?_))))))
    refine ret2 (fn := Try.f83) rfl ?_ ?_ ⟨A8.zero, 0, rfl, h, hC.below⟩ (.inl rfl)
    ·exact res_cellA hC 1 rfl ag49 (sx hS_ 3 rfl) rfl
    ·exact res_tmp rfl
   ·replace h := iff_ h (cf hb205)
    refine wp_skip ?_
    refine then_norm ?_
    refine sr ?_
    refine s_mv (v := .int .i64 (i178 : Int)) (sx hS_ 7 rfl) ?_
    refine s_add rfl rfl ?_
    refine s_as (v := .int .i64 (IntKind.i64.wrap ((i178 : Int) + 1))) rfl ?_
    refine dn ?_
    refine wp_block ?_
    refine loopW (S := Int × Int) _ (fun s241 e_ w_ => Slots e_ [(0, u0_0), (4, .pointer (some ⟨b2, 0, none⟩)), (5, .pointer (some ⟨b5, 0, none⟩)), (6, .pointer (some ⟨b8, 0, none⟩)), (7, .int .i64 0), (8, .pointer (some ⟨b11, 0, none⟩)), (9, .int .i64 s241.2), (10, .int .i64 (i178 : Int)), (11, .int .i64 s241.1), (13, .int .i64 (i178 : Int)), (14, u0_0), (15, .int .i64 (a0.length : Int)), (16, .bool (decide ((i178 : Int) < (a0.length : Int)))), (19, .int .i64 (i178 : Int)), (20, .int .i64 (i178 : Int)), (21, .pointer (some ⟨b2, i178, none⟩)), (22, .int .u8 (a1.get i178)), (23, .int .i64 (i178 : Int)), (24, .pointer (some ⟨b5, i178, none⟩)), (25, .int .u8 (a2.get i178)), (26, .int .u8 (IntKind.u8.wrap ((a1.get i178) + (a2.get i178)))), (27, .pointer (some ⟨b11, i178, none⟩)), (28, u0_0), (29, .int .i64 (i178 : Int)), (30, .pointer (some (Ad199.add (i178 * 1)))), (31, .int .i64 (a0.getD i178 default)), (32, .int .i64 (Int.tmod (a0.getD i178 default) 2)), (33, .bool (decide (Int.tmod (a0.getD i178 default) 2 = 0))), (34, .int .i64 (i178 : Int)), (35, .pointer (some ⟨b11, i178, none⟩)), (36, .int .u8 ((s179.1.set i178 (IntKind.u8.wrap ((a1.get i178) + (a2.get i178)))).get i178)), (37, .bool (decide ((s179.1.set i178 (IntKind.u8.wrap ((a1.get i178) + (a2.get i178)))).get i178 > 1))), (39, .int .i64 (i178 : Int)), (40, .int .i64 (IntKind.i64.wrap ((i178 : Int) + 1)))] ∧ Ctx Nox w0 w_ [blk b11 49 (A8.enc .u8 (s179.1.set i178 (IntKind.u8.wrap ((a1.get i178) + (a2.get i178))))), blk b8 49 (A8.enc .u8 A8.zero), blk b5 49 (A8.enc .u8 a2), blk b2 49 (A8.enc .u8 a1)] [Ty.item ((EI .i64).ty.sl) a0 [u0_0] fp0]) ?_ (s0 := (IntKind.i64.wrap ((i178 : Int) + 1), s179.2)) ?_ h
    ·clear hC h
     rintro s241 e_ w245 next242 K243 ⟨hS_, hC⟩ h hK244
     refine wp_seq ?_
     refine sr ?_
     refine s_mv (v := .int .i64 s241.1) (sx hS_ 8 rfl) ?_
     refine s_mv (v := u0_0) (sx hS_ 0 rfl) ?_
     obtain ⟨Ad246, c247, hv248⟩ := sl_len (hC.getP 0 rfl)
     refine s_len Try.underlying22 (tr rfl hv248) ?_
     refine s_lss rfl rfl ?_
     refine s_mv (v := .bool (decide (s241.1 < (a0.length : Int)))) rfl ?_
     refine bsplit (decide (s241.1 < (a0.length : Int))) (fun hb249 => ?_) (fun hb249 => ?_)
     ·replace h := ift h (ct hb249)
      refine guardOn 4 45 rfl rfl hb249 ?_
      refine s_mv (v := .int .i64 (i178 : Int)) (sx hS_ 7 rfl) ?_
      refine guardOn 4 45 rfl rfl hb249 ?_
      obtain ⟨⟨h0_250, h1_251⟩, h⟩ := h
      refine s_iaddrB i178 Try.underlying49 sc5.size (sx hS_ 2 rfl) rfl h0_250 h1_251 (by omega) ?_
      refine guardOn 4 45 rfl rfl hb249 ?_
      refine s_loadS hC 2 (.int .u8 (a2.get i178)) rfl sc5 rfl (A8.enc_get _ _ (show i178 < 8 by omega)) ?_
      refine guardOn 4 45 rfl rfl hb249 ?_
      refine s_eql rfl rfl ?_
      refine s_pick (v := .bool (decide (a2.get i178 = 1))) (b := true) (tr rfl (congrArg _ hb249)) rfl ?_
      refine dn ?_
      refine cw_cond rfl (fun hb252 => ?_) (fun hb252 => ?_)
      ·replace h := ift h (ct hb252)
       refine wp_skip ?_
       refine then_norm ?_
       refine wp_seq ?_
       refine wp_block ?_
       refine sr ?_
       refine s_mv (v := u0_0) (sx hS_ 0 rfl) ?_
       refine s_mv (v := .int .i64 s241.1) (sx hS_ 8 rfl) ?_
       obtain ⟨⟨h0_253, h1_254⟩, h⟩ := h
       obtain ⟨Ad255, c256, hv257⟩ := sl_form (hC.getP 0 rfl) s241.1.toNat (show s241.1.toNat < a0.length by omega)
       refine s_iaddrS (len := a0.length) Try.underlying22 sc2.size (tr rfl hv257) rfl h0_253 h1_254 ?_
       refine s_loadCS (.int .i64 (a0.getD s241.1.toNat default)) (sl_cellsE (hC.getP 0 rfl) hv257 s241.1.toNat (show s241.1.toNat < a0.length by omega)) sc2 rfl ?_
       refine s_rem rfl rfl (by decide) ?_
       refine s_neq rfl rfl ?_
       refine s_mv (v := .bool (decide (Int.tmod (a0.getD s241.1.toNat default) 2 ≠ 0))) rfl ?_
       refine bsplit (decide (Int.tmod (a0.getD s241.1.toNat default) 2 ≠ 0)) (fun hb258 => ?_) (fun hb258 => ?_)
       ·replace h := ift h (ct hb258)
        refine guardOn 6 59 rfl rfl hb258 ?_
        refine s_mv (v := .int .i64 s241.1) (sx hS_ 8 rfl) ?_
        refine guardOn 6 59 rfl rfl hb258 ?_
        obtain ⟨⟨h0_259, h1_260⟩, h⟩ := h
        refine s_iaddrB s241.1.toNat Try.underlying49 sc5.size (sx hS_ 1 rfl) rfl h0_259 h1_260 (by omega) ?_
        refine guardOn 6 59 rfl rfl hb258 ?_
        refine s_loadS hC 3 (.int .u8 (a1.get s241.1.toNat)) rfl sc5 rfl (A8.enc_get _ _ (show s241.1.toNat < 8 by omega)) ?_
        refine guardOn 6 59 rfl rfl hb258 ?_
        refine s_eql rfl rfl ?_
        refine s_pick (v := .bool (decide (a1.get s241.1.toNat = 1))) (b := true) (tr rfl (congrArg _ hb258)) rfl ?_
        refine dn ?_
        refine cw_cond rfl (fun hb261 => ?_) (fun hb261 => ?_)
        ·replace h := ift h (ct hb261)
         refine cw_region ?_
         refine s_mv (v := .int .i64 s241.2) (sx hS_ 6 rfl) ?_
         refine s_neg rfl ?_
         refine s_as (v := .int .i64 (IntKind.i64.wrap (0 - s241.2))) rfl ?_
         refine done ?_
         refine blk_norm ?_
         refine then_norm ?_
         refine cw_region ?_
         refine s_mv (v := .int .i64 s241.1) (sx hS_ 8 rfl) ?_
         refine s_add rfl rfl ?_
         refine s_as (v := .int .i64 (IntKind.i64.wrap (s241.1 + 1))) rfl ?_
         refine done ?_
         exact hK244 (IntKind.i64.wrap (s241.1 + 1), IntKind.i64.wrap (0 - s241.2)) _ _ ⟨(sk (sx hS_ 0 rfl) (sk (sx hS_ 1 rfl) (sk (sx hS_ 2 rfl) (sk (sx hS_ 3 rfl) (sk (sx hS_ 4 rfl) (sk (sx hS_ 5 rfl) (sk rfl (sk (sx hS_ 7 rfl) (sk rfl (sk (sx hS_ 9 rfl) (sk (sx hS_ 10 rfl) (sk (sx hS_ 11 rfl) (sk (sx hS_ 12 rfl) (sk (sx hS_ 13 rfl) (sk (sx hS_ 14 rfl) (sk (sx hS_ 15 rfl) (sk (sx hS_ 16 rfl) (sk (sx hS_ 17 rfl) (sk (sx hS_ 18 rfl) (sk (sx hS_ 19 rfl) (sk (sx hS_ 20 rfl) (sk (sx hS_ 21 rfl) (sk (sx hS_ 22 rfl) (sk (sx hS_ 23 rfl) (sk (sx hS_ 24 rfl) (sk (sx hS_ 25 rfl) (sk (sx hS_ 26 rfl) (sk (sx hS_ 27 rfl) (sk (sx hS_ 28 rfl) (sk (sx hS_ 29 rfl) (sk (sx hS_ 30 rfl) (sk (sx hS_ 31 rfl) (sk (sx hS_ 32 rfl) (sk (sx hS_ 33 rfl) sn)))))))))))))))))))))))))))))))))), hC⟩ h
        ·replace h := iff_ h (cf hb261)
         refine wp_skip ?_
         refine blk_norm ?_
         refine then_norm ?_
         refine cw_region ?_
         refine s_mv (v := .int .i64 s241.1) (sx hS_ 8 rfl) ?_
         refine s_add rfl rfl ?_
         refine s_as (v := .int .i64 (IntKind.i64.wrap (s241.1 + 1))) rfl ?_
         refine done ?_
         exact hK244 (IntKind.i64.wrap (s241.1 + 1), s241.2) _ _ ⟨(sk (sx hS_ 0 rfl) (sk (sx hS_ 1 rfl) (sk (sx hS_ 2 rfl) (sk (sx hS_ 3 rfl) (sk (sx hS_ 4 rfl) (sk (sx hS_ 5 rfl) (sk (sx hS_ 6 rfl) (sk (sx hS_ 7 rfl) (sk rfl (sk (sx hS_ 9 rfl) (sk (sx hS_ 10 rfl) (sk (sx hS_ 11 rfl) (sk (sx hS_ 12 rfl) (sk (sx hS_ 13 rfl) (sk (sx hS_ 14 rfl) (sk (sx hS_ 15 rfl) (sk (sx hS_ 16 rfl) (sk (sx hS_ 17 rfl) (sk (sx hS_ 18 rfl) (sk (sx hS_ 19 rfl) (sk (sx hS_ 20 rfl) (sk (sx hS_ 21 rfl) (sk (sx hS_ 22 rfl) (sk (sx hS_ 23 rfl) (sk (sx hS_ 24 rfl) (sk (sx hS_ 25 rfl) (sk (sx hS_ 26 rfl) (sk (sx hS_ 27 rfl) (sk (sx hS_ 28 rfl) (sk (sx hS_ 29 rfl) (sk (sx hS_ 30 rfl) (sk (sx hS_ 31 rfl) (sk (sx hS_ 32 rfl) (sk (sx hS_ 33 rfl) sn)))))))))))))))))))))))))))))))))), hC⟩ h
       ·replace h := iff_ h (cf hb258)
        refine guardOff (b := false) 6 59 rfl (tr rfl (congrArg _ hb258)) (by decide) ?_
        refine guardOff (b := false) 6 59 rfl (tr rfl (congrArg _ hb258)) (by decide) ?_
        refine guardOff (b := false) 6 59 rfl (tr rfl (congrArg _ hb258)) (by decide) ?_
        refine guardOff (b := false) 6 59 rfl (tr rfl (congrArg _ hb258)) (by decide) ?_
        refine s_pick (v := .bool false) (b := false) (tr rfl (congrArg _ hb258)) rfl ?_
        refine dn ?_
        refine cw_false rfl rfl ?_
        refine wp_skip ?_
        refine blk_norm ?_
        refine then_norm ?_
        refine cw_region ?_
        refine s_mv (v := .int .i64 s241.1) (sx hS_ 8 rfl) ?_
        refine s_add rfl rfl ?_
        refine s_as (v := .int .i64 (IntKind.i64.wrap (s241.1 + 1))) rfl ?_
        refine done ?_
        exact hK244 (IntKind.i64.wrap (s241.1 + 1), s241.2) _ _ ⟨(sk (sx hS_ 0 rfl) (sk (sx hS_ 1 rfl) (sk (sx hS_ 2 rfl) (sk (sx hS_ 3 rfl) (sk (sx hS_ 4 rfl) (sk (sx hS_ 5 rfl) (sk (sx hS_ 6 rfl) (sk (sx hS_ 7 rfl) (sk rfl (sk (sx hS_ 9 rfl) (sk (sx hS_ 10 rfl) (sk (sx hS_ 11 rfl) (sk (sx hS_ 12 rfl) (sk (sx hS_ 13 rfl) (sk (sx hS_ 14 rfl) (sk (sx hS_ 15 rfl) (sk (sx hS_ 16 rfl) (sk (sx hS_ 17 rfl) (sk (sx hS_ 18 rfl) (sk (sx hS_ 19 rfl) (sk (sx hS_ 20 rfl) (sk (sx hS_ 21 rfl) (sk (sx hS_ 22 rfl) (sk (sx hS_ 23 rfl) (sk (sx hS_ 24 rfl) (sk (sx hS_ 25 rfl) (sk (sx hS_ 26 rfl) (sk (sx hS_ 27 rfl) (sk (sx hS_ 28 rfl) (sk (sx hS_ 29 rfl) (sk (sx hS_ 30 rfl) (sk (sx hS_ 31 rfl) (sk (sx hS_ 32 rfl) (sk (sx hS_ 33 rfl) sn)))))))))))))))))))))))))))))))))), hC⟩ h
      ·replace h := iff_ h (cf hb252)
       refine wp_exit (then_exit (then_exit (exit_in ?_)))
       refine blk_norm ?_
       refine then_norm ?_
       refine cw_region ?_
       refine s_mv (v := .int .i64 (i178 : Int)) (sx hS_ 7 rfl) ?_
       refine s_add rfl rfl ?_
       refine s_as (v := .int .i64 (IntKind.i64.wrap ((i178 : Int) + 1))) rfl ?_
       refine done ?_
       exact hK183 (s179.1.set i178 (IntKind.u8.wrap ((a1.get i178) + (a2.get i178))), s241.2) _ _ ⟨(sk (sx hS_ 0 rfl) (sk (sx hS_ 1 rfl) (sk (sx hS_ 2 rfl) (sk (sx hS_ 3 rfl) (sk (sx hS_ 4 rfl) (sk (sx hS_ 5 rfl) (sk (sx hS_ 6 rfl) (sk (tr rfl (congrArg _ (wrap64_nat hi184 hN180))) sn)))))))), hC⟩ h
     ·replace h := iff_ h (cf hb249)
      refine guardOff (b := false) 4 45 rfl (tr rfl (congrArg _ hb249)) (by decide) ?_
      refine guardOff (b := false) 4 45 rfl (tr rfl (congrArg _ hb249)) (by decide) ?_
      refine guardOff (b := false) 4 45 rfl (tr rfl (congrArg _ hb249)) (by decide) ?_
      refine guardOff (b := false) 4 45 rfl (tr rfl (congrArg _ hb249)) (by decide) ?_
      refine s_pick (v := .bool false) (b := false) (tr rfl (congrArg _ hb249)) rfl ?_
      refine dn ?_
      refine cw_false rfl rfl ?_
      refine wp_exit (then_exit (then_exit (exit_in ?_)))
      refine blk_norm ?_
      refine then_norm ?_
      refine cw_region ?_
      refine s_mv (v := .int .i64 (i178 : Int)) (sx hS_ 7 rfl) ?_
      refine s_add rfl rfl ?_
      refine s_as (v := .int .i64 (IntKind.i64.wrap ((i178 : Int) + 1))) rfl ?_
      refine done ?_
      exact hK183 (s179.1.set i178 (IntKind.u8.wrap ((a1.get i178) + (a2.get i178))), s241.2) _ _ ⟨(sk (sx hS_ 0 rfl) (sk (sx hS_ 1 rfl) (sk (sx hS_ 2 rfl) (sk (sx hS_ 3 rfl) (sk (sx hS_ 4 rfl) (sk (sx hS_ 5 rfl) (sk (sx hS_ 6 rfl) (sk (tr rfl (congrArg _ (wrap64_nat hi184 hN180))) sn)))))))), hC⟩ h
    ·skip
     exact ⟨(sk (sx hS_ 0 rfl) (sk (sx hS_ 1 rfl) (sk (sx hS_ 2 rfl) (sk (sx hS_ 3 rfl) (sk (sx hS_ 4 rfl) (sk (sx hS_ 5 rfl) (sk (sx hS_ 6 rfl) (sk (sx hS_ 7 rfl) (sk rfl (sk rfl (sk rfl (sk rfl (sk rfl (sk rfl (sk rfl (sk rfl (sk rfl (sk rfl (sk rfl (sk rfl (sk rfl (sk rfl (sk rfl (sk rfl (sk rfl (sk rfl (sk rfl (sk rfl (sk rfl (sk rfl (sk rfl (sk rfl (sk rfl (sk rfl sn)))))))))))))))))))))))))))))))))), hC⟩
 ·clear hC h
  rintro s179 e_ w262 K182 ⟨hS_, hC⟩ h
  refine wp_seq ?_
  refine sr ?_
  refine s_mv (v := .int .i64 (a0.length : Int)) (sx hS_ 7 rfl) ?_
  refine s_mv (v := u0_0) (sx hS_ 0 rfl) ?_
  obtain ⟨Ad263, c264, hv265⟩ := sl_len (hC.getP 0 rfl)
  refine s_len Try.underlying22 (tr rfl hv265) ?_
  refine s_lss rfl rfl ?_
  refine dn ?_
  refine cw_false rfl (decide_eq_false (by omega)) ?_
  refine wp_exit (then_exit (then_exit (exit_in ?_)))
  refine then_norm ?_
  refine sr ?_
  refine s_loadA hC 0 (A8.enc .u8 s179.1) rfl ag49 (sx hS_ 5 rfl) rfl rfl ?_
  refine s_mv (v := .int .i64 s179.2) (sx hS_ 6 rfl) ?_
  refine s_store (v := .agg (List.toArray (A8.enc .u8 s179.1))) hC 1 (A8.enc .u8 s179.1) (A8.enc .u8 s179.1) rfl ag49.size (sx hS_ 3 rfl) rfl rfl rfl rfl (Nat.le_of_ble_eq_true rfl) rfl fun w266 hC => ?_
  refine s_as (v := .int .i64 s179.2) rfl ?_
  refine dn ?_
  refine wp_ret ?_
  refine ret2 (fn := Try.f83) rfl ?_ ?_ ⟨s179.1, s179.2, rfl, h, hC.below⟩ (.inl rfl)
  ·exact res_cellA hC 1 rfl ag49 (sx hS_ 3 rfl) rfl
  ·exact res_tmp rfl
 ·skip
  exact ⟨(sk rfl (sk rfl (sk rfl (sk rfl (sk rfl (sk rfl (sk rfl (sk rfl sn)))))))), hC⟩
end Go.Proofs.Ytaagfepgbofmlaa
