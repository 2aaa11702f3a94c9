/- Printed by vcgen.py: functions of the program as predicates, and that the machine's calls meet them. -/
import Derived.Test.YtaagfepgbofmlaaGreatVt
import Derived.Test.YtaagfepgbofmlaaGreatVm
import Derived.Test.YtaagfepgbofmlaaGreatVs
import Derived.Test.YtaagfepgbofmlaaGreatProg
import Derived.KernelRfl
set_option linter.unusedVariables false
set_option linter.unusedSimpArgs false
set_option maxRecDepth 4000
set_option maxHeartbeats 4000000
namespace Go.Proofs.YtaagfepgbofmlaaGreat
open Go Go.RowKit Vc
theorem sc2 : ScaT Tryz.prog 2 := ⟨⟨_, Tryz.underlying2, rfl⟩, by kernel_rfl⟩
theorem sc5 : ScaT Tryz.prog 5 := ⟨⟨_, Tryz.underlying5, rfl⟩, by kernel_rfl⟩
theorem z55 : ZeroT Tryz.prog 55 (.agg #[.slice none 0 0]) := by unfold ZeroT; kernel_rfl
theorem bl55  (w : World) : (Instr.build 55 #[]).run Tryz.prog w = .ok (.agg #[.slice none 0 0]) w := by kernel_rfl
theorem ag55 : AggT Tryz.prog 55 1 := ⟨⟨_, Tryz.underlying55, rfl⟩, by kernel_rfl⟩
theorem mixed : Tryz.prog.follows .mixedOrders = true := by kernel_rfl
theorem ag136 : AggT Tryz.prog 136 8 := ⟨⟨_, Tryz.underlying136, rfl⟩, by kernel_rfl⟩
theorem bl162_0flat_1int (x0 : A8) (x1 : Int) (w : World) : (Instr.build 162 #[(0, .agg (List.toArray (A8.enc .u8 x0))), (1, .int .i64 x1)]).run Tryz.prog w = .ok (.agg (List.toArray (Term.enc (⟨x0, x1⟩ : Term)))) w := by kernel_rfl
theorem bs53_1 (x0 : Term) (w : World) : (Instr.buildSlice 53 1 #[(0, .agg (List.toArray (Term.enc x0)))]).run Tryz.prog w = .ok (.slice (some ⟨w.heap.size, 0, none⟩) 1 1) (w.alloc (.cells (List.toArray (ETerm.encs [x0])) 162)) := by kernel_rfl
theorem bl55_0sl (x0 : Value) (hx0 : IsSl x0) (w : World) : (Instr.build 55 #[(0, x0)]).run Tryz.prog w = .ok (.agg #[x0]) w := by obtain ⟨_, _, _, rfl⟩ := hx0; kernel_rfl
theorem sc53 : ScaT Tryz.prog 53 := ⟨⟨_, Tryz.underlying53, rfl⟩, by kernel_rfl⟩
theorem ag162 : AggT Tryz.prog 162 9 := ⟨⟨_, Tryz.underlying162, rfl⟩, by kernel_rfl⟩
theorem el162 : ElemT Tryz.prog 162 (.agg (List.toArray (Term.enc (⟨A8.zero, 0⟩ : Term)))) 9 16 := by unfold ElemT; kernel_rfl
theorem z136 : ZeroT Tryz.prog 136 (.agg (List.toArray (A8.enc .u8 A8.zero))) := by unfold ZeroT; kernel_rfl
theorem bl136  (w : World) : (Instr.build 136 #[]).run Tryz.prog w = .ok (.agg (List.toArray (A8.enc .u8 A8.zero))) w := by kernel_rfl
theorem z162 : ZeroT Tryz.prog 162 (.agg (List.toArray (Term.enc (⟨A8.zero, 0⟩ : Term)))) := by unfold ZeroT; kernel_rfl
theorem sc22 : ScaT Tryz.prog 22 := ⟨⟨_, Tryz.underlying22, rfl⟩, by kernel_rfl⟩
theorem sc30 : ScaT Tryz.prog 30 := ⟨⟨_, Tryz.underlying30, rfl⟩, by kernel_rfl⟩
theorem ag32 : AggT Tryz.prog 32 2 := ⟨⟨_, Tryz.underlying32, rfl⟩, by kernel_rfl⟩
theorem z73 : ZeroT Tryz.prog 73 (.agg (List.toArray (A8.enc .i64 A8.zero))) := by unfold ZeroT; kernel_rfl
theorem bl73  (w : World) : (Instr.build 73 #[]).run Tryz.prog w = .ok (.agg (List.toArray (A8.enc .i64 A8.zero))) w := by kernel_rfl
theorem ag73 : AggT Tryz.prog 73 8 := ⟨⟨_, Tryz.underlying73, rfl⟩, by kernel_rfl⟩
theorem sc3 : ScaT Tryz.prog 3 := ⟨⟨_, Tryz.underlying3, rfl⟩, by kernel_rfl⟩
theorem kt73 : KeyT Tryz.prog 73 (kvA .i64) := keyA8 Tryz.underlying73 Tryz.underlying3 sc3
theorem z2 : ZeroT Tryz.prog 2 (.int .i64 0) := by unfold ZeroT; kernel_rfl
theorem bs122_0  (w : World) : (Instr.buildSlice 122 0 #[]).run Tryz.prog w = .ok (.slice (some ⟨w.heap.size, 0, none⟩) 0 0) (w.alloc (.cells (List.toArray ((EA .i64).encs [])) 73)) := by kernel_rfl
theorem bs122_1 (x0 : A8) (w : World) : (Instr.buildSlice 122 1 #[(0, .agg (List.toArray (A8.enc .i64 x0)))]).run Tryz.prog w = .ok (.slice (some ⟨w.heap.size, 0, none⟩) 1 1) (w.alloc (.cells (List.toArray ((EA .i64).encs [x0])) 73)) := by kernel_rfl
theorem el73 : ElemT Tryz.prog 73 (.agg (List.toArray (A8.enc .i64 A8.zero))) 8 64 := by unfold ElemT; kernel_rfl
theorem z211 : ZeroT Tryz.prog 211 (.agg (List.toArray (List.replicate 8 (Value.map none)))) := by unfold ZeroT; kernel_rfl
theorem bl211 (w : World) : (Instr.build 211 #[]).run Tryz.prog w = .ok (.agg (List.toArray (List.replicate 8 (Value.map none)))) w := by kernel_rfl
theorem ag211 : AggT Tryz.prog 211 8 := ⟨⟨_, Tryz.underlying211, rfl⟩, by kernel_rfl⟩
theorem sc115 : ScaT Tryz.prog 115 := ⟨⟨_, Tryz.underlying115, rfl⟩, by kernel_rfl⟩
theorem el2 : ElemT Tryz.prog 2 (.int .i64 0) 1 8 := by unfold ElemT; kernel_rfl
theorem ag135 : AggT Tryz.prog 135 8 := ⟨⟨_, Tryz.underlying135, rfl⟩, by kernel_rfl⟩
theorem ag170 : AggT Tryz.prog 170 9 := ⟨⟨_, Tryz.underlying170, rfl⟩, by kernel_rfl⟩
theorem sc48 : ScaT Tryz.prog 48 := ⟨⟨_, Tryz.underlying48, rfl⟩, by kernel_rfl⟩
def f_spec_l01In (a0 : Int) (a1 : Int) (a2 : Int) (K : Bool → Prop) : Prop :=
 (if a0 ≥ a1 then K (decide (a0 ≤ a2)) else K false)
theorem c_spec_l01In (a0 : Int) (a1 : Int) (a2 : Int)  {K : Bool → Prop} (h : f_spec_l01In a0 a1 a2 K) (w0 : World)  :
  Calls Tryz.prog 59 #[.int .i64 a0, .int .i64 a1, .int .i64 a2] w0 fun e w' => ∃ (r0 : Bool), 
   e = .returned (.bool r0) ∧ K r0 ∧ Bel w0 w' := by
 unfold f_spec_l01In at h
 refine calls_of (args := [.int .i64 a0, .int .i64 a1, .int .i64 a2]) Tryz.func59 rfl 15 Tryz.ntmps59 (Nat.le_of_ble_eq_true rfl) ?_
 have hC := Ctx.start (X := Nox) w0 [] (by simp)
 refine sr ?_
 refine s_as (v := .bool false) rfl ?_
 refine dn ?_
 refine sr ?_
 refine s_mv (v := .int .i64 a0) rfl ?_
 refine s_mv (v := .int .i64 a1) rfl ?_
 refine s_geq rfl rfl ?_
 refine s_mv (v := .bool (decide (a0 ≥ a1))) rfl ?_
 refine bsplit (decide (a0 ≥ a1)) (fun hb1 => ?_) (fun hb1 => ?_)
 ·replace h := ift h (ct hb1)
  refine guardOn 3 10 rfl rfl hb1 ?_
  refine s_mv (v := .int .i64 a0) rfl ?_
  refine guardOn 3 10 rfl rfl hb1 ?_
  refine s_mv (v := .int .i64 a2) rfl ?_
  refine guardOn 3 10 rfl rfl hb1 ?_
  refine s_leq rfl rfl ?_
  refine s_pick (v := .bool (decide (a0 ≤ a2))) (b := true) (tr rfl (congrArg _ hb1)) rfl ?_
  refine s_as (v := .bool (decide (a0 ≤ a2))) rfl ?_
  refine dn ?_
  refine wp_ret ?_
  refine ret1 (fn := Tryz.f59) rfl ?_ ⟨decide (a0 ≤ a2), rfl, h, hC.below⟩ (.inl rfl)
  exact res_tmp rfl
 ·replace h := iff_ h (cf hb1)
  refine guardOff (b := false) 3 10 rfl (tr rfl (congrArg _ hb1)) (by decide) ?_
  refine guardOff (b := false) 3 10 rfl (tr rfl (congrArg _ hb1)) (by decide) ?_
  refine guardOff (b := false) 3 10 rfl (tr rfl (congrArg _ hb1)) (by decide) ?_
  refine s_pick (v := .bool false) (b := false) (tr rfl (congrArg _ hb1)) rfl ?_
  refine s_as (v := .bool false) rfl ?_
  refine dn ?_
  refine wp_ret ?_
  refine ret1 (fn := Tryz.f59) rfl ?_ ⟨false, rfl, h, hC.below⟩ (.inl rfl)
  exact res_tmp rfl
def f_spec_l01Degrees (a0 : List Int) (K : Bool → Prop) : Prop :=
 forN (fun i23 (s24 : Unit) next26 => f_spec_l01In (a0.getD i23 default) 1 12 (fun r40 => (if ¬ (r40 = true) then K false else next26 ()))) (fun (s24 : Unit) => K (decide ((a0.length : Int) ≤ 8))) a0.length 0 ()
theorem c_spec_l01Degrees (a0 : List Int) {u0_0 : Value} {fp0 : List Nat} {K : Bool → Prop} (h : f_spec_l01Degrees a0 K) (w0 : World) (q0 : ((EI .i64).ty.sl).rep a0 [u0_0] fp0 w0) :
  Calls Tryz.prog 149 #[u0_0] w0 fun e w' => ∃ (r0 : Bool), 
   e = .returned (.bool r0) ∧ K r0 ∧ Bel w0 w' := by
 unfold f_spec_l01Degrees at h
 refine calls_of (args := [u0_0]) Tryz.func149 rfl 19 Tryz.ntmps149 (Nat.le_of_ble_eq_true rfl) ?_
 have hC := Ctx.start (X := Nox) w0 [Ty.item ((EI .i64).ty.sl) a0 [u0_0] fp0] (by simp only [List.mem_cons, List.not_mem_nil, or_false, forall_eq_or_imp, forall_eq]; exact q0)
 refine sr ?_
 refine s_as (v := .bool false) rfl ?_
 refine dn ?_
 refine wp_seq ?_
 refine sr ?_
 refine s_as (v := .int .i64 0) rfl ?_
 refine dn ?_
 refine wp_block ?_
 have hN25 : a0.length ≤ 9223372036854775807 := sl_max (hC.getP 0 rfl)
 refine loopN (S := Unit) _ _ (fun i23 s24 e_ w_ => Slots e_ [(0, u0_0), (2, .bool false), (3, .int .i64 (i23 : Int))] ∧ Ctx Nox w0 w_ [] [Ty.item ((EI .i64).ty.sl) a0 [u0_0] fp0]) a0.length ?_ ?_ (s0 := ()) ?_ h
 ·clear hC h
  rintro i23 s24 e_ w30 next26 K27 hi29 ⟨hS_, hC⟩ h hK28
  refine wp_seq ?_
  refine sr ?_
  refine s_mv (v := .int .i64 (i23 : Int)) (sx hS_ 2 rfl) ?_
  refine s_mv (v := u0_0) (sx hS_ 0 rfl) ?_
  obtain ⟨Ad31, c32, hv33⟩ := sl_len (hC.getP 0 rfl)
  refine s_len Tryz.underlying22 (tr rfl hv33) ?_
  refine s_lss rfl rfl ?_
  refine dn ?_
  refine cw_true rfl (decide_eq_true (by omega)) ?_
  refine wp_skip ?_
  refine then_norm ?_
  refine wp_seq ?_
  refine wp_block ?_
  refine sr ?_
  refine s_mv (v := u0_0) (sx hS_ 0 rfl) ?_
  refine s_mv (v := .int .i64 (i23 : Int)) (sx hS_ 2 rfl) ?_
  obtain ⟨Ad34, c35, hv36⟩ := sl_form (hC.getP 0 rfl) i23 hi29
  refine s_iaddrS (len := a0.length) Tryz.underlying22 sc2.size (tr rfl hv36) rfl (Int.natCast_nonneg _) (Int.ofNat_lt.2 hi29) ?_
  refine s_loadCS (.int .i64 (a0.getD i23 default)) (sl_cellsE (hC.getP 0 rfl) hv36 i23 hi29) sc2 rfl ?_
  refine s_call [.int .i64 (a0.getD i23 default), .int .i64 1, .int .i64 12] _ Tryz.func59 rfl rfl rfl (c_spec_l01In (a0.getD i23 default) 1 12 h _) (fun ret37 w39 hR38 => ?_)
  obtain ⟨r40, rfl, h, hB41⟩ := hR38
  refine ⟨_, rfl, ?_⟩
  replace hC := hC.grow hB41
  refine s_not rfl ?_
  refine dn ?_
  refine cw_cond rfl (fun hb42 => ?_) (fun hb42 => ?_)
  ·replace h := ift h (ne_t (not_t hb42))
   refine sr ?_
   refine s_as (v := .bool false) rfl ?_
   refine dn ?_
   refine wp_ret (blk_ret (then_ret (then_ret (blk_ret (then_ret ?_)))))
   refine ret1 (fn := Tryz.f149) rfl ?_ ⟨false, rfl, h, hC.below⟩ (.inl rfl)
   exact res_tmp rfl
  ·replace h := iff_ h (not_not_intro ((not_f hb42)))
   refine wp_skip ?_
   refine blk_norm ?_
   refine then_norm ?_
   refine cw_region ?_
   refine s_mv (v := .int .i64 (i23 : Int)) (sx hS_ 2 rfl) ?_
   refine s_add rfl rfl ?_
   refine s_as (v := .int .i64 (IntKind.i64.wrap ((i23 : Int) + 1))) rfl ?_
   refine done ?_
   exact hK28 () _ _ ⟨(sk (sx hS_ 0 rfl) (sk (sx hS_ 1 rfl) (sk (tr rfl (congrArg _ (wrap64_nat hi29 hN25))) sn))), hC⟩ h
 ·clear hC h
  rintro s24 e_ w43 K27 ⟨hS_, hC⟩ h
  refine wp_seq ?_
  refine sr ?_
  refine s_mv (v := .int .i64 (a0.length : Int)) (sx hS_ 2 rfl) ?_
  refine s_mv (v := u0_0) (sx hS_ 0 rfl) ?_
  obtain ⟨Ad44, c45, hv46⟩ := sl_len (hC.getP 0 rfl)
  refine s_len Tryz.underlying22 (tr rfl hv46) ?_
  refine s_lss rfl rfl ?_
  refine dn ?_
  refine cw_false rfl (decide_eq_false (by omega)) ?_
  refine wp_exit (then_exit (then_exit (exit_in ?_)))
  refine then_norm ?_
  refine sr ?_
  refine s_mv (v := u0_0) (sx hS_ 0 rfl) ?_
  obtain ⟨Ad47, c48, hv49⟩ := sl_len (hC.getP 0 rfl)
  refine s_len Tryz.underlying22 (tr rfl hv49) ?_
  refine s_leq rfl rfl ?_
  refine s_as (v := .bool (decide ((a0.length : Int) ≤ 8))) rfl ?_
  refine dn ?_
  refine wp_ret ?_
  refine ret1 (fn := Tryz.f149) rfl ?_ ⟨decide ((a0.length : Int) ≤ 8), rfl, h, hC.below⟩ (.inl rfl)
  exact res_tmp rfl
 ·skip
  exact ⟨(sk rfl (sk rfl (sk rfl sn))), hC⟩
def f_spec_l01Mono (a0 : List Int) (a1 : A8) (K : Bool → Prop) : Prop :=
 forN (fun i21 (s22 : Unit) next23 => (if (i21 : Int) ≥ (a0.length : Int) then (if a1.get i21 ≠ 0 then K false else next23 ()) else (if a1.get i21 > 20 then K false else ((0 ≤ (i21 : Int) ∧ (i21 : Int) < (a0.length : Int)) ∧ (if Int.tmod (a0.getD i21 default) 2 ≠ 0 then (if a1.get i21 > 1 then K false else next23 ()) else next23 ()))))) (fun (s22 : Unit) => K true) 8 0 ()
theorem c_spec_l01Mono (a0 : List Int) (a1 : A8) {u0_0 : Value} {fp0 : List Nat} {K : Bool → Prop} (h : f_spec_l01Mono a0 a1 K) (w0 : World) (q0 : ((EI .i64).ty.sl).rep a0 [u0_0] fp0 w0) :
  Calls Tryz.prog 173 #[u0_0, .agg (List.toArray (A8.enc .u8 a1))] w0 fun e w' => ∃ (r0 : Bool), 
   e = .returned (.bool r0) ∧ K r0 ∧ Bel w0 w' := by
 unfold f_spec_l01Mono at h
 refine calls_of (args := [u0_0, .agg (List.toArray (A8.enc .u8 a1))]) Tryz.func173 rfl 38 Tryz.ntmps173 (Nat.le_of_ble_eq_true rfl) ?_
 have hC := Ctx.start (X := Nox) w0 [Ty.item ((EI .i64).ty.sl) a0 [u0_0] fp0] (by simp only [List.mem_cons, List.not_mem_nil, or_false, forall_eq_or_imp, forall_eq]; exact q0)
 refine sr ?_
 refine s_box (v := .agg (List.toArray (A8.enc .u8 a1))) hC (A8.enc .u8 a1) rfl rfl fun b2 w4 hB_ hC => ?_
 refine s_as (v := .bool false) rfl ?_
 refine dn ?_
 refine wp_seq ?_
 refine sr ?_
 refine s_as (v := .int .i64 0) rfl ?_
 refine dn ?_
 refine wp_block ?_
 refine loopN (S := Unit) _ _ (fun i21 s22 e_ w_ => Slots e_ [(0, u0_0), (3, .pointer (some ⟨b2, 0, none⟩)), (4, .bool false), (5, .int .i64 (i21 : Int))] ∧ Ctx Nox w0 w_ [blk b2 136 (A8.enc .u8 a1)] [Ty.item ((EI .i64).ty.sl) a0 [u0_0] fp0]) 8 ?_ ?_ (s0 := ()) ?_ h
 ·clear hC h
  rintro i21 s22 e_ w27 next23 K24 hi26 ⟨hS_, hC⟩ h hK25
  refine wp_seq ?_
  refine sr ?_
  refine s_mv (v := .int .i64 (i21 : Int)) (sx hS_ 3 rfl) ?_
  refine s_lss rfl rfl ?_
  refine dn ?_
  refine cw_true rfl (decide_eq_true (by omega)) ?_
  refine wp_skip ?_
  refine then_norm ?_
  refine wp_seq ?_
  refine wp_block ?_
  refine wp_block ?_
  refine sr ?_
  refine s_mv (v := .int .i64 (i21 : Int)) (sx hS_ 3 rfl) ?_
  refine s_mv (v := u0_0) (sx hS_ 0 rfl) ?_
  obtain ⟨Ad28, c29, hv30⟩ := sl_len (hC.getP 0 rfl)
  refine s_len Tryz.underlying22 (tr rfl hv30) ?_
  refine s_geq rfl rfl ?_
  refine s_as (v := .bool (decide ((i21 : Int) ≥ (a0.length : Int)))) rfl ?_
  refine dn ?_
  refine cw_cond rfl (fun hb31 => ?_) (fun hb31 => ?_)
  ·replace h := ift h (ct hb31)
   refine sr ?_
   refine s_mv (v := .int .i64 (i21 : Int)) (sx hS_ 3 rfl) ?_
   refine s_iaddrB i21 Tryz.underlying136 sc5.size (sx hS_ 1 rfl) rfl (Int.natCast_nonneg _) (by omega) (by omega) ?_
   refine s_loadS hC 0 (.int .u8 (a1.get i21)) rfl sc5 rfl (A8.enc_get _ _ hi26) ?_
   refine s_neq rfl rfl ?_
   refine dn ?_
   refine cw_cond rfl (fun hb32 => ?_) (fun hb32 => ?_)
   ·replace h := ift h (ct hb32)
    refine sr ?_
    refine s_as (v := .bool false) rfl ?_
    refine dn ?_
    refine wp_ret (blk_ret (blk_ret (then_ret (then_ret (blk_ret (then_ret ?_))))))
    refine ret1 (fn := Tryz.f173) rfl ?_ ⟨false, rfl, h, hC.below⟩ (.inl rfl)
    exact res_tmp rfl
   ·replace h := iff_ h (cf hb32)
    refine wp_skip ?_
    refine blk_norm ?_
    refine blk_norm ?_
    refine then_norm ?_
    refine cw_region ?_
    refine s_mv (v := .int .i64 (i21 : Int)) (sx hS_ 3 rfl) ?_
    refine s_add rfl rfl ?_
    refine s_as (v := .int .i64 (IntKind.i64.wrap ((i21 : Int) + 1))) rfl ?_
    refine done ?_
    exact hK25 () _ _ ⟨(sk (sx hS_ 0 rfl) (sk (sx hS_ 1 rfl) (sk (sx hS_ 2 rfl) (sk (tr rfl (congrArg _ (wrap64_nat hi26 (by decide)))) sn)))), hC⟩ h
  ·replace h := iff_ h (cf hb31)
   refine sr ?_
   refine s_mv (v := .int .i64 (i21 : Int)) (sx hS_ 3 rfl) ?_
   refine s_iaddrB i21 Tryz.underlying136 sc5.size (sx hS_ 1 rfl) rfl (Int.natCast_nonneg _) (by omega) (by omega) ?_
   refine s_loadS hC 0 (.int .u8 (a1.get i21)) rfl sc5 rfl (A8.enc_get _ _ hi26) ?_
   refine s_gtr rfl rfl ?_
   refine s_mv (v := .bool (decide (a1.get i21 > 20))) rfl ?_
   refine bsplit (decide (a1.get i21 > 20)) (fun hb33 => ?_) (fun hb33 => ?_)
   ·replace h := ift h (ct hb33)
    refine guardOff (b := true) 4 24 rfl (tr rfl (congrArg _ hb33)) (by decide) ?_
    refine guardOff (b := true) 4 24 rfl (tr rfl (congrArg _ hb33)) (by decide) ?_
    refine guardOff (b := true) 4 24 rfl (tr rfl (congrArg _ hb33)) (by decide) ?_
    refine guardOff (b := true) 4 24 rfl (tr rfl (congrArg _ hb33)) (by decide) ?_
    refine guardOff (b := true) 4 24 rfl (tr rfl (congrArg _ hb33)) (by decide) ?_
    refine guardOff (b := true) 4 24 rfl (tr rfl (congrArg _ hb33)) (by decide) ?_
    refine guardOff (b := true) 4 24 rfl (tr rfl (congrArg _ hb33)) (by decide) ?_
    refine guardOffU 11 31 rfl rfl ?_
    refine guardOffU 11 31 rfl rfl ?_
    refine guardOffU 11 31 rfl rfl ?_
    refine guardOffU 11 31 rfl rfl ?_
    refine guardOff (b := true) 4 24 rfl (tr rfl (congrArg _ hb33)) (by decide) ?_
    refine s_pick (v := .bool true) (b := true) (tr rfl (congrArg _ hb33)) rfl ?_
    refine s_as (v := .bool true) rfl ?_
    refine dn ?_
    refine cw_true rfl rfl ?_
    refine sr ?_
    refine s_as (v := .bool false) rfl ?_
    refine dn ?_
    refine wp_ret (blk_ret (blk_ret (then_ret (then_ret (blk_ret (then_ret ?_))))))
    refine ret1 (fn := Tryz.f173) rfl ?_ ⟨false, rfl, h, hC.below⟩ (.inl rfl)
    exact res_tmp rfl
   ·replace h := iff_ h (cf hb33)
    refine guardOn 4 24 rfl rfl hb33 ?_
    refine s_mv (v := u0_0) (sx hS_ 0 rfl) ?_
    refine guardOn 4 24 rfl rfl hb33 ?_
    refine s_mv (v := .int .i64 (i21 : Int)) (sx hS_ 3 rfl) ?_
    refine guardOn 4 24 rfl rfl hb33 ?_
    obtain ⟨⟨h0_34, h1_35⟩, h⟩ := h
    obtain ⟨Ad36, c37, hv38⟩ := sl_form (hC.getP 0 rfl) i21 (show i21 < a0.length by omega)
    refine s_iaddrS (len := a0.length) Tryz.underlying22 sc2.size (tr rfl hv38) rfl h0_34 h1_35 ?_
    refine guardOn 4 24 rfl rfl hb33 ?_
    refine s_loadCS (.int .i64 (a0.getD i21 default)) (sl_cellsE (hC.getP 0 rfl) hv38 i21 (show i21 < a0.length by omega)) sc2 rfl ?_
    refine guardOn 4 24 rfl rfl hb33 ?_
    refine s_rem rfl rfl (by decide) ?_
    refine guardOn 4 24 rfl rfl hb33 ?_
    refine s_neq rfl rfl ?_
    refine guardOn 4 24 rfl rfl hb33 ?_
    refine s_mv (v := .bool (decide (Int.tmod (a0.getD i21 default) 2 ≠ 0))) rfl ?_
    refine bsplit (decide (Int.tmod (a0.getD i21 default) 2 ≠ 0)) (fun hb39 => ?_) (fun hb39 => ?_)
    ·replace h := ift h (ct hb39)
     refine guardOn 11 31 rfl rfl hb39 ?_
     refine s_mv (v := .int .i64 (i21 : Int)) (sx hS_ 3 rfl) ?_
     refine guardOn 11 31 rfl rfl hb39 ?_
     refine s_iaddrB i21 Tryz.underlying136 sc5.size (sx hS_ 1 rfl) rfl (Int.natCast_nonneg _) (by omega) (by omega) ?_
     refine guardOn 11 31 rfl rfl hb39 ?_
     refine s_loadS hC 0 (.int .u8 (a1.get i21)) rfl sc5 rfl (A8.enc_get _ _ hi26) ?_
     refine guardOn 11 31 rfl rfl hb39 ?_
     refine s_gtr rfl rfl ?_
     refine guardOn 4 24 rfl rfl hb33 ?_
     refine s_pick (v := .bool (decide (a1.get i21 > 1))) (b := true) (tr rfl (congrArg _ hb39)) rfl ?_
     refine s_pick (v := .bool (decide (a1.get i21 > 1))) (b := false) (tr rfl (congrArg _ hb33)) rfl ?_
     refine s_as (v := .bool (decide (a1.get i21 > 1))) rfl ?_
     refine dn ?_
     refine cw_cond rfl (fun hb40 => ?_) (fun hb40 => ?_)
     ·replace h := ift h (ct hb40)
      refine sr ?_
      refine s_as (v := .bool false) rfl ?_
      refine dn ?_
      refine wp_ret (blk_ret (blk_ret (then_ret (then_ret (blk_ret (then_ret ?_))))))
      refine ret1 (fn := Tryz.f173) rfl ?_ ⟨false, rfl, h, hC.below⟩ (.inl rfl)
      exact res_tmp rfl
     ·replace h := iff_ h (cf hb40)
      refine wp_skip ?_
      refine blk_norm ?_
      refine blk_norm ?_
      refine then_norm ?_
      refine cw_region ?_
      refine s_mv (v := .int .i64 (i21 : Int)) (sx hS_ 3 rfl) ?_
      refine s_add rfl rfl ?_
      refine s_as (v := .int .i64 (IntKind.i64.wrap ((i21 : Int) + 1))) rfl ?_
      refine done ?_
      exact hK25 () _ _ ⟨(sk (sx hS_ 0 rfl) (sk (sx hS_ 1 rfl) (sk (sx hS_ 2 rfl) (sk (tr rfl (congrArg _ (wrap64_nat hi26 (by decide)))) sn)))), hC⟩ h
    ·replace h := iff_ h (cf hb39)
     refine guardOff (b := false) 11 31 rfl (tr rfl (congrArg _ hb39)) (by decide) ?_
     refine guardOff (b := false) 11 31 rfl (tr rfl (congrArg _ hb39)) (by decide) ?_
     refine guardOff (b := false) 11 31 rfl (tr rfl (congrArg _ hb39)) (by decide) ?_
     refine guardOff (b := false) 11 31 rfl (tr rfl (congrArg _ hb39)) (by decide) ?_
     refine guardOn 4 24 rfl rfl hb33 ?_
     refine s_pick (v := .bool false) (b := false) (tr rfl (congrArg _ hb39)) rfl ?_
     refine s_pick (v := .bool false) (b := false) (tr rfl (congrArg _ hb33)) rfl ?_
     refine s_as (v := .bool false) rfl ?_
     refine dn ?_
     refine cw_false rfl rfl ?_
     refine wp_skip ?_
     refine blk_norm ?_
     refine blk_norm ?_
     refine then_norm ?_
     refine cw_region ?_
     refine s_mv (v := .int .i64 (i21 : Int)) (sx hS_ 3 rfl) ?_
     refine s_add rfl rfl ?_
     refine s_as (v := .int .i64 (IntKind.i64.wrap ((i21 : Int) + 1))) rfl ?_
     refine done ?_
     exact hK25 () _ _ ⟨(sk (sx hS_ 0 rfl) (sk (sx hS_ 1 rfl) (sk (sx hS_ 2 rfl) (sk (tr rfl (congrArg _ (wrap64_nat hi26 (by decide)))) sn)))), hC⟩ h
 ·clear hC h
  rintro s22 e_ w41 K24 ⟨hS_, hC⟩ h
  refine wp_seq ?_
  refine sr ?_
  refine s_mv (v := .int .i64 8) (sx hS_ 3 rfl) ?_
  refine s_lss rfl rfl ?_
  refine dn ?_
  refine cw_false rfl (decide_eq_false (by omega)) ?_
  refine wp_exit (then_exit (then_exit (exit_in ?_)))
  refine then_norm ?_
  refine sr ?_
  refine s_as (v := .bool true) rfl ?_
  refine dn ?_
  refine wp_ret ?_
  refine ret1 (fn := Tryz.f173) rfl ?_ ⟨true, rfl, h, hC.below⟩ (.inl rfl)
  exact res_tmp rfl
 ·skip
  exact ⟨(sk rfl (sk rfl (sk rfl (sk rfl sn)))), hC⟩
def f_spec_l01Mod (a0 : Int) (K : Int → Prop) : Prop :=
 K (Int.tmod (IntKind.i64.wrap ((Int.tmod a0 10007) + 10007)) 10007)
theorem c_spec_l01Mod (a0 : Int)  {K : Int → Prop} (h : f_spec_l01Mod a0 K) (w0 : World)  :
  Calls Tryz.prog 125 #[.int .i64 a0] w0 fun e w' => ∃ (r0 : Int), 
   e = .returned (.int .i64 r0) ∧ K r0 ∧ Bel w0 w' := by
 unfold f_spec_l01Mod at h
 refine calls_of (args := [.int .i64 a0]) Tryz.func125 rfl 7 Tryz.ntmps125 (Nat.le_of_ble_eq_true rfl) ?_
 have hC := Ctx.start (X := Nox) w0 [] (by simp)
 refine sr ?_
 refine s_as (v := .int .i64 0) rfl ?_
 refine dn ?_
 refine sr ?_
 refine s_mv (v := .int .i64 a0) rfl ?_
 refine s_rem rfl rfl (by decide) ?_
 refine s_add rfl rfl ?_
 refine s_rem rfl rfl (by decide) ?_
 refine s_as (v := .int .i64 (Int.tmod (IntKind.i64.wrap ((Int.tmod a0 10007) + 10007)) 10007)) rfl ?_
 refine dn ?_
 refine wp_ret ?_
 refine ret1 (fn := Tryz.f125) rfl ?_ ⟨Int.tmod (IntKind.i64.wrap ((Int.tmod a0 10007) + 10007)) 10007, rfl, h, hC.below⟩ (.inl rfl)
 exact res_tmp rfl
def f_spec_l01Single (a0 : A8) (a1 : Int) (K : Vc.Form → Prop) : Prop :=
 f_spec_l01Mod a1 (fun r10 => (if r10 = 0 then K (⟨[]⟩ : Vc.Form) else f_spec_l01Mod a1 (fun r20 => K (⟨[(⟨a0, r20⟩ : Term)]⟩ : Vc.Form))))
theorem c_spec_l01Single (a0 : A8) (a1 : Int)  {K : Vc.Form → Prop} (h : f_spec_l01Single a0 a1 K) (w0 : World)  :
  Calls Tryz.prog 95 #[.agg (List.toArray (A8.enc .u8 a0)), .int .i64 a1] w0 fun e w' => ∃ (r0 : Vc.Form) (z0_0 : Value) (fz0 : List Nat), 
   e = .returned (.agg #[z0_0]) ∧ K r0 ∧ (Tr.item (TrForm 162) r0 [z0_0] fz0).holds w' ∧ (∀ b, b ∈ fz0 → w0.heap.size ≤ b) ∧ Bel w0 w' := by
 unfold f_spec_l01Single at h
 refine calls_of (args := [.agg (List.toArray (A8.enc .u8 a0)), .int .i64 a1]) Tryz.func95 rfl 15 Tryz.ntmps95 (Nat.le_of_ble_eq_true rfl) ?_
 have hC := Ctx.start (X := Nox) w0 [] (by simp)
 refine sr ?_
 refine s_box (v := .agg (List.toArray (A8.enc .u8 a0))) hC (A8.enc .u8 a0) rfl rfl fun b1 w3 hB_ hC => ?_
 refine s_alloc hC [.slice none 0 0] z55 rfl fun b4 w6 hB_ hC => ?_
 refine dn ?_
 refine wp_seq ?_
 refine sr ?_
 refine s_mv (v := .int .i64 a1) rfl ?_
 refine s_call [.int .i64 a1] _ Tryz.func125 rfl rfl rfl (c_spec_l01Mod a1 h _) (fun ret7 w9 hR8 => ?_)
 obtain ⟨r10, rfl, h, hB11⟩ := hR8
 refine ⟨_, rfl, ?_⟩
 replace hC := hC.grow hB11
 refine s_eql rfl rfl ?_
 refine dn ?_
 refine cw_cond rfl (fun hb12 => ?_) (fun hb12 => ?_)
 ·replace h := ift h (ct hb12)
  refine sr ?_
  refine s_build [] rfl (bl55   _) ?_
  refine s_store (v := .agg #[.slice none 0 0]) hC 0 [.slice none 0 0] [.slice none 0 0] rfl ag55.size rfl rfl rfl rfl rfl (Nat.le_of_ble_eq_true rfl) rfl fun w13 hC => ?_
  refine dn ?_
  refine wp_ret (then_ret ?_)
  refine ret1 (fn := Tryz.f95) rfl ?_ ⟨(⟨[]⟩ : Vc.Form), .slice none 0 0, [], rfl, h, (form_join (nil_item _ _ _)), (fun b hb => absurd hb (by simp)), hC.below⟩ (.inl rfl)
  exact res_cellA hC 0 rfl ag55 rfl rfl
 ·replace h := iff_ h (cf hb12)
  refine wp_skip ?_
  refine then_norm ?_
  refine wp_seq ?_
  refine cw_draw 3 mixed [0, 0, 2, 7, 15, 31, 63] [0] [1] (by kernel_rfl) (by kernel_rfl) (by kernel_rfl) (fun hM15 hM16 w14 hB_ => ?_)
  replace hC := hC.grow hB_
  refine aL 0 (.agg (List.toArray (A8.enc .u8 a0))) rfl rfl (hM15 0 rfl) (rfl) (fun _ hB_ => by exact r_loadA (hC.grow hB_) 1 (A8.enc .u8 a0) rfl ag136 rfl rfl rfl) (dbits 7 1) ?_
  refine aF 1 (.int .i64 a1) rfl rfl (hM16 1 rfl) (rfl) (fun _ => by exact r_mv (v := .int .i64 a1) rfl) (dbits 7 3) ?_
  refine aO 2 rfl ?_
  refine s_call [.int .i64 a1] _ Tryz.func125 rfl rfl rfl (c_spec_l01Mod a1 h _) (fun ret17 w19 hR18 => ?_)
  obtain ⟨r20, rfl, h, hB21⟩ := hR18
  refine ⟨_, rfl, ?_⟩
  replace hC := hC.grow hB21
  refine done ?_
  refine aK (by assumption) (dbits 7 7) ?_
  refine ae_tail 3 (by decide) (by decide) (by kernel_rfl) (by kernel_rfl) rfl ?_
  refine s_build [(0, .agg (List.toArray (A8.enc .u8 a0))), (1, .int .i64 r20)] rfl (bl162_0flat_1int a0 r20  _) ?_
  refine s_bslice (sz := 9) hC [(0, .agg (List.toArray (Term.enc (⟨a0, r20⟩ : Term))))] (ETerm.encs [(⟨a0, r20⟩ : Term)]) rfl (fun _ => bs53_1 (⟨a0, r20⟩ : Term) _) rfl (by decide) fun b22 w23 hB_ hC => ?_
  refine s_build [(0, .slice (some ⟨b22, 0, none⟩) 1 1)] rfl (bl55_0sl (.slice (some ⟨b22, 0, none⟩) 1 1) (own_isSl (hC.getM 0 rfl)) _) ?_
  refine s_store (v := .agg #[.slice (some ⟨b22, 0, none⟩) 1 1]) hC 1 [.slice (some ⟨b22, 0, none⟩) 1 1] [.slice (some ⟨b22, 0, none⟩) 1 1] rfl ag55.size rfl rfl rfl rfl (all_c (own_oneC (hC.getM 0 rfl)) rfl) (Nat.le_of_ble_eq_true rfl) rfl fun w25 hC => ?_
  refine done ?_
  refine qn_norm ?_
  refine then_norm ?_
  refine wp_ret ?_
  refine ret1 (fn := Tryz.f95) rfl ?_ ⟨(⟨[(⟨a0, r20⟩ : Term)]⟩ : Vc.Form), .slice (some ⟨b22, 0, none⟩) 1 1, (Option.toList (Value.ownBlock (.slice (some ⟨b22, 0, none⟩) 1 1))), rfl, h, (form_join (own_item (hC.getM 0 rfl))), (own_fresh hC 0 rfl), hC.below⟩ (.inl rfl)
  exact res_cellA hC 1 rfl ag55 rfl rfl
def f_spec_l01Before (a0 : A8) (a1 : A8) (K : Bool → Prop) : Prop :=
 forN (fun i17 (s18 : Unit) next19 => (if a0.get i17 ≠ a1.get i17 then K (decide (a0.get i17 > a1.get i17)) else next19 ())) (fun (s18 : Unit) => K false) 8 0 ()
theorem c_spec_l01Before (a0 : A8) (a1 : A8)  {K : Bool → Prop} (h : f_spec_l01Before a0 a1 K) (w0 : World)  :
  Calls Tryz.prog 174 #[.agg (List.toArray (A8.enc .u8 a0)), .agg (List.toArray (A8.enc .u8 a1))] w0 fun e w' => ∃ (r0 : Bool), 
   e = .returned (.bool r0) ∧ K r0 ∧ Bel w0 w' := by
 unfold f_spec_l01Before at h
 refine calls_of (args := [.agg (List.toArray (A8.enc .u8 a0)), .agg (List.toArray (A8.enc .u8 a1))]) Tryz.func174 rfl 24 Tryz.ntmps174 (Nat.le_of_ble_eq_true rfl) ?_
 have hC := Ctx.start (X := Nox) w0 [] (by simp)
 refine sr ?_
 refine s_box (v := .agg (List.toArray (A8.enc .u8 a0))) hC (A8.enc .u8 a0) rfl rfl fun b1 w3 hB_ hC => ?_
 refine s_box (v := .agg (List.toArray (A8.enc .u8 a1))) hC (A8.enc .u8 a1) rfl rfl fun b4 w6 hB_ hC => ?_
 refine s_as (v := .bool false) rfl ?_
 refine dn ?_
 refine wp_seq ?_
 refine sr ?_
 refine s_as (v := .int .i64 0) rfl ?_
 refine dn ?_
 refine wp_block ?_
 refine loopN (S := Unit) _ _ (fun i17 s18 e_ w_ => Slots e_ [(2, .pointer (some ⟨b1, 0, none⟩)), (3, .pointer (some ⟨b4, 0, none⟩)), (4, .bool false), (5, .int .i64 (i17 : Int))] ∧ Ctx Nox w0 w_ [blk b4 136 (A8.enc .u8 a1), blk b1 136 (A8.enc .u8 a0)] []) 8 ?_ ?_ (s0 := ()) ?_ h
 ·clear hC h
  rintro i17 s18 e_ w23 next19 K20 hi22 ⟨hS_, hC⟩ h hK21
  refine wp_seq ?_
  refine sr ?_
  refine s_mv (v := .int .i64 (i17 : Int)) (sx hS_ 3 rfl) ?_
  refine s_lss rfl rfl ?_
  refine dn ?_
  refine cw_true rfl (decide_eq_true (by omega)) ?_
  refine wp_skip ?_
  refine then_norm ?_
  refine wp_seq ?_
  refine wp_block ?_
  refine wp_seq ?_
  refine cw_draw 6 mixed [0, 1, 3, 0, 8, 24, 63] [1, 2, 4, 5] [0, 3] (by kernel_rfl) (by kernel_rfl) (by kernel_rfl) (fun hM25 hM26 w24 hB_ => ?_)
  replace hC := hC.grow hB_
  refine aF 0 (.int .i64 (i17 : Int)) rfl rfl (hM26 0 rfl) (rfl) (fun _ => by exact r_mv (v := .int .i64 (i17 : Int)) (sx hS_ 3 rfl)) (dbits 7 1) ?_
  refine aL 1 (.pointer (some ⟨b1, i17, none⟩)) rfl rfl (hM25 1 rfl) (rfl) (fun _ hB_ => by exact r_iaddrB i17 Tryz.underlying136 sc5.size (sx hS_ 0 rfl) rfl (Int.natCast_nonneg _) (by omega) (by omega)) (dbits 7 3) ?_
  refine aL 2 (.int .u8 (a0.get i17)) rfl rfl (hM25 2 rfl) (rfl) (fun _ hB_ => by exact r_loadS (hC.grow hB_) 1 (.int .u8 (a0.get i17)) rfl sc5 rfl (A8.enc_get _ _ hi22)) (dbits 7 7) ?_
  refine aF 3 (.int .i64 (i17 : Int)) rfl rfl (hM26 3 rfl) (rfl) (fun _ => by exact r_mv (v := .int .i64 (i17 : Int)) (sx hS_ 3 rfl)) (dbits 7 15) ?_
  refine aL 4 (.pointer (some ⟨b4, i17, none⟩)) rfl rfl (hM25 4 rfl) (rfl) (fun _ hB_ => by exact r_iaddrB i17 Tryz.underlying136 sc5.size (sx hS_ 1 rfl) rfl (Int.natCast_nonneg _) (by omega) (by omega)) (dbits 7 31) ?_
  refine aL 5 (.int .u8 (a1.get i17)) rfl rfl (hM25 5 rfl) (rfl) (fun _ hB_ => by exact r_loadS (hC.grow hB_) 0 (.int .u8 (a1.get i17)) rfl sc5 rfl (A8.enc_get _ _ hi22)) (dbits 7 63) ?_
  refine ae_tail 6 (by decide) (by decide) (by kernel_rfl) (by kernel_rfl) rfl ?_
  refine s_neq rfl rfl ?_
  refine done ?_
  refine qn_norm ?_
  refine then_norm ?_
  refine cw_cond rfl (fun hb27 => ?_) (fun hb27 => ?_)
  ·replace h := ift h (ct hb27)
   refine wp_seq ?_
   refine cw_draw 6 mixed [0, 1, 3, 0, 8, 24, 63, 127] [1, 2, 4, 5] [0, 3] (by kernel_rfl) (by kernel_rfl) (by kernel_rfl) (fun hM29 hM30 w28 hB_ => ?_)
   replace hC := hC.grow hB_
   refine aF 0 (.int .i64 (i17 : Int)) rfl rfl (hM30 0 rfl) (rfl) (fun _ => by exact r_mv (v := .int .i64 (i17 : Int)) (sx hS_ 3 rfl)) (dbits 8 1) ?_
   refine aL 1 (.pointer (some ⟨b1, i17, none⟩)) rfl rfl (hM29 1 rfl) (rfl) (fun _ hB_ => by exact r_iaddrB i17 Tryz.underlying136 sc5.size (sx hS_ 0 rfl) rfl (Int.natCast_nonneg _) (by omega) (by omega)) (dbits 8 3) ?_
   refine aL 2 (.int .u8 (a0.get i17)) rfl rfl (hM29 2 rfl) (rfl) (fun _ hB_ => by exact r_loadS (hC.grow hB_) 1 (.int .u8 (a0.get i17)) rfl sc5 rfl (A8.enc_get _ _ hi22)) (dbits 8 7) ?_
   refine aF 3 (.int .i64 (i17 : Int)) rfl rfl (hM30 3 rfl) (rfl) (fun _ => by exact r_mv (v := .int .i64 (i17 : Int)) (sx hS_ 3 rfl)) (dbits 8 15) ?_
   refine aL 4 (.pointer (some ⟨b4, i17, none⟩)) rfl rfl (hM29 4 rfl) (rfl) (fun _ hB_ => by exact r_iaddrB i17 Tryz.underlying136 sc5.size (sx hS_ 1 rfl) rfl (Int.natCast_nonneg _) (by omega) (by omega)) (dbits 8 31) ?_
   refine aL 5 (.int .u8 (a1.get i17)) rfl rfl (hM29 5 rfl) (rfl) (fun _ hB_ => by exact r_loadS (hC.grow hB_) 0 (.int .u8 (a1.get i17)) rfl sc5 rfl (A8.enc_get _ _ hi22)) (dbits 8 63) ?_
   refine ae_tail 6 (by decide) (by decide) (by kernel_rfl) (by kernel_rfl) rfl ?_
   refine s_gtr rfl rfl ?_
   refine s_as (v := .bool (decide (a0.get i17 > a1.get i17))) rfl ?_
   refine done ?_
   refine qn_norm ?_
   refine then_norm ?_
   refine wp_ret (blk_ret (then_ret (then_ret (blk_ret (then_ret ?_)))))
   refine ret1 (fn := Tryz.f174) rfl ?_ ⟨decide (a0.get i17 > a1.get i17), rfl, h, hC.below⟩ (.inl rfl)
   exact res_tmp rfl
  ·replace h := iff_ h (cf hb27)
   refine wp_skip ?_
   refine blk_norm ?_
   refine then_norm ?_
   refine cw_region ?_
   refine s_mv (v := .int .i64 (i17 : Int)) (sx hS_ 3 rfl) ?_
   refine s_add rfl rfl ?_
   refine s_as (v := .int .i64 (IntKind.i64.wrap ((i17 : Int) + 1))) rfl ?_
   refine done ?_
   exact hK21 () _ _ ⟨(sk (sx hS_ 0 rfl) (sk (sx hS_ 1 rfl) (sk (sx hS_ 2 rfl) (sk (tr rfl (congrArg _ (wrap64_nat hi22 (by decide)))) sn)))), hC⟩ h
 ·clear hC h
  rintro s18 e_ w31 K20 ⟨hS_, hC⟩ h
  refine wp_seq ?_
  refine sr ?_
  refine s_mv (v := .int .i64 8) (sx hS_ 3 rfl) ?_
  refine s_lss rfl rfl ?_
  refine dn ?_
  refine cw_false rfl (decide_eq_false (by omega)) ?_
  refine wp_exit (then_exit (then_exit (exit_in ?_)))
  refine then_norm ?_
  refine sr ?_
  refine s_as (v := .bool false) rfl ?_
  refine dn ?_
  refine wp_ret ?_
  refine ret1 (fn := Tryz.f174) rfl ?_ ⟨false, rfl, h, hC.below⟩ (.inl rfl)
  exact res_tmp rfl
 ·skip
  exact ⟨(sk rfl (sk rfl (sk rfl (sk rfl sn)))), hC⟩
def f_spec_l01Add (a0 : Vc.Form) (a1 : Vc.Form) (a2 : Int) (K : Vc.Form → Prop) : Prop :=
 whileP (fun (s443 : (List Term) × Int × Int) next446 => joinP (fun (jn458 : Bool → Prop) => (if s443.2.1 < (a0.terms.length : Int) then jn458 true else jn458 (decide (s443.2.2 < (a1.terms.length : Int))))) (fun (x457 : Bool) => (if x457 = true then joinP (fun (jn497 : Bool → Prop) => (if s443.2.2 = (a1.terms.length : Int) then jn497 true else (if s443.2.1 < (a0.terms.length : Int) then ((0 ≤ s443.2.1 ∧ s443.2.1 < (a0.terms.length : Int)) ∧ ((0 ≤ s443.2.2 ∧ s443.2.2 < (a1.terms.length : Int)) ∧ f_spec_l01Before ((a0.terms.getD s443.2.1.toNat default).mono) ((a1.terms.getD s443.2.2.toNat default).mono) (fun r523 => jn497 r523))) else jn497 false))) (fun (x495 : Bool) => (if x495 = true then ((0 ≤ s443.2.1 ∧ s443.2.1 < (a0.terms.length : Int)) ∧ (Room (s443.1.length + 1) 16 ∧ next446 (s443.1 ++ [a0.terms.getD s443.2.1.toNat default], IntKind.i64.wrap (s443.2.1 + 1), s443.2.2))) else joinP (fun (jn566 : Bool → Prop) => (if s443.2.1 = (a0.terms.length : Int) then jn566 true else ((0 ≤ s443.2.2 ∧ s443.2.2 < (a1.terms.length : Int)) ∧ ((0 ≤ s443.2.1 ∧ s443.2.1 < (a0.terms.length : Int)) ∧ f_spec_l01Before ((a1.terms.getD s443.2.2.toNat default).mono) ((a0.terms.getD s443.2.1.toNat default).mono) (fun r588 => jn566 r588))))) (fun (x564 : Bool) => (if x564 = true then ((0 ≤ s443.2.2 ∧ s443.2.2 < (a1.terms.length : Int)) ∧ f_spec_l01Mod (IntKind.i64.wrap (a2 * ((a1.terms.getD s443.2.2.toNat default).factor))) (fun r600 => (if r600 ≠ 0 then ((0 ≤ s443.2.2 ∧ s443.2.2 < (a1.terms.length : Int)) ∧ (Room (s443.1.length + 1) 16 ∧ next446 (s443.1 ++ [(⟨(a1.terms.getD s443.2.2.toNat default).mono, r600⟩ : Term)], s443.2.1, IntKind.i64.wrap (s443.2.2 + 1)))) else next446 (s443.1, s443.2.1, IntKind.i64.wrap (s443.2.2 + 1))))) else ((0 ≤ s443.2.1 ∧ s443.2.1 < (a0.terms.length : Int)) ∧ ((0 ≤ s443.2.2 ∧ s443.2.2 < (a1.terms.length : Int)) ∧ f_spec_l01Mod (IntKind.i64.wrap (a2 * ((a1.terms.getD s443.2.2.toNat default).factor))) (fun r634 => f_spec_l01Mod (IntKind.i64.wrap (((a0.terms.getD s443.2.1.toNat default).factor) + r634)) (fun r639 => (if r639 ≠ 0 then ((0 ≤ s443.2.1 ∧ s443.2.1 < (a0.terms.length : Int)) ∧ (Room (s443.1.length + 1) 16 ∧ next446 (s443.1 ++ [(⟨(a0.terms.getD s443.2.1.toNat default).mono, r639⟩ : Term)], IntKind.i64.wrap (s443.2.1 + 1), IntKind.i64.wrap (s443.2.2 + 1)))) else next446 (s443.1, IntKind.i64.wrap (s443.2.1 + 1), IntKind.i64.wrap (s443.2.2 + 1))))))))))) else K (⟨s443.1⟩ : Vc.Form)))) ([], 0, 0)
theorem c_spec_l01Add (a0 : Vc.Form) (a1 : Vc.Form) (a2 : Int) {u0_0 : Value} {u1_0 : Value} {fp0 : List Nat} {fp1 : List Nat} {K : Vc.Form → Prop} (h : f_spec_l01Add a0 a1 a2 K) (w0 : World) (q0 : TForm.rep a0 [u0_0] fp0 w0) (q1 : TForm.rep a1 [u1_0] fp1 w0) :
  Calls Tryz.prog 124 #[.agg #[u0_0], .agg #[u1_0], .int .i64 a2] w0 fun e w' => ∃ (r0 : Vc.Form) (z0_0 : Value) (fz0 : List Nat), 
   e = .returned (.agg #[z0_0]) ∧ K r0 ∧ (Tr.item (TrForm 162) r0 [z0_0] fz0).holds w' ∧ (∀ b, b ∈ fz0 → w0.heap.size ≤ b) ∧ Bel w0 w' := by
 unfold f_spec_l01Add at h
 refine calls_of (args := [.agg #[u0_0], .agg #[u1_0], .int .i64 a2]) Tryz.func124 rfl 149 Tryz.ntmps124 (Nat.le_of_ble_eq_true rfl) ?_
 have hC := Ctx.start (X := Nox) w0 [Ty.item TForm a0 [u0_0] fp0, Ty.item TForm a1 [u1_0] fp1] (by simp only [List.mem_cons, List.not_mem_nil, or_false, forall_eq_or_imp, forall_eq]; exact ⟨q0, q1⟩)
 have hp3 := (hC.getP 0 rfl)
 replace hC := hC.derive 0 rfl (Ty.item ETerm.ty.sl a0.terms [u0_0] fp0) (fun _ => (form_parts hp3)) (fun _ hb_ => hb_)
 have hp5 := (hC.getP 2 rfl)
 replace hC := hC.derive 2 rfl (Ty.item ETerm.ty.sl a1.terms [u1_0] fp1) (fun _ => (form_parts hp5)) (fun _ hb_ => hb_)
 refine sr ?_
 refine s_box (v := .agg #[u0_0]) hC [u0_0] rfl rfl fun b7 w9 hB_ hC => ?_
 refine s_box (v := .agg #[u1_0]) hC [u1_0] rfl rfl fun b10 w12 hB_ hC => ?_
 refine s_alloc hC [.slice none 0 0] z55 rfl fun b13 w15 hB_ hC => ?_
 refine dn ?_
 refine sr ?_
 refine s_build [] rfl (bl55   _) ?_
 refine s_alloc hC [.slice none 0 0] z55 rfl fun b16 w18 hB_ hC => ?_
 refine s_store (v := .agg #[.slice none 0 0]) hC 0 [.slice none 0 0] [.slice none 0 0] rfl ag55.size rfl rfl rfl rfl rfl (Nat.le_of_ble_eq_true rfl) rfl fun w19 hC => ?_
 refine dn ?_
 refine sr ?_
 refine s_as (v := .int .i64 0) rfl ?_
 refine s_as (v := .int .i64 0) rfl ?_
 refine dn ?_
 refine wp_seq ?_
 refine wp_block ?_
 refine loopW (S := (List Term) × Int × Int) _ (fun s443 e_ w_ => ∃ (v444 : Value), Slots e_ [(2, .int .i64 a2), (3, .pointer (some ⟨b7, 0, none⟩)), (4, .pointer (some ⟨b10, 0, none⟩)), (6, .pointer (some ⟨b13, 0, none⟩)), (7, .pointer (some ⟨b16, 0, none⟩)), (8, .int .i64 s443.2.1), (9, .int .i64 s443.2.2)] ∧ Ctx Nox w0 w_ [own 162 9 v444 s443.1.length (ETerm.encs s443.1), blk b16 55 [v444], blk b13 55 [.slice none 0 0], blk b10 55 [u1_0], blk b7 55 [u0_0]] [Ty.item ETerm.ty.sl a1.terms [u1_0] fp1, Ty.item ETerm.ty.sl a0.terms [u0_0] fp0, Ty.item TForm a0 [u0_0] fp0, Ty.item TForm a1 [u1_0] fp1]) ?_ (s0 := ([], 0, 0)) ?_ h
 ·clear hC h
  rintro s443 e_ w449 next446 K447 ⟨v444, hS_, hC⟩ h hK448
  refine wp_seq ?_
  refine wp_seq ?_
  obtain ⟨jn458, hj459, h⟩ := joinP_elim h
  refine reg_join (fun e_ w_ => ∃ (x457 : Bool), Slots e_ [(2, .int .i64 a2), (3, .pointer (some ⟨b7, 0, none⟩)), (4, .pointer (some ⟨b10, 0, none⟩)), (6, .pointer (some ⟨b13, 0, none⟩)), (7, .pointer (some ⟨b16, 0, none⟩)), (8, .int .i64 s443.2.1), (9, .int .i64 s443.2.2), (24, .bool x457)] ∧ Ctx Nox w0 w_ [own 162 9 v444 s443.1.length (ETerm.encs s443.1), blk b16 55 [v444], blk b13 55 [.slice none 0 0], blk b10 55 [u1_0], blk b7 55 [u0_0]] [Ty.item ETerm.ty.sl a1.terms [u1_0] fp1, Ty.item ETerm.ty.sl a0.terms [u0_0] fp0, Ty.item TForm a0 [u0_0] fp0, Ty.item TForm a1 [u1_0] fp1] ∧ jn458 x457) ?_ ?_
  ·skip
   refine cw_region ?_
   refine s_mv (v := .int .i64 s443.2.1) (sx hS_ 5 rfl) ?_
   refine s_faddrB 0 Tryz.underlying55 rfl sc53.size (sx hS_ 1 rfl) rfl ?_
   refine s_loadS hC 4 (u0_0) rfl sc53 rfl rfl ?_
   obtain ⟨Ad460, c461, hv462⟩ := sl_len (hC.getP 1 rfl)
   refine s_len Tryz.underlying53 (tr rfl hv462) ?_
   refine s_lss rfl rfl ?_
   refine s_mv (v := .bool (decide (s443.2.1 < (a0.terms.length : Int)))) rfl ?_
   refine bsplit (decide (s443.2.1 < (a0.terms.length : Int))) (fun hb463 => ?_) (fun hb463 => ?_)
   ·replace h := ift h (ct hb463)
    refine guardOff (b := true) 5 18 rfl (tr rfl (congrArg _ hb463)) (by decide) ?_
    refine guardOff (b := true) 5 18 rfl (tr rfl (congrArg _ hb463)) (by decide) ?_
    refine guardOff (b := true) 5 18 rfl (tr rfl (congrArg _ hb463)) (by decide) ?_
    refine guardOff (b := true) 5 18 rfl (tr rfl (congrArg _ hb463)) (by decide) ?_
    refine guardOff (b := true) 5 18 rfl (tr rfl (congrArg _ hb463)) (by decide) ?_
    refine s_pick (v := .bool true) (b := true) (tr rfl (congrArg _ hb463)) rfl ?_
    refine done ?_
    exact ⟨rfl, _, rfl, true, (sk (sx hS_ 0 rfl) (sk (sx hS_ 1 rfl) (sk (sx hS_ 2 rfl) (sk (sx hS_ 3 rfl) (sk (sx hS_ 4 rfl) (sk (sx hS_ 5 rfl) (sk (sx hS_ 6 rfl) (sk rfl sn)))))))), hC, h⟩
   ·replace h := iff_ h (cf hb463)
    refine guardOn 5 18 rfl rfl hb463 ?_
    refine s_mv (v := .int .i64 s443.2.2) (sx hS_ 6 rfl) ?_
    refine guardOn 5 18 rfl rfl hb463 ?_
    refine s_faddrB 0 Tryz.underlying55 rfl sc53.size (sx hS_ 2 rfl) rfl ?_
    refine guardOn 5 18 rfl rfl hb463 ?_
    refine s_loadS hC 3 (u1_0) rfl sc53 rfl rfl ?_
    refine guardOn 5 18 rfl rfl hb463 ?_
    obtain ⟨Ad464, c465, hv466⟩ := sl_len (hC.getP 0 rfl)
    refine s_len Tryz.underlying53 (tr rfl hv466) ?_
    refine guardOn 5 18 rfl rfl hb463 ?_
    refine s_lss rfl rfl ?_
    refine s_pick (v := .bool (decide (s443.2.2 < (a1.terms.length : Int)))) (b := false) (tr rfl (congrArg _ hb463)) rfl ?_
    refine done ?_
    exact ⟨rfl, _, rfl, decide (s443.2.2 < (a1.terms.length : Int)), (sk (sx hS_ 0 rfl) (sk (sx hS_ 1 rfl) (sk (sx hS_ 2 rfl) (sk (sx hS_ 3 rfl) (sk (sx hS_ 4 rfl) (sk (sx hS_ 5 rfl) (sk (sx hS_ 6 rfl) (sk rfl sn)))))))), hC, h⟩
  ·clear hC h
   rintro e_ w467 ⟨x457, hS_, hC, h⟩
   replace h := hj459 _ h
   refine then_norm ?_
   refine cw_cond (sx hS_ 7 rfl) (fun hb468 => ?_) (fun hb468 => ?_)
   ·replace h := ift h (hb468)
    refine wp_skip ?_
    refine then_norm ?_
    refine wp_block ?_
    refine wp_block ?_
    refine wp_seq ?_
    obtain ⟨jn497, hj498, h⟩ := joinP_elim h
    refine reg_join (fun e_ w_ => ∃ (x495 : Bool), Slots e_ [(2, .int .i64 a2), (3, .pointer (some ⟨b7, 0, none⟩)), (4, .pointer (some ⟨b10, 0, none⟩)), (6, .pointer (some ⟨b13, 0, none⟩)), (7, .pointer (some ⟨b16, 0, none⟩)), (8, .int .i64 s443.2.1), (9, .int .i64 s443.2.2), (24, .bool x457), (61, .bool x495)] ∧ Ctx Nox w0 w_ [own 162 9 v444 s443.1.length (ETerm.encs s443.1), blk b16 55 [v444], blk b13 55 [.slice none 0 0], blk b10 55 [u1_0], blk b7 55 [u0_0]] [Ty.item ETerm.ty.sl a1.terms [u1_0] fp1, Ty.item ETerm.ty.sl a0.terms [u0_0] fp0, Ty.item TForm a0 [u0_0] fp0, Ty.item TForm a1 [u1_0] fp1] ∧ jn497 x495) ?_ ?_
    ·skip
     refine cw_draw 24 mixed [0, 0, 2, 6, 15, 31, 63, 63, 191, 447, 1023, 2047, 4095, 8191, 4095, 32767, 65535, 131071, 4095, 266239, 4095, 1839103, 3936255, 8130559, 16777215, 33554431, 67108863, 134217727] [2, 3, 8, 9, 13, 15, 17, 19, 21, 23] [0, 1, 4, 5, 6, 7, 8, 9, 10, 11, 12, 13, 14, 15, 16, 17, 18, 19, 20, 21, 22, 23] (by kernel_rfl) (by kernel_rfl) (by kernel_rfl) (fun hM500 hM501 w499 hB_ => ?_)
     replace hC := hC.grow hB_
     refine aF 0 (.int .i64 s443.2.2) rfl rfl (hM501 0 rfl) (rfl) (fun _ => by exact r_mv (v := .int .i64 s443.2.2) (sx hS_ 6 rfl)) (dbits 28 1) ?_
     refine aF 1 (.pointer (some ⟨b10, 0, none⟩)) rfl rfl (hM501 1 rfl) (rfl) (fun _ => by exact r_faddrB 0 Tryz.underlying55 rfl sc53.size (sx hS_ 2 rfl) rfl) (dbits 28 3) ?_
     refine aL 2 (u1_0) rfl rfl (hM500 2 rfl) (rfl) (fun _ hB_ => by exact r_loadS (hC.grow hB_) 3 (u1_0) rfl sc53 rfl rfl) (dbits 28 7) ?_
     obtain ⟨Ad502, c503, hv504⟩ := sl_len (hC.getP 0 rfl)
     refine aL 3 (.int .i64 (a1.terms.length : Int)) rfl rfl (hM500 3 rfl) (rfl) (fun _ hB_ => by exact r_len Tryz.underlying53 (by exact tr rfl hv504)) (dbits 28 15) ?_
     refine aF 4 (.bool (decide (s443.2.2 = (a1.terms.length : Int)))) rfl rfl (hM501 4 rfl) (rfl) (fun _ => by exact r_eql rfl rfl) (dbits 28 31) ?_
     refine aF 5 (.bool (decide (s443.2.2 = (a1.terms.length : Int)))) rfl rfl (hM501 5 rfl) (rfl) (fun _ => by exact r_mv (v := .bool (decide (s443.2.2 = (a1.terms.length : Int)))) rfl) (dbits 28 63) ?_
     refine bsplit (decide (s443.2.2 = (a1.terms.length : Int))) (fun hb505 => ?_) (fun hb505 => ?_)
     ·replace h := ift h (ct hb505)
      refine ae_lookF belPre 6 undef rfl rfl (by kernel_rfl) (hM501 6 rfl) (fun w_ => .inr ⟨wanted_off (b := true) 5 67 rfl (tr rfl (congrArg _ hb505)) (by decide), rfl⟩) (l9 := (dbits 28 127)) (by kernel_rfl) ?_
      refine ae_lookF belPre 7 undef rfl rfl (by kernel_rfl) (hM501 7 rfl) (fun w_ => .inr ⟨wanted_off (b := true) 5 67 rfl (tr rfl (congrArg _ hb505)) (by decide), rfl⟩) (l9 := (dbits 28 255)) (by kernel_rfl) ?_
      refine ae_lookF belPre 8 undef rfl rfl (by kernel_rfl) (hM501 8 rfl) (fun w_ => .inr ⟨wanted_off (b := true) 5 67 rfl (tr rfl (congrArg _ hb505)) (by decide), rfl⟩) (l9 := (dbits 28 511)) (by kernel_rfl) ?_
      refine ae_lookF belPre 9 undef rfl rfl (by kernel_rfl) (hM501 9 rfl) (fun w_ => .inr ⟨wanted_off (b := true) 5 67 rfl (tr rfl (congrArg _ hb505)) (by decide), rfl⟩) (l9 := (dbits 28 1023)) (by kernel_rfl) ?_
      refine ae_lookF belPre 10 undef rfl rfl (by kernel_rfl) (hM501 10 rfl) (fun w_ => .inr ⟨wanted_off (b := true) 5 67 rfl (tr rfl (congrArg _ hb505)) (by decide), rfl⟩) (l9 := (dbits 28 2047)) (by kernel_rfl) ?_
      refine ae_lookF belPre 11 undef rfl rfl (by kernel_rfl) (hM501 11 rfl) (fun w_ => .inr ⟨wanted_off (b := true) 5 67 rfl (tr rfl (congrArg _ hb505)) (by decide), rfl⟩) (l9 := (dbits 28 4095)) (by kernel_rfl) ?_
      refine ae_lookF belPre 12 undef rfl rfl (by kernel_rfl) (hM501 12 rfl) (fun w_ => .inr ⟨wanted_offU 11 73 rfl rfl, rfl⟩) (l9 := (dbits 28 8191)) (by kernel_rfl) ?_
      refine ae_lookF belPre 13 undef rfl rfl (by kernel_rfl) (hM501 13 rfl) (fun w_ => .inr ⟨wanted_offU 11 73 rfl rfl, rfl⟩) (l9 := (dbits 28 16383)) (by kernel_rfl) ?_
      refine ae_lookF belPre 14 undef rfl rfl (by kernel_rfl) (hM501 14 rfl) (fun w_ => .inr ⟨wanted_offU 11 73 rfl rfl, rfl⟩) (l9 := (dbits 28 32767)) (by kernel_rfl) ?_
      refine ae_lookF belPre 15 undef rfl rfl (by kernel_rfl) (hM501 15 rfl) (fun w_ => .inr ⟨wanted_offU 11 73 rfl rfl, rfl⟩) (l9 := (dbits 28 65535)) (by kernel_rfl) ?_
      refine ae_lookF belPre 16 undef rfl rfl (by kernel_rfl) (hM501 16 rfl) (fun w_ => .inr ⟨wanted_offU 11 73 rfl rfl, rfl⟩) (l9 := (dbits 28 131071)) (by kernel_rfl) ?_
      refine ae_lookF belPre 17 undef rfl rfl (by kernel_rfl) (hM501 17 rfl) (fun w_ => .inr ⟨wanted_offU 11 73 rfl rfl, rfl⟩) (l9 := (dbits 28 262143)) (by kernel_rfl) ?_
      refine ae_lookF belPre 18 undef rfl rfl (by kernel_rfl) (hM501 18 rfl) (fun w_ => .inr ⟨wanted_offU 11 73 rfl rfl, rfl⟩) (l9 := (dbits 28 524287)) (by kernel_rfl) ?_
      refine ae_lookF belPre 19 undef rfl rfl (by kernel_rfl) (hM501 19 rfl) (fun w_ => .inr ⟨wanted_offU 11 73 rfl rfl, rfl⟩) (l9 := (dbits 28 1048575)) (by kernel_rfl) ?_
      refine ae_lookF belPre 20 undef rfl rfl (by kernel_rfl) (hM501 20 rfl) (fun w_ => .inr ⟨wanted_offU 11 73 rfl rfl, rfl⟩) (l9 := (dbits 28 2097151)) (by kernel_rfl) ?_
      refine ae_lookF belPre 21 undef rfl rfl (by kernel_rfl) (hM501 21 rfl) (fun w_ => .inr ⟨wanted_offU 11 73 rfl rfl, rfl⟩) (l9 := (dbits 28 4194303)) (by kernel_rfl) ?_
      refine ae_lookF belPre 22 undef rfl rfl (by kernel_rfl) (hM501 22 rfl) (fun w_ => .inr ⟨wanted_offU 11 73 rfl rfl, rfl⟩) (l9 := (dbits 28 8388607)) (by kernel_rfl) ?_
      refine ae_lookF belPre 23 undef rfl rfl (by kernel_rfl) (hM501 23 rfl) (fun w_ => .inr ⟨wanted_offU 11 73 rfl rfl, rfl⟩) (l9 := (dbits 28 16777215)) (by kernel_rfl) ?_
      refine ae_tail 24 (by decide) (by decide) (by kernel_rfl) (by kernel_rfl) rfl ?_
      refine guardOffU 11 73 rfl rfl ?_
      refine guardOff (b := true) 5 67 rfl (tr rfl (congrArg _ hb505)) (by decide) ?_
      refine s_pick (v := .bool true) (b := true) (tr rfl (congrArg _ hb505)) rfl ?_
      refine s_as (v := .bool true) rfl ?_
      refine done ?_
      refine qn_norm ?_
      exact ⟨rfl, _, rfl, true, (sk (sx hS_ 0 rfl) (sk (sx hS_ 1 rfl) (sk (sx hS_ 2 rfl) (sk (sx hS_ 3 rfl) (sk (sx hS_ 4 rfl) (sk (sx hS_ 5 rfl) (sk (sx hS_ 6 rfl) (sk (sx hS_ 7 rfl) (sk rfl sn))))))))), hC, h⟩
     ·replace h := iff_ h (cf hb505)
      refine aF 6 (.int .i64 s443.2.1) rfl rfl (hM501 6 rfl) (wanted_on 5 67 rfl rfl hb505) (fun _ => by exact r_mv (v := .int .i64 s443.2.1) (sx hS_ 5 rfl)) (dbits 28 127) ?_
      refine aF 7 (.pointer (some ⟨b7, 0, none⟩)) rfl rfl (hM501 7 rfl) (wanted_on 5 67 rfl rfl hb505) (fun _ => by exact r_faddrB 0 Tryz.underlying55 rfl sc53.size (sx hS_ 1 rfl) rfl) (dbits 28 255) ?_
      refine aL 8 (u0_0) rfl rfl (hM500 8 rfl) (wanted_on 5 67 rfl rfl hb505) (fun _ hB_ => by exact r_loadS (hC.grow hB_) 4 (u0_0) rfl sc53 rfl rfl) (dbits 28 511) ?_
      obtain ⟨Ad506, c507, hv508⟩ := sl_len (hC.getP 1 rfl)
      refine aL 9 (.int .i64 (a0.terms.length : Int)) rfl rfl (hM500 9 rfl) (wanted_on 5 67 rfl rfl hb505) (fun _ hB_ => by exact r_len Tryz.underlying53 (by exact tr rfl hv508)) (dbits 28 1023) ?_
      refine aF 10 (.bool (decide (s443.2.1 < (a0.terms.length : Int)))) rfl rfl (hM501 10 rfl) (wanted_on 5 67 rfl rfl hb505) (fun _ => by exact r_lss rfl rfl) (dbits 28 2047) ?_
      refine aF 11 (.bool (decide (s443.2.1 < (a0.terms.length : Int)))) rfl rfl (hM501 11 rfl) (wanted_on 5 67 rfl rfl hb505) (fun _ => by exact r_mv (v := .bool (decide (s443.2.1 < (a0.terms.length : Int)))) rfl) (dbits 28 4095) ?_
      refine bsplit (decide (s443.2.1 < (a0.terms.length : Int))) (fun hb509 => ?_) (fun hb509 => ?_)
      ·replace h := ift h (ct hb509)
       refine aF 12 (.pointer (some ⟨b7, 0, none⟩)) rfl rfl (hM501 12 rfl) (wanted_on 11 73 rfl rfl hb509) (fun _ => by exact r_faddrB 0 Tryz.underlying55 rfl sc53.size (sx hS_ 1 rfl) rfl) (dbits 28 8191) ?_
       refine aL 13 (u0_0) rfl rfl (hM500 13 rfl) (wanted_on 11 73 rfl rfl hb509) (fun _ hB_ => by exact r_loadS (hC.grow hB_) 4 (u0_0) rfl sc53 rfl rfl) (dbits 28 16383) ?_
       refine aF 14 (.int .i64 s443.2.1) rfl rfl (hM501 14 rfl) (wanted_on 11 73 rfl rfl hb509) (fun _ => by exact r_mv (v := .int .i64 s443.2.1) (sx hS_ 5 rfl)) (dbits 28 32767) ?_
       obtain ⟨⟨h0_510, h1_511⟩, h⟩ := h
       obtain ⟨Ad512, c513, hv514⟩ := sl_form (hC.getP 1 rfl) s443.2.1.toNat (show s443.2.1.toNat < a0.terms.length by omega)
       refine aL 15 (.pointer (some (Ad512.add (s443.2.1.toNat * 9)))) rfl rfl (hM500 15 rfl) (wanted_on 11 73 rfl rfl hb509) (fun _ hB_ => by exact r_iaddrS (len := a0.terms.length) Tryz.underlying53 ag162.size (by exact tr rfl hv514) rfl h0_510 h1_511) (dbits 28 65535) ?_
       refine aF 16 (.pointer (some (Ad512.add (s443.2.1.toNat * 9 + 0)))) rfl rfl (hM501 16 rfl) (wanted_on 11 73 rfl rfl hb509) (fun _ => by exact r_faddrS (s443.2.1.toNat * 9 + 0) Tryz.underlying162 rfl ag136.size rfl rfl) (dbits 28 131071) ?_
       refine aL 17 (.agg (List.toArray (A8.enc .u8 ((a0.terms.getD s443.2.1.toNat default).mono)))) rfl rfl (hM500 17 rfl) (wanted_on 11 73 rfl rfl hb509) (fun _ hB_ => by exact r_loadCA (A8.enc .u8 ((a0.terms.getD s443.2.1.toNat default).mono)) (cells_subS (o := 0) (k := 8) (sl_cellsE ((hC.grow hB_).getP 1 rfl) hv514 s443.2.1.toNat (show s443.2.1.toNat < a0.terms.length by omega)) rfl) ag136 rfl rfl) (dbits 28 262143) ?_
       refine aF 18 (.pointer (some ⟨b10, 0, none⟩)) rfl rfl (hM501 18 rfl) (wanted_on 11 73 rfl rfl hb509) (fun _ => by exact r_faddrB 0 Tryz.underlying55 rfl sc53.size (sx hS_ 2 rfl) rfl) (dbits 28 524287) ?_
       refine aL 19 (u1_0) rfl rfl (hM500 19 rfl) (wanted_on 11 73 rfl rfl hb509) (fun _ hB_ => by exact r_loadS (hC.grow hB_) 3 (u1_0) rfl sc53 rfl rfl) (dbits 28 1048575) ?_
       refine aF 20 (.int .i64 s443.2.2) rfl rfl (hM501 20 rfl) (wanted_on 11 73 rfl rfl hb509) (fun _ => by exact r_mv (v := .int .i64 s443.2.2) (sx hS_ 6 rfl)) (dbits 28 2097151) ?_
       obtain ⟨⟨h0_515, h1_516⟩, h⟩ := h
       obtain ⟨Ad517, c518, hv519⟩ := sl_form (hC.getP 0 rfl) s443.2.2.toNat (show s443.2.2.toNat < a1.terms.length by omega)
       refine aL 21 (.pointer (some (Ad517.add (s443.2.2.toNat * 9)))) rfl rfl (hM500 21 rfl) (wanted_on 11 73 rfl rfl hb509) (fun _ hB_ => by exact r_iaddrS (len := a1.terms.length) Tryz.underlying53 ag162.size (by exact tr rfl hv519) rfl h0_515 h1_516) (dbits 28 4194303) ?_
       refine aF 22 (.pointer (some (Ad517.add (s443.2.2.toNat * 9 + 0)))) rfl rfl (hM501 22 rfl) (wanted_on 11 73 rfl rfl hb509) (fun _ => by exact r_faddrS (s443.2.2.toNat * 9 + 0) Tryz.underlying162 rfl ag136.size rfl rfl) (dbits 28 8388607) ?_
       refine aL 23 (.agg (List.toArray (A8.enc .u8 ((a1.terms.getD s443.2.2.toNat default).mono)))) rfl rfl (hM500 23 rfl) (wanted_on 11 73 rfl rfl hb509) (fun _ hB_ => by exact r_loadCA (A8.enc .u8 ((a1.terms.getD s443.2.2.toNat default).mono)) (cells_subS (o := 0) (k := 8) (sl_cellsE ((hC.grow hB_).getP 0 rfl) hv519 s443.2.2.toNat (show s443.2.2.toNat < a1.terms.length by omega)) rfl) ag136 rfl rfl) (dbits 28 16777215) ?_
       refine ae_tail 24 (by decide) (by decide) (by kernel_rfl) (by kernel_rfl) rfl ?_
       refine guardOn 11 73 rfl rfl hb509 ?_
       refine s_call [.agg (List.toArray (A8.enc .u8 ((a0.terms.getD s443.2.1.toNat default).mono))), .agg (List.toArray (A8.enc .u8 ((a1.terms.getD s443.2.2.toNat default).mono)))] _ Tryz.func174 rfl rfl rfl (c_spec_l01Before ((a0.terms.getD s443.2.1.toNat default).mono) ((a1.terms.getD s443.2.2.toNat default).mono) h _) (fun ret520 w522 hR521 => ?_)
       obtain ⟨r523, rfl, h, hB524⟩ := hR521
       refine ⟨_, rfl, ?_⟩
       replace hC := hC.grow hB524
       refine guardOn 5 67 rfl rfl hb505 ?_
       refine s_pick (v := .bool r523) (b := true) (tr rfl (congrArg _ hb509)) rfl ?_
       refine s_pick (v := .bool r523) (b := false) (tr rfl (congrArg _ hb505)) rfl ?_
       refine s_as (v := .bool r523) rfl ?_
       refine done ?_
       refine qn_norm ?_
       exact ⟨rfl, _, rfl, r523, (sk (sx hS_ 0 rfl) (sk (sx hS_ 1 rfl) (sk (sx hS_ 2 rfl) (sk (sx hS_ 3 rfl) (sk (sx hS_ 4 rfl) (sk (sx hS_ 5 rfl) (sk (sx hS_ 6 rfl) (sk (sx hS_ 7 rfl) (sk rfl sn))))))))), hC, h⟩
      ·replace h := iff_ h (cf hb509)
       refine ae_lookF belPre 12 undef rfl rfl (by kernel_rfl) (hM501 12 rfl) (fun w_ => .inr ⟨wanted_off (b := false) 11 73 rfl (tr rfl (congrArg _ hb509)) (by decide), rfl⟩) (l9 := (dbits 28 8191)) (by kernel_rfl) ?_
       refine ae_lookF belPre 13 undef rfl rfl (by kernel_rfl) (hM501 13 rfl) (fun w_ => .inr ⟨wanted_off (b := false) 11 73 rfl (tr rfl (congrArg _ hb509)) (by decide), rfl⟩) (l9 := (dbits 28 16383)) (by kernel_rfl) ?_
       refine ae_lookF belPre 14 undef rfl rfl (by kernel_rfl) (hM501 14 rfl) (fun w_ => .inr ⟨wanted_off (b := false) 11 73 rfl (tr rfl (congrArg _ hb509)) (by decide), rfl⟩) (l9 := (dbits 28 32767)) (by kernel_rfl) ?_
       refine ae_lookF belPre 15 undef rfl rfl (by kernel_rfl) (hM501 15 rfl) (fun w_ => .inr ⟨wanted_off (b := false) 11 73 rfl (tr rfl (congrArg _ hb509)) (by decide), rfl⟩) (l9 := (dbits 28 65535)) (by kernel_rfl) ?_
       refine ae_lookF belPre 16 undef rfl rfl (by kernel_rfl) (hM501 16 rfl) (fun w_ => .inr ⟨wanted_off (b := false) 11 73 rfl (tr rfl (congrArg _ hb509)) (by decide), rfl⟩) (l9 := (dbits 28 131071)) (by kernel_rfl) ?_
       refine ae_lookF belPre 17 undef rfl rfl (by kernel_rfl) (hM501 17 rfl) (fun w_ => .inr ⟨wanted_off (b := false) 11 73 rfl (tr rfl (congrArg _ hb509)) (by decide), rfl⟩) (l9 := (dbits 28 262143)) (by kernel_rfl) ?_
       refine ae_lookF belPre 18 undef rfl rfl (by kernel_rfl) (hM501 18 rfl) (fun w_ => .inr ⟨wanted_off (b := false) 11 73 rfl (tr rfl (congrArg _ hb509)) (by decide), rfl⟩) (l9 := (dbits 28 524287)) (by kernel_rfl) ?_
       refine ae_lookF belPre 19 undef rfl rfl (by kernel_rfl) (hM501 19 rfl) (fun w_ => .inr ⟨wanted_off (b := false) 11 73 rfl (tr rfl (congrArg _ hb509)) (by decide), rfl⟩) (l9 := (dbits 28 1048575)) (by kernel_rfl) ?_
       refine ae_lookF belPre 20 undef rfl rfl (by kernel_rfl) (hM501 20 rfl) (fun w_ => .inr ⟨wanted_off (b := false) 11 73 rfl (tr rfl (congrArg _ hb509)) (by decide), rfl⟩) (l9 := (dbits 28 2097151)) (by kernel_rfl) ?_
       refine ae_lookF belPre 21 undef rfl rfl (by kernel_rfl) (hM501 21 rfl) (fun w_ => .inr ⟨wanted_off (b := false) 11 73 rfl (tr rfl (congrArg _ hb509)) (by decide), rfl⟩) (l9 := (dbits 28 4194303)) (by kernel_rfl) ?_
       refine ae_lookF belPre 22 undef rfl rfl (by kernel_rfl) (hM501 22 rfl) (fun w_ => .inr ⟨wanted_off (b := false) 11 73 rfl (tr rfl (congrArg _ hb509)) (by decide), rfl⟩) (l9 := (dbits 28 8388607)) (by kernel_rfl) ?_
       refine ae_lookF belPre 23 undef rfl rfl (by kernel_rfl) (hM501 23 rfl) (fun w_ => .inr ⟨wanted_off (b := false) 11 73 rfl (tr rfl (congrArg _ hb509)) (by decide), rfl⟩) (l9 := (dbits 28 16777215)) (by kernel_rfl) ?_
       refine ae_tail 24 (by decide) (by decide) (by kernel_rfl) (by kernel_rfl) rfl ?_
       refine guardOff (b := false) 11 73 rfl (tr rfl (congrArg _ hb509)) (by decide) ?_
       refine guardOn 5 67 rfl rfl hb505 ?_
       refine s_pick (v := .bool false) (b := false) (tr rfl (congrArg _ hb509)) rfl ?_
       refine s_pick (v := .bool false) (b := false) (tr rfl (congrArg _ hb505)) rfl ?_
       refine s_as (v := .bool false) rfl ?_
       refine done ?_
       refine qn_norm ?_
       exact ⟨rfl, _, rfl, false, (sk (sx hS_ 0 rfl) (sk (sx hS_ 1 rfl) (sk (sx hS_ 2 rfl) (sk (sx hS_ 3 rfl) (sk (sx hS_ 4 rfl) (sk (sx hS_ 5 rfl) (sk (sx hS_ 6 rfl) (sk (sx hS_ 7 rfl) (sk rfl sn))))))))), hC, h⟩
    ·clear hC h
     rintro e_ w525 ⟨x495, hS_, hC, h⟩
     replace h := hj498 _ h
     refine then_norm ?_
     refine cw_cond (sx hS_ 8 rfl) (fun hb526 => ?_) (fun hb526 => ?_)
     ·replace h := ift h (hb526)
      refine wp_seq ?_
      refine cw_draw 8 mixed [0, 1, 0, 4, 0, 28, 60, 124, 255, 511, 1023] [1, 3, 5, 6] [0, 2, 4] (by kernel_rfl) (by kernel_rfl) (by kernel_rfl) (fun hM528 hM529 w527 hB_ => ?_)
      replace hC := hC.grow hB_
      refine aF 0 (.pointer (some ⟨b16, 0, none⟩)) rfl rfl (hM529 0 rfl) (rfl) (fun _ => by exact r_faddrB 0 Tryz.underlying55 rfl sc53.size (sx hS_ 4 rfl) rfl) (dbits 11 1) ?_
      refine aL 1 (v444) rfl rfl (hM528 1 rfl) (rfl) (fun _ hB_ => by exact r_loadS (hC.grow hB_) 1 (v444) rfl sc53 rfl rfl) (dbits 11 3) ?_
      refine aF 2 (.pointer (some ⟨b7, 0, none⟩)) rfl rfl (hM529 2 rfl) (rfl) (fun _ => by exact r_faddrB 0 Tryz.underlying55 rfl sc53.size (sx hS_ 1 rfl) rfl) (dbits 11 7) ?_
      refine aL 3 (u0_0) rfl rfl (hM528 3 rfl) (rfl) (fun _ hB_ => by exact r_loadS (hC.grow hB_) 4 (u0_0) rfl sc53 rfl rfl) (dbits 11 15) ?_
      refine aF 4 (.int .i64 s443.2.1) rfl rfl (hM529 4 rfl) (rfl) (fun _ => by exact r_mv (v := .int .i64 s443.2.1) (sx hS_ 5 rfl)) (dbits 11 31) ?_
      obtain ⟨⟨h0_530, h1_531⟩, h⟩ := h
      obtain ⟨Ad532, c533, hv534⟩ := sl_form (hC.getP 1 rfl) s443.2.1.toNat (show s443.2.1.toNat < a0.terms.length by omega)
      refine aL 5 (.pointer (some (Ad532.add (s443.2.1.toNat * 9)))) rfl rfl (hM528 5 rfl) (rfl) (fun _ hB_ => by exact r_iaddrS (len := a0.terms.length) Tryz.underlying53 ag162.size (by exact tr rfl hv534) rfl h0_530 h1_531) (dbits 11 63) ?_
      refine aL 6 (.agg (List.toArray (Term.enc (a0.terms.getD s443.2.1.toNat default)))) rfl rfl (hM528 6 rfl) (rfl) (fun _ hB_ => by exact r_loadCA (Term.enc (a0.terms.getD s443.2.1.toNat default)) (sl_cellsE ((hC.grow hB_).getP 1 rfl) hv534 s443.2.1.toNat (show s443.2.1.toNat < a0.terms.length by omega)) ag162 rfl rfl) (dbits 11 127) ?_
      refine aO 7 rfl ?_
      refine s_bslice (sz := 9) hC [(0, .agg (List.toArray (Term.enc (a0.terms.getD s443.2.1.toNat default))))] (ETerm.encs [a0.terms.getD s443.2.1.toNat default]) rfl (fun _ => bs53_1 (a0.terms.getD s443.2.1.toNat default) _) rfl (by decide) fun b535 w536 hB_ hC => ?_
      refine done ?_
      refine aK (by assumption) (dbits 11 255) ?_
      refine ae_tail 8 (by decide) (by decide) (by kernel_rfl) (by kernel_rfl) rfl ?_
      obtain ⟨hm540, h⟩ := h
      refine s_app hC 1 Tryz.underlying53 el162 rfl (by decide) (by decide) rfl (own_rdr (hC.getM 0 rfl)) (fun q hq => Enc.encs_one' (E := ETerm) _ q hq) rfl rfl hm540 fun v538 w539 hC => ?_
      replace hC := own_re hC 1 ((s443.1 ++ [a0.terms.getD s443.2.1.toNat default]).length) (ETerm.encs (s443.1 ++ [a0.terms.getD s443.2.1.toNat default])) rfl (by simp) (by first | (simp [Enc.encs_append]; done) | simp [Enc.encs_append, Enc.encs])
      refine s_faddrB 0 Tryz.underlying55 rfl sc53.size (sx hS_ 4 rfl) rfl ?_
      refine s_store (v := v538) hC 2 [v538] [v538] rfl sc53.size rfl rfl (own_cellsV (hC.getM 1 rfl)) rfl (all_c (own_oneC (hC.getM 1 rfl)) rfl) (Nat.le_of_ble_eq_true rfl) rfl fun w541 hC => ?_
      refine done ?_
      refine qn_norm ?_
      refine then_norm ?_
      refine cw_region ?_
      refine s_mv (v := .int .i64 s443.2.1) (sx hS_ 5 rfl) ?_
      refine s_add rfl rfl ?_
      refine s_as (v := .int .i64 (IntKind.i64.wrap (s443.2.1 + 1))) rfl ?_
      refine done ?_
      refine blk_norm ?_
      refine blk_norm ?_
      replace hC := hC.sM [1, 2, 3, 4, 5] (M' := [own 162 9 v538 ((s443.1 ++ [a0.terms.getD s443.2.1.toNat default]).length) (ETerm.encs (s443.1 ++ [a0.terms.getD s443.2.1.toNat default])), blk b16 55 [v538], blk b13 55 [.slice none 0 0], blk b10 55 [u1_0], blk b7 55 [u0_0]]) (by decide) rfl
      exact hK448 (s443.1 ++ [a0.terms.getD s443.2.1.toNat default], IntKind.i64.wrap (s443.2.1 + 1), s443.2.2) _ _ ⟨v538, (sk (sx hS_ 0 rfl) (sk (sx hS_ 1 rfl) (sk (sx hS_ 2 rfl) (sk (sx hS_ 3 rfl) (sk (sx hS_ 4 rfl) (sk rfl (sk (sx hS_ 6 rfl) sn))))))), hC⟩ h
     ·replace h := iff_ h (ne_t hb526)
      refine wp_seq ?_
      obtain ⟨jn566, hj567, h⟩ := joinP_elim h
      refine reg_join (fun e_ w_ => ∃ (x564 : Bool), Slots e_ [(2, .int .i64 a2), (3, .pointer (some ⟨b7, 0, none⟩)), (4, .pointer (some ⟨b10, 0, none⟩)), (6, .pointer (some ⟨b13, 0, none⟩)), (7, .pointer (some ⟨b16, 0, none⟩)), (8, .int .i64 s443.2.1), (9, .int .i64 s443.2.2), (24, .bool x457), (61, .bool x495), (101, .bool x564)] ∧ Ctx Nox w0 w_ [own 162 9 v444 s443.1.length (ETerm.encs s443.1), blk b16 55 [v444], blk b13 55 [.slice none 0 0], blk b10 55 [u1_0], blk b7 55 [u0_0]] [Ty.item ETerm.ty.sl a1.terms [u1_0] fp1, Ty.item ETerm.ty.sl a0.terms [u0_0] fp0, Ty.item TForm a0 [u0_0] fp0, Ty.item TForm a1 [u1_0] fp1] ∧ jn566 x564) ?_ ?_
      ·skip
       refine cw_draw 18 mixed [0, 0, 2, 6, 15, 31, 63, 127, 63, 511, 1023, 2047, 63, 4159, 63, 28735, 61503, 127039, 262143, 524287, 1048575] [2, 3, 7, 9, 11, 13, 15, 17] [0, 1, 4, 5, 6, 7, 8, 9, 10, 11, 12, 13, 14, 15, 16, 17] (by kernel_rfl) (by kernel_rfl) (by kernel_rfl) (fun hM569 hM570 w568 hB_ => ?_)
       replace hC := hC.grow hB_
       refine aF 0 (.int .i64 s443.2.1) rfl rfl (hM570 0 rfl) (rfl) (fun _ => by exact r_mv (v := .int .i64 s443.2.1) (sx hS_ 5 rfl)) (dbits 21 1) ?_
       refine aF 1 (.pointer (some ⟨b7, 0, none⟩)) rfl rfl (hM570 1 rfl) (rfl) (fun _ => by exact r_faddrB 0 Tryz.underlying55 rfl sc53.size (sx hS_ 1 rfl) rfl) (dbits 21 3) ?_
       refine aL 2 (u0_0) rfl rfl (hM569 2 rfl) (rfl) (fun _ hB_ => by exact r_loadS (hC.grow hB_) 4 (u0_0) rfl sc53 rfl rfl) (dbits 21 7) ?_
       obtain ⟨Ad571, c572, hv573⟩ := sl_len (hC.getP 1 rfl)
       refine aL 3 (.int .i64 (a0.terms.length : Int)) rfl rfl (hM569 3 rfl) (rfl) (fun _ hB_ => by exact r_len Tryz.underlying53 (by exact tr rfl hv573)) (dbits 21 15) ?_
       refine aF 4 (.bool (decide (s443.2.1 = (a0.terms.length : Int)))) rfl rfl (hM570 4 rfl) (rfl) (fun _ => by exact r_eql rfl rfl) (dbits 21 31) ?_
       refine aF 5 (.bool (decide (s443.2.1 = (a0.terms.length : Int)))) rfl rfl (hM570 5 rfl) (rfl) (fun _ => by exact r_mv (v := .bool (decide (s443.2.1 = (a0.terms.length : Int)))) rfl) (dbits 21 63) ?_
       refine bsplit (decide (s443.2.1 = (a0.terms.length : Int))) (fun hb574 => ?_) (fun hb574 => ?_)
       ·replace h := ift h (ct hb574)
        refine ae_lookF belPre 6 undef rfl rfl (by kernel_rfl) (hM570 6 rfl) (fun w_ => .inr ⟨wanted_off (b := true) 5 107 rfl (tr rfl (congrArg _ hb574)) (by decide), rfl⟩) (l9 := (dbits 21 127)) (by kernel_rfl) ?_
        refine ae_lookF belPre 7 undef rfl rfl (by kernel_rfl) (hM570 7 rfl) (fun w_ => .inr ⟨wanted_off (b := true) 5 107 rfl (tr rfl (congrArg _ hb574)) (by decide), rfl⟩) (l9 := (dbits 21 255)) (by kernel_rfl) ?_
        refine ae_lookF belPre 8 undef rfl rfl (by kernel_rfl) (hM570 8 rfl) (fun w_ => .inr ⟨wanted_off (b := true) 5 107 rfl (tr rfl (congrArg _ hb574)) (by decide), rfl⟩) (l9 := (dbits 21 511)) (by kernel_rfl) ?_
        refine ae_lookF belPre 9 undef rfl rfl (by kernel_rfl) (hM570 9 rfl) (fun w_ => .inr ⟨wanted_off (b := true) 5 107 rfl (tr rfl (congrArg _ hb574)) (by decide), rfl⟩) (l9 := (dbits 21 1023)) (by kernel_rfl) ?_
        refine ae_lookF belPre 10 undef rfl rfl (by kernel_rfl) (hM570 10 rfl) (fun w_ => .inr ⟨wanted_off (b := true) 5 107 rfl (tr rfl (congrArg _ hb574)) (by decide), rfl⟩) (l9 := (dbits 21 2047)) (by kernel_rfl) ?_
        refine ae_lookF belPre 11 undef rfl rfl (by kernel_rfl) (hM570 11 rfl) (fun w_ => .inr ⟨wanted_off (b := true) 5 107 rfl (tr rfl (congrArg _ hb574)) (by decide), rfl⟩) (l9 := (dbits 21 4095)) (by kernel_rfl) ?_
        refine ae_lookF belPre 12 undef rfl rfl (by kernel_rfl) (hM570 12 rfl) (fun w_ => .inr ⟨wanted_off (b := true) 5 107 rfl (tr rfl (congrArg _ hb574)) (by decide), rfl⟩) (l9 := (dbits 21 8191)) (by kernel_rfl) ?_
        refine ae_lookF belPre 13 undef rfl rfl (by kernel_rfl) (hM570 13 rfl) (fun w_ => .inr ⟨wanted_off (b := true) 5 107 rfl (tr rfl (congrArg _ hb574)) (by decide), rfl⟩) (l9 := (dbits 21 16383)) (by kernel_rfl) ?_
        refine ae_lookF belPre 14 undef rfl rfl (by kernel_rfl) (hM570 14 rfl) (fun w_ => .inr ⟨wanted_off (b := true) 5 107 rfl (tr rfl (congrArg _ hb574)) (by decide), rfl⟩) (l9 := (dbits 21 32767)) (by kernel_rfl) ?_
        refine ae_lookF belPre 15 undef rfl rfl (by kernel_rfl) (hM570 15 rfl) (fun w_ => .inr ⟨wanted_off (b := true) 5 107 rfl (tr rfl (congrArg _ hb574)) (by decide), rfl⟩) (l9 := (dbits 21 65535)) (by kernel_rfl) ?_
        refine ae_lookF belPre 16 undef rfl rfl (by kernel_rfl) (hM570 16 rfl) (fun w_ => .inr ⟨wanted_off (b := true) 5 107 rfl (tr rfl (congrArg _ hb574)) (by decide), rfl⟩) (l9 := (dbits 21 131071)) (by kernel_rfl) ?_
        refine ae_lookF belPre 17 undef rfl rfl (by kernel_rfl) (hM570 17 rfl) (fun w_ => .inr ⟨wanted_off (b := true) 5 107 rfl (tr rfl (congrArg _ hb574)) (by decide), rfl⟩) (l9 := (dbits 21 262143)) (by kernel_rfl) ?_
        refine ae_tail 18 (by decide) (by decide) (by kernel_rfl) (by kernel_rfl) rfl ?_
        refine guardOff (b := true) 5 107 rfl (tr rfl (congrArg _ hb574)) (by decide) ?_
        refine s_pick (v := .bool true) (b := true) (tr rfl (congrArg _ hb574)) rfl ?_
        refine s_as (v := .bool true) rfl ?_
        refine done ?_
        refine qn_norm ?_
        exact ⟨rfl, _, rfl, true, (sk (sx hS_ 0 rfl) (sk (sx hS_ 1 rfl) (sk (sx hS_ 2 rfl) (sk (sx hS_ 3 rfl) (sk (sx hS_ 4 rfl) (sk (sx hS_ 5 rfl) (sk (sx hS_ 6 rfl) (sk (sx hS_ 7 rfl) (sk (sx hS_ 8 rfl) (sk rfl sn)))))))))), hC, h⟩
       ·replace h := iff_ h (cf hb574)
        refine aF 6 (.pointer (some ⟨b10, 0, none⟩)) rfl rfl (hM570 6 rfl) (wanted_on 5 107 rfl rfl hb574) (fun _ => by exact r_faddrB 0 Tryz.underlying55 rfl sc53.size (sx hS_ 2 rfl) rfl) (dbits 21 127) ?_
        refine aL 7 (u1_0) rfl rfl (hM569 7 rfl) (wanted_on 5 107 rfl rfl hb574) (fun _ hB_ => by exact r_loadS (hC.grow hB_) 3 (u1_0) rfl sc53 rfl rfl) (dbits 21 255) ?_
        refine aF 8 (.int .i64 s443.2.2) rfl rfl (hM570 8 rfl) (wanted_on 5 107 rfl rfl hb574) (fun _ => by exact r_mv (v := .int .i64 s443.2.2) (sx hS_ 6 rfl)) (dbits 21 511) ?_
        obtain ⟨⟨h0_575, h1_576⟩, h⟩ := h
        obtain ⟨Ad577, c578, hv579⟩ := sl_form (hC.getP 0 rfl) s443.2.2.toNat (show s443.2.2.toNat < a1.terms.length by omega)
        refine aL 9 (.pointer (some (Ad577.add (s443.2.2.toNat * 9)))) rfl rfl (hM569 9 rfl) (wanted_on 5 107 rfl rfl hb574) (fun _ hB_ => by exact r_iaddrS (len := a1.terms.length) Tryz.underlying53 ag162.size (by exact tr rfl hv579) rfl h0_575 h1_576) (dbits 21 1023) ?_
        refine aF 10 (.pointer (some (Ad577.add (s443.2.2.toNat * 9 + 0)))) rfl rfl (hM570 10 rfl) (wanted_on 5 107 rfl rfl hb574) (fun _ => by exact r_faddrS (s443.2.2.toNat * 9 + 0) Tryz.underlying162 rfl ag136.size rfl rfl) (dbits 21 2047) ?_
        refine aL 11 (.agg (List.toArray (A8.enc .u8 ((a1.terms.getD s443.2.2.toNat default).mono)))) rfl rfl (hM569 11 rfl) (wanted_on 5 107 rfl rfl hb574) (fun _ hB_ => by exact r_loadCA (A8.enc .u8 ((a1.terms.getD s443.2.2.toNat default).mono)) (cells_subS (o := 0) (k := 8) (sl_cellsE ((hC.grow hB_).getP 0 rfl) hv579 s443.2.2.toNat (show s443.2.2.toNat < a1.terms.length by omega)) rfl) ag136 rfl rfl) (dbits 21 4095) ?_
        refine aF 12 (.pointer (some ⟨b7, 0, none⟩)) rfl rfl (hM570 12 rfl) (wanted_on 5 107 rfl rfl hb574) (fun _ => by exact r_faddrB 0 Tryz.underlying55 rfl sc53.size (sx hS_ 1 rfl) rfl) (dbits 21 8191) ?_
        refine aL 13 (u0_0) rfl rfl (hM569 13 rfl) (wanted_on 5 107 rfl rfl hb574) (fun _ hB_ => by exact r_loadS (hC.grow hB_) 4 (u0_0) rfl sc53 rfl rfl) (dbits 21 16383) ?_
        refine aF 14 (.int .i64 s443.2.1) rfl rfl (hM570 14 rfl) (wanted_on 5 107 rfl rfl hb574) (fun _ => by exact r_mv (v := .int .i64 s443.2.1) (sx hS_ 5 rfl)) (dbits 21 32767) ?_
        obtain ⟨⟨h0_580, h1_581⟩, h⟩ := h
        obtain ⟨Ad582, c583, hv584⟩ := sl_form (hC.getP 1 rfl) s443.2.1.toNat (show s443.2.1.toNat < a0.terms.length by omega)
        refine aL 15 (.pointer (some (Ad582.add (s443.2.1.toNat * 9)))) rfl rfl (hM569 15 rfl) (wanted_on 5 107 rfl rfl hb574) (fun _ hB_ => by exact r_iaddrS (len := a0.terms.length) Tryz.underlying53 ag162.size (by exact tr rfl hv584) rfl h0_580 h1_581) (dbits 21 65535) ?_
        refine aF 16 (.pointer (some (Ad582.add (s443.2.1.toNat * 9 + 0)))) rfl rfl (hM570 16 rfl) (wanted_on 5 107 rfl rfl hb574) (fun _ => by exact r_faddrS (s443.2.1.toNat * 9 + 0) Tryz.underlying162 rfl ag136.size rfl rfl) (dbits 21 131071) ?_
        refine aL 17 (.agg (List.toArray (A8.enc .u8 ((a0.terms.getD s443.2.1.toNat default).mono)))) rfl rfl (hM569 17 rfl) (wanted_on 5 107 rfl rfl hb574) (fun _ hB_ => by exact r_loadCA (A8.enc .u8 ((a0.terms.getD s443.2.1.toNat default).mono)) (cells_subS (o := 0) (k := 8) (sl_cellsE ((hC.grow hB_).getP 1 rfl) hv584 s443.2.1.toNat (show s443.2.1.toNat < a0.terms.length by omega)) rfl) ag136 rfl rfl) (dbits 21 262143) ?_
        refine ae_tail 18 (by decide) (by decide) (by kernel_rfl) (by kernel_rfl) rfl ?_
        refine guardOn 5 107 rfl rfl hb574 ?_
        refine s_call [.agg (List.toArray (A8.enc .u8 ((a1.terms.getD s443.2.2.toNat default).mono))), .agg (List.toArray (A8.enc .u8 ((a0.terms.getD s443.2.1.toNat default).mono)))] _ Tryz.func174 rfl rfl rfl (c_spec_l01Before ((a1.terms.getD s443.2.2.toNat default).mono) ((a0.terms.getD s443.2.1.toNat default).mono) h _) (fun ret585 w587 hR586 => ?_)
        obtain ⟨r588, rfl, h, hB589⟩ := hR586
        refine ⟨_, rfl, ?_⟩
        replace hC := hC.grow hB589
        refine s_pick (v := .bool r588) (b := false) (tr rfl (congrArg _ hb574)) rfl ?_
        refine s_as (v := .bool r588) rfl ?_
        refine done ?_
        refine qn_norm ?_
        exact ⟨rfl, _, rfl, r588, (sk (sx hS_ 0 rfl) (sk (sx hS_ 1 rfl) (sk (sx hS_ 2 rfl) (sk (sx hS_ 3 rfl) (sk (sx hS_ 4 rfl) (sk (sx hS_ 5 rfl) (sk (sx hS_ 6 rfl) (sk (sx hS_ 7 rfl) (sk (sx hS_ 8 rfl) (sk rfl sn)))))))))), hC, h⟩
      ·clear hC h
       rintro e_ w590 ⟨x564, hS_, hC, h⟩
       replace h := hj567 _ h
       refine then_norm ?_
       refine cw_cond (sx hS_ 9 rfl) (fun hb591 => ?_) (fun hb591 => ?_)
       ·replace h := ift h (hb591)
        refine wp_seq ?_
        refine sr ?_
        refine s_mv (v := .int .i64 a2) (sx hS_ 0 rfl) ?_
        refine s_faddrB 0 Tryz.underlying55 rfl sc53.size (sx hS_ 2 rfl) rfl ?_
        refine s_loadS hC 3 (u1_0) rfl sc53 rfl rfl ?_
        refine s_mv (v := .int .i64 s443.2.2) (sx hS_ 6 rfl) ?_
        obtain ⟨⟨h0_592, h1_593⟩, h⟩ := h
        obtain ⟨Ad594, c595, hv596⟩ := sl_form (hC.getP 0 rfl) s443.2.2.toNat (show s443.2.2.toNat < a1.terms.length by omega)
        refine s_iaddrS (len := a1.terms.length) Tryz.underlying53 ag162.size (tr rfl hv596) rfl h0_592 h1_593 ?_
        refine s_faddrS (s443.2.2.toNat * 9 + 8) Tryz.underlying162 rfl sc2.size rfl rfl ?_
        refine s_loadCS (.int .i64 ((a1.terms.getD s443.2.2.toNat default).factor)) (cells_subS (o := 8) (k := 1) (sl_cellsE (hC.getP 0 rfl) hv596 s443.2.2.toNat (show s443.2.2.toNat < a1.terms.length by omega)) rfl) sc2 rfl ?_
        refine s_mul rfl rfl ?_
        refine s_call [.int .i64 (IntKind.i64.wrap (a2 * ((a1.terms.getD s443.2.2.toNat default).factor)))] _ Tryz.func125 rfl rfl rfl (c_spec_l01Mod (IntKind.i64.wrap (a2 * ((a1.terms.getD s443.2.2.toNat default).factor))) h _) (fun ret597 w599 hR598 => ?_)
        obtain ⟨r600, rfl, h, hB601⟩ := hR598
        refine ⟨_, rfl, ?_⟩
        replace hC := hC.grow hB601
        refine s_as (v := .int .i64 r600) rfl ?_
        refine dn ?_
        refine sr ?_
        refine s_mv (v := .int .i64 r600) rfl ?_
        refine s_neq rfl rfl ?_
        refine dn ?_
        refine cw_cond rfl (fun hb602 => ?_) (fun hb602 => ?_)
        ·replace h := ift h (ct hb602)
         refine cw_draw 11 mixed [0, 1, 0, 4, 0, 28, 60, 124, 0, 508, 1020, 2047, 4095, 8191] [1, 3, 5, 7, 9] [0, 2, 4, 6, 8] (by kernel_rfl) (by kernel_rfl) (by kernel_rfl) (fun hM604 hM605 w603 hB_ => ?_)
         replace hC := hC.grow hB_
         refine aF 0 (.pointer (some ⟨b16, 0, none⟩)) rfl rfl (hM605 0 rfl) (rfl) (fun _ => by exact r_faddrB 0 Tryz.underlying55 rfl sc53.size (sx hS_ 4 rfl) rfl) (dbits 14 1) ?_
         refine aL 1 (v444) rfl rfl (hM604 1 rfl) (rfl) (fun _ hB_ => by exact r_loadS (hC.grow hB_) 1 (v444) rfl sc53 rfl rfl) (dbits 14 3) ?_
         refine aF 2 (.pointer (some ⟨b10, 0, none⟩)) rfl rfl (hM605 2 rfl) (rfl) (fun _ => by exact r_faddrB 0 Tryz.underlying55 rfl sc53.size (sx hS_ 2 rfl) rfl) (dbits 14 7) ?_
         refine aL 3 (u1_0) rfl rfl (hM604 3 rfl) (rfl) (fun _ hB_ => by exact r_loadS (hC.grow hB_) 3 (u1_0) rfl sc53 rfl rfl) (dbits 14 15) ?_
         refine aF 4 (.int .i64 s443.2.2) rfl rfl (hM605 4 rfl) (rfl) (fun _ => by exact r_mv (v := .int .i64 s443.2.2) (sx hS_ 6 rfl)) (dbits 14 31) ?_
         obtain ⟨⟨h0_606, h1_607⟩, h⟩ := h
         obtain ⟨Ad608, c609, hv610⟩ := sl_form (hC.getP 0 rfl) s443.2.2.toNat (show s443.2.2.toNat < a1.terms.length by omega)
         refine aL 5 (.pointer (some (Ad608.add (s443.2.2.toNat * 9)))) rfl rfl (hM604 5 rfl) (rfl) (fun _ hB_ => by exact r_iaddrS (len := a1.terms.length) Tryz.underlying53 ag162.size (by exact tr rfl hv610) rfl h0_606 h1_607) (dbits 14 63) ?_
         refine aF 6 (.pointer (some (Ad608.add (s443.2.2.toNat * 9 + 0)))) rfl rfl (hM605 6 rfl) (rfl) (fun _ => by exact r_faddrS (s443.2.2.toNat * 9 + 0) Tryz.underlying162 rfl ag136.size rfl rfl) (dbits 14 127) ?_
         refine aL 7 (.agg (List.toArray (A8.enc .u8 ((a1.terms.getD s443.2.2.toNat default).mono)))) rfl rfl (hM604 7 rfl) (rfl) (fun _ hB_ => by exact r_loadCA (A8.enc .u8 ((a1.terms.getD s443.2.2.toNat default).mono)) (cells_subS (o := 0) (k := 8) (sl_cellsE ((hC.grow hB_).getP 0 rfl) hv610 s443.2.2.toNat (show s443.2.2.toNat < a1.terms.length by omega)) rfl) ag136 rfl rfl) (dbits 14 255) ?_
         refine aF 8 (.int .i64 r600) rfl rfl (hM605 8 rfl) (rfl) (fun _ => by exact r_mv (v := .int .i64 r600) rfl) (dbits 14 511) ?_
         refine aL 9 (.agg (List.toArray (Term.enc (⟨(a1.terms.getD s443.2.2.toNat default).mono, r600⟩ : Term)))) rfl rfl (hM604 9 rfl) (rfl) (fun _ hB_ => by exact r_build [(0, .agg (List.toArray (A8.enc .u8 ((a1.terms.getD s443.2.2.toNat default).mono)))), (1, .int .i64 r600)] rfl (bl162_0flat_1int ((a1.terms.getD s443.2.2.toNat default).mono) r600  _)) (dbits 14 1023) ?_
         refine aO 10 rfl ?_
         refine s_bslice (sz := 9) hC [(0, .agg (List.toArray (Term.enc (⟨(a1.terms.getD s443.2.2.toNat default).mono, r600⟩ : Term))))] (ETerm.encs [(⟨(a1.terms.getD s443.2.2.toNat default).mono, r600⟩ : Term)]) rfl (fun _ => bs53_1 (⟨(a1.terms.getD s443.2.2.toNat default).mono, r600⟩ : Term) _) rfl (by decide) fun b611 w612 hB_ hC => ?_
         refine done ?_
         refine aK (by assumption) (dbits 14 2047) ?_
         refine ae_tail 11 (by decide) (by decide) (by kernel_rfl) (by kernel_rfl) rfl ?_
         obtain ⟨hm616, h⟩ := h
         refine s_app hC 1 Tryz.underlying53 el162 rfl (by decide) (by decide) rfl (own_rdr (hC.getM 0 rfl)) (fun q hq => Enc.encs_one' (E := ETerm) _ q hq) rfl rfl hm616 fun v614 w615 hC => ?_
         replace hC := own_re hC 1 ((s443.1 ++ [(⟨(a1.terms.getD s443.2.2.toNat default).mono, r600⟩ : Term)]).length) (ETerm.encs (s443.1 ++ [(⟨(a1.terms.getD s443.2.2.toNat default).mono, r600⟩ : Term)])) rfl (by simp) (by first | (simp [Enc.encs_append]; done) | simp [Enc.encs_append, Enc.encs])
         refine s_faddrB 0 Tryz.underlying55 rfl sc53.size (sx hS_ 4 rfl) rfl ?_
         refine s_store (v := v614) hC 2 [v614] [v614] rfl sc53.size rfl rfl (own_cellsV (hC.getM 1 rfl)) rfl (all_c (own_oneC (hC.getM 1 rfl)) rfl) (Nat.le_of_ble_eq_true rfl) rfl fun w617 hC => ?_
         refine done ?_
         refine qn_norm ?_
         refine then_norm ?_
         refine cw_region ?_
         refine s_mv (v := .int .i64 s443.2.2) (sx hS_ 6 rfl) ?_
         refine s_add rfl rfl ?_
         refine s_as (v := .int .i64 (IntKind.i64.wrap (s443.2.2 + 1))) rfl ?_
         refine done ?_
         refine blk_norm ?_
         refine blk_norm ?_
         replace hC := hC.sM [1, 2, 3, 4, 5] (M' := [own 162 9 v614 ((s443.1 ++ [(⟨(a1.terms.getD s443.2.2.toNat default).mono, r600⟩ : Term)]).length) (ETerm.encs (s443.1 ++ [(⟨(a1.terms.getD s443.2.2.toNat default).mono, r600⟩ : Term)])), blk b16 55 [v614], blk b13 55 [.slice none 0 0], blk b10 55 [u1_0], blk b7 55 [u0_0]]) (by decide) rfl
         exact hK448 (s443.1 ++ [(⟨(a1.terms.getD s443.2.2.toNat default).mono, r600⟩ : Term)], s443.2.1, IntKind.i64.wrap (s443.2.2 + 1)) _ _ ⟨v614, (sk (sx hS_ 0 rfl) (sk (sx hS_ 1 rfl) (sk (sx hS_ 2 rfl) (sk (sx hS_ 3 rfl) (sk (sx hS_ 4 rfl) (sk (sx hS_ 5 rfl) (sk rfl sn))))))), hC⟩ h
        ·replace h := iff_ h (cf hb602)
         refine wp_skip ?_
         refine then_norm ?_
         refine cw_region ?_
         refine s_mv (v := .int .i64 s443.2.2) (sx hS_ 6 rfl) ?_
         refine s_add rfl rfl ?_
         refine s_as (v := .int .i64 (IntKind.i64.wrap (s443.2.2 + 1))) rfl ?_
         refine done ?_
         refine blk_norm ?_
         refine blk_norm ?_
         exact hK448 (s443.1, s443.2.1, IntKind.i64.wrap (s443.2.2 + 1)) _ _ ⟨v444, (sk (sx hS_ 0 rfl) (sk (sx hS_ 1 rfl) (sk (sx hS_ 2 rfl) (sk (sx hS_ 3 rfl) (sk (sx hS_ 4 rfl) (sk (sx hS_ 5 rfl) (sk rfl sn))))))), hC⟩ h
       ·replace h := iff_ h (ne_t hb591)
        refine wp_seq ?_
        refine wp_seq ?_
        refine cw_draw 15 mixed [0, 1, 0, 7, 15, 31, 0, 0, 128, 0, 896, 1920, 3968, 8128, 16320, 32767, 65535, 131071] [1, 3, 5, 8, 10, 12] [0, 2, 4, 6, 7, 9, 11, 13] (by kernel_rfl) (by kernel_rfl) (by kernel_rfl) (fun hM619 hM620 w618 hB_ => ?_)
        replace hC := hC.grow hB_
        refine aF 0 (.pointer (some ⟨b7, 0, none⟩)) rfl rfl (hM620 0 rfl) (rfl) (fun _ => by exact r_faddrB 0 Tryz.underlying55 rfl sc53.size (sx hS_ 1 rfl) rfl) (dbits 18 1) ?_
        refine aL 1 (u0_0) rfl rfl (hM619 1 rfl) (rfl) (fun _ hB_ => by exact r_loadS (hC.grow hB_) 4 (u0_0) rfl sc53 rfl rfl) (dbits 18 3) ?_
        refine aF 2 (.int .i64 s443.2.1) rfl rfl (hM620 2 rfl) (rfl) (fun _ => by exact r_mv (v := .int .i64 s443.2.1) (sx hS_ 5 rfl)) (dbits 18 7) ?_
        obtain ⟨⟨h0_621, h1_622⟩, h⟩ := h
        obtain ⟨Ad623, c624, hv625⟩ := sl_form (hC.getP 1 rfl) s443.2.1.toNat (show s443.2.1.toNat < a0.terms.length by omega)
        refine aL 3 (.pointer (some (Ad623.add (s443.2.1.toNat * 9)))) rfl rfl (hM619 3 rfl) (rfl) (fun _ hB_ => by exact r_iaddrS (len := a0.terms.length) Tryz.underlying53 ag162.size (by exact tr rfl hv625) rfl h0_621 h1_622) (dbits 18 15) ?_
        refine aF 4 (.pointer (some (Ad623.add (s443.2.1.toNat * 9 + 8)))) rfl rfl (hM620 4 rfl) (rfl) (fun _ => by exact r_faddrS (s443.2.1.toNat * 9 + 8) Tryz.underlying162 rfl sc2.size rfl rfl) (dbits 18 31) ?_
        refine aL 5 (.int .i64 ((a0.terms.getD s443.2.1.toNat default).factor)) rfl rfl (hM619 5 rfl) (rfl) (fun _ hB_ => by exact r_loadCS (.int .i64 ((a0.terms.getD s443.2.1.toNat default).factor)) (cells_subS (o := 8) (k := 1) (sl_cellsE ((hC.grow hB_).getP 1 rfl) hv625 s443.2.1.toNat (show s443.2.1.toNat < a0.terms.length by omega)) rfl) sc2 rfl) (dbits 18 63) ?_
        refine aF 6 (.int .i64 a2) rfl rfl (hM620 6 rfl) (rfl) (fun _ => by exact r_mv (v := .int .i64 a2) (sx hS_ 0 rfl)) (dbits 18 127) ?_
        refine aF 7 (.pointer (some ⟨b10, 0, none⟩)) rfl rfl (hM620 7 rfl) (rfl) (fun _ => by exact r_faddrB 0 Tryz.underlying55 rfl sc53.size (sx hS_ 2 rfl) rfl) (dbits 18 255) ?_
        refine aL 8 (u1_0) rfl rfl (hM619 8 rfl) (rfl) (fun _ hB_ => by exact r_loadS (hC.grow hB_) 3 (u1_0) rfl sc53 rfl rfl) (dbits 18 511) ?_
        refine aF 9 (.int .i64 s443.2.2) rfl rfl (hM620 9 rfl) (rfl) (fun _ => by exact r_mv (v := .int .i64 s443.2.2) (sx hS_ 6 rfl)) (dbits 18 1023) ?_
        obtain ⟨⟨h0_626, h1_627⟩, h⟩ := h
        obtain ⟨Ad628, c629, hv630⟩ := sl_form (hC.getP 0 rfl) s443.2.2.toNat (show s443.2.2.toNat < a1.terms.length by omega)
        refine aL 10 (.pointer (some (Ad628.add (s443.2.2.toNat * 9)))) rfl rfl (hM619 10 rfl) (rfl) (fun _ hB_ => by exact r_iaddrS (len := a1.terms.length) Tryz.underlying53 ag162.size (by exact tr rfl hv630) rfl h0_626 h1_627) (dbits 18 2047) ?_
        refine aF 11 (.pointer (some (Ad628.add (s443.2.2.toNat * 9 + 8)))) rfl rfl (hM620 11 rfl) (rfl) (fun _ => by exact r_faddrS (s443.2.2.toNat * 9 + 8) Tryz.underlying162 rfl sc2.size rfl rfl) (dbits 18 4095) ?_
        refine aL 12 (.int .i64 ((a1.terms.getD s443.2.2.toNat default).factor)) rfl rfl (hM619 12 rfl) (rfl) (fun _ hB_ => by exact r_loadCS (.int .i64 ((a1.terms.getD s443.2.2.toNat default).factor)) (cells_subS (o := 8) (k := 1) (sl_cellsE ((hC.grow hB_).getP 0 rfl) hv630 s443.2.2.toNat (show s443.2.2.toNat < a1.terms.length by omega)) rfl) sc2 rfl) (dbits 18 8191) ?_
        refine aF 13 (.int .i64 (IntKind.i64.wrap (a2 * ((a1.terms.getD s443.2.2.toNat default).factor)))) rfl rfl (hM620 13 rfl) (rfl) (fun _ => by exact r_mul rfl rfl) (dbits 18 16383) ?_
        refine aO 14 rfl ?_
        refine s_call [.int .i64 (IntKind.i64.wrap (a2 * ((a1.terms.getD s443.2.2.toNat default).factor)))] _ Tryz.func125 rfl rfl rfl (c_spec_l01Mod (IntKind.i64.wrap (a2 * ((a1.terms.getD s443.2.2.toNat default).factor))) h _) (fun ret631 w633 hR632 => ?_)
        obtain ⟨r634, rfl, h, hB635⟩ := hR632
        refine ⟨_, rfl, ?_⟩
        replace hC := hC.grow hB635
        refine done ?_
        refine aK (by assumption) (dbits 18 32767) ?_
        refine ae_tail 15 (by decide) (by decide) (by kernel_rfl) (by kernel_rfl) rfl ?_
        refine s_add rfl rfl ?_
        refine s_call [.int .i64 (IntKind.i64.wrap (((a0.terms.getD s443.2.1.toNat default).factor) + r634))] _ Tryz.func125 rfl rfl rfl (c_spec_l01Mod (IntKind.i64.wrap (((a0.terms.getD s443.2.1.toNat default).factor) + r634)) h _) (fun ret636 w638 hR637 => ?_)
        obtain ⟨r639, rfl, h, hB640⟩ := hR637
        refine ⟨_, rfl, ?_⟩
        replace hC := hC.grow hB640
        refine s_as (v := .int .i64 r639) rfl ?_
        refine done ?_
        refine qn_norm ?_
        refine then_norm ?_
        refine sr ?_
        refine s_mv (v := .int .i64 r639) rfl ?_
        refine s_neq rfl rfl ?_
        refine dn ?_
        refine cw_cond rfl (fun hb641 => ?_) (fun hb641 => ?_)
        ·replace h := ift h (ct hb641)
         refine cw_draw 11 mixed [0, 1, 0, 4, 0, 28, 60, 124, 0, 508, 1020, 2047, 4095, 8191] [1, 3, 5, 7, 9] [0, 2, 4, 6, 8] (by kernel_rfl) (by kernel_rfl) (by kernel_rfl) (fun hM643 hM644 w642 hB_ => ?_)
         replace hC := hC.grow hB_
         refine aF 0 (.pointer (some ⟨b16, 0, none⟩)) rfl rfl (hM644 0 rfl) (rfl) (fun _ => by exact r_faddrB 0 Tryz.underlying55 rfl sc53.size (sx hS_ 4 rfl) rfl) (dbits 14 1) ?_
         refine aL 1 (v444) rfl rfl (hM643 1 rfl) (rfl) (fun _ hB_ => by exact r_loadS (hC.grow hB_) 1 (v444) rfl sc53 rfl rfl) (dbits 14 3) ?_
         refine aF 2 (.pointer (some ⟨b7, 0, none⟩)) rfl rfl (hM644 2 rfl) (rfl) (fun _ => by exact r_faddrB 0 Tryz.underlying55 rfl sc53.size (sx hS_ 1 rfl) rfl) (dbits 14 7) ?_
         refine aL 3 (u0_0) rfl rfl (hM643 3 rfl) (rfl) (fun _ hB_ => by exact r_loadS (hC.grow hB_) 4 (u0_0) rfl sc53 rfl rfl) (dbits 14 15) ?_
         refine aF 4 (.int .i64 s443.2.1) rfl rfl (hM644 4 rfl) (rfl) (fun _ => by exact r_mv (v := .int .i64 s443.2.1) (sx hS_ 5 rfl)) (dbits 14 31) ?_
         obtain ⟨⟨h0_645, h1_646⟩, h⟩ := h
         obtain ⟨Ad647, c648, hv649⟩ := sl_form (hC.getP 1 rfl) s443.2.1.toNat (show s443.2.1.toNat < a0.terms.length by omega)
         refine aL 5 (.pointer (some (Ad647.add (s443.2.1.toNat * 9)))) rfl rfl (hM643 5 rfl) (rfl) (fun _ hB_ => by exact r_iaddrS (len := a0.terms.length) Tryz.underlying53 ag162.size (by exact tr rfl hv649) rfl h0_645 h1_646) (dbits 14 63) ?_
         refine aF 6 (.pointer (some (Ad647.add (s443.2.1.toNat * 9 + 0)))) rfl rfl (hM644 6 rfl) (rfl) (fun _ => by exact r_faddrS (s443.2.1.toNat * 9 + 0) Tryz.underlying162 rfl ag136.size rfl rfl) (dbits 14 127) ?_
         refine aL 7 (.agg (List.toArray (A8.enc .u8 ((a0.terms.getD s443.2.1.toNat default).mono)))) rfl rfl (hM643 7 rfl) (rfl) (fun _ hB_ => by exact r_loadCA (A8.enc .u8 ((a0.terms.getD s443.2.1.toNat default).mono)) (cells_subS (o := 0) (k := 8) (sl_cellsE ((hC.grow hB_).getP 1 rfl) hv649 s443.2.1.toNat (show s443.2.1.toNat < a0.terms.length by omega)) rfl) ag136 rfl rfl) (dbits 14 255) ?_
         refine aF 8 (.int .i64 r639) rfl rfl (hM644 8 rfl) (rfl) (fun _ => by exact r_mv (v := .int .i64 r639) rfl) (dbits 14 511) ?_
         refine aL 9 (.agg (List.toArray (Term.enc (⟨(a0.terms.getD s443.2.1.toNat default).mono, r639⟩ : Term)))) rfl rfl (hM643 9 rfl) (rfl) (fun _ hB_ => by exact r_build [(0, .agg (List.toArray (A8.enc .u8 ((a0.terms.getD s443.2.1.toNat default).mono)))), (1, .int .i64 r639)] rfl (bl162_0flat_1int ((a0.terms.getD s443.2.1.toNat default).mono) r639  _)) (dbits 14 1023) ?_
         refine aO 10 rfl ?_
         refine s_bslice (sz := 9) hC [(0, .agg (List.toArray (Term.enc (⟨(a0.terms.getD s443.2.1.toNat default).mono, r639⟩ : Term))))] (ETerm.encs [(⟨(a0.terms.getD s443.2.1.toNat default).mono, r639⟩ : Term)]) rfl (fun _ => bs53_1 (⟨(a0.terms.getD s443.2.1.toNat default).mono, r639⟩ : Term) _) rfl (by decide) fun b650 w651 hB_ hC => ?_
         refine done ?_
         refine aK (by assumption) (dbits 14 2047) ?_
         refine ae_tail 11 (by decide) (by decide) (by kernel_rfl) (by kernel_rfl) rfl ?_
         obtain ⟨hm655, h⟩ := h
         refine s_app hC 1 Tryz.underlying53 el162 rfl (by decide) (by decide) rfl (own_rdr (hC.getM 0 rfl)) (fun q hq => Enc.encs_one' (E := ETerm) _ q hq) rfl rfl hm655 fun v653 w654 hC => ?_
         replace hC := own_re hC 1 ((s443.1 ++ [(⟨(a0.terms.getD s443.2.1.toNat default).mono, r639⟩ : Term)]).length) (ETerm.encs (s443.1 ++ [(⟨(a0.terms.getD s443.2.1.toNat default).mono, r639⟩ : Term)])) rfl (by simp) (by first | (simp [Enc.encs_append]; done) | simp [Enc.encs_append, Enc.encs])
         refine s_faddrB 0 Tryz.underlying55 rfl sc53.size (sx hS_ 4 rfl) rfl ?_
         refine s_store (v := v653) hC 2 [v653] [v653] rfl sc53.size rfl rfl (own_cellsV (hC.getM 1 rfl)) rfl (all_c (own_oneC (hC.getM 1 rfl)) rfl) (Nat.le_of_ble_eq_true rfl) rfl fun w656 hC => ?_
         refine done ?_
         refine qn_norm ?_
         refine then_norm ?_
         refine sr ?_
         refine s_mv (v := .int .i64 s443.2.1) (sx hS_ 5 rfl) ?_
         refine s_add rfl rfl ?_
         refine s_as (v := .int .i64 (IntKind.i64.wrap (s443.2.1 + 1))) rfl ?_
         refine dn ?_
         refine cw_region ?_
         refine s_mv (v := .int .i64 s443.2.2) (sx hS_ 6 rfl) ?_
         refine s_add rfl rfl ?_
         refine s_as (v := .int .i64 (IntKind.i64.wrap (s443.2.2 + 1))) rfl ?_
         refine done ?_
         refine blk_norm ?_
         refine blk_norm ?_
         replace hC := hC.sM [1, 2, 3, 4, 5] (M' := [own 162 9 v653 ((s443.1 ++ [(⟨(a0.terms.getD s443.2.1.toNat default).mono, r639⟩ : Term)]).length) (ETerm.encs (s443.1 ++ [(⟨(a0.terms.getD s443.2.1.toNat default).mono, r639⟩ : Term)])), blk b16 55 [v653], blk b13 55 [.slice none 0 0], blk b10 55 [u1_0], blk b7 55 [u0_0]]) (by decide) rfl
         exact hK448 (s443.1 ++ [(⟨(a0.terms.getD s443.2.1.toNat default).mono, r639⟩ : Term)], IntKind.i64.wrap (s443.2.1 + 1), IntKind.i64.wrap (s443.2.2 + 1)) _ _ ⟨v653, (sk (sx hS_ 0 rfl) (sk (sx hS_ 1 rfl) (sk (sx hS_ 2 rfl) (sk (sx hS_ 3 rfl) (sk (sx hS_ 4 rfl) (sk rfl (sk rfl sn))))))), hC⟩ h
        ·replace h := iff_ h (cf hb641)
         refine wp_skip ?_
         refine then_norm ?_
         refine sr ?_
         refine s_mv (v := .int .i64 s443.2.1) (sx hS_ 5 rfl) ?_
         refine s_add rfl rfl ?_
         refine s_as (v := .int .i64 (IntKind.i64.wrap (s443.2.1 + 1))) rfl ?_
         refine dn ?_
         refine cw_region ?_
         refine s_mv (v := .int .i64 s443.2.2) (sx hS_ 6 rfl) ?_
         refine s_add rfl rfl ?_
         refine s_as (v := .int .i64 (IntKind.i64.wrap (s443.2.2 + 1))) rfl ?_
         refine done ?_
         refine blk_norm ?_
         refine blk_norm ?_
         exact hK448 (s443.1, IntKind.i64.wrap (s443.2.1 + 1), IntKind.i64.wrap (s443.2.2 + 1)) _ _ ⟨v444, (sk (sx hS_ 0 rfl) (sk (sx hS_ 1 rfl) (sk (sx hS_ 2 rfl) (sk (sx hS_ 3 rfl) (sk (sx hS_ 4 rfl) (sk rfl (sk rfl sn))))))), hC⟩ h
   ·replace h := iff_ h (ne_t hb468)
    refine wp_exit (then_exit (then_exit (exit_in ?_)))
    refine then_norm ?_
    refine sr ?_
    refine s_loadA hC 1 [v444] rfl ag55 (sx hS_ 4 rfl) rfl rfl ?_
    refine s_store (v := .agg #[v444]) hC 2 [v444] [v444] rfl ag55.size (sx hS_ 3 rfl) rfl rfl rfl (all_c (own_oneC (hC.getM 0 rfl)) rfl) (Nat.le_of_ble_eq_true rfl) rfl fun w657 hC => ?_
    refine dn ?_
    refine wp_ret ?_
    refine ret1 (fn := Tryz.f124) rfl ?_ ⟨(⟨s443.1⟩ : Vc.Form), v444, (Option.toList (Value.ownBlock v444)), rfl, h, (form_join (own_item (hC.getM 0 rfl))), (own_fresh hC 0 rfl), hC.below⟩ (.inl rfl)
    exact res_cellA hC 2 rfl ag55 (sx hS_ 3 rfl) rfl
 ·skip
  replace hC := hC.pushNil 162 9
  exact ⟨.slice none 0 0, (sk rfl (sk rfl (sk rfl (sk rfl (sk rfl (sk rfl (sk rfl sn))))))), hC⟩
def f_spec_l01Joined (a0 : List Int) (a1 : A8) (a2 : A8) (K : A8 → Int → Prop) : Prop :=
 forN (fun i178 (s179 : A8 × Int) next181 => ((0 ≤ (i178 : Int) ∧ (i178 : Int) < 8) ∧ ((0 ≤ (i178 : Int) ∧ (i178 : Int) < 8) ∧ ((0 ≤ (i178 : Int) ∧ (i178 : Int) < 8) ∧ (if Int.tmod (a0.getD i178 default) 2 = 0 then next181 (s179.1.set i178 (IntKind.u8.wrap ((a1.get i178) + (a2.get i178))), s179.2) else ((0 ≤ (i178 : Int) ∧ (i178 : Int) < 8) ∧ (if (s179.1.set i178 (IntKind.u8.wrap ((a1.get i178) + (a2.get i178)))).get i178 > 1 then K A8.zero 0 else whileP (fun (s241 : Int × Int) next242 => (if s241.1 < (a0.length : Int) then ((0 ≤ (i178 : Int) ∧ (i178 : Int) < 8) ∧ (if a2.get i178 = 1 then ((0 ≤ s241.1 ∧ s241.1 < (a0.length : Int)) ∧ (if Int.tmod (a0.getD s241.1.toNat default) 2 ≠ 0 then ((0 ≤ s241.1 ∧ s241.1 < 8) ∧ (if a1.get s241.1.toNat = 1 then next242 (IntKind.i64.wrap (s241.1 + 1), IntKind.i64.wrap (0 - s241.2)) else next242 (IntKind.i64.wrap (s241.1 + 1), s241.2))) else next242 (IntKind.i64.wrap (s241.1 + 1), s241.2))) else next181 (s179.1.set i178 (IntKind.u8.wrap ((a1.get i178) + (a2.get i178))), s241.2))) else next181 (s179.1.set i178 (IntKind.u8.wrap ((a1.get i178) + (a2.get i178))), s241.2))) (IntKind.i64.wrap ((i178 : Int) + 1), s179.2)))))))) (fun (s179 : A8 × Int) => K s179.1 s179.2) a0.length 0 (A8.zero, 1)
theorem c_spec_l01Joined (a0 : List Int) (a1 : A8) (a2 : A8) {u0_0 : Value} {fp0 : List Nat} {K : A8 → Int → Prop} (h : f_spec_l01Joined a0 a1 a2 K) (w0 : World) (q0 : ((EI .i64).ty.sl).rep a0 [u0_0] fp0 w0) :
  Calls Tryz.prog 196 #[u0_0, .agg (List.toArray (A8.enc .u8 a1)), .agg (List.toArray (A8.enc .u8 a2))] w0 fun e w' => ∃ (r0 : A8) (r1 : Int), 
   e = .returned (.tuple #[.agg (List.toArray (A8.enc .u8 r0)), .int .i64 r1]) ∧ K r0 r1 ∧ Bel w0 w' := by
 unfold f_spec_l01Joined at h
 refine calls_of (args := [u0_0, .agg (List.toArray (A8.enc .u8 a1)), .agg (List.toArray (A8.enc .u8 a2))]) Tryz.func196 rfl 69 Tryz.ntmps196 (Nat.le_of_ble_eq_true rfl) ?_
 have hC := Ctx.start (X := Nox) w0 [Ty.item ((EI .i64).ty.sl) a0 [u0_0] fp0] (by simp only [List.mem_cons, List.not_mem_nil, or_false, forall_eq_or_imp, forall_eq]; exact q0)
 refine sr ?_
 refine s_box (v := .agg (List.toArray (A8.enc .u8 a1))) hC (A8.enc .u8 a1) rfl rfl fun b2 w4 hB_ hC => ?_
 refine s_box (v := .agg (List.toArray (A8.enc .u8 a2))) hC (A8.enc .u8 a2) rfl rfl fun b5 w7 hB_ hC => ?_
 refine s_alloc hC (A8.enc .u8 A8.zero) z136 rfl fun b8 w10 hB_ hC => ?_
 refine s_as (v := .int .i64 0) rfl ?_
 refine dn ?_
 refine sr ?_
 refine s_build [] rfl (bl136   _) ?_
 refine s_alloc hC (A8.enc .u8 A8.zero) z136 rfl fun b11 w13 hB_ hC => ?_
 refine s_store (v := .agg (List.toArray (A8.enc .u8 A8.zero))) hC 0 (A8.enc .u8 A8.zero) (A8.enc .u8 A8.zero) rfl ag136.size rfl rfl rfl rfl rfl (Nat.le_of_ble_eq_true rfl) rfl fun w14 hC => ?_
 refine s_as (v := .int .i64 1) rfl ?_
 refine dn ?_
 refine wp_seq ?_
 refine sr ?_
 refine s_as (v := .int .i64 0) rfl ?_
 refine dn ?_
 refine wp_block ?_
 have hN180 : a0.length ≤ 9223372036854775807 := sl_max (hC.getP 0 rfl)
 refine loopN (S := A8 × Int) _ _ (fun i178 s179 e_ w_ => Slots e_ [(0, u0_0), (4, .pointer (some ⟨b2, 0, none⟩)), (5, .pointer (some ⟨b5, 0, none⟩)), (6, .pointer (some ⟨b8, 0, none⟩)), (7, .int .i64 0), (8, .pointer (some ⟨b11, 0, none⟩)), (9, .int .i64 s179.2), (10, .int .i64 (i178 : Int))] ∧ Ctx Nox w0 w_ [blk b11 136 (A8.enc .u8 s179.1), blk b8 136 (A8.enc .u8 A8.zero), blk b5 136 (A8.enc .u8 a2), blk b2 136 (A8.enc .u8 a1)] [Ty.item ((EI .i64).ty.sl) a0 [u0_0] fp0]) a0.length ?_ ?_ (s0 := (A8.zero, 1)) ?_ h
 ·clear hC h
  rintro i178 s179 e_ w185 next181 K182 hi184 ⟨hS_, hC⟩ h hK183
  refine wp_seq ?_
  refine sr ?_
  refine s_mv (v := .int .i64 (i178 : Int)) (sx hS_ 7 rfl) ?_
  refine s_mv (v := u0_0) (sx hS_ 0 rfl) ?_
  obtain ⟨Ad186, c187, hv188⟩ := sl_len (hC.getP 0 rfl)
  refine s_len Tryz.underlying22 (tr rfl hv188) ?_
  refine s_lss rfl rfl ?_
  refine dn ?_
  refine cw_true rfl (decide_eq_true (by omega)) ?_
  refine wp_skip ?_
  refine then_norm ?_
  refine wp_seq ?_
  refine wp_block ?_
  refine wp_seq ?_
  refine cw_draw 8 mixed [0, 0, 2, 6, 0, 16, 48, 126, 255, 511] [2, 3, 5, 6] [0, 1, 4, 7] (by kernel_rfl) (by kernel_rfl) (by kernel_rfl) (fun hM190 hM191 w189 hB_ => ?_)
  replace hC := hC.grow hB_
  refine aF 0 (.int .i64 (i178 : Int)) rfl rfl (hM191 0 rfl) (rfl) (fun _ => by exact r_mv (v := .int .i64 (i178 : Int)) (sx hS_ 7 rfl)) (dbits 10 1) ?_
  refine aF 1 (.int .i64 (i178 : Int)) rfl rfl (hM191 1 rfl) (rfl) (fun _ => by exact r_mv (v := .int .i64 (i178 : Int)) (sx hS_ 7 rfl)) (dbits 10 3) ?_
  obtain ⟨⟨h0_192, h1_193⟩, h⟩ := h
  refine aL 2 (.pointer (some ⟨b2, i178, none⟩)) rfl rfl (hM190 2 rfl) (rfl) (fun _ hB_ => by exact r_iaddrB i178 Tryz.underlying136 sc5.size (sx hS_ 1 rfl) rfl h0_192 h1_193 (by omega)) (dbits 10 7) ?_
  refine aL 3 (.int .u8 (a1.get i178)) rfl rfl (hM190 3 rfl) (rfl) (fun _ hB_ => by exact r_loadS (hC.grow hB_) 3 (.int .u8 (a1.get i178)) rfl sc5 rfl (A8.enc_get _ _ (show i178 < 8 by omega))) (dbits 10 15) ?_
  refine aF 4 (.int .i64 (i178 : Int)) rfl rfl (hM191 4 rfl) (rfl) (fun _ => by exact r_mv (v := .int .i64 (i178 : Int)) (sx hS_ 7 rfl)) (dbits 10 31) ?_
  obtain ⟨⟨h0_194, h1_195⟩, h⟩ := h
  refine aL 5 (.pointer (some ⟨b5, i178, none⟩)) rfl rfl (hM190 5 rfl) (rfl) (fun _ hB_ => by exact r_iaddrB i178 Tryz.underlying136 sc5.size (sx hS_ 2 rfl) rfl h0_194 h1_195 (by omega)) (dbits 10 63) ?_
  refine aL 6 (.int .u8 (a2.get i178)) rfl rfl (hM190 6 rfl) (rfl) (fun _ hB_ => by exact r_loadS (hC.grow hB_) 2 (.int .u8 (a2.get i178)) rfl sc5 rfl (A8.enc_get _ _ (show i178 < 8 by omega))) (dbits 10 127) ?_
  refine aF 7 (.int .u8 (IntKind.u8.wrap ((a1.get i178) + (a2.get i178)))) rfl rfl (hM191 7 rfl) (rfl) (fun _ => by exact r_add rfl rfl) (dbits 10 255) ?_
  refine ae_tail 8 (by decide) (by decide) (by kernel_rfl) (by kernel_rfl) rfl ?_
  obtain ⟨⟨h0_196, h1_197⟩, h⟩ := h
  refine s_iaddrB i178 Tryz.underlying136 sc5.size (sx hS_ 5 rfl) rfl h0_196 h1_197 (by omega) ?_
  refine s_store (v := .int .u8 (IntKind.u8.wrap ((a1.get i178) + (a2.get i178)))) hC 0 [.int .u8 (IntKind.u8.wrap ((a1.get i178) + (a2.get i178)))] (A8.enc .u8 (s179.1.set i178 (IntKind.u8.wrap ((a1.get i178) + (a2.get i178))))) rfl sc5.size rfl rfl rfl rfl rfl (show i178 < 8 by omega) (A8.enc_set _ _ _ (show i178 < 8 by omega)) fun w198 hC => ?_
  refine done ?_
  refine qn_norm ?_
  refine then_norm ?_
  refine wp_seq ?_
  refine sr ?_
  refine s_mv (v := u0_0) (sx hS_ 0 rfl) ?_
  refine s_mv (v := .int .i64 (i178 : Int)) (sx hS_ 7 rfl) ?_
  obtain ⟨Ad199, c200, hv201⟩ := sl_form (hC.getP 0 rfl) i178 hi184
  refine s_iaddrS (len := a0.length) Tryz.underlying22 sc2.size (tr rfl hv201) rfl (Int.natCast_nonneg _) (Int.ofNat_lt.2 hi184) ?_
  refine s_loadCS (.int .i64 (a0.getD i178 default)) (sl_cellsE (hC.getP 0 rfl) hv201 i178 hi184) sc2 rfl ?_
  refine s_rem rfl rfl (by decide) ?_
  refine s_eql rfl rfl ?_
  refine dn ?_
  refine cw_cond rfl (fun hb202 => ?_) (fun hb202 => ?_)
  ·replace h := ift h (ct hb202)
   refine wp_exit (then_exit (exit_in ?_))
   refine then_norm ?_
   refine cw_region ?_
   refine s_mv (v := .int .i64 (i178 : Int)) (sx hS_ 7 rfl) ?_
   refine s_add rfl rfl ?_
   refine s_as (v := .int .i64 (IntKind.i64.wrap ((i178 : Int) + 1))) rfl ?_
   refine done ?_
   exact hK183 (s179.1.set i178 (IntKind.u8.wrap ((a1.get i178) + (a2.get i178))), s179.2) _ _ ⟨(sk (sx hS_ 0 rfl) (sk (sx hS_ 1 rfl) (sk (sx hS_ 2 rfl) (sk (sx hS_ 3 rfl) (sk (sx hS_ 4 rfl) (sk (sx hS_ 5 rfl) (sk (sx hS_ 6 rfl) (sk (tr rfl (congrArg _ (wrap64_nat hi184 hN180))) sn)))))))), hC⟩ h
  ·replace h := iff_ h (cf hb202)
   refine wp_skip ?_
   refine then_norm ?_
   refine wp_seq ?_
   refine sr ?_
   refine s_mv (v := .int .i64 (i178 : Int)) (sx hS_ 7 rfl) ?_
   obtain ⟨⟨h0_203, h1_204⟩, h⟩ := h
   refine s_iaddrB i178 Tryz.underlying136 sc5.size (sx hS_ 5 rfl) rfl h0_203 h1_204 (by omega) ?_
   refine s_loadS hC 0 (.int .u8 ((s179.1.set i178 (IntKind.u8.wrap ((a1.get i178) + (a2.get i178)))).get i178)) rfl sc5 rfl (A8.enc_get _ _ (show i178 < 8 by omega)) ?_
   refine s_gtr rfl rfl ?_
   refine dn ?_
   refine cw_cond rfl (fun hb205 => ?_) (fun hb205 => ?_)
   ·replace h := ift h (ct hb205)
    refine sr ?_
    refine s_build [] rfl (bl136   _) ?_
    refine s_store (v := .agg (List.toArray (A8.enc .u8 A8.zero))) hC 1 (A8.enc .u8 A8.zero) (A8.enc .u8 A8.zero) rfl ag136.size (sx hS_ 3 rfl) rfl rfl rfl rfl (Nat.le_of_ble_eq_true rfl) rfl fun w206 hC => ?_
    refine s_as (v := .int .i64 0) rfl ?_
    refine dn ?_
    refine wp_ret (then_ret (blk_ret (then_ret (then_ret (blk_ret (then_ret ?_))))))
    refine ret2 (fn := Tryz.f196) rfl ?_ ?_ ⟨A8.zero, 0, rfl, h, hC.below⟩ (.inl rfl)
    ·exact res_cellA hC 1 rfl ag136 (sx hS_ 3 rfl) rfl
    ·exact res_tmp rfl
   ·replace h := iff_ h (cf hb205)
    refine wp_skip ?_
    refine then_norm ?_
    refine sr ?_
    refine s_mv (v := .int .i64 (i178 : Int)) (sx hS_ 7 rfl) ?_
    refine s_add rfl rfl ?_
    refine s_as (v := .int .i64 (IntKind.i64.wrap ((i178 : Int) + 1))) rfl ?_
    refine dn ?_
    refine wp_block ?_
    refine loopW (S := Int × Int) _ (fun s241 e_ w_ => Slots e_ [(0, u0_0), (4, .pointer (some ⟨b2, 0, none⟩)), (5, .pointer (some ⟨b5, 0, none⟩)), (6, .pointer (some ⟨b8, 0, none⟩)), (7, .int .i64 0), (8, .pointer (some ⟨b11, 0, none⟩)), (9, .int .i64 s241.2), (10, .int .i64 (i178 : Int)), (11, .int .i64 s241.1), (13, .int .i64 (i178 : Int)), (14, u0_0), (15, .int .i64 (a0.length : Int)), (16, .bool (decide ((i178 : Int) < (a0.length : Int)))), (19, .int .i64 (i178 : Int)), (20, .int .i64 (i178 : Int)), (21, .pointer (some ⟨b2, i178, none⟩)), (22, .int .u8 (a1.get i178)), (23, .int .i64 (i178 : Int)), (24, .pointer (some ⟨b5, i178, none⟩)), (25, .int .u8 (a2.get i178)), (26, .int .u8 (IntKind.u8.wrap ((a1.get i178) + (a2.get i178)))), (27, .pointer (some ⟨b11, i178, none⟩)), (28, u0_0), (29, .int .i64 (i178 : Int)), (30, .pointer (some (Ad199.add (i178 * 1)))), (31, .int .i64 (a0.getD i178 default)), (32, .int .i64 (Int.tmod (a0.getD i178 default) 2)), (33, .bool (decide (Int.tmod (a0.getD i178 default) 2 = 0))), (34, .int .i64 (i178 : Int)), (35, .pointer (some ⟨b11, i178, none⟩)), (36, .int .u8 ((s179.1.set i178 (IntKind.u8.wrap ((a1.get i178) + (a2.get i178)))).get i178)), (37, .bool (decide ((s179.1.set i178 (IntKind.u8.wrap ((a1.get i178) + (a2.get i178)))).get i178 > 1))), (39, .int .i64 (i178 : Int)), (40, .int .i64 (IntKind.i64.wrap ((i178 : Int) + 1)))] ∧ Ctx Nox w0 w_ [blk b11 136 (A8.enc .u8 (s179.1.set i178 (IntKind.u8.wrap ((a1.get i178) + (a2.get i178))))), blk b8 136 (A8.enc .u8 A8.zero), blk b5 136 (A8.enc .u8 a2), blk b2 136 (A8.enc .u8 a1)] [Ty.item ((EI .i64).ty.sl) a0 [u0_0] fp0]) ?_ (s0 := (IntKind.i64.wrap ((i178 : Int) + 1), s179.2)) ?_ h
    ·clear hC h
     rintro s241 e_ w245 next242 K243 ⟨hS_, hC⟩ h hK244
     refine wp_seq ?_
     refine sr ?_
     refine s_mv (v := .int .i64 s241.1) (sx hS_ 8 rfl) ?_
     refine s_mv (v := u0_0) (sx hS_ 0 rfl) ?_
     obtain ⟨Ad246, c247, hv248⟩ := sl_len (hC.getP 0 rfl)
     refine s_len Tryz.underlying22 (tr rfl hv248) ?_
     refine s_lss rfl rfl ?_
     refine s_mv (v := .bool (decide (s241.1 < (a0.length : Int)))) rfl ?_
     refine bsplit (decide (s241.1 < (a0.length : Int))) (fun hb249 => ?_) (fun hb249 => ?_)
     ·replace h := ift h (ct hb249)
      refine guardOn 4 45 rfl rfl hb249 ?_
      refine s_mv (v := .int .i64 (i178 : Int)) (sx hS_ 7 rfl) ?_
      refine guardOn 4 45 rfl rfl hb249 ?_
      obtain ⟨⟨h0_250, h1_251⟩, h⟩ := h
      refine s_iaddrB i178 Tryz.underlying136 sc5.size (sx hS_ 2 rfl) rfl h0_250 h1_251 (by omega) ?_
      refine guardOn 4 45 rfl rfl hb249 ?_
      refine s_loadS hC 2 (.int .u8 (a2.get i178)) rfl sc5 rfl (A8.enc_get _ _ (show i178 < 8 by omega)) ?_
      refine guardOn 4 45 rfl rfl hb249 ?_
      refine s_eql rfl rfl ?_
      refine s_pick (v := .bool (decide (a2.get i178 = 1))) (b := true) (tr rfl (congrArg _ hb249)) rfl ?_
      refine dn ?_
      refine cw_cond rfl (fun hb252 => ?_) (fun hb252 => ?_)
      ·replace h := ift h (ct hb252)
       refine wp_skip ?_
       refine then_norm ?_
       refine wp_seq ?_
       refine wp_block ?_
       refine sr ?_
       refine s_mv (v := u0_0) (sx hS_ 0 rfl) ?_
       refine s_mv (v := .int .i64 s241.1) (sx hS_ 8 rfl) ?_
       obtain ⟨⟨h0_253, h1_254⟩, h⟩ := h
       obtain ⟨Ad255, c256, hv257⟩ := sl_form (hC.getP 0 rfl) s241.1.toNat (show s241.1.toNat < a0.length by omega)
       refine s_iaddrS (len := a0.length) Tryz.underlying22 sc2.size (tr rfl hv257) rfl h0_253 h1_254 ?_
       refine s_loadCS (.int .i64 (a0.getD s241.1.toNat default)) (sl_cellsE (hC.getP 0 rfl) hv257 s241.1.toNat (show s241.1.toNat < a0.length by omega)) sc2 rfl ?_
       refine s_rem rfl rfl (by decide) ?_
       refine s_neq rfl rfl ?_
       refine s_mv (v := .bool (decide (Int.tmod (a0.getD s241.1.toNat default) 2 ≠ 0))) rfl ?_
       refine bsplit (decide (Int.tmod (a0.getD s241.1.toNat default) 2 ≠ 0)) (fun hb258 => ?_) (fun hb258 => ?_)
       ·replace h := ift h (ct hb258)
        refine guardOn 6 59 rfl rfl hb258 ?_
        refine s_mv (v := .int .i64 s241.1) (sx hS_ 8 rfl) ?_
        refine guardOn 6 59 rfl rfl hb258 ?_
        obtain ⟨⟨h0_259, h1_260⟩, h⟩ := h
        refine s_iaddrB s241.1.toNat Tryz.underlying136 sc5.size (sx hS_ 1 rfl) rfl h0_259 h1_260 (by omega) ?_
        refine guardOn 6 59 rfl rfl hb258 ?_
        refine s_loadS hC 3 (.int .u8 (a1.get s241.1.toNat)) rfl sc5 rfl (A8.enc_get _ _ (show s241.1.toNat < 8 by omega)) ?_
        refine guardOn 6 59 rfl rfl hb258 ?_
        refine s_eql rfl rfl ?_
        refine s_pick (v := .bool (decide (a1.get s241.1.toNat = 1))) (b := true) (tr rfl (congrArg _ hb258)) rfl ?_
        refine dn ?_
        refine cw_cond rfl (fun hb261 => ?_) (fun hb261 => ?_)
        ·replace h := ift h (ct hb261)
         refine cw_region ?_
         refine s_mv (v := .int .i64 s241.2) (sx hS_ 6 rfl) ?_
         refine s_neg rfl ?_
         refine s_as (v := .int .i64 (IntKind.i64.wrap (0 - s241.2))) rfl ?_
         refine done ?_
         refine blk_norm ?_
         refine then_norm ?_
         refine cw_region ?_
         refine s_mv (v := .int .i64 s241.1) (sx hS_ 8 rfl) ?_
         refine s_add rfl rfl ?_
         refine s_as (v := .int .i64 (IntKind.i64.wrap (s241.1 + 1))) rfl ?_
         refine done ?_
         exact hK244 (IntKind.i64.wrap (s241.1 + 1), IntKind.i64.wrap (0 - s241.2)) _ _ ⟨(sk (sx hS_ 0 rfl) (sk (sx hS_ 1 rfl) (sk (sx hS_ 2 rfl) (sk (sx hS_ 3 rfl) (sk (sx hS_ 4 rfl) (sk (sx hS_ 5 rfl) (sk rfl (sk (sx hS_ 7 rfl) (sk rfl (sk (sx hS_ 9 rfl) (sk (sx hS_ 10 rfl) (sk (sx hS_ 11 rfl) (sk (sx hS_ 12 rfl) (sk (sx hS_ 13 rfl) (sk (sx hS_ 14 rfl) (sk (sx hS_ 15 rfl) (sk (sx hS_ 16 rfl) (sk (sx hS_ 17 rfl) (sk (sx hS_ 18 rfl) (sk (sx hS_ 19 rfl) (sk (sx hS_ 20 rfl) (sk (sx hS_ 21 rfl) (sk (sx hS_ 22 rfl) (sk (sx hS_ 23 rfl) (sk (sx hS_ 24 rfl) (sk (sx hS_ 25 rfl) (sk (sx hS_ 26 rfl) (sk (sx hS_ 27 rfl) (sk (sx hS_ 28 rfl) (sk (sx hS_ 29 rfl) (sk (sx hS_ 30 rfl) (sk (sx hS_ 31 rfl) (sk (sx hS_ 32 rfl) (sk (sx hS_ 33 rfl) sn)))))))))))))))))))))))))))))))))), hC⟩ h
        ·replace h := iff_ h (cf hb261)
         refine wp_skip ?_
         refine blk_norm ?_
         refine then_norm ?_
         refine cw_region ?_
         refine s_mv (v := .int .i64 s241.1) (sx hS_ 8 rfl) ?_
         refine s_add rfl rfl ?_
         refine s_as (v := .int .i64 (IntKind.i64.wrap (s241.1 + 1))) rfl ?_
         refine done ?_
         exact hK244 (IntKind.i64.wrap (s241.1 + 1), s241.2) _ _ ⟨(sk (sx hS_ 0 rfl) (sk (sx hS_ 1 rfl) (sk (sx hS_ 2 rfl) (sk (sx hS_ 3 rfl) (sk (sx hS_ 4 rfl) (sk (sx hS_ 5 rfl) (sk (sx hS_ 6 rfl) (sk (sx hS_ 7 rfl) (sk rfl (sk (sx hS_ 9 rfl) (sk (sx hS_ 10 rfl) (sk (sx hS_ 11 rfl) (sk (sx hS_ 12 rfl) (sk (sx hS_ 13 rfl) (sk (sx hS_ 14 rfl) (sk (sx hS_ 15 rfl) (sk (sx hS_ 16 rfl) (sk (sx hS_ 17 rfl) (sk (sx hS_ 18 rfl) (sk (sx hS_ 19 rfl) (sk (sx hS_ 20 rfl) (sk (sx hS_ 21 rfl) (sk (sx hS_ 22 rfl) (sk (sx hS_ 23 rfl) (sk (sx hS_ 24 rfl) (sk (sx hS_ 25 rfl) (sk (sx hS_ 26 rfl) (sk (sx hS_ 27 rfl) (sk (sx hS_ 28 rfl) (sk (sx hS_ 29 rfl) (sk (sx hS_ 30 rfl) (sk (sx hS_ 31 rfl) (sk (sx hS_ 32 rfl) (sk (sx hS_ 33 rfl) sn)))))))))))))))))))))))))))))))))), hC⟩ h
       ·replace h := iff_ h (cf hb258)
        refine guardOff (b := false) 6 59 rfl (tr rfl (congrArg _ hb258)) (by decide) ?_
        refine guardOff (b := false) 6 59 rfl (tr rfl (congrArg _ hb258)) (by decide) ?_
        refine guardOff (b := false) 6 59 rfl (tr rfl (congrArg _ hb258)) (by decide) ?_
        refine guardOff (b := false) 6 59 rfl (tr rfl (congrArg _ hb258)) (by decide) ?_
        refine s_pick (v := .bool false) (b := false) (tr rfl (congrArg _ hb258)) rfl ?_
        refine dn ?_
        refine cw_false rfl rfl ?_
        refine wp_skip ?_
        refine blk_norm ?_
        refine then_norm ?_
        refine cw_region ?_
        refine s_mv (v := .int .i64 s241.1) (sx hS_ 8 rfl) ?_
        refine s_add rfl rfl ?_
        refine s_as (v := .int .i64 (IntKind.i64.wrap (s241.1 + 1))) rfl ?_
        refine done ?_
        exact hK244 (IntKind.i64.wrap (s241.1 + 1), s241.2) _ _ ⟨(sk (sx hS_ 0 rfl) (sk (sx hS_ 1 rfl) (sk (sx hS_ 2 rfl) (sk (sx hS_ 3 rfl) (sk (sx hS_ 4 rfl) (sk (sx hS_ 5 rfl) (sk (sx hS_ 6 rfl) (sk (sx hS_ 7 rfl) (sk rfl (sk (sx hS_ 9 rfl) (sk (sx hS_ 10 rfl) (sk (sx hS_ 11 rfl) (sk (sx hS_ 12 rfl) (sk (sx hS_ 13 rfl) (sk (sx hS_ 14 rfl) (sk (sx hS_ 15 rfl) (sk (sx hS_ 16 rfl) (sk (sx hS_ 17 rfl) (sk (sx hS_ 18 rfl) (sk (sx hS_ 19 rfl) (sk (sx hS_ 20 rfl) (sk (sx hS_ 21 rfl) (sk (sx hS_ 22 rfl) (sk (sx hS_ 23 rfl) (sk (sx hS_ 24 rfl) (sk (sx hS_ 25 rfl) (sk (sx hS_ 26 rfl) (sk (sx hS_ 27 rfl) (sk (sx hS_ 28 rfl) (sk (sx hS_ 29 rfl) (sk (sx hS_ 30 rfl) (sk (sx hS_ 31 rfl) (sk (sx hS_ 32 rfl) (sk (sx hS_ 33 rfl) sn)))))))))))))))))))))))))))))))))), hC⟩ h
      ·replace h := iff_ h (cf hb252)
       refine wp_exit (then_exit (then_exit (exit_in ?_)))
       refine blk_norm ?_
       refine then_norm ?_
       refine cw_region ?_
       refine s_mv (v := .int .i64 (i178 : Int)) (sx hS_ 7 rfl) ?_
       refine s_add rfl rfl ?_
       refine s_as (v := .int .i64 (IntKind.i64.wrap ((i178 : Int) + 1))) rfl ?_
       refine done ?_
       exact hK183 (s179.1.set i178 (IntKind.u8.wrap ((a1.get i178) + (a2.get i178))), s241.2) _ _ ⟨(sk (sx hS_ 0 rfl) (sk (sx hS_ 1 rfl) (sk (sx hS_ 2 rfl) (sk (sx hS_ 3 rfl) (sk (sx hS_ 4 rfl) (sk (sx hS_ 5 rfl) (sk (sx hS_ 6 rfl) (sk (tr rfl (congrArg _ (wrap64_nat hi184 hN180))) sn)))))))), hC⟩ h
     ·replace h := iff_ h (cf hb249)
      refine guardOff (b := false) 4 45 rfl (tr rfl (congrArg _ hb249)) (by decide) ?_
      refine guardOff (b := false) 4 45 rfl (tr rfl (congrArg _ hb249)) (by decide) ?_
      refine guardOff (b := false) 4 45 rfl (tr rfl (congrArg _ hb249)) (by decide) ?_
      refine guardOff (b := false) 4 45 rfl (tr rfl (congrArg _ hb249)) (by decide) ?_
      refine s_pick (v := .bool false) (b := false) (tr rfl (congrArg _ hb249)) rfl ?_
      refine dn ?_
      refine cw_false rfl rfl ?_
      refine wp_exit (then_exit (then_exit (exit_in ?_)))
      refine blk_norm ?_
      refine then_norm ?_
      refine cw_region ?_
      refine s_mv (v := .int .i64 (i178 : Int)) (sx hS_ 7 rfl) ?_
      refine s_add rfl rfl ?_
      refine s_as (v := .int .i64 (IntKind.i64.wrap ((i178 : Int) + 1))) rfl ?_
      refine done ?_
      exact hK183 (s179.1.set i178 (IntKind.u8.wrap ((a1.get i178) + (a2.get i178))), s241.2) _ _ ⟨(sk (sx hS_ 0 rfl) (sk (sx hS_ 1 rfl) (sk (sx hS_ 2 rfl) (sk (sx hS_ 3 rfl) (sk (sx hS_ 4 rfl) (sk (sx hS_ 5 rfl) (sk (sx hS_ 6 rfl) (sk (tr rfl (congrArg _ (wrap64_nat hi184 hN180))) sn)))))))), hC⟩ h
    ·skip
     exact ⟨(sk (sx hS_ 0 rfl) (sk (sx hS_ 1 rfl) (sk (sx hS_ 2 rfl) (sk (sx hS_ 3 rfl) (sk (sx hS_ 4 rfl) (sk (sx hS_ 5 rfl) (sk (sx hS_ 6 rfl) (sk (sx hS_ 7 rfl) (sk rfl (sk rfl (sk rfl (sk rfl (sk rfl (sk rfl (sk rfl (sk rfl (sk rfl (sk rfl (sk rfl (sk rfl (sk rfl (sk rfl (sk rfl (sk rfl (sk rfl (sk rfl (sk rfl (sk rfl (sk rfl (sk rfl (sk rfl (sk rfl (sk rfl (sk rfl sn)))))))))))))))))))))))))))))))))), hC⟩
 ·clear hC h
  rintro s179 e_ w262 K182 ⟨hS_, hC⟩ h
  refine wp_seq ?_
  refine sr ?_
  refine s_mv (v := .int .i64 (a0.length : Int)) (sx hS_ 7 rfl) ?_
  refine s_mv (v := u0_0) (sx hS_ 0 rfl) ?_
  obtain ⟨Ad263, c264, hv265⟩ := sl_len (hC.getP 0 rfl)
  refine s_len Tryz.underlying22 (tr rfl hv265) ?_
  refine s_lss rfl rfl ?_
  refine dn ?_
  refine cw_false rfl (decide_eq_false (by omega)) ?_
  refine wp_exit (then_exit (then_exit (exit_in ?_)))
  refine then_norm ?_
  refine sr ?_
  refine s_loadA hC 0 (A8.enc .u8 s179.1) rfl ag136 (sx hS_ 5 rfl) rfl rfl ?_
  refine s_mv (v := .int .i64 s179.2) (sx hS_ 6 rfl) ?_
  refine s_store (v := .agg (List.toArray (A8.enc .u8 s179.1))) hC 1 (A8.enc .u8 s179.1) (A8.enc .u8 s179.1) rfl ag136.size (sx hS_ 3 rfl) rfl rfl rfl rfl (Nat.le_of_ble_eq_true rfl) rfl fun w266 hC => ?_
  refine s_as (v := .int .i64 s179.2) rfl ?_
  refine dn ?_
  refine wp_ret ?_
  refine ret2 (fn := Tryz.f196) rfl ?_ ?_ ⟨s179.1, s179.2, rfl, h, hC.below⟩ (.inl rfl)
  ·exact res_cellA hC 1 rfl ag136 (sx hS_ 3 rfl) rfl
  ·exact res_tmp rfl
 ·skip
  exact ⟨(sk rfl (sk rfl (sk rfl (sk rfl (sk rfl (sk rfl (sk rfl (sk rfl sn)))))))), hC⟩
def f_spec_l01Shift (a0 : List Int) (a1 : Term) (a2 : Vc.Form) (K : Vc.Form → Prop) : Prop :=
 whileP (fun (s173 : (List Term) × Int) next176 => (if s173.2 < (a2.terms.length : Int) then ((0 ≤ s173.2 ∧ s173.2 < (a2.terms.length : Int)) ∧ f_spec_l01Joined a0 a1.mono ((a2.terms.getD s173.2.toNat default).mono) (fun r237 r238 => (if r238 ≠ 0 then ((0 ≤ s173.2 ∧ s173.2 < (a2.terms.length : Int)) ∧ f_spec_l01Mod (IntKind.i64.wrap ((IntKind.i64.wrap (r238 * a1.factor)) * ((a2.terms.getD s173.2.toNat default).factor))) (fun r225 => (Room (s173.1.length + 1) 16 ∧ next176 (s173.1 ++ [(⟨r237, r225⟩ : Term)], IntKind.i64.wrap (s173.2 + 1))))) else next176 (s173.1, IntKind.i64.wrap (s173.2 + 1))))) else K (⟨s173.1⟩ : Vc.Form))) ([], 0)
theorem c_spec_l01Shift (a0 : List Int) (a1 : Term) (a2 : Vc.Form) {u0_0 : Value} {u2_0 : Value} {fp0 : List Nat} {fp2 : List Nat} {K : Vc.Form → Prop} (h : f_spec_l01Shift a0 a1 a2 K) (w0 : World) (q0 : ((EI .i64).ty.sl).rep a0 [u0_0] fp0 w0) (q2 : TForm.rep a2 [u2_0] fp2 w0) :
  Calls Tryz.prog 175 #[u0_0, .agg (List.toArray (Term.enc a1)), .agg #[u2_0]] w0 fun e w' => ∃ (r0 : Vc.Form) (z0_0 : Value) (fz0 : List Nat), 
   e = .returned (.agg #[z0_0]) ∧ K r0 ∧ (Tr.item (TrForm 162) r0 [z0_0] fz0).holds w' ∧ (∀ b, b ∈ fz0 → w0.heap.size ≤ b) ∧ Bel w0 w' := by
 unfold f_spec_l01Shift at h
 refine calls_of (args := [u0_0, .agg (List.toArray (Term.enc a1)), .agg #[u2_0]]) Tryz.func175 rfl 54 Tryz.ntmps175 (Nat.le_of_ble_eq_true rfl) ?_
 have hC := Ctx.start (X := Nox) w0 [Ty.item ((EI .i64).ty.sl) a0 [u0_0] fp0, Ty.item TForm a2 [u2_0] fp2] (by simp only [List.mem_cons, List.not_mem_nil, or_false, forall_eq_or_imp, forall_eq]; exact ⟨q0, q2⟩)
 have hp3 := (hC.getP 1 rfl)
 replace hC := hC.derive 1 rfl (Ty.item ETerm.ty.sl a2.terms [u2_0] fp2) (fun _ => (form_parts hp3)) (fun _ hb_ => hb_)
 refine sr ?_
 refine s_box (v := .agg (List.toArray (Term.enc a1))) hC (Term.enc a1) rfl rfl fun b5 w7 hB_ hC => ?_
 refine s_box (v := .agg #[u2_0]) hC [u2_0] rfl rfl fun b8 w10 hB_ hC => ?_
 refine s_alloc hC [.slice none 0 0] z55 rfl fun b11 w13 hB_ hC => ?_
 refine dn ?_
 refine sr ?_
 refine s_build [] rfl (bl55   _) ?_
 refine s_alloc hC [.slice none 0 0] z55 rfl fun b14 w16 hB_ hC => ?_
 refine s_store (v := .agg #[.slice none 0 0]) hC 0 [.slice none 0 0] [.slice none 0 0] rfl ag55.size rfl rfl rfl rfl rfl (Nat.le_of_ble_eq_true rfl) rfl fun w17 hC => ?_
 refine dn ?_
 refine wp_seq ?_
 refine sr ?_
 refine s_as (v := .int .i64 0) rfl ?_
 refine dn ?_
 refine wp_block ?_
 refine loopW (S := (List Term) × Int) _ (fun s173 e_ w_ => ∃ (v174 : Value), Slots e_ [(0, u0_0), (4, .pointer (some ⟨b5, 0, none⟩)), (5, .pointer (some ⟨b8, 0, none⟩)), (6, .pointer (some ⟨b11, 0, none⟩)), (7, .pointer (some ⟨b14, 0, none⟩)), (8, .int .i64 s173.2)] ∧ Ctx Nox w0 w_ [own 162 9 v174 s173.1.length (ETerm.encs s173.1), blk b14 55 [v174], blk b11 55 [.slice none 0 0], blk b8 55 [u2_0], blk b5 162 (Term.enc a1)] [Ty.item ETerm.ty.sl a2.terms [u2_0] fp2, Ty.item ((EI .i64).ty.sl) a0 [u0_0] fp0, Ty.item TForm a2 [u2_0] fp2]) ?_ (s0 := ([], 0)) ?_ h
 ·clear hC h
  rintro s173 e_ w179 next176 K177 ⟨v174, hS_, hC⟩ h hK178
  refine wp_seq ?_
  refine sr ?_
  refine s_mv (v := .int .i64 s173.2) (sx hS_ 5 rfl) ?_
  refine s_faddrB 0 Tryz.underlying55 rfl sc53.size (sx hS_ 2 rfl) rfl ?_
  refine s_loadS hC 3 (u2_0) rfl sc53 rfl rfl ?_
  obtain ⟨Ad180, c181, hv182⟩ := sl_len (hC.getP 0 rfl)
  refine s_len Tryz.underlying53 (tr rfl hv182) ?_
  refine s_lss rfl rfl ?_
  refine dn ?_
  refine cw_cond rfl (fun hb183 => ?_) (fun hb183 => ?_)
  ·replace h := ift h (ct hb183)
   refine wp_skip ?_
   refine then_norm ?_
   refine wp_seq ?_
   refine wp_block ?_
   refine wp_seq ?_
   refine cw_draw 14 mixed [0, 0, 2, 0, 8, 0, 56, 120, 248, 511, 1023, 2047, 2047, 0, 12287, 32767] [2, 4, 6, 8] [0, 1, 3, 5, 7, 10, 11, 12] (by kernel_rfl) (by kernel_rfl) (by kernel_rfl) (fun hM185 hM186 w184 hB_ => ?_)
   replace hC := hC.grow hB_
   refine aF 0 (u0_0) rfl rfl (hM186 0 rfl) (rfl) (fun _ => by exact r_mv (v := u0_0) (sx hS_ 0 rfl)) (dbits 16 1) ?_
   refine aF 1 (.pointer (some ⟨b5, 0, none⟩)) rfl rfl (hM186 1 rfl) (rfl) (fun _ => by exact r_faddrB 0 Tryz.underlying162 rfl ag136.size (sx hS_ 1 rfl) rfl) (dbits 16 3) ?_
   refine aL 2 (.agg (List.toArray (A8.enc .u8 a1.mono))) rfl rfl (hM185 2 rfl) (rfl) (fun _ hB_ => by exact r_loadA (hC.grow hB_) 4 (A8.enc .u8 a1.mono) rfl ag136 rfl rfl rfl) (dbits 16 7) ?_
   refine aF 3 (.pointer (some ⟨b8, 0, none⟩)) rfl rfl (hM186 3 rfl) (rfl) (fun _ => by exact r_faddrB 0 Tryz.underlying55 rfl sc53.size (sx hS_ 2 rfl) rfl) (dbits 16 15) ?_
   refine aL 4 (u2_0) rfl rfl (hM185 4 rfl) (rfl) (fun _ hB_ => by exact r_loadS (hC.grow hB_) 3 (u2_0) rfl sc53 rfl rfl) (dbits 16 31) ?_
   refine aF 5 (.int .i64 s173.2) rfl rfl (hM186 5 rfl) (rfl) (fun _ => by exact r_mv (v := .int .i64 s173.2) (sx hS_ 5 rfl)) (dbits 16 63) ?_
   obtain ⟨⟨h0_187, h1_188⟩, h⟩ := h
   obtain ⟨Ad189, c190, hv191⟩ := sl_form (hC.getP 0 rfl) s173.2.toNat (show s173.2.toNat < a2.terms.length by omega)
   refine aL 6 (.pointer (some (Ad189.add (s173.2.toNat * 9)))) rfl rfl (hM185 6 rfl) (rfl) (fun _ hB_ => by exact r_iaddrS (len := a2.terms.length) Tryz.underlying53 ag162.size (by exact tr rfl hv191) rfl h0_187 h1_188) (dbits 16 127) ?_
   refine aF 7 (.pointer (some (Ad189.add (s173.2.toNat * 9 + 0)))) rfl rfl (hM186 7 rfl) (rfl) (fun _ => by exact r_faddrS (s173.2.toNat * 9 + 0) Tryz.underlying162 rfl ag136.size rfl rfl) (dbits 16 255) ?_
   refine aL 8 (.agg (List.toArray (A8.enc .u8 ((a2.terms.getD s173.2.toNat default).mono)))) rfl rfl (hM185 8 rfl) (rfl) (fun _ hB_ => by exact r_loadCA (A8.enc .u8 ((a2.terms.getD s173.2.toNat default).mono)) (cells_subS (o := 0) (k := 8) (sl_cellsE ((hC.grow hB_).getP 0 rfl) hv191 s173.2.toNat (show s173.2.toNat < a2.terms.length by omega)) rfl) ag136 rfl rfl) (dbits 16 511) ?_
   refine ae_join (fun e_ w_ => ∃ (b198 : Nat), ∃ (r195 : A8), ∃ (r196 : Int), Slots e_ [(0, u0_0), (4, .pointer (some ⟨b5, 0, none⟩)), (5, .pointer (some ⟨b8, 0, none⟩)), (6, .pointer (some ⟨b11, 0, none⟩)), (7, .pointer (some ⟨b14, 0, none⟩)), (8, .int .i64 s173.2), (9, .pointer (some ⟨b198, 0, none⟩)), (10, .int .i64 r196), (12, .int .i64 s173.2), (13, .pointer (some ⟨b8, 0, none⟩)), (14, u2_0), (15, .int .i64 (a2.terms.length : Int)), (16, .bool (decide (s173.2 < (a2.terms.length : Int)))), (19, .tuple #[.agg (List.toArray (A8.enc .u8 r195)), .int .i64 r196]), (20, u0_0), (21, .pointer (some ⟨b5, 0, none⟩)), (22, .agg (List.toArray (A8.enc .u8 a1.mono))), (23, .pointer (some ⟨b8, 0, none⟩)), (24, u2_0), (25, .int .i64 s173.2), (26, .pointer (some (Ad189.add (s173.2.toNat * 9)))), (27, .pointer (some (Ad189.add (s173.2.toNat * 9 + 0)))), (28, .agg (List.toArray (A8.enc .u8 ((a2.terms.getD s173.2.toNat default).mono)))), (29, .tuple #[.agg (List.toArray (A8.enc .u8 r195)), .int .i64 r196]), (30, .agg (List.toArray (A8.enc .u8 r195))), (31, .int .i64 r196)] ∧ Ctx Nox w0 w_ [blk b198 136 (A8.enc .u8 r195), own 162 9 v174 s173.1.length (ETerm.encs s173.1), blk b14 55 [v174], blk b11 55 [.slice none 0 0], blk b8 55 [u2_0], blk b5 162 (Term.enc a1)] [Ty.item ETerm.ty.sl a2.terms [u2_0] fp2, Ty.item ((EI .i64).ty.sl) a0 [u0_0] fp0, Ty.item TForm a2 [u2_0] fp2] ∧ (if r196 ≠ 0 then ((0 ≤ s173.2 ∧ s173.2 < (a2.terms.length : Int)) ∧ f_spec_l01Mod (IntKind.i64.wrap ((IntKind.i64.wrap (r196 * a1.factor)) * ((a2.terms.getD s173.2.toNat default).factor))) (fun r225 => (Room (s173.1.length + 1) 16 ∧ next176 (s173.1 ++ [(⟨r195, r225⟩ : Term)], IntKind.i64.wrap (s173.2 + 1))))) else next176 (s173.1, IntKind.i64.wrap (s173.2 + 1)))) ?_ ?_
   ·clear hC h
    rintro e_ w212 ⟨b198, r195, r196, hS_, hC, h⟩
    refine then_norm ?_
    refine sr ?_
    refine s_mv (v := .int .i64 r196) (sx hS_ 7 rfl) ?_
    refine s_neq rfl rfl ?_
    refine dn ?_
    refine cw_cond rfl (fun hb213 => ?_) (fun hb213 => ?_)
    ·replace h := ift h (ct hb213)
     refine cw_draw 17 mixed [0, 1, 0, 0, 0, 16, 56, 0, 128, 0, 896, 1920, 3968, 8184, 16376, 32764, 65532, 131071, 262143, 524287] [1, 2, 5, 8, 10, 12, 15] [0, 3, 4, 6, 7, 9, 11, 13] (by kernel_rfl) (by kernel_rfl) (by kernel_rfl) (fun hM215 hM216 w214 hB_ => ?_)
     replace hC := hC.grow hB_
     refine aF 0 (.pointer (some ⟨b14, 0, none⟩)) rfl rfl (hM216 0 rfl) (rfl) (fun _ => by exact r_faddrB 0 Tryz.underlying55 rfl sc53.size (sx hS_ 4 rfl) rfl) (dbits 20 1) ?_
     refine aL 1 (v174) rfl rfl (hM215 1 rfl) (rfl) (fun _ hB_ => by exact r_loadS (hC.grow hB_) 2 (v174) rfl sc53 rfl rfl) (dbits 20 3) ?_
     refine aL 2 (.agg (List.toArray (A8.enc .u8 r195))) rfl rfl (hM215 2 rfl) (rfl) (fun _ hB_ => by exact r_loadA (hC.grow hB_) 0 (A8.enc .u8 r195) rfl ag136 (sx hS_ 6 rfl) rfl rfl) (dbits 20 7) ?_
     refine aF 3 (.int .i64 r196) rfl rfl (hM216 3 rfl) (rfl) (fun _ => by exact r_mv (v := .int .i64 r196) (sx hS_ 7 rfl)) (dbits 20 15) ?_
     refine aF 4 (.pointer (some ⟨b5, 8, none⟩)) rfl rfl (hM216 4 rfl) (rfl) (fun _ => by exact r_faddrB 8 Tryz.underlying162 rfl sc2.size (sx hS_ 1 rfl) rfl) (dbits 20 31) ?_
     refine aL 5 (.int .i64 a1.factor) rfl rfl (hM215 5 rfl) (rfl) (fun _ hB_ => by exact r_loadS (hC.grow hB_) 5 (.int .i64 a1.factor) rfl sc2 rfl rfl) (dbits 20 63) ?_
     refine aF 6 (.int .i64 (IntKind.i64.wrap (r196 * a1.factor))) rfl rfl (hM216 6 rfl) (rfl) (fun _ => by exact r_mul rfl rfl) (dbits 20 127) ?_
     refine aF 7 (.pointer (some ⟨b8, 0, none⟩)) rfl rfl (hM216 7 rfl) (rfl) (fun _ => by exact r_faddrB 0 Tryz.underlying55 rfl sc53.size (sx hS_ 2 rfl) rfl) (dbits 20 255) ?_
     refine aL 8 (u2_0) rfl rfl (hM215 8 rfl) (rfl) (fun _ hB_ => by exact r_loadS (hC.grow hB_) 4 (u2_0) rfl sc53 rfl rfl) (dbits 20 511) ?_
     refine aF 9 (.int .i64 s173.2) rfl rfl (hM216 9 rfl) (rfl) (fun _ => by exact r_mv (v := .int .i64 s173.2) (sx hS_ 5 rfl)) (dbits 20 1023) ?_
     obtain ⟨⟨h0_217, h1_218⟩, h⟩ := h
     obtain ⟨Ad219, c220, hv221⟩ := sl_form (hC.getP 0 rfl) s173.2.toNat (show s173.2.toNat < a2.terms.length by omega)
     refine aL 10 (.pointer (some (Ad219.add (s173.2.toNat * 9)))) rfl rfl (hM215 10 rfl) (rfl) (fun _ hB_ => by exact r_iaddrS (len := a2.terms.length) Tryz.underlying53 ag162.size (by exact tr rfl hv221) rfl h0_217 h1_218) (dbits 20 2047) ?_
     refine aF 11 (.pointer (some (Ad219.add (s173.2.toNat * 9 + 8)))) rfl rfl (hM216 11 rfl) (rfl) (fun _ => by exact r_faddrS (s173.2.toNat * 9 + 8) Tryz.underlying162 rfl sc2.size rfl rfl) (dbits 20 4095) ?_
     refine aL 12 (.int .i64 ((a2.terms.getD s173.2.toNat default).factor)) rfl rfl (hM215 12 rfl) (rfl) (fun _ hB_ => by exact r_loadCS (.int .i64 ((a2.terms.getD s173.2.toNat default).factor)) (cells_subS (o := 8) (k := 1) (sl_cellsE ((hC.grow hB_).getP 0 rfl) hv221 s173.2.toNat (show s173.2.toNat < a2.terms.length by omega)) rfl) sc2 rfl) (dbits 20 8191) ?_
     refine aF 13 (.int .i64 (IntKind.i64.wrap ((IntKind.i64.wrap (r196 * a1.factor)) * ((a2.terms.getD s173.2.toNat default).factor)))) rfl rfl (hM216 13 rfl) (rfl) (fun _ => by exact r_mul rfl rfl) (dbits 20 16383) ?_
     refine aO 14 rfl ?_
     refine s_call [.int .i64 (IntKind.i64.wrap ((IntKind.i64.wrap (r196 * a1.factor)) * ((a2.terms.getD s173.2.toNat default).factor)))] _ Tryz.func125 rfl rfl rfl (c_spec_l01Mod (IntKind.i64.wrap ((IntKind.i64.wrap (r196 * a1.factor)) * ((a2.terms.getD s173.2.toNat default).factor))) h _) (fun ret222 w224 hR223 => ?_)
     obtain ⟨r225, rfl, h, hB226⟩ := hR223
     refine ⟨_, rfl, ?_⟩
     replace hC := hC.grow hB226
     refine done ?_
     refine aK (by assumption) (dbits 20 32767) ?_
     refine aL 15 (.agg (List.toArray (Term.enc (⟨r195, r225⟩ : Term)))) rfl rfl (hM215 15 rfl) (rfl) (fun _ hB_ => by exact r_build [(0, .agg (List.toArray (A8.enc .u8 r195))), (1, .int .i64 r225)] rfl (bl162_0flat_1int r195 r225  _)) (dbits 20 65535) ?_
     refine aO 16 rfl ?_
     refine s_bslice (sz := 9) hC [(0, .agg (List.toArray (Term.enc (⟨r195, r225⟩ : Term))))] (ETerm.encs [(⟨r195, r225⟩ : Term)]) rfl (fun _ => bs53_1 (⟨r195, r225⟩ : Term) _) rfl (by decide) fun b227 w228 hB_ hC => ?_
     refine done ?_
     refine aK (by assumption) (dbits 20 131071) ?_
     refine ae_tail 17 (by decide) (by decide) (by kernel_rfl) (by kernel_rfl) rfl ?_
     obtain ⟨hm232, h⟩ := h
     refine s_app hC 2 Tryz.underlying53 el162 rfl (by decide) (by decide) rfl (own_rdr (hC.getM 0 rfl)) (fun q hq => Enc.encs_one' (E := ETerm) _ q hq) rfl rfl hm232 fun v230 w231 hC => ?_
     replace hC := own_re hC 2 ((s173.1 ++ [(⟨r195, r225⟩ : Term)]).length) (ETerm.encs (s173.1 ++ [(⟨r195, r225⟩ : Term)])) rfl (by simp) (by first | (simp [Enc.encs_append]; done) | simp [Enc.encs_append, Enc.encs])
     refine s_faddrB 0 Tryz.underlying55 rfl sc53.size (sx hS_ 4 rfl) rfl ?_
     refine s_store (v := v230) hC 3 [v230] [v230] rfl sc53.size rfl rfl (own_cellsV (hC.getM 2 rfl)) rfl (all_c (own_oneC (hC.getM 2 rfl)) rfl) (Nat.le_of_ble_eq_true rfl) rfl fun w233 hC => ?_
     refine done ?_
     refine qn_norm ?_
     refine blk_norm ?_
     refine then_norm ?_
     refine cw_region ?_
     refine s_mv (v := .int .i64 s173.2) (sx hS_ 5 rfl) ?_
     refine s_add rfl rfl ?_
     refine s_as (v := .int .i64 (IntKind.i64.wrap (s173.2 + 1))) rfl ?_
     refine done ?_
     replace hC := hC.sM [2, 3, 4, 5, 6] (M' := [own 162 9 v230 ((s173.1 ++ [(⟨r195, r225⟩ : Term)]).length) (ETerm.encs (s173.1 ++ [(⟨r195, r225⟩ : Term)])), blk b14 55 [v230], blk b11 55 [.slice none 0 0], blk b8 55 [u2_0], blk b5 162 (Term.enc a1)]) (by decide) rfl
     exact hK178 (s173.1 ++ [(⟨r195, r225⟩ : Term)], IntKind.i64.wrap (s173.2 + 1)) _ _ ⟨v230, (sk (sx hS_ 0 rfl) (sk (sx hS_ 1 rfl) (sk (sx hS_ 2 rfl) (sk (sx hS_ 3 rfl) (sk (sx hS_ 4 rfl) (sk rfl sn)))))), hC⟩ h
    ·replace h := iff_ h (cf hb213)
     refine wp_skip ?_
     refine blk_norm ?_
     refine then_norm ?_
     refine cw_region ?_
     refine s_mv (v := .int .i64 s173.2) (sx hS_ 5 rfl) ?_
     refine s_add rfl rfl ?_
     refine s_as (v := .int .i64 (IntKind.i64.wrap (s173.2 + 1))) rfl ?_
     refine done ?_
     replace hC := hC.sM [1, 2, 3, 4, 5] (M' := [own 162 9 v174 s173.1.length (ETerm.encs s173.1), blk b14 55 [v174], blk b11 55 [.slice none 0 0], blk b8 55 [u2_0], blk b5 162 (Term.enc a1)]) (by decide) rfl
     exact hK178 (s173.1, IntKind.i64.wrap (s173.2 + 1)) _ _ ⟨v174, (sk (sx hS_ 0 rfl) (sk (sx hS_ 1 rfl) (sk (sx hS_ 2 rfl) (sk (sx hS_ 3 rfl) (sk (sx hS_ 4 rfl) (sk rfl sn)))))), hC⟩ h
   refine ae_two 9 13 rfl rfl (by kernel_rfl) ?_ ?_
   ·skip
    refine s_call [u0_0, .agg (List.toArray (A8.enc .u8 a1.mono)), .agg (List.toArray (A8.enc .u8 ((a2.terms.getD s173.2.toNat default).mono)))] _ Tryz.func196 rfl rfl rfl (c_spec_l01Joined a0 a1.mono ((a2.terms.getD s173.2.toNat default).mono) h _ (hC.getP 1 rfl)) (fun ret234 w236 hR235 => ?_)
    obtain ⟨r237, r238, rfl, h, hB239⟩ := hR235
    refine ⟨_, rfl, ?_⟩
    replace hC := hC.grow hB239
    refine done ?_
    refine aK (by assumption) (dbits 16 1023) ?_
    refine aF 10 (.tuple #[.agg (List.toArray (A8.enc .u8 r237)), .int .i64 r238]) rfl rfl (hM186 10 rfl) (rfl) (fun _ => by exact r_mv (v := .tuple #[.agg (List.toArray (A8.enc .u8 r237)), .int .i64 r238]) rfl) (dbits 16 2047) ?_
    refine aF 11 (.agg (List.toArray (A8.enc .u8 r237))) rfl rfl (hM186 11 rfl) (rfl) (fun _ => by exact r_ext (v := .agg (List.toArray (A8.enc .u8 r237))) rfl rfl) (dbits 16 4095) ?_
    refine aF 12 (.int .i64 r238) rfl rfl (hM186 12 rfl) (rfl) (fun _ => by exact r_ext (v := .int .i64 r238) rfl rfl) (dbits 16 8191) ?_
    refine aO 13 rfl ?_
    refine s_alloc hC (A8.enc .u8 A8.zero) z136 rfl fun b240 w242 hB_ hC => ?_
    refine done ?_
    refine aK (by assumption) (dbits 16 16383) ?_
    refine aO 14 rfl ?_
    refine s_store (v := .agg (List.toArray (A8.enc .u8 r237))) hC 0 (A8.enc .u8 r237) (A8.enc .u8 r237) rfl ag136.size rfl rfl rfl rfl rfl (Nat.le_of_ble_eq_true rfl) rfl fun w243 hC => ?_
    refine done ?_
    refine ak_introN (by decide) (l9 := (dbits 16 32767)) (by kernel_rfl) ?_
    refine ae_tail 15 (by decide) (by decide) (by kernel_rfl) (by kernel_rfl) rfl ?_
    refine s_as (v := .int .i64 r238) rfl ?_
    refine done ?_
    refine qn_norm ?_
    exact ⟨rfl, _, rfl, ⟨b240, r237, r238, (sk (sx hS_ 0 rfl) (sk (sx hS_ 1 rfl) (sk (sx hS_ 2 rfl) (sk (sx hS_ 3 rfl) (sk (sx hS_ 4 rfl) (sk (sx hS_ 5 rfl) (sk rfl (sk rfl (sk rfl (sk rfl (sk rfl (sk rfl (sk rfl (sk rfl (sk rfl (sk rfl (sk rfl (sk rfl (sk rfl (sk rfl (sk rfl (sk rfl (sk rfl (sk rfl (sk rfl (sk rfl sn)))))))))))))))))))))))))), hC, h⟩⟩
   ·skip
    refine s_alloc hC (A8.enc .u8 A8.zero) z136 rfl fun b244 w246 hB_ hC => ?_
    refine done ?_
    refine aK (by assumption) (dbits 16 8703) ?_
    refine aO 9 rfl ?_
    refine s_call [u0_0, .agg (List.toArray (A8.enc .u8 a1.mono)), .agg (List.toArray (A8.enc .u8 ((a2.terms.getD s173.2.toNat default).mono)))] _ Tryz.func196 rfl rfl rfl (c_spec_l01Joined a0 a1.mono ((a2.terms.getD s173.2.toNat default).mono) h _ (hC.getP 1 rfl)) (fun ret247 w249 hR248 => ?_)
    obtain ⟨r250, r251, rfl, h, hB252⟩ := hR248
    refine ⟨_, rfl, ?_⟩
    replace hC := hC.grow hB252
    refine done ?_
    refine aK (by assumption) (dbits 16 9215) ?_
    refine aF 10 (.tuple #[.agg (List.toArray (A8.enc .u8 r250)), .int .i64 r251]) rfl rfl (hM186 10 rfl) (rfl) (fun _ => by exact r_mv (v := .tuple #[.agg (List.toArray (A8.enc .u8 r250)), .int .i64 r251]) rfl) (dbits 16 10239) ?_
    refine aF 11 (.agg (List.toArray (A8.enc .u8 r250))) rfl rfl (hM186 11 rfl) (rfl) (fun _ => by exact r_ext (v := .agg (List.toArray (A8.enc .u8 r250))) rfl rfl) (dbits 16 12287) ?_
    refine aF 12 (.int .i64 r251) rfl rfl (hM186 12 rfl) (rfl) (fun _ => by exact r_ext (v := .int .i64 r251) rfl rfl) (dbits 16 16383) ?_
    refine aO 14 rfl ?_
    refine s_store (v := .agg (List.toArray (A8.enc .u8 r250))) hC 0 (A8.enc .u8 r250) (A8.enc .u8 r250) rfl ag136.size rfl rfl rfl rfl rfl (Nat.le_of_ble_eq_true rfl) rfl fun w253 hC => ?_
    refine done ?_
    refine ak_introN (by decide) (l9 := (dbits 16 32767)) (by kernel_rfl) ?_
    refine ae_tail 15 (by decide) (by decide) (by kernel_rfl) (by kernel_rfl) rfl ?_
    refine s_as (v := .int .i64 r251) rfl ?_
    refine done ?_
    refine qn_norm ?_
    exact ⟨rfl, _, rfl, ⟨b244, r250, r251, (sk (sx hS_ 0 rfl) (sk (sx hS_ 1 rfl) (sk (sx hS_ 2 rfl) (sk (sx hS_ 3 rfl) (sk (sx hS_ 4 rfl) (sk (sx hS_ 5 rfl) (sk rfl (sk rfl (sk rfl (sk rfl (sk rfl (sk rfl (sk rfl (sk rfl (sk rfl (sk rfl (sk rfl (sk rfl (sk rfl (sk rfl (sk rfl (sk rfl (sk rfl (sk rfl (sk rfl (sk rfl sn)))))))))))))))))))))))))), hC, h⟩⟩
  ·replace h := iff_ h (cf hb183)
   refine wp_exit (then_exit (then_exit (exit_in ?_)))
   refine then_norm ?_
   refine sr ?_
   refine s_loadA hC 1 [v174] rfl ag55 (sx hS_ 4 rfl) rfl rfl ?_
   refine s_store (v := .agg #[v174]) hC 2 [v174] [v174] rfl ag55.size (sx hS_ 3 rfl) rfl rfl rfl (all_c (own_oneC (hC.getM 0 rfl)) rfl) (Nat.le_of_ble_eq_true rfl) rfl fun w254 hC => ?_
   refine dn ?_
   refine wp_ret ?_
   refine ret1 (fn := Tryz.f175) rfl ?_ ⟨(⟨s173.1⟩ : Vc.Form), v174, (Option.toList (Value.ownBlock v174)), rfl, h, (form_join (own_item (hC.getM 0 rfl))), (own_fresh hC 0 rfl), hC.below⟩ (.inl rfl)
   exact res_cellA hC 2 rfl ag55 (sx hS_ 3 rfl) rfl
 ·skip
  replace hC := hC.pushNil 162 9
  exact ⟨.slice none 0 0, (sk rfl (sk rfl (sk rfl (sk rfl (sk rfl (sk rfl sn)))))), hC⟩
def f_spec_l01Times (a0 : List Int) (a1 : Vc.Form) (a2 : Vc.Form) (K : Vc.Form → Prop) : Prop :=
 whileP (fun (s105 : (List Term) × Int) next108 => (if s105.2 < (a1.terms.length : Int) then ((0 ≤ s105.2 ∧ s105.2 < (a1.terms.length : Int)) ∧ f_spec_l01Shift a0 (a1.terms.getD s105.2.toNat default) a2 (fun r127 => f_spec_l01Add (⟨s105.1⟩ : Vc.Form) r127 1 (fun r140 => next108 (r140.terms, IntKind.i64.wrap (s105.2 + 1))))) else K (⟨s105.1⟩ : Vc.Form))) ([], 0)
theorem c_spec_l01Times (a0 : List Int) (a1 : Vc.Form) (a2 : Vc.Form) {u0_0 : Value} {u1_0 : Value} {u2_0 : Value} {fp0 : List Nat} {fp1 : List Nat} {fp2 : List Nat} {K : Vc.Form → Prop} (h : f_spec_l01Times a0 a1 a2 K) (w0 : World) (q0 : ((EI .i64).ty.sl).rep a0 [u0_0] fp0 w0) (q1 : TForm.rep a1 [u1_0] fp1 w0) (q2 : TForm.rep a2 [u2_0] fp2 w0) :
  Calls Tryz.prog 123 #[u0_0, .agg #[u1_0], .agg #[u2_0]] w0 fun e w' => ∃ (r0 : Vc.Form) (z0_0 : Value) (fz0 : List Nat), 
   e = .returned (.agg #[z0_0]) ∧ K r0 ∧ (Tr.item (TrForm 162) r0 [z0_0] fz0).holds w' ∧ (∀ b, b ∈ fz0 → w0.heap.size ≤ b) ∧ Bel w0 w' := by
 unfold f_spec_l01Times at h
 refine calls_of (args := [u0_0, .agg #[u1_0], .agg #[u2_0]]) Tryz.func123 rfl 28 Tryz.ntmps123 (Nat.le_of_ble_eq_true rfl) ?_
 have hC := Ctx.start (X := Nox) w0 [Ty.item ((EI .i64).ty.sl) a0 [u0_0] fp0, Ty.item TForm a1 [u1_0] fp1, Ty.item TForm a2 [u2_0] fp2] (by simp only [List.mem_cons, List.not_mem_nil, or_false, forall_eq_or_imp, forall_eq]; exact ⟨q0, q1, q2⟩)
 have hp4 := (hC.getP 1 rfl)
 replace hC := hC.derive 1 rfl (Ty.item ETerm.ty.sl a1.terms [u1_0] fp1) (fun _ => (form_parts hp4)) (fun _ hb_ => hb_)
 have hp6 := (hC.getP 3 rfl)
 replace hC := hC.derive 3 rfl (Ty.item ETerm.ty.sl a2.terms [u2_0] fp2) (fun _ => (form_parts hp6)) (fun _ hb_ => hb_)
 refine sr ?_
 refine s_box (v := .agg #[u1_0]) hC [u1_0] rfl rfl fun b8 w10 hB_ hC => ?_
 refine s_box (v := .agg #[u2_0]) hC [u2_0] rfl rfl fun b11 w13 hB_ hC => ?_
 refine s_alloc hC [.slice none 0 0] z55 rfl fun b14 w16 hB_ hC => ?_
 refine dn ?_
 refine sr ?_
 refine s_build [] rfl (bl55   _) ?_
 refine s_alloc hC [.slice none 0 0] z55 rfl fun b17 w19 hB_ hC => ?_
 refine s_store (v := .agg #[.slice none 0 0]) hC 0 [.slice none 0 0] [.slice none 0 0] rfl ag55.size rfl rfl rfl rfl rfl (Nat.le_of_ble_eq_true rfl) rfl fun w20 hC => ?_
 refine dn ?_
 refine wp_seq ?_
 refine sr ?_
 refine s_as (v := .int .i64 0) rfl ?_
 refine dn ?_
 refine wp_block ?_
 refine loopW (S := (List Term) × Int) _ (fun s105 e_ w_ => ∃ (v106 : Value), Slots e_ [(0, u0_0), (4, .pointer (some ⟨b8, 0, none⟩)), (5, .pointer (some ⟨b11, 0, none⟩)), (6, .pointer (some ⟨b14, 0, none⟩)), (7, .pointer (some ⟨b17, 0, none⟩)), (8, .int .i64 s105.2)] ∧ Ctx Nox w0 w_ [own 162 9 v106 s105.1.length (ETerm.encs s105.1), blk b17 55 [v106], blk b14 55 [.slice none 0 0], blk b11 55 [u2_0], blk b8 55 [u1_0]] [Ty.item ETerm.ty.sl a2.terms [u2_0] fp2, Ty.item ETerm.ty.sl a1.terms [u1_0] fp1, Ty.item ((EI .i64).ty.sl) a0 [u0_0] fp0, Ty.item TForm a1 [u1_0] fp1, Ty.item TForm a2 [u2_0] fp2]) ?_ (s0 := ([], 0)) ?_ h
 ·clear hC h
  rintro s105 e_ w111 next108 K109 ⟨v106, hS_, hC⟩ h hK110
  refine wp_seq ?_
  refine sr ?_
  refine s_mv (v := .int .i64 s105.2) (sx hS_ 5 rfl) ?_
  refine s_faddrB 0 Tryz.underlying55 rfl sc53.size (sx hS_ 1 rfl) rfl ?_
  refine s_loadS hC 4 (u1_0) rfl sc53 rfl rfl ?_
  obtain ⟨Ad112, c113, hv114⟩ := sl_len (hC.getP 1 rfl)
  refine s_len Tryz.underlying53 (tr rfl hv114) ?_
  refine s_lss rfl rfl ?_
  refine dn ?_
  refine cw_cond rfl (fun hb115 => ?_) (fun hb115 => ?_)
  ·replace h := ift h (ct hb115)
   refine wp_skip ?_
   refine then_norm ?_
   refine wp_seq ?_
   refine wp_block ?_
   refine cw_draw 9 mixed [0, 0, 0, 4, 0, 28, 60, 0, 254, 511, 1023] [0, 3, 5, 6, 7] [1, 2, 4] (by kernel_rfl) (by kernel_rfl) (by kernel_rfl) (fun hM117 hM118 w116 hB_ => ?_)
   replace hC := hC.grow hB_
   refine aL 0 (.agg #[v106]) rfl rfl (hM117 0 rfl) (rfl) (fun _ hB_ => by exact r_loadA (hC.grow hB_) 1 [v106] rfl ag55 (sx hS_ 4 rfl) rfl rfl) (dbits 11 1) ?_
   refine aF 1 (u0_0) rfl rfl (hM118 1 rfl) (rfl) (fun _ => by exact r_mv (v := u0_0) (sx hS_ 0 rfl)) (dbits 11 3) ?_
   refine aF 2 (.pointer (some ⟨b8, 0, none⟩)) rfl rfl (hM118 2 rfl) (rfl) (fun _ => by exact r_faddrB 0 Tryz.underlying55 rfl sc53.size (sx hS_ 1 rfl) rfl) (dbits 11 7) ?_
   refine aL 3 (u1_0) rfl rfl (hM117 3 rfl) (rfl) (fun _ hB_ => by exact r_loadS (hC.grow hB_) 4 (u1_0) rfl sc53 rfl rfl) (dbits 11 15) ?_
   refine aF 4 (.int .i64 s105.2) rfl rfl (hM118 4 rfl) (rfl) (fun _ => by exact r_mv (v := .int .i64 s105.2) (sx hS_ 5 rfl)) (dbits 11 31) ?_
   obtain ⟨⟨h0_119, h1_120⟩, h⟩ := h
   obtain ⟨Ad121, c122, hv123⟩ := sl_form (hC.getP 1 rfl) s105.2.toNat (show s105.2.toNat < a1.terms.length by omega)
   refine aL 5 (.pointer (some (Ad121.add (s105.2.toNat * 9)))) rfl rfl (hM117 5 rfl) (rfl) (fun _ hB_ => by exact r_iaddrS (len := a1.terms.length) Tryz.underlying53 ag162.size (by exact tr rfl hv123) rfl h0_119 h1_120) (dbits 11 63) ?_
   refine aL 6 (.agg (List.toArray (Term.enc (a1.terms.getD s105.2.toNat default)))) rfl rfl (hM117 6 rfl) (rfl) (fun _ hB_ => by exact r_loadCA (Term.enc (a1.terms.getD s105.2.toNat default)) (sl_cellsE ((hC.grow hB_).getP 1 rfl) hv123 s105.2.toNat (show s105.2.toNat < a1.terms.length by omega)) ag162 rfl rfl) (dbits 11 127) ?_
   refine aL 7 (.agg #[u2_0]) rfl rfl (hM117 7 rfl) (rfl) (fun _ hB_ => by exact r_loadA (hC.grow hB_) 3 [u2_0] rfl ag55 (sx hS_ 2 rfl) rfl rfl) (dbits 11 255) ?_
   refine aO 8 rfl ?_
   refine s_call [u0_0, .agg (List.toArray (Term.enc (a1.terms.getD s105.2.toNat default))), .agg #[u2_0]] _ Tryz.func175 rfl rfl rfl (c_spec_l01Shift a0 (a1.terms.getD s105.2.toNat default) a2 h _ (hC.getP 2 rfl) (form_mk (hC.getP 0 rfl))) (fun ret124 w126 hR125 => ?_)
   obtain ⟨r127, u128, f129, rfl, h, hr130, hf131, hB132⟩ := hR125
   refine ⟨_, rfl, ?_⟩
   replace hC := hC.push hB132 (Tr.item (TrForm 162) r127 [u128] f129) hr130 hf131
   obtain ⟨ho134, hf135⟩ := form_split (hC.getM 0 rfl)
   subst hf135
   replace hC := hC.recast (c := own 162 9 u128 r127.terms.length (ETerm.encs r127.terms)) (fun _ h_ => h_) (fun _ => ho134)
   refine done ?_
   refine aK (by assumption) (dbits 11 511) ?_
   refine ae_tail 9 (by decide) (by decide) (by kernel_rfl) (by kernel_rfl) rfl ?_
   refine s_call [.agg #[v106], .agg #[u128], .int .i64 1] _ Tryz.func124 rfl rfl rfl (c_spec_l01Add (⟨s105.1⟩ : Vc.Form) r127 1 h _ (form_mk (own_repE (hC.getM 1 rfl))) (form_mk (own_repE (hC.getM 0 rfl)))) (fun ret137 w139 hR138 => ?_)
   obtain ⟨r140, u141, f142, rfl, h, hr143, hf144, hB145⟩ := hR138
   refine ⟨_, rfl, ?_⟩
   replace hC := hC.push hB145 (Tr.item (TrForm 162) r140 [u141] f142) hr143 hf144
   obtain ⟨ho147, hf148⟩ := form_split (hC.getM 0 rfl)
   subst hf148
   replace hC := hC.recast (c := own 162 9 u141 r140.terms.length (ETerm.encs r140.terms)) (fun _ h_ => h_) (fun _ => ho147)
   refine s_store (v := .agg #[u141]) hC 3 [u141] [u141] rfl ag55.size (sx hS_ 4 rfl) rfl rfl rfl (all_c (own_oneC (hC.getM 0 rfl)) rfl) (Nat.le_of_ble_eq_true rfl) rfl fun w150 hC => ?_
   refine done ?_
   refine qn_norm ?_
   refine blk_norm ?_
   refine then_norm ?_
   refine cw_region ?_
   refine s_mv (v := .int .i64 s105.2) (sx hS_ 5 rfl) ?_
   refine s_add rfl rfl ?_
   refine s_as (v := .int .i64 (IntKind.i64.wrap (s105.2 + 1))) rfl ?_
   refine done ?_
   replace hC := hC.sM [0, 3, 4, 5, 6] (M' := [own 162 9 u141 r140.terms.length (ETerm.encs r140.terms), blk b17 55 [u141], blk b14 55 [.slice none 0 0], blk b11 55 [u2_0], blk b8 55 [u1_0]]) (by decide) rfl
   exact hK110 (r140.terms, IntKind.i64.wrap (s105.2 + 1)) _ _ ⟨u141, (sk (sx hS_ 0 rfl) (sk (sx hS_ 1 rfl) (sk (sx hS_ 2 rfl) (sk (sx hS_ 3 rfl) (sk (sx hS_ 4 rfl) (sk rfl sn)))))), hC⟩ h
  ·replace h := iff_ h (cf hb115)
   refine wp_exit (then_exit (then_exit (exit_in ?_)))
   refine then_norm ?_
   refine sr ?_
   refine s_loadA hC 1 [v106] rfl ag55 (sx hS_ 4 rfl) rfl rfl ?_
   refine s_store (v := .agg #[v106]) hC 2 [v106] [v106] rfl ag55.size (sx hS_ 3 rfl) rfl rfl rfl (all_c (own_oneC (hC.getM 0 rfl)) rfl) (Nat.le_of_ble_eq_true rfl) rfl fun w151 hC => ?_
   refine dn ?_
   refine wp_ret ?_
   refine ret1 (fn := Tryz.f123) rfl ?_ ⟨(⟨s105.1⟩ : Vc.Form), v106, (Option.toList (Value.ownBlock v106)), rfl, h, (form_join (own_item (hC.getM 0 rfl))), (own_fresh hC 0 rfl), hC.below⟩ (.inl rfl)
   exact res_cellA hC 2 rfl ag55 (sx hS_ 3 rfl) rfl
 ·skip
  replace hC := hC.pushNil 162 9
  exact ⟨.slice none 0 0, (sk rfl (sk rfl (sk rfl (sk rfl (sk rfl (sk rfl sn)))))), hC⟩
def f_spec_l01Is (a0 : List Int) (a1 : Vc.Form) (K : Bool → Prop) : Prop :=
 whileP (fun (s96 : Int) next97 => (if s96 < (a1.terms.length : Int) then ((0 ≤ s96 ∧ s96 < (a1.terms.length : Int)) ∧ f_spec_l01Mono a0 ((a1.terms.getD s96.toNat default).mono) (fun r120 => (if ¬ (r120 = true) then K false else f_spec_l01In ((a1.terms.getD s96.toNat default).factor) 1 10006 (fun r126 => (if ¬ (r126 = true) then K false else (if s96 > 0 then ((0 ≤ IntKind.i64.wrap (s96 - 1) ∧ IntKind.i64.wrap (s96 - 1) < (a1.terms.length : Int)) ∧ f_spec_l01Before ((a1.terms.getD ((IntKind.i64.wrap (s96 - 1)).toNat) default).mono) ((a1.terms.getD s96.toNat default).mono) (fun r138 => (if ¬ (r138 = true) then K false else next97 (IntKind.i64.wrap (s96 + 1))))) else next97 (IntKind.i64.wrap (s96 + 1)))))))) else K (decide ((a1.terms.length : Int) ≤ 400)))) 0
theorem c_spec_l01Is (a0 : List Int) (a1 : Vc.Form) {u0_0 : Value} {u1_0 : Value} {fp0 : List Nat} {fp1 : List Nat} {K : Bool → Prop} (h : f_spec_l01Is a0 a1 K) (w0 : World) (q0 : ((EI .i64).ty.sl).rep a0 [u0_0] fp0 w0) (q1 : TForm.rep a1 [u1_0] fp1 w0) :
  Calls Tryz.prog 120 #[u0_0, .agg #[u1_0]] w0 fun e w' => ∃ (r0 : Bool), 
   e = .returned (.bool r0) ∧ K r0 ∧ Bel w0 w' := by
 unfold f_spec_l01Is at h
 refine calls_of (args := [u0_0, .agg #[u1_0]]) Tryz.func120 rfl 51 Tryz.ntmps120 (Nat.le_of_ble_eq_true rfl) ?_
 have hC := Ctx.start (X := Nox) w0 [Ty.item ((EI .i64).ty.sl) a0 [u0_0] fp0, Ty.item TForm a1 [u1_0] fp1] (by simp only [List.mem_cons, List.not_mem_nil, or_false, forall_eq_or_imp, forall_eq]; exact ⟨q0, q1⟩)
 have hp3 := (hC.getP 1 rfl)
 replace hC := hC.derive 1 rfl (Ty.item ETerm.ty.sl a1.terms [u1_0] fp1) (fun _ => (form_parts hp3)) (fun _ hb_ => hb_)
 refine sr ?_
 refine s_box (v := .agg #[u1_0]) hC [u1_0] rfl rfl fun b5 w7 hB_ hC => ?_
 refine s_as (v := .bool false) rfl ?_
 refine dn ?_
 refine wp_seq ?_
 refine sr ?_
 refine s_as (v := .int .i64 0) rfl ?_
 refine dn ?_
 refine wp_block ?_
 refine loopW (S := Int) _ (fun s96 e_ w_ => Slots e_ [(0, u0_0), (3, .pointer (some ⟨b5, 0, none⟩)), (4, .bool false), (5, .int .i64 s96)] ∧ Ctx Nox w0 w_ [blk b5 55 [u1_0]] [Ty.item ETerm.ty.sl a1.terms [u1_0] fp1, Ty.item ((EI .i64).ty.sl) a0 [u0_0] fp0, Ty.item TForm a1 [u1_0] fp1]) ?_ (s0 := 0) ?_ h
 ·clear hC h
  rintro s96 e_ w100 next97 K98 ⟨hS_, hC⟩ h hK99
  refine wp_seq ?_
  refine sr ?_
  refine s_mv (v := .int .i64 s96) (sx hS_ 3 rfl) ?_
  refine s_faddrB 0 Tryz.underlying55 rfl sc53.size (sx hS_ 1 rfl) rfl ?_
  refine s_loadS hC 0 (u1_0) rfl sc53 rfl rfl ?_
  obtain ⟨Ad101, c102, hv103⟩ := sl_len (hC.getP 0 rfl)
  refine s_len Tryz.underlying53 (tr rfl hv103) ?_
  refine s_lss rfl rfl ?_
  refine dn ?_
  refine cw_cond rfl (fun hb104 => ?_) (fun hb104 => ?_)
  ·replace h := ift h (ct hb104)
   refine wp_skip ?_
   refine then_norm ?_
   refine wp_seq ?_
   refine wp_block ?_
   refine sr ?_
   refine s_faddrB 0 Tryz.underlying55 rfl sc53.size (sx hS_ 1 rfl) rfl ?_
   refine s_loadS hC 0 (u1_0) rfl sc53 rfl rfl ?_
   refine s_mv (v := .int .i64 s96) (sx hS_ 3 rfl) ?_
   obtain ⟨⟨h0_105, h1_106⟩, h⟩ := h
   obtain ⟨Ad107, c108, hv109⟩ := sl_form (hC.getP 0 rfl) s96.toNat (show s96.toNat < a1.terms.length by omega)
   refine s_iaddrS (len := a1.terms.length) Tryz.underlying53 ag162.size (tr rfl hv109) rfl h0_105 h1_106 ?_
   refine s_loadCA (Term.enc (a1.terms.getD s96.toNat default)) (sl_cellsE (hC.getP 0 rfl) hv109 s96.toNat (show s96.toNat < a1.terms.length by omega)) ag162 rfl rfl ?_
   refine s_alloc hC (Term.enc (⟨A8.zero, 0⟩ : Term)) z162 rfl fun b110 w112 hB_ hC => ?_
   refine s_store (v := .agg (List.toArray (Term.enc (a1.terms.getD s96.toNat default)))) hC 0 (Term.enc (a1.terms.getD s96.toNat default)) (Term.enc (a1.terms.getD s96.toNat default)) rfl ag162.size rfl rfl rfl rfl rfl (Nat.le_of_ble_eq_true rfl) rfl fun w113 hC => ?_
   refine dn ?_
   refine wp_seq ?_
   refine cw_draw 24 mixed [0, 0, 2, 7, 15, 31, 63, 127, 255, 511, 1023, 2047, 4095, 8191, 16383, 32767, 65535, 32767, 163839, 524287, 1048575, 2097151, 32767, 4227071, 16777215, 33554431, 67108863, 134217727] [2, 7, 16, 19, 21, 23] [0, 1, 4, 5, 6, 7, 8, 9, 10, 11, 12, 13, 14, 15, 16, 17, 18, 19, 20, 21, 22, 23] (by kernel_rfl) (by kernel_rfl) (by kernel_rfl) (fun hM115 hM116 w114 hB_ => ?_)
   replace hC := hC.grow hB_
   refine aF 0 (u0_0) rfl rfl (hM116 0 rfl) (rfl) (fun _ => by exact r_mv (v := u0_0) (sx hS_ 0 rfl)) (dbits 28 1) ?_
   refine aF 1 (.pointer (some ⟨b110, 0, none⟩)) rfl rfl (hM116 1 rfl) (rfl) (fun _ => by exact r_faddrB 0 Tryz.underlying162 rfl ag136.size rfl rfl) (dbits 28 3) ?_
   refine aL 2 (.agg (List.toArray (A8.enc .u8 ((a1.terms.getD s96.toNat default).mono)))) rfl rfl (hM115 2 rfl) (rfl) (fun _ hB_ => by exact r_loadA (hC.grow hB_) 0 (A8.enc .u8 ((a1.terms.getD s96.toNat default).mono)) rfl ag136 rfl rfl rfl) (dbits 28 7) ?_
   refine aO 3 rfl ?_
   refine s_call [u0_0, .agg (List.toArray (A8.enc .u8 ((a1.terms.getD s96.toNat default).mono)))] _ Tryz.func173 rfl rfl rfl (c_spec_l01Mono a0 ((a1.terms.getD s96.toNat default).mono) h _ (hC.getP 1 rfl)) (fun ret117 w119 hR118 => ?_)
   obtain ⟨r120, rfl, h, hB121⟩ := hR118
   refine ⟨_, rfl, ?_⟩
   replace hC := hC.grow hB121
   refine done ?_
   refine aK (by assumption) (dbits 28 15) ?_
   refine aF 4 (.bool (!r120)) rfl rfl (hM116 4 rfl) (rfl) (fun _ => by exact r_not rfl) (dbits 28 31) ?_
   refine aF 5 (.bool (!r120)) rfl rfl (hM116 5 rfl) (rfl) (fun _ => by exact r_mv (v := .bool (!r120)) rfl) (dbits 28 63) ?_
   refine bsplit (!r120) (fun hb122 => ?_) (fun hb122 => ?_)
   ·replace h := ift h (ne_t (not_t hb122))
    refine ae_lookF belPre 6 undef rfl rfl (by kernel_rfl) (hM116 6 rfl) (fun w_ => .inr ⟨wanted_off (b := true) 5 24 rfl (tr rfl (congrArg _ hb122)) (by decide), rfl⟩) (l9 := (dbits 28 127)) (by kernel_rfl) ?_
    refine ae_lookF belPre 7 undef rfl rfl (by kernel_rfl) (hM116 7 rfl) (fun w_ => .inr ⟨wanted_off (b := true) 5 24 rfl (tr rfl (congrArg _ hb122)) (by decide), rfl⟩) (l9 := (dbits 28 255)) (by kernel_rfl) ?_
    refine ae_lookF belPre 8 undef rfl rfl (by kernel_rfl) (hM116 8 rfl) (fun w_ => .inr ⟨wanted_off (b := true) 5 24 rfl (tr rfl (congrArg _ hb122)) (by decide), rfl⟩) (l9 := (dbits 28 511)) (by kernel_rfl) ?_
    refine ae_lookF belPre 9 undef rfl rfl (by kernel_rfl) (hM116 9 rfl) (fun w_ => .inr ⟨wanted_off (b := true) 5 24 rfl (tr rfl (congrArg _ hb122)) (by decide), rfl⟩) (l9 := (dbits 28 1023)) (by kernel_rfl) ?_
    refine aF 10 (.bool true) rfl rfl (hM116 10 rfl) (rfl) (fun _ => by exact r_pick (v := .bool true) (b := true) (by exact tr rfl (congrArg _ hb122)) rfl) (dbits 28 2047) ?_
    refine aF 11 (.bool true) rfl rfl (hM116 11 rfl) (rfl) (fun _ => by exact r_mv (v := .bool true) rfl) (dbits 28 4095) ?_
    refine ae_lookF belPre 12 undef rfl rfl (by kernel_rfl) (hM116 12 rfl) (fun w_ => .inr ⟨wanted_off (b := true) 11 30 rfl (tr rfl (congrArg _ rfl)) (by decide), rfl⟩) (l9 := (dbits 28 8191)) (by kernel_rfl) ?_
    refine ae_lookF belPre 13 undef rfl rfl (by kernel_rfl) (hM116 13 rfl) (fun w_ => .inr ⟨wanted_off (b := true) 11 30 rfl (tr rfl (congrArg _ rfl)) (by decide), rfl⟩) (l9 := (dbits 28 16383)) (by kernel_rfl) ?_
    refine ae_lookF belPre 14 undef rfl rfl (by kernel_rfl) (hM116 14 rfl) (fun w_ => .inr ⟨wanted_off (b := true) 11 30 rfl (tr rfl (congrArg _ rfl)) (by decide), rfl⟩) (l9 := (dbits 28 32767)) (by kernel_rfl) ?_
    refine ae_lookF belPre 15 undef rfl rfl (by kernel_rfl) (hM116 15 rfl) (fun w_ => .inr ⟨wanted_offU 14 33 rfl rfl, rfl⟩) (l9 := (dbits 28 65535)) (by kernel_rfl) ?_
    refine ae_lookF belPre 16 undef rfl rfl (by kernel_rfl) (hM116 16 rfl) (fun w_ => .inr ⟨wanted_offU 14 33 rfl rfl, rfl⟩) (l9 := (dbits 28 131071)) (by kernel_rfl) ?_
    refine ae_lookF belPre 17 undef rfl rfl (by kernel_rfl) (hM116 17 rfl) (fun w_ => .inr ⟨wanted_offU 14 33 rfl rfl, rfl⟩) (l9 := (dbits 28 262143)) (by kernel_rfl) ?_
    refine ae_lookF belPre 18 undef rfl rfl (by kernel_rfl) (hM116 18 rfl) (fun w_ => .inr ⟨wanted_offU 14 33 rfl rfl, rfl⟩) (l9 := (dbits 28 524287)) (by kernel_rfl) ?_
    refine ae_lookF belPre 19 undef rfl rfl (by kernel_rfl) (hM116 19 rfl) (fun w_ => .inr ⟨wanted_offU 14 33 rfl rfl, rfl⟩) (l9 := (dbits 28 1048575)) (by kernel_rfl) ?_
    refine ae_lookF belPre 20 undef rfl rfl (by kernel_rfl) (hM116 20 rfl) (fun w_ => .inr ⟨wanted_offU 14 33 rfl rfl, rfl⟩) (l9 := (dbits 28 2097151)) (by kernel_rfl) ?_
    refine ae_lookF belPre 21 undef rfl rfl (by kernel_rfl) (hM116 21 rfl) (fun w_ => .inr ⟨wanted_offU 14 33 rfl rfl, rfl⟩) (l9 := (dbits 28 4194303)) (by kernel_rfl) ?_
    refine ae_lookF belPre 22 undef rfl rfl (by kernel_rfl) (hM116 22 rfl) (fun w_ => .inr ⟨wanted_offU 14 33 rfl rfl, rfl⟩) (l9 := (dbits 28 8388607)) (by kernel_rfl) ?_
    refine ae_lookF belPre 23 undef rfl rfl (by kernel_rfl) (hM116 23 rfl) (fun w_ => .inr ⟨wanted_offU 14 33 rfl rfl, rfl⟩) (l9 := (dbits 28 16777215)) (by kernel_rfl) ?_
    refine ae_tail 24 (by decide) (by decide) (by kernel_rfl) (by kernel_rfl) rfl ?_
    refine guardOffU 14 33 rfl rfl ?_
    refine guardOffU 14 33 rfl rfl ?_
    refine guardOff (b := true) 11 30 rfl (tr rfl (congrArg _ rfl)) (by decide) ?_
    refine s_pick (v := .bool true) (b := true) rfl rfl ?_
    refine done ?_
    refine qn_norm ?_
    refine then_norm ?_
    refine cw_true rfl rfl ?_
    refine sr ?_
    refine s_as (v := .bool false) rfl ?_
    refine dn ?_
    refine wp_ret (blk_ret (then_ret (then_ret (blk_ret (then_ret ?_)))))
    refine ret1 (fn := Tryz.f120) rfl ?_ ⟨false, rfl, h, hC.below⟩ (.inl rfl)
    exact res_tmp rfl
   ·replace h := iff_ h (not_not_intro ((not_f hb122)))
    refine aF 6 (.pointer (some ⟨b110, 8, none⟩)) rfl rfl (hM116 6 rfl) (wanted_on 5 24 rfl rfl hb122) (fun _ => by exact r_faddrB 8 Tryz.underlying162 rfl sc2.size rfl rfl) (dbits 28 127) ?_
    refine aL 7 (.int .i64 ((a1.terms.getD s96.toNat default).factor)) rfl rfl (hM115 7 rfl) (wanted_on 5 24 rfl rfl hb122) (fun _ hB_ => by exact r_loadS (hC.grow hB_) 0 (.int .i64 ((a1.terms.getD s96.toNat default).factor)) rfl sc2 rfl rfl) (dbits 28 255) ?_
    refine aO 8 rfl ?_
    refine guardOn 5 24 rfl rfl hb122 ?_
    refine s_call [.int .i64 ((a1.terms.getD s96.toNat default).factor), .int .i64 1, .int .i64 10006] _ Tryz.func59 rfl rfl rfl (c_spec_l01In ((a1.terms.getD s96.toNat default).factor) 1 10006 h _) (fun ret123 w125 hR124 => ?_)
    obtain ⟨r126, rfl, h, hB127⟩ := hR124
    refine ⟨_, rfl, ?_⟩
    replace hC := hC.grow hB127
    refine done ?_
    refine aK (by assumption) (dbits 28 511) ?_
    refine aF 9 (.bool (!r126)) rfl rfl (hM116 9 rfl) (wanted_on 5 24 rfl rfl hb122) (fun _ => by exact r_not rfl) (dbits 28 1023) ?_
    refine aF 10 (.bool (!r126)) rfl rfl (hM116 10 rfl) (rfl) (fun _ => by exact r_pick (v := .bool (!r126)) (b := false) (by exact tr rfl (congrArg _ hb122)) rfl) (dbits 28 2047) ?_
    refine aF 11 (.bool (!r126)) rfl rfl (hM116 11 rfl) (rfl) (fun _ => by exact r_mv (v := .bool (!r126)) rfl) (dbits 28 4095) ?_
    refine bsplit (!r126) (fun hb128 => ?_) (fun hb128 => ?_)
    ·replace h := ift h (ne_t (not_t hb128))
     refine ae_lookF belPre 12 undef rfl rfl (by kernel_rfl) (hM116 12 rfl) (fun w_ => .inr ⟨wanted_off (b := true) 11 30 rfl (tr rfl (congrArg _ hb128)) (by decide), rfl⟩) (l9 := (dbits 28 8191)) (by kernel_rfl) ?_
     refine ae_lookF belPre 13 undef rfl rfl (by kernel_rfl) (hM116 13 rfl) (fun w_ => .inr ⟨wanted_off (b := true) 11 30 rfl (tr rfl (congrArg _ hb128)) (by decide), rfl⟩) (l9 := (dbits 28 16383)) (by kernel_rfl) ?_
     refine ae_lookF belPre 14 undef rfl rfl (by kernel_rfl) (hM116 14 rfl) (fun w_ => .inr ⟨wanted_off (b := true) 11 30 rfl (tr rfl (congrArg _ hb128)) (by decide), rfl⟩) (l9 := (dbits 28 32767)) (by kernel_rfl) ?_
     refine ae_lookF belPre 15 undef rfl rfl (by kernel_rfl) (hM116 15 rfl) (fun w_ => .inr ⟨wanted_offU 14 33 rfl rfl, rfl⟩) (l9 := (dbits 28 65535)) (by kernel_rfl) ?_
     refine ae_lookF belPre 16 undef rfl rfl (by kernel_rfl) (hM116 16 rfl) (fun w_ => .inr ⟨wanted_offU 14 33 rfl rfl, rfl⟩) (l9 := (dbits 28 131071)) (by kernel_rfl) ?_
     refine ae_lookF belPre 17 undef rfl rfl (by kernel_rfl) (hM116 17 rfl) (fun w_ => .inr ⟨wanted_offU 14 33 rfl rfl, rfl⟩) (l9 := (dbits 28 262143)) (by kernel_rfl) ?_
     refine ae_lookF belPre 18 undef rfl rfl (by kernel_rfl) (hM116 18 rfl) (fun w_ => .inr ⟨wanted_offU 14 33 rfl rfl, rfl⟩) (l9 := (dbits 28 524287)) (by kernel_rfl) ?_
     refine ae_lookF belPre 19 undef rfl rfl (by kernel_rfl) (hM116 19 rfl) (fun w_ => .inr ⟨wanted_offU 14 33 rfl rfl, rfl⟩) (l9 := (dbits 28 1048575)) (by kernel_rfl) ?_
     refine ae_lookF belPre 20 undef rfl rfl (by kernel_rfl) (hM116 20 rfl) (fun w_ => .inr ⟨wanted_offU 14 33 rfl rfl, rfl⟩) (l9 := (dbits 28 2097151)) (by kernel_rfl) ?_
     refine ae_lookF belPre 21 undef rfl rfl (by kernel_rfl) (hM116 21 rfl) (fun w_ => .inr ⟨wanted_offU 14 33 rfl rfl, rfl⟩) (l9 := (dbits 28 4194303)) (by kernel_rfl) ?_
     refine ae_lookF belPre 22 undef rfl rfl (by kernel_rfl) (hM116 22 rfl) (fun w_ => .inr ⟨wanted_offU 14 33 rfl rfl, rfl⟩) (l9 := (dbits 28 8388607)) (by kernel_rfl) ?_
     refine ae_lookF belPre 23 undef rfl rfl (by kernel_rfl) (hM116 23 rfl) (fun w_ => .inr ⟨wanted_offU 14 33 rfl rfl, rfl⟩) (l9 := (dbits 28 16777215)) (by kernel_rfl) ?_
     refine ae_tail 24 (by decide) (by decide) (by kernel_rfl) (by kernel_rfl) rfl ?_
     refine guardOffU 14 33 rfl rfl ?_
     refine guardOffU 14 33 rfl rfl ?_
     refine guardOff (b := true) 11 30 rfl (tr rfl (congrArg _ hb128)) (by decide) ?_
     refine s_pick (v := .bool true) (b := true) (tr rfl (congrArg _ hb128)) rfl ?_
     refine done ?_
     refine qn_norm ?_
     refine then_norm ?_
     refine cw_true rfl rfl ?_
     refine sr ?_
     refine s_as (v := .bool false) rfl ?_
     refine dn ?_
     refine wp_ret (blk_ret (then_ret (then_ret (blk_ret (then_ret ?_)))))
     refine ret1 (fn := Tryz.f120) rfl ?_ ⟨false, rfl, h, hC.below⟩ (.inl rfl)
     exact res_tmp rfl
    ·replace h := iff_ h (not_not_intro ((not_f hb128)))
     refine aF 12 (.int .i64 s96) rfl rfl (hM116 12 rfl) (wanted_on 11 30 rfl rfl hb128) (fun _ => by exact r_mv (v := .int .i64 s96) (sx hS_ 3 rfl)) (dbits 28 8191) ?_
     refine aF 13 (.bool (decide (s96 > 0))) rfl rfl (hM116 13 rfl) (wanted_on 11 30 rfl rfl hb128) (fun _ => by exact r_gtr rfl rfl) (dbits 28 16383) ?_
     refine aF 14 (.bool (decide (s96 > 0))) rfl rfl (hM116 14 rfl) (wanted_on 11 30 rfl rfl hb128) (fun _ => by exact r_mv (v := .bool (decide (s96 > 0))) rfl) (dbits 28 32767) ?_
     refine bsplit (decide (s96 > 0)) (fun hb129 => ?_) (fun hb129 => ?_)
     ·replace h := ift h (ct hb129)
      refine aF 15 (.pointer (some ⟨b5, 0, none⟩)) rfl rfl (hM116 15 rfl) (wanted_on 14 33 rfl rfl hb129) (fun _ => by exact r_faddrB 0 Tryz.underlying55 rfl sc53.size (sx hS_ 1 rfl) rfl) (dbits 28 65535) ?_
      refine aL 16 (u1_0) rfl rfl (hM115 16 rfl) (wanted_on 14 33 rfl rfl hb129) (fun _ hB_ => by exact r_loadS (hC.grow hB_) 1 (u1_0) rfl sc53 rfl rfl) (dbits 28 131071) ?_
      refine aF 17 (.int .i64 s96) rfl rfl (hM116 17 rfl) (wanted_on 14 33 rfl rfl hb129) (fun _ => by exact r_mv (v := .int .i64 s96) (sx hS_ 3 rfl)) (dbits 28 262143) ?_
      refine aF 18 (.int .i64 (IntKind.i64.wrap (s96 - 1))) rfl rfl (hM116 18 rfl) (wanted_on 14 33 rfl rfl hb129) (fun _ => by exact r_sub rfl rfl) (dbits 28 524287) ?_
      obtain ⟨⟨h0_130, h1_131⟩, h⟩ := h
      obtain ⟨Ad132, c133, hv134⟩ := sl_form (hC.getP 0 rfl) ((IntKind.i64.wrap (s96 - 1)).toNat) (show (IntKind.i64.wrap (s96 - 1)).toNat < a1.terms.length by omega)
      refine aL 19 (.pointer (some (Ad132.add ((IntKind.i64.wrap (s96 - 1)).toNat * 9)))) rfl rfl (hM115 19 rfl) (wanted_on 14 33 rfl rfl hb129) (fun _ hB_ => by exact r_iaddrS (len := a1.terms.length) Tryz.underlying53 ag162.size (by exact tr rfl hv134) rfl h0_130 h1_131) (dbits 28 1048575) ?_
      refine aF 20 (.pointer (some (Ad132.add ((IntKind.i64.wrap (s96 - 1)).toNat * 9 + 0)))) rfl rfl (hM116 20 rfl) (wanted_on 14 33 rfl rfl hb129) (fun _ => by exact r_faddrS ((IntKind.i64.wrap (s96 - 1)).toNat * 9 + 0) Tryz.underlying162 rfl ag136.size rfl rfl) (dbits 28 2097151) ?_
      refine aL 21 (.agg (List.toArray (A8.enc .u8 ((a1.terms.getD ((IntKind.i64.wrap (s96 - 1)).toNat) default).mono)))) rfl rfl (hM115 21 rfl) (wanted_on 14 33 rfl rfl hb129) (fun _ hB_ => by exact r_loadCA (A8.enc .u8 ((a1.terms.getD ((IntKind.i64.wrap (s96 - 1)).toNat) default).mono)) (cells_subS (o := 0) (k := 8) (sl_cellsE ((hC.grow hB_).getP 0 rfl) hv134 ((IntKind.i64.wrap (s96 - 1)).toNat) (show (IntKind.i64.wrap (s96 - 1)).toNat < a1.terms.length by omega)) rfl) ag136 rfl rfl) (dbits 28 4194303) ?_
      refine aF 22 (.pointer (some ⟨b110, 0, none⟩)) rfl rfl (hM116 22 rfl) (wanted_on 14 33 rfl rfl hb129) (fun _ => by exact r_faddrB 0 Tryz.underlying162 rfl ag136.size rfl rfl) (dbits 28 8388607) ?_
      refine aL 23 (.agg (List.toArray (A8.enc .u8 ((a1.terms.getD s96.toNat default).mono)))) rfl rfl (hM115 23 rfl) (wanted_on 14 33 rfl rfl hb129) (fun _ hB_ => by exact r_loadA (hC.grow hB_) 0 (A8.enc .u8 ((a1.terms.getD s96.toNat default).mono)) rfl ag136 rfl rfl rfl) (dbits 28 16777215) ?_
      refine ae_tail 24 (by decide) (by decide) (by kernel_rfl) (by kernel_rfl) rfl ?_
      refine guardOn 14 33 rfl rfl hb129 ?_
      refine s_call [.agg (List.toArray (A8.enc .u8 ((a1.terms.getD ((IntKind.i64.wrap (s96 - 1)).toNat) default).mono))), .agg (List.toArray (A8.enc .u8 ((a1.terms.getD s96.toNat default).mono)))] _ Tryz.func174 rfl rfl rfl (c_spec_l01Before ((a1.terms.getD ((IntKind.i64.wrap (s96 - 1)).toNat) default).mono) ((a1.terms.getD s96.toNat default).mono) h _) (fun ret135 w137 hR136 => ?_)
      obtain ⟨r138, rfl, h, hB139⟩ := hR136
      refine ⟨_, rfl, ?_⟩
      replace hC := hC.grow hB139
      refine guardOn 14 33 rfl rfl hb129 ?_
      refine s_not rfl ?_
      refine guardOn 11 30 rfl rfl hb128 ?_
      refine s_pick (v := .bool (!r138)) (b := true) (tr rfl (congrArg _ hb129)) rfl ?_
      refine s_pick (v := .bool (!r138)) (b := false) (tr rfl (congrArg _ hb128)) rfl ?_
      refine done ?_
      refine qn_norm ?_
      refine then_norm ?_
      refine cw_cond rfl (fun hb140 => ?_) (fun hb140 => ?_)
      ·replace h := ift h (ne_t (not_t hb140))
       refine sr ?_
       refine s_as (v := .bool false) rfl ?_
       refine dn ?_
       refine wp_ret (blk_ret (then_ret (then_ret (blk_ret (then_ret ?_)))))
       refine ret1 (fn := Tryz.f120) rfl ?_ ⟨false, rfl, h, hC.below⟩ (.inl rfl)
       exact res_tmp rfl
      ·replace h := iff_ h (not_not_intro ((not_f hb140)))
       refine wp_skip ?_
       refine blk_norm ?_
       refine then_norm ?_
       refine cw_region ?_
       refine s_mv (v := .int .i64 s96) (sx hS_ 3 rfl) ?_
       refine s_add rfl rfl ?_
       refine s_as (v := .int .i64 (IntKind.i64.wrap (s96 + 1))) rfl ?_
       refine done ?_
       replace hC := hC.sM [1] (M' := [blk b5 55 [u1_0]]) (by decide) rfl
       exact hK99 (IntKind.i64.wrap (s96 + 1)) _ _ ⟨(sk (sx hS_ 0 rfl) (sk (sx hS_ 1 rfl) (sk (sx hS_ 2 rfl) (sk rfl sn)))), hC⟩ h
     ·replace h := iff_ h (cf hb129)
      refine ae_lookF belPre 15 undef rfl rfl (by kernel_rfl) (hM116 15 rfl) (fun w_ => .inr ⟨wanted_off (b := false) 14 33 rfl (tr rfl (congrArg _ hb129)) (by decide), rfl⟩) (l9 := (dbits 28 65535)) (by kernel_rfl) ?_
      refine ae_lookF belPre 16 undef rfl rfl (by kernel_rfl) (hM116 16 rfl) (fun w_ => .inr ⟨wanted_off (b := false) 14 33 rfl (tr rfl (congrArg _ hb129)) (by decide), rfl⟩) (l9 := (dbits 28 131071)) (by kernel_rfl) ?_
      refine ae_lookF belPre 17 undef rfl rfl (by kernel_rfl) (hM116 17 rfl) (fun w_ => .inr ⟨wanted_off (b := false) 14 33 rfl (tr rfl (congrArg _ hb129)) (by decide), rfl⟩) (l9 := (dbits 28 262143)) (by kernel_rfl) ?_
      refine ae_lookF belPre 18 undef rfl rfl (by kernel_rfl) (hM116 18 rfl) (fun w_ => .inr ⟨wanted_off (b := false) 14 33 rfl (tr rfl (congrArg _ hb129)) (by decide), rfl⟩) (l9 := (dbits 28 524287)) (by kernel_rfl) ?_
      refine ae_lookF belPre 19 undef rfl rfl (by kernel_rfl) (hM116 19 rfl) (fun w_ => .inr ⟨wanted_off (b := false) 14 33 rfl (tr rfl (congrArg _ hb129)) (by decide), rfl⟩) (l9 := (dbits 28 1048575)) (by kernel_rfl) ?_
      refine ae_lookF belPre 20 undef rfl rfl (by kernel_rfl) (hM116 20 rfl) (fun w_ => .inr ⟨wanted_off (b := false) 14 33 rfl (tr rfl (congrArg _ hb129)) (by decide), rfl⟩) (l9 := (dbits 28 2097151)) (by kernel_rfl) ?_
      refine ae_lookF belPre 21 undef rfl rfl (by kernel_rfl) (hM116 21 rfl) (fun w_ => .inr ⟨wanted_off (b := false) 14 33 rfl (tr rfl (congrArg _ hb129)) (by decide), rfl⟩) (l9 := (dbits 28 4194303)) (by kernel_rfl) ?_
      refine ae_lookF belPre 22 undef rfl rfl (by kernel_rfl) (hM116 22 rfl) (fun w_ => .inr ⟨wanted_off (b := false) 14 33 rfl (tr rfl (congrArg _ hb129)) (by decide), rfl⟩) (l9 := (dbits 28 8388607)) (by kernel_rfl) ?_
      refine ae_lookF belPre 23 undef rfl rfl (by kernel_rfl) (hM116 23 rfl) (fun w_ => .inr ⟨wanted_off (b := false) 14 33 rfl (tr rfl (congrArg _ hb129)) (by decide), rfl⟩) (l9 := (dbits 28 16777215)) (by kernel_rfl) ?_
      refine ae_tail 24 (by decide) (by decide) (by kernel_rfl) (by kernel_rfl) rfl ?_
      refine guardOff (b := false) 14 33 rfl (tr rfl (congrArg _ hb129)) (by decide) ?_
      refine guardOff (b := false) 14 33 rfl (tr rfl (congrArg _ hb129)) (by decide) ?_
      refine guardOn 11 30 rfl rfl hb128 ?_
      refine s_pick (v := .bool false) (b := false) (tr rfl (congrArg _ hb129)) rfl ?_
      refine s_pick (v := .bool false) (b := false) (tr rfl (congrArg _ hb128)) rfl ?_
      refine done ?_
      refine qn_norm ?_
      refine then_norm ?_
      refine cw_false rfl rfl ?_
      refine wp_skip ?_
      refine blk_norm ?_
      refine then_norm ?_
      refine cw_region ?_
      refine s_mv (v := .int .i64 s96) (sx hS_ 3 rfl) ?_
      refine s_add rfl rfl ?_
      refine s_as (v := .int .i64 (IntKind.i64.wrap (s96 + 1))) rfl ?_
      refine done ?_
      replace hC := hC.sM [1] (M' := [blk b5 55 [u1_0]]) (by decide) rfl
      exact hK99 (IntKind.i64.wrap (s96 + 1)) _ _ ⟨(sk (sx hS_ 0 rfl) (sk (sx hS_ 1 rfl) (sk (sx hS_ 2 rfl) (sk rfl sn)))), hC⟩ h
  ·replace h := iff_ h (cf hb104)
   refine wp_exit (then_exit (then_exit (exit_in ?_)))
   refine then_norm ?_
   refine sr ?_
   refine s_faddrB 0 Tryz.underlying55 rfl sc53.size (sx hS_ 1 rfl) rfl ?_
   refine s_loadS hC 0 (u1_0) rfl sc53 rfl rfl ?_
   obtain ⟨Ad141, c142, hv143⟩ := sl_len (hC.getP 0 rfl)
   refine s_len Tryz.underlying53 (tr rfl hv143) ?_
   refine s_leq rfl rfl ?_
   refine s_as (v := .bool (decide ((a1.terms.length : Int) ≤ 400))) rfl ?_
   refine dn ?_
   refine wp_ret ?_
   refine ret1 (fn := Tryz.f120) rfl ?_ ⟨decide ((a1.terms.length : Int) ≤ 400), rfl, h, hC.below⟩ (.inl rfl)
   exact res_tmp rfl
 ·skip
  exact ⟨(sk rfl (sk rfl (sk rfl (sk rfl sn)))), hC⟩
def f_spec_l01Weight (a0 : List Int) (a1 : A8) (K : Int → Prop) : Prop :=
 forN (fun i36 (s37 : Int) next39 => ((0 ≤ (i36 : Int) ∧ (i36 : Int) < 8) ∧ next39 (IntKind.i64.wrap (s37 + (IntKind.i64.wrap ((a0.getD i36 default) * (IntKind.i64.wrap (a1.get i36)))))))) (fun (s37 : Int) => K s37) a0.length 0 0
theorem c_spec_l01Weight (a0 : List Int) (a1 : A8) {u0_0 : Value} {fp0 : List Nat} {K : Int → Prop} (h : f_spec_l01Weight a0 a1 K) (w0 : World) (q0 : ((EI .i64).ty.sl).rep a0 [u0_0] fp0 w0) :
  Calls Tryz.prog 121 #[u0_0, .agg (List.toArray (A8.enc .u8 a1))] w0 fun e w' => ∃ (r0 : Int), 
   e = .returned (.int .i64 r0) ∧ K r0 ∧ Bel w0 w' := by
 unfold f_spec_l01Weight at h
 refine calls_of (args := [u0_0, .agg (List.toArray (A8.enc .u8 a1))]) Tryz.func121 rfl 25 Tryz.ntmps121 (Nat.le_of_ble_eq_true rfl) ?_
 have hC := Ctx.start (X := Nox) w0 [Ty.item ((EI .i64).ty.sl) a0 [u0_0] fp0] (by simp only [List.mem_cons, List.not_mem_nil, or_false, forall_eq_or_imp, forall_eq]; exact q0)
 refine sr ?_
 refine s_box (v := .agg (List.toArray (A8.enc .u8 a1))) hC (A8.enc .u8 a1) rfl rfl fun b2 w4 hB_ hC => ?_
 refine s_as (v := .int .i64 0) rfl ?_
 refine dn ?_
 refine sr ?_
 refine s_as (v := .int .i64 0) rfl ?_
 refine dn ?_
 refine wp_seq ?_
 refine sr ?_
 refine s_as (v := .int .i64 0) rfl ?_
 refine dn ?_
 refine wp_block ?_
 have hN38 : a0.length ≤ 9223372036854775807 := sl_max (hC.getP 0 rfl)
 refine loopN (S := Int) _ _ (fun i36 s37 e_ w_ => Slots e_ [(0, u0_0), (3, .pointer (some ⟨b2, 0, none⟩)), (4, .int .i64 0), (5, .int .i64 s37), (6, .int .i64 (i36 : Int))] ∧ Ctx Nox w0 w_ [blk b2 136 (A8.enc .u8 a1)] [Ty.item ((EI .i64).ty.sl) a0 [u0_0] fp0]) a0.length ?_ ?_ (s0 := 0) ?_ h
 ·clear hC h
  rintro i36 s37 e_ w43 next39 K40 hi42 ⟨hS_, hC⟩ h hK41
  refine wp_seq ?_
  refine sr ?_
  refine s_mv (v := .int .i64 (i36 : Int)) (sx hS_ 4 rfl) ?_
  refine s_mv (v := u0_0) (sx hS_ 0 rfl) ?_
  obtain ⟨Ad44, c45, hv46⟩ := sl_len (hC.getP 0 rfl)
  refine s_len Tryz.underlying22 (tr rfl hv46) ?_
  refine s_lss rfl rfl ?_
  refine dn ?_
  refine cw_true rfl (decide_eq_true (by omega)) ?_
  refine wp_skip ?_
  refine then_norm ?_
  refine wp_seq ?_
  refine wp_block ?_
  refine cw_draw 10 mixed [0, 0, 0, 6, 14, 0, 32, 96, 224, 510, 1023, 2047] [3, 4, 6, 7] [0, 1, 2, 5, 8, 9] (by kernel_rfl) (by kernel_rfl) (by kernel_rfl) (fun hM48 hM49 w47 hB_ => ?_)
  replace hC := hC.grow hB_
  refine aF 0 (.int .i64 s37) rfl rfl (hM49 0 rfl) (rfl) (fun _ => by exact r_mv (v := .int .i64 s37) (sx hS_ 3 rfl)) (dbits 12 1) ?_
  refine aF 1 (u0_0) rfl rfl (hM49 1 rfl) (rfl) (fun _ => by exact r_mv (v := u0_0) (sx hS_ 0 rfl)) (dbits 12 3) ?_
  refine aF 2 (.int .i64 (i36 : Int)) rfl rfl (hM49 2 rfl) (rfl) (fun _ => by exact r_mv (v := .int .i64 (i36 : Int)) (sx hS_ 4 rfl)) (dbits 12 7) ?_
  obtain ⟨Ad50, c51, hv52⟩ := sl_form (hC.getP 0 rfl) i36 hi42
  refine aL 3 (.pointer (some (Ad50.add (i36 * 1)))) rfl rfl (hM48 3 rfl) (rfl) (fun _ hB_ => by exact r_iaddrS (len := a0.length) Tryz.underlying22 sc2.size (by exact tr rfl hv52) rfl (Int.natCast_nonneg _) (Int.ofNat_lt.2 hi42)) (dbits 12 15) ?_
  refine aL 4 (.int .i64 (a0.getD i36 default)) rfl rfl (hM48 4 rfl) (rfl) (fun _ hB_ => by exact r_loadCS (.int .i64 (a0.getD i36 default)) (sl_cellsE ((hC.grow hB_).getP 0 rfl) hv52 i36 hi42) sc2 rfl) (dbits 12 31) ?_
  refine aF 5 (.int .i64 (i36 : Int)) rfl rfl (hM49 5 rfl) (rfl) (fun _ => by exact r_mv (v := .int .i64 (i36 : Int)) (sx hS_ 4 rfl)) (dbits 12 63) ?_
  obtain ⟨⟨h0_53, h1_54⟩, h⟩ := h
  refine aL 6 (.pointer (some ⟨b2, i36, none⟩)) rfl rfl (hM48 6 rfl) (rfl) (fun _ hB_ => by exact r_iaddrB i36 Tryz.underlying136 sc5.size (sx hS_ 1 rfl) rfl h0_53 h1_54 (by omega)) (dbits 12 127) ?_
  refine aL 7 (.int .u8 (a1.get i36)) rfl rfl (hM48 7 rfl) (rfl) (fun _ hB_ => by exact r_loadS (hC.grow hB_) 0 (.int .u8 (a1.get i36)) rfl sc5 rfl (A8.enc_get _ _ (show i36 < 8 by omega))) (dbits 12 255) ?_
  refine aF 8 (.int .i64 (IntKind.i64.wrap (a1.get i36))) rfl rfl (hM49 8 rfl) (rfl) (fun _ => by exact r_conv Tryz.underlying5 Tryz.underlying2 rfl) (dbits 12 511) ?_
  refine aF 9 (.int .i64 (IntKind.i64.wrap ((a0.getD i36 default) * (IntKind.i64.wrap (a1.get i36))))) rfl rfl (hM49 9 rfl) (rfl) (fun _ => by exact r_mul rfl rfl) (dbits 12 1023) ?_
  refine ae_tail 10 (by decide) (by decide) (by kernel_rfl) (by kernel_rfl) rfl ?_
  refine s_add rfl rfl ?_
  refine s_as (v := .int .i64 (IntKind.i64.wrap (s37 + (IntKind.i64.wrap ((a0.getD i36 default) * (IntKind.i64.wrap (a1.get i36))))))) rfl ?_
  refine done ?_
  refine qn_norm ?_
  refine blk_norm ?_
  refine then_norm ?_
  refine cw_region ?_
  refine s_mv (v := .int .i64 (i36 : Int)) (sx hS_ 4 rfl) ?_
  refine s_add rfl rfl ?_
  refine s_as (v := .int .i64 (IntKind.i64.wrap ((i36 : Int) + 1))) rfl ?_
  refine done ?_
  exact hK41 (IntKind.i64.wrap (s37 + (IntKind.i64.wrap ((a0.getD i36 default) * (IntKind.i64.wrap (a1.get i36)))))) _ _ ⟨(sk (sx hS_ 0 rfl) (sk (sx hS_ 1 rfl) (sk (sx hS_ 2 rfl) (sk rfl (sk (tr rfl (congrArg _ (wrap64_nat hi42 hN38))) sn))))), hC⟩ h
 ·clear hC h
  rintro s37 e_ w55 K40 ⟨hS_, hC⟩ h
  refine wp_seq ?_
  refine sr ?_
  refine s_mv (v := .int .i64 (a0.length : Int)) (sx hS_ 4 rfl) ?_
  refine s_mv (v := u0_0) (sx hS_ 0 rfl) ?_
  obtain ⟨Ad56, c57, hv58⟩ := sl_len (hC.getP 0 rfl)
  refine s_len Tryz.underlying22 (tr rfl hv58) ?_
  refine s_lss rfl rfl ?_
  refine dn ?_
  refine cw_false rfl (decide_eq_false (by omega)) ?_
  refine wp_exit (then_exit (then_exit (exit_in ?_)))
  refine then_norm ?_
  refine sr ?_
  refine s_mv (v := .int .i64 s37) (sx hS_ 3 rfl) ?_
  refine s_as (v := .int .i64 s37) rfl ?_
  refine dn ?_
  refine wp_ret ?_
  refine ret1 (fn := Tryz.f121) rfl ?_ ⟨s37, rfl, h, hC.below⟩ (.inl rfl)
  exact res_tmp rfl
 ·skip
  exact ⟨(sk rfl (sk rfl (sk rfl (sk rfl (sk rfl sn))))), hC⟩
def f_spec_l01Degree (a0 : List Int) (a1 : Vc.Form) (K : Int → Bool → Prop) : Prop :=
 (if (a1.terms.length : Int) = 0 then K (-1) true else ((0 ≤ (0 : Int) ∧ (0 : Int) < (a1.terms.length : Int)) ∧ f_spec_l01Weight a0 ((a1.terms.getD 0 default).mono) (fun r20 => whileP (fun (s54 : Int) next55 => (if s54 < (a1.terms.length : Int) then ((0 ≤ s54 ∧ s54 < (a1.terms.length : Int)) ∧ f_spec_l01Weight a0 ((a1.terms.getD s54.toNat default).mono) (fun r71 => (if r71 ≠ r20 then K 0 false else next55 (IntKind.i64.wrap (s54 + 1))))) else K r20 true)) 1)))
theorem c_spec_l01Degree (a0 : List Int) (a1 : Vc.Form) {u0_0 : Value} {u1_0 : Value} {fp0 : List Nat} {fp1 : List Nat} {K : Int → Bool → Prop} (h : f_spec_l01Degree a0 a1 K) (w0 : World) (q0 : ((EI .i64).ty.sl).rep a0 [u0_0] fp0 w0) (q1 : TForm.rep a1 [u1_0] fp1 w0) :
  Calls Tryz.prog 69 #[u0_0, .agg #[u1_0]] w0 fun e w' => ∃ (r0 : Int) (r1 : Bool), 
   e = .returned (.tuple #[.int .i64 r0, .bool r1]) ∧ K r0 r1 ∧ Bel w0 w' := by
 unfold f_spec_l01Degree at h
 refine calls_of (args := [u0_0, .agg #[u1_0]]) Tryz.func69 rfl 37 Tryz.ntmps69 (Nat.le_of_ble_eq_true rfl) ?_
 have hC := Ctx.start (X := Nox) w0 [Ty.item ((EI .i64).ty.sl) a0 [u0_0] fp0, Ty.item TForm a1 [u1_0] fp1] (by simp only [List.mem_cons, List.not_mem_nil, or_false, forall_eq_or_imp, forall_eq]; exact ⟨q0, q1⟩)
 have hp3 := (hC.getP 1 rfl)
 replace hC := hC.derive 1 rfl (Ty.item ETerm.ty.sl a1.terms [u1_0] fp1) (fun _ => (form_parts hp3)) (fun _ hb_ => hb_)
 refine sr ?_
 refine s_box (v := .agg #[u1_0]) hC [u1_0] rfl rfl fun b5 w7 hB_ hC => ?_
 refine s_as (v := .int .i64 0) rfl ?_
 refine s_as (v := .bool false) rfl ?_
 refine dn ?_
 refine wp_seq ?_
 refine sr ?_
 refine s_faddrB 0 Tryz.underlying55 rfl sc53.size rfl rfl ?_
 refine s_loadS hC 0 (u1_0) rfl sc53 rfl rfl ?_
 obtain ⟨Ad8, c9, hv10⟩ := sl_len (hC.getP 0 rfl)
 refine s_len Tryz.underlying53 (tr rfl hv10) ?_
 refine s_eql rfl rfl ?_
 refine dn ?_
 refine cw_cond rfl (fun hb11 => ?_) (fun hb11 => ?_)
 ·replace h := ift h (ct hb11)
  refine sr ?_
  refine s_as (v := .int .i64 (-1)) rfl ?_
  refine s_as (v := .bool true) rfl ?_
  refine dn ?_
  refine wp_ret (then_ret ?_)
  refine ret2 (fn := Tryz.f69) rfl ?_ ?_ ⟨(-1), true, rfl, h, hC.below⟩ (.inl rfl)
  ·exact res_tmp rfl
  ·exact res_tmp rfl
 ·replace h := iff_ h (cf hb11)
  refine wp_skip ?_
  refine then_norm ?_
  refine sr ?_
  refine s_mv (v := u0_0) rfl ?_
  refine s_faddrB 0 Tryz.underlying55 rfl sc53.size rfl rfl ?_
  refine s_loadS hC 0 (u1_0) rfl sc53 rfl rfl ?_
  obtain ⟨⟨h0_12, h1_13⟩, h⟩ := h
  obtain ⟨Ad14, c15, hv16⟩ := sl_form (hC.getP 0 rfl) 0 (show 0 < a1.terms.length by omega)
  refine s_iaddrS (len := a1.terms.length) Tryz.underlying53 ag162.size (tr rfl hv16) rfl h0_12 h1_13 ?_
  refine s_faddrS (0 * 9 + 0) Tryz.underlying162 rfl ag136.size rfl rfl ?_
  refine s_loadCA (A8.enc .u8 ((a1.terms.getD 0 default).mono)) (cells_subS (o := 0) (k := 8) (sl_cellsE (hC.getP 0 rfl) hv16 0 (show 0 < a1.terms.length by omega)) rfl) ag136 rfl rfl ?_
  refine s_call [u0_0, .agg (List.toArray (A8.enc .u8 ((a1.terms.getD 0 default).mono)))] _ Tryz.func121 rfl rfl rfl (c_spec_l01Weight a0 ((a1.terms.getD 0 default).mono) h _ (hC.getP 1 rfl)) (fun ret17 w19 hR18 => ?_)
  obtain ⟨r20, rfl, h, hB21⟩ := hR18
  refine ⟨_, rfl, ?_⟩
  replace hC := hC.grow hB21
  refine s_as (v := .int .i64 r20) rfl ?_
  refine dn ?_
  refine wp_seq ?_
  refine sr ?_
  refine s_as (v := .int .i64 1) rfl ?_
  refine dn ?_
  refine wp_block ?_
  refine loopW (S := Int) _ (fun s54 e_ w_ => Slots e_ [(0, u0_0), (3, .pointer (some ⟨b5, 0, none⟩)), (4, .int .i64 0), (5, .bool false), (6, .int .i64 r20), (7, .int .i64 s54)] ∧ Ctx Nox w0 w_ [blk b5 55 [u1_0]] [Ty.item ETerm.ty.sl a1.terms [u1_0] fp1, Ty.item ((EI .i64).ty.sl) a0 [u0_0] fp0, Ty.item TForm a1 [u1_0] fp1]) ?_ (s0 := 1) ?_ h
  ·clear hC h
   rintro s54 e_ w58 next55 K56 ⟨hS_, hC⟩ h hK57
   refine wp_seq ?_
   refine sr ?_
   refine s_mv (v := .int .i64 s54) (sx hS_ 5 rfl) ?_
   refine s_faddrB 0 Tryz.underlying55 rfl sc53.size (sx hS_ 1 rfl) rfl ?_
   refine s_loadS hC 0 (u1_0) rfl sc53 rfl rfl ?_
   obtain ⟨Ad59, c60, hv61⟩ := sl_len (hC.getP 0 rfl)
   refine s_len Tryz.underlying53 (tr rfl hv61) ?_
   refine s_lss rfl rfl ?_
   refine dn ?_
   refine cw_cond rfl (fun hb62 => ?_) (fun hb62 => ?_)
   ·replace h := ift h (ct hb62)
    refine wp_skip ?_
    refine then_norm ?_
    refine wp_seq ?_
    refine wp_block ?_
    refine sr ?_
    refine s_mv (v := u0_0) (sx hS_ 0 rfl) ?_
    refine s_faddrB 0 Tryz.underlying55 rfl sc53.size (sx hS_ 1 rfl) rfl ?_
    refine s_loadS hC 0 (u1_0) rfl sc53 rfl rfl ?_
    refine s_mv (v := .int .i64 s54) (sx hS_ 5 rfl) ?_
    obtain ⟨⟨h0_63, h1_64⟩, h⟩ := h
    obtain ⟨Ad65, c66, hv67⟩ := sl_form (hC.getP 0 rfl) s54.toNat (show s54.toNat < a1.terms.length by omega)
    refine s_iaddrS (len := a1.terms.length) Tryz.underlying53 ag162.size (tr rfl hv67) rfl h0_63 h1_64 ?_
    refine s_faddrS (s54.toNat * 9 + 0) Tryz.underlying162 rfl ag136.size rfl rfl ?_
    refine s_loadCA (A8.enc .u8 ((a1.terms.getD s54.toNat default).mono)) (cells_subS (o := 0) (k := 8) (sl_cellsE (hC.getP 0 rfl) hv67 s54.toNat (show s54.toNat < a1.terms.length by omega)) rfl) ag136 rfl rfl ?_
    refine s_call [u0_0, .agg (List.toArray (A8.enc .u8 ((a1.terms.getD s54.toNat default).mono)))] _ Tryz.func121 rfl rfl rfl (c_spec_l01Weight a0 ((a1.terms.getD s54.toNat default).mono) h _ (hC.getP 1 rfl)) (fun ret68 w70 hR69 => ?_)
    obtain ⟨r71, rfl, h, hB72⟩ := hR69
    refine ⟨_, rfl, ?_⟩
    replace hC := hC.grow hB72
    refine s_mv (v := .int .i64 r20) (sx hS_ 4 rfl) ?_
    refine s_neq rfl rfl ?_
    refine dn ?_
    refine cw_cond rfl (fun hb73 => ?_) (fun hb73 => ?_)
    ·replace h := ift h (ct hb73)
     refine sr ?_
     refine s_as (v := .int .i64 0) rfl ?_
     refine s_as (v := .bool false) rfl ?_
     refine dn ?_
     refine wp_ret (blk_ret (then_ret (then_ret (blk_ret (then_ret ?_)))))
     refine ret2 (fn := Tryz.f69) rfl ?_ ?_ ⟨0, false, rfl, h, hC.below⟩ (.inl rfl)
     ·exact res_tmp rfl
     ·exact res_tmp rfl
    ·replace h := iff_ h (cf hb73)
     refine wp_skip ?_
     refine blk_norm ?_
     refine then_norm ?_
     refine cw_region ?_
     refine s_mv (v := .int .i64 s54) (sx hS_ 5 rfl) ?_
     refine s_add rfl rfl ?_
     refine s_as (v := .int .i64 (IntKind.i64.wrap (s54 + 1))) rfl ?_
     refine done ?_
     exact hK57 (IntKind.i64.wrap (s54 + 1)) _ _ ⟨(sk (sx hS_ 0 rfl) (sk (sx hS_ 1 rfl) (sk (sx hS_ 2 rfl) (sk (sx hS_ 3 rfl) (sk (sx hS_ 4 rfl) (sk rfl sn)))))), hC⟩ h
   ·replace h := iff_ h (cf hb62)
    refine wp_exit (then_exit (then_exit (exit_in ?_)))
    refine then_norm ?_
    refine sr ?_
    refine s_mv (v := .int .i64 r20) (sx hS_ 4 rfl) ?_
    refine s_as (v := .int .i64 r20) rfl ?_
    refine s_as (v := .bool true) rfl ?_
    refine dn ?_
    refine wp_ret ?_
    refine ret2 (fn := Tryz.f69) rfl ?_ ?_ ⟨r20, true, rfl, h, hC.below⟩ (.inl rfl)
    ·exact res_tmp rfl
    ·exact res_tmp rfl
  ·skip
   exact ⟨(sk rfl (sk rfl (sk rfl (sk rfl (sk rfl (sk rfl sn)))))), hC⟩
end Go.Proofs.YtaagfepgbofmlaaGreat
