/- Printed by vcgen.py: functions of the program as predicates, and that the machine's calls meet them. -/
import Derived.Test.YtjngkbalaipdbaaVc13
import Derived.Test.YtjngkbalaipdbaaVs
import Derived.Test.YtjngkbalaipdbaaProg
import Derived.KernelRfl
set_option linter.unusedVariables false
set_option linter.unusedSimpArgs false
set_option maxRecDepth 4000
set_option maxHeartbeats 4000000
namespace Go.Proofs.Ytjngkbalaipdbaa
open Go Go.RowKit Vc
theorem z85 : ZeroT Try.prog 85 (.agg (List.toArray (A8.enc .i64 A8.zero))) := by unfold ZeroT; kernel_rfl
theorem bl85  (w : World) : (Instr.build 85 #[]).run Try.prog w = .ok (.agg (List.toArray (A8.enc .i64 A8.zero))) w := by kernel_rfl
theorem ag85 : AggT Try.prog 85 8 := ⟨⟨_, Try.underlying85, rfl⟩, by kernel_rfl⟩
theorem ag24 : AggT Try.prog 24 8 := ⟨⟨_, Try.underlying24, rfl⟩, by kernel_rfl⟩
theorem sc5 : ScaT Try.prog 5 := ⟨⟨_, Try.underlying5, rfl⟩, by kernel_rfl⟩
theorem sc3 : ScaT Try.prog 3 := ⟨⟨_, Try.underlying3, rfl⟩, by kernel_rfl⟩
theorem sc2 : ScaT Try.prog 2 := ⟨⟨_, Try.underlying2, rfl⟩, by kernel_rfl⟩
theorem mixed : Try.prog.follows .mixedOrders = true := by kernel_rfl
theorem kt85 : KeyT Try.prog 85 (kvA .i64) := keyA8 Try.underlying85 Try.underlying3 sc3
theorem z2 : ZeroT Try.prog 2 (.int .i64 0) := by unfold ZeroT; kernel_rfl
theorem sc49 : ScaT Try.prog 49 := ⟨⟨_, Try.underlying49, rfl⟩, by kernel_rfl⟩
theorem ag93 : AggT Try.prog 93 9 := ⟨⟨_, Try.underlying93, rfl⟩, by kernel_rfl⟩
theorem z93 : ZeroT Try.prog 93 (.agg (List.toArray (Term.enc (⟨A8.zero, 0⟩ : Term)))) := by unfold ZeroT; kernel_rfl
theorem bs102_0  (w : World) : (Instr.buildSlice 102 0 #[]).run Try.prog w = .ok (.slice (some ⟨w.heap.size, 0, none⟩) 0 0) (w.alloc (.cells (List.toArray ((EA .i64).encs [])) 85)) := by kernel_rfl
theorem bs102_1 (x0 : A8) (w : World) : (Instr.buildSlice 102 1 #[(0, .agg (List.toArray (A8.enc .i64 x0)))]).run Try.prog w = .ok (.slice (some ⟨w.heap.size, 0, none⟩) 1 1) (w.alloc (.cells (List.toArray ((EA .i64).encs [x0])) 85)) := by kernel_rfl
theorem el85 : ElemT Try.prog 85 (.agg (List.toArray (A8.enc .i64 A8.zero))) 8 64 := by unfold ElemT; kernel_rfl
theorem z51 : ZeroT Try.prog 51 (.agg #[.slice none 0 0]) := by unfold ZeroT; kernel_rfl
theorem bl51  (w : World) : (Instr.build 51 #[]).run Try.prog w = .ok (.agg #[.slice none 0 0]) w := by kernel_rfl
theorem ag51 : AggT Try.prog 51 1 := ⟨⟨_, Try.underlying51, rfl⟩, by kernel_rfl⟩
theorem bl24  (w : World) : (Instr.build 24 #[]).run Try.prog w = .ok (.agg (List.toArray (A8.enc .u8 A8.zero))) w := by kernel_rfl
theorem z24 : ZeroT Try.prog 24 (.agg (List.toArray (A8.enc .u8 A8.zero))) := by unfold ZeroT; kernel_rfl
theorem bl93_0flat_1int (x0 : A8) (x1 : Int) (w : World) : (Instr.build 93 #[(0, .agg (List.toArray (A8.enc .u8 x0))), (1, .int .i64 x1)]).run Try.prog w = .ok (.agg (List.toArray (Term.enc (⟨x0, x1⟩ : Term)))) w := by kernel_rfl
theorem bs49_1 (x0 : Term) (w : World) : (Instr.buildSlice 49 1 #[(0, .agg (List.toArray (Term.enc x0)))]).run Try.prog w = .ok (.slice (some ⟨w.heap.size, 0, none⟩) 1 1) (w.alloc (.cells (List.toArray (ETerm.encs [x0])) 93)) := by kernel_rfl
theorem el93 : ElemT Try.prog 93 (.agg (List.toArray (Term.enc (⟨A8.zero, 0⟩ : Term)))) 9 16 := by unfold ElemT; kernel_rfl
theorem el2 : ElemT Try.prog 2 (.int .i64 0) 1 8 := by unfold ElemT; kernel_rfl
theorem ag23 : AggT Try.prog 23 8 := ⟨⟨_, Try.underlying23, rfl⟩, by kernel_rfl⟩
def f_impl_field (a0 : Int) (K : Int → Prop) : Prop :=
  K (Int.tmod (IntKind.i64.wrap ((Int.tmod a0 10007) + 10007)) 10007)
theorem c_impl_field (a0 : Int)  {K : Int → Prop} (h : f_impl_field a0 K) (w0 : World)  :
    Calls Try.prog 131 #[.int .i64 a0] w0 fun e w' => ∃ (r0 : Int), 
      e = .returned (.int .i64 r0) ∧ K r0 ∧ Bel w0 w' := by
  unfold f_impl_field at h
  refine calls_of (args := [.int .i64 a0]) Try.func131 rfl 7 Try.ntmps131 (Nat.le_of_ble_eq_true rfl) ?_
  have hC := Ctx.start (X := Nox) w0 [] (by simp)
  refine wp_seq ?_
  refine cw_region ?_
  refine s_as (v := .int .i64 0) rfl ?_
  refine done ?_
  refine then_norm ?_
  refine wp_seq ?_
  refine cw_region ?_
  refine s_mv (v := .int .i64 a0) rfl ?_
  refine s_rem rfl rfl (by decide) ?_
  refine s_add rfl rfl ?_
  refine s_rem rfl rfl (by decide) ?_
  refine s_as (v := .int .i64 (Int.tmod (IntKind.i64.wrap ((Int.tmod a0 10007) + 10007)) 10007)) rfl ?_
  refine done ?_
  refine then_norm ?_
  refine wp_ret ?_
  refine ret1 (fn := Try.f131) rfl ?_ ⟨Int.tmod (IntKind.i64.wrap ((Int.tmod a0 10007) + 10007)) 10007, rfl, h, hC.below⟩ (.inl rfl)
  exact res_tmp rfl
def f_impl_powerOf (a0 : A8) (K : A8 → Prop) : Prop :=
  forN (fun i21 (s22 : A8) next23 => next23 (s22.set i21 (IntKind.i64.wrap (a0.get i21)))) (fun (s22 : A8) => K s22) 8 0 A8.zero
theorem c_impl_powerOf (a0 : A8)  {K : A8 → Prop} (h : f_impl_powerOf a0 K) (w0 : World)  :
    Calls Try.prog 64 #[.agg (List.toArray (A8.enc .u8 a0))] w0 fun e w' => ∃ (r0 : A8), 
      e = .returned (.agg (List.toArray (A8.enc .i64 r0))) ∧ K r0 ∧ Bel w0 w' := by
  unfold f_impl_powerOf at h
  refine calls_of (args := [.agg (List.toArray (A8.enc .u8 a0))]) Try.func64 rfl 18 Try.ntmps64 (Nat.le_of_ble_eq_true rfl) ?_
  have hC := Ctx.start (X := Nox) w0 [] (by simp)
  refine wp_seq ?_
  refine cw_region ?_
  refine s_box (v := .agg (List.toArray (A8.enc .u8 a0))) hC (A8.enc .u8 a0) rfl rfl fun b1 w3 hB_ hC => ?_
  refine s_alloc hC (A8.enc .i64 A8.zero) z85 rfl fun b4 w6 hB_ hC => ?_
  refine done ?_
  refine then_norm ?_
  refine wp_seq ?_
  refine cw_region ?_
  refine s_build [] rfl (bl85  _) ?_
  refine s_alloc hC (A8.enc .i64 A8.zero) z85 rfl fun b7 w9 hB_ hC => ?_
  refine s_store (v := .agg (List.toArray (A8.enc .i64 A8.zero))) hC 0 (A8.enc .i64 A8.zero) (A8.enc .i64 A8.zero) rfl ag85.size rfl rfl rfl rfl rfl (Nat.le_of_ble_eq_true rfl) rfl fun w10 hC => ?_
  refine done ?_
  refine then_norm ?_
  refine wp_seq ?_
  refine wp_seq ?_
  refine cw_region ?_
  refine s_loadA hC 2 (A8.enc .u8 a0) rfl ag24 rfl rfl rfl ?_
  refine s_mv (v := .int .i64 0) rfl ?_
  refine done ?_
  refine then_norm ?_
  refine wp_block ?_
  refine loopN (S := A8) _ _ (fun i21 s22 e_ w_ => e_ 2 = .pointer (some ⟨b4, 0, none⟩) ∧ e_ 3 = .pointer (some ⟨b7, 0, none⟩) ∧ e_ 7 = .agg (List.toArray (A8.enc .u8 a0)) ∧ e_ 8 = .int .i64 (i21 : Int) ∧ Ctx Nox w0 w_ [blk b7 85 (A8.enc .i64 s22), blk b4 85 (A8.enc .i64 A8.zero)] []) 8 ?_ ?_ (s0 := A8.zero) ?_ h
  · clear hC h
    rintro i21 s22 e_ w27 next23 K24 hi26 ⟨h2_, h3_, h7_, h8_, hC⟩ h hK25
    refine wp_seq ?_
    refine cw_region ?_
    refine s_lss h8_ rfl ?_
    refine done ?_
    refine then_norm ?_
    refine wp_seq ?_
    refine cw_true rfl (decide_eq_true (by omega)) ?_
    refine wp_skip ?_
    refine then_norm ?_
    refine wp_seq ?_
    refine wp_block ?_
    refine wp_seq ?_
    refine cw_region ?_
    refine s_mv (v := .int .i64 (i21 : Int)) h8_ ?_
    refine s_index (.int .u8 (a0.get i21)) Try.underlying24 h7_ h8_ (Int.natCast_nonneg _) (by omega) sc5 (A8.enc_get _ _ hi26) ?_
    refine s_as (v := .int .i64 (i21 : Int)) rfl ?_
    refine s_as (v := .int .u8 (a0.get i21)) rfl ?_
    refine done ?_
    refine then_norm ?_
    refine cw_region ?_
    refine s_mv (v := .int .i64 (i21 : Int)) rfl ?_
    refine s_mv (v := .int .u8 (a0.get i21)) rfl ?_
    refine s_conv Try.underlying5 Try.underlying3 rfl ?_
    refine s_iaddrB i21 Try.underlying85 sc3.size h3_ rfl (Int.natCast_nonneg _) (by omega) (by omega) ?_
    refine s_store (v := .int .i64 (IntKind.i64.wrap (a0.get i21))) hC 0 [.int .i64 (IntKind.i64.wrap (a0.get i21))] (A8.enc .i64 (s22.set i21 (IntKind.i64.wrap (a0.get i21)))) rfl sc3.size rfl rfl rfl rfl rfl hi26 (A8.enc_set _ _ _ hi26) fun w28 hC => ?_
    refine done ?_
    refine blk_norm ?_
    refine then_norm ?_
    refine cw_region ?_
    refine s_add h8_ rfl ?_
    refine s_mv (v := .int .i64 (IntKind.i64.wrap ((i21 : Int) + 1))) rfl ?_
    refine done ?_
    exact hK25 (s22.set i21 (IntKind.i64.wrap (a0.get i21))) _ _ ⟨h2_, h3_, h7_, (tr rfl (congrArg _ (wrap64_nat hi26 (by decide)))), hC⟩ h
  · clear hC h
    rintro s22 e_ w29 K24 ⟨h2_, h3_, h7_, h8_, hC⟩ h
    refine wp_seq ?_
    refine cw_region ?_
    refine s_lss h8_ rfl ?_
    refine done ?_
    refine then_norm ?_
    refine wp_seq ?_
    refine cw_false rfl (decide_eq_false (by omega)) ?_
    refine wp_exit (then_exit (then_exit (exit_in ?_)))
    refine then_norm ?_
    refine wp_seq ?_
    refine cw_region ?_
    refine s_loadA hC 0 (A8.enc .i64 s22) rfl ag85 h3_ rfl rfl ?_
    refine s_store (v := .agg (List.toArray (A8.enc .i64 s22))) hC 1 (A8.enc .i64 s22) (A8.enc .i64 s22) rfl ag85.size h2_ rfl rfl rfl rfl (Nat.le_of_ble_eq_true rfl) rfl fun w30 hC => ?_
    refine done ?_
    refine then_norm ?_
    refine wp_ret ?_
    refine ret1 (fn := Try.f64) rfl ?_ ⟨s22, rfl, h, hC.below⟩ (.inl rfl)
    exact res_cellA hC 1 rfl ag85 h2_ rfl
  · skip
    replace hC := hC.sel [0, 1] [] (M' := [blk b7 85 (A8.enc .i64 A8.zero), blk b4 85 (A8.enc .i64 A8.zero)]) (Ps' := []) (by decide) rfl rfl
    exact ⟨rfl, rfl, rfl, rfl, hC⟩
def f_impl_power_times (a0 : A8) (a1 : List Int) (a2 : A8) (K : A8 → Int → Prop) : Prop :=
  forN (fun i196 (s197 : Int) next199 => (if Int.tmod (a1.getD i196 default) 2 = 0 then next199 s197 else ((0 ≤ (i196 : Int) ∧ (i196 : Int) < 8) ∧ (if a0.get i196 > 0 then ((0 ≤ (i196 : Int) ∧ (i196 : Int) < 8) ∧ (if a2.get i196 > 0 then K A8.zero 0 else ((0 ≤ (i196 : Int) ∧ (i196 : Int) < 8) ∧ next199 s197))) else ((0 ≤ (i196 : Int) ∧ (i196 : Int) < 8) ∧ (if a2.get i196 > 0 then whileP (fun (s246 : Int × Int) next247 => (if s246.1 < (a1.length : Int) then ((0 ≤ s246.1 ∧ s246.1 < (a1.length : Int)) ∧ ((0 ≤ s246.1 ∧ s246.1 < 8) ∧ next247 (IntKind.i64.wrap (s246.1 + 1), IntKind.i64.wrap (s246.2 + (IntKind.i64.wrap ((Int.tmod (a1.getD s246.1.toNat default) 2) * (a0.get s246.1.toNat))))))) else next199 s246.2)) (IntKind.i64.wrap ((i196 : Int) + 1), s197) else next199 s197)))))) (fun (s197 : Int) => forN (fun i280 (s281 : A8) next282 => next282 (s281.set i280 (IntKind.i64.wrap ((s281.get i280) + (a2.get i280))))) (fun (s281 : A8) => (if Int.tmod s197 2 = 1 then K s281 (-1) else K s281 1)) 8 0 a0) a1.length 0 0
theorem c_impl_power_times (a0 : A8) (a1 : List Int) (a2 : A8) {u1_0 : Value} {fp1 : List Nat} {K : A8 → Int → Prop} (h : f_impl_power_times a0 a1 a2 K) (w0 : World) (q1 : ((EI .i64).ty.sl).rep a1 [u1_0] fp1 w0) :
    Calls Try.prog 65 #[.agg (List.toArray (A8.enc .i64 a0)), u1_0, .agg (List.toArray (A8.enc .i64 a2))] w0 fun e w' => ∃ (r0 : A8) (r1 : Int), 
      e = .returned (.tuple #[.agg (List.toArray (A8.enc .i64 r0)), .int .i64 r1]) ∧ K r0 r1 ∧ Bel w0 w' := by
  unfold f_impl_power_times at h
  refine calls_of (args := [.agg (List.toArray (A8.enc .i64 a0)), u1_0, .agg (List.toArray (A8.enc .i64 a2))]) Try.func65 rfl 75 Try.ntmps65 (Nat.le_of_ble_eq_true rfl) ?_
  have hC := Ctx.start (X := Nox) w0 [Ty.item ((EI .i64).ty.sl) a1 [u1_0] fp1] (by simp only [List.mem_cons, List.not_mem_nil, or_false, forall_eq_or_imp, forall_eq]; exact q1)
  refine wp_seq ?_
  refine cw_region ?_
  refine s_box (v := .agg (List.toArray (A8.enc .i64 a0))) hC (A8.enc .i64 a0) rfl rfl fun b2 w4 hB_ hC => ?_
  refine s_box (v := .agg (List.toArray (A8.enc .i64 a2))) hC (A8.enc .i64 a2) rfl rfl fun b5 w7 hB_ hC => ?_
  refine s_alloc hC (A8.enc .i64 A8.zero) z85 rfl fun b8 w10 hB_ hC => ?_
  refine s_as (v := .int .i64 0) rfl ?_
  refine done ?_
  refine then_norm ?_
  refine wp_seq ?_
  refine cw_region ?_
  refine s_as (v := .int .i64 0) rfl ?_
  refine done ?_
  refine then_norm ?_
  refine wp_seq ?_
  refine wp_seq ?_
  refine cw_region ?_
  refine s_mv (v := u1_0) rfl ?_
  obtain ⟨Ad11, c12, hv13⟩ := sl_len (hC.getP 0 rfl)
  refine s_len Try.underlying22 (tr rfl hv13) ?_
  refine s_mv (v := .int .i64 0) rfl ?_
  refine done ?_
  refine then_norm ?_
  refine wp_block ?_
  have hN198 : a1.length ≤ 9223372036854775807 := sl_max (hC.getP 0 rfl)
  refine loopN (S := Int) _ _ (fun i196 s197 e_ w_ => e_ 1 = u1_0 ∧ e_ 3 = .pointer (some ⟨b2, 0, none⟩) ∧ e_ 5 = .pointer (some ⟨b5, 0, none⟩) ∧ e_ 6 = .pointer (some ⟨b8, 0, none⟩) ∧ e_ 7 = .int .i64 0 ∧ e_ 8 = .int .i64 s197 ∧ e_ 13 = u1_0 ∧ e_ 14 = .int .i64 (a1.length : Int) ∧ e_ 15 = .int .i64 (i196 : Int) ∧ Ctx Nox w0 w_ [blk b8 85 (A8.enc .i64 A8.zero), blk b5 85 (A8.enc .i64 a2), blk b2 85 (A8.enc .i64 a0)] [Ty.item ((EI .i64).ty.sl) a1 [u1_0] fp1]) a1.length ?_ ?_ (s0 := 0) ?_ h
  · clear hC h
    rintro i196 s197 e_ w203 next199 K200 hi202 ⟨h1_, h3_, h5_, h6_, h7_, h8_, h13_, h14_, h15_, hC⟩ h hK201
    refine wp_seq ?_
    refine cw_region ?_
    refine s_lss h15_ h14_ ?_
    refine done ?_
    refine then_norm ?_
    refine wp_seq ?_
    refine cw_true rfl (decide_eq_true (by omega)) ?_
    refine wp_skip ?_
    refine then_norm ?_
    refine wp_seq ?_
    refine wp_block ?_
    refine wp_seq ?_
    refine cw_region ?_
    refine s_mv (v := .int .i64 (i196 : Int)) h15_ ?_
    obtain ⟨Ad204, c205, hv206⟩ := sl_form (hC.getP 0 rfl) i196 hi202
    refine s_iaddrS (len := a1.length) Try.underlying22 sc2.size (tr h13_ hv206) h15_ (Int.natCast_nonneg _) (Int.ofNat_lt.2 hi202) ?_
    refine s_loadCS (.int .i64 (a1.getD i196 default)) (sl_cellsE (hC.getP 0 rfl) hv206 i196 hi202) sc2 rfl ?_
    refine s_as (v := .int .i64 (i196 : Int)) rfl ?_
    refine s_as (v := .int .i64 (a1.getD i196 default)) rfl ?_
    refine done ?_
    refine then_norm ?_
    refine wp_seq ?_
    refine wp_seq ?_
    refine cw_region ?_
    refine s_mv (v := .int .i64 (a1.getD i196 default)) rfl ?_
    refine s_rem rfl rfl (by decide) ?_
    refine s_eql rfl rfl ?_
    refine done ?_
    refine then_norm ?_
    refine cw_cond rfl (fun hb207 => ?_) (fun hb207 => ?_)
    · replace h := ift h (ct hb207)
      refine wp_exit (then_exit (exit_in ?_))
      refine then_norm ?_
      refine cw_region ?_
      refine s_add h15_ rfl ?_
      refine s_mv (v := .int .i64 (IntKind.i64.wrap ((i196 : Int) + 1))) rfl ?_
      refine done ?_
      exact hK201 s197 _ _ ⟨h1_, h3_, h5_, h6_, h7_, h8_, h13_, h14_, (tr rfl (congrArg _ (wrap64_nat hi202 hN198))), hC⟩ h
    · replace h := iff_ h (cf hb207)
      refine wp_skip ?_
      refine then_norm ?_
      refine wp_seq ?_
      refine wp_seq ?_
      refine cw_region ?_
      refine s_mv (v := .int .i64 (i196 : Int)) rfl ?_
      obtain ⟨⟨h0_208, h1_209⟩, h⟩ := h
      refine s_iaddrB i196 Try.underlying85 sc3.size h3_ rfl h0_208 h1_209 (by omega) ?_
      refine s_loadS hC 2 (.int .i64 (a0.get i196)) rfl sc3 rfl (A8.enc_get _ _ (show i196 < 8 by omega)) ?_
      refine s_gtr rfl rfl ?_
      refine s_mv (v := .bool (decide (a0.get i196 > 0))) rfl ?_
      refine bsplit (decide (a0.get i196 > 0)) (fun hb210 => ?_) (fun hb210 => ?_)
      · replace h := ift h (ct hb210)
        refine guardOn 4 27 rfl rfl hb210 ?_
        refine s_mv (v := .int .i64 (i196 : Int)) rfl ?_
        refine guardOn 4 27 rfl rfl hb210 ?_
        obtain ⟨⟨h0_211, h1_212⟩, h⟩ := h
        refine s_iaddrB i196 Try.underlying85 sc3.size h5_ rfl h0_211 h1_212 (by omega) ?_
        refine guardOn 4 27 rfl rfl hb210 ?_
        refine s_loadS hC 1 (.int .i64 (a2.get i196)) rfl sc3 rfl (A8.enc_get _ _ (show i196 < 8 by omega)) ?_
        refine guardOn 4 27 rfl rfl hb210 ?_
        refine s_gtr rfl rfl ?_
        refine s_pick (v := .bool (decide (a2.get i196 > 0))) (b := true) (tr rfl (congrArg _ hb210)) rfl ?_
        refine done ?_
        refine then_norm ?_
        refine cw_cond rfl (fun hb213 => ?_) (fun hb213 => ?_)
        · replace h := ift h (ct hb213)
          refine wp_seq ?_
          refine cw_region ?_
          refine s_build [] rfl (bl85  _) ?_
          refine s_store (v := .agg (List.toArray (A8.enc .i64 A8.zero))) hC 0 (A8.enc .i64 A8.zero) (A8.enc .i64 A8.zero) rfl ag85.size h6_ rfl rfl rfl rfl (Nat.le_of_ble_eq_true rfl) rfl fun w214 hC => ?_
          refine s_as (v := .int .i64 0) rfl ?_
          refine done ?_
          refine then_norm ?_
          refine wp_ret (then_ret (blk_ret (then_ret (then_ret (blk_ret (then_ret ?_))))))
          refine ret2 (fn := Try.f65) rfl ?_ ?_ ⟨A8.zero, 0, rfl, h, hC.below⟩ (.inl rfl)
          · exact res_cellA hC 0 rfl ag85 h6_ rfl
          · exact res_tmp rfl
        · replace h := iff_ h (cf hb213)
          refine wp_skip ?_
          refine then_norm ?_
          refine wp_seq ?_
          refine cw_region ?_
          refine s_mv (v := .int .i64 (i196 : Int)) rfl ?_
          obtain ⟨⟨h0_215, h1_216⟩, h⟩ := h
          refine s_iaddrB i196 Try.underlying85 sc3.size h5_ rfl h0_215 h1_216 (by omega) ?_
          refine s_loadS hC 1 (.int .i64 (a2.get i196)) rfl sc3 rfl (A8.enc_get _ _ (show i196 < 8 by omega)) ?_
          refine s_gtr rfl rfl ?_
          refine done ?_
          refine then_norm ?_
          refine cw_false rfl hb213 ?_
          refine wp_skip ?_
          refine blk_norm ?_
          refine then_norm ?_
          refine cw_region ?_
          refine s_add h15_ rfl ?_
          refine s_mv (v := .int .i64 (IntKind.i64.wrap ((i196 : Int) + 1))) rfl ?_
          refine done ?_
          exact hK201 s197 _ _ ⟨h1_, h3_, h5_, h6_, h7_, h8_, h13_, h14_, (tr rfl (congrArg _ (wrap64_nat hi202 hN198))), hC⟩ h
      · replace h := iff_ h (cf hb210)
        refine guardOff (b := false) 4 27 rfl (tr rfl (congrArg _ hb210)) (by decide) ?_
        refine guardOff (b := false) 4 27 rfl (tr rfl (congrArg _ hb210)) (by decide) ?_
        refine guardOff (b := false) 4 27 rfl (tr rfl (congrArg _ hb210)) (by decide) ?_
        refine guardOff (b := false) 4 27 rfl (tr rfl (congrArg _ hb210)) (by decide) ?_
        refine s_pick (v := .bool false) (b := false) (tr rfl (congrArg _ hb210)) rfl ?_
        refine done ?_
        refine then_norm ?_
        refine cw_false rfl rfl ?_
        refine wp_skip ?_
        refine then_norm ?_
        refine wp_seq ?_
        refine cw_region ?_
        refine s_mv (v := .int .i64 (i196 : Int)) rfl ?_
        obtain ⟨⟨h0_217, h1_218⟩, h⟩ := h
        refine s_iaddrB i196 Try.underlying85 sc3.size h5_ rfl h0_217 h1_218 (by omega) ?_
        refine s_loadS hC 1 (.int .i64 (a2.get i196)) rfl sc3 rfl (A8.enc_get _ _ (show i196 < 8 by omega)) ?_
        refine s_gtr rfl rfl ?_
        refine done ?_
        refine then_norm ?_
        refine cw_cond rfl (fun hb219 => ?_) (fun hb219 => ?_)
        · replace h := ift h (ct hb219)
          refine wp_seq ?_
          refine cw_region ?_
          refine s_mv (v := .int .i64 (i196 : Int)) rfl ?_
          refine s_add rfl rfl ?_
          refine s_as (v := .int .i64 (IntKind.i64.wrap ((i196 : Int) + 1))) rfl ?_
          refine done ?_
          refine then_norm ?_
          refine wp_block ?_
          refine loopW (S := Int × Int) _ (fun s246 e_ w_ => e_ 1 = u1_0 ∧ e_ 3 = .pointer (some ⟨b2, 0, none⟩) ∧ e_ 5 = .pointer (some ⟨b5, 0, none⟩) ∧ e_ 6 = .pointer (some ⟨b8, 0, none⟩) ∧ e_ 7 = .int .i64 0 ∧ e_ 8 = .int .i64 s246.2 ∧ e_ 9 = .int .i64 (i196 : Int) ∧ e_ 10 = .int .i64 (a1.getD i196 default) ∧ e_ 11 = .int .i64 s246.1 ∧ e_ 13 = u1_0 ∧ e_ 14 = .int .i64 (a1.length : Int) ∧ e_ 15 = .int .i64 (i196 : Int) ∧ e_ 16 = .bool (decide ((i196 : Int) < (a1.length : Int))) ∧ e_ 17 = .int .i64 (i196 : Int) ∧ e_ 18 = .pointer (some (Ad204.add (i196 * 1))) ∧ e_ 19 = .int .i64 (a1.getD i196 default) ∧ e_ 20 = .int .i64 (a1.getD i196 default) ∧ e_ 21 = .int .i64 (Int.tmod (a1.getD i196 default) 2) ∧ e_ 22 = .bool (decide (Int.tmod (a1.getD i196 default) 2 = 0)) ∧ e_ 23 = .int .i64 (i196 : Int) ∧ e_ 24 = .pointer (some ⟨b2, i196, none⟩) ∧ e_ 25 = .int .i64 (a0.get i196) ∧ e_ 26 = .bool (decide (a0.get i196 > 0)) ∧ e_ 27 = .bool (decide (a0.get i196 > 0)) ∧ e_ 32 = .bool false ∧ e_ 34 = .int .i64 (i196 : Int) ∧ e_ 35 = .pointer (some ⟨b5, i196, none⟩) ∧ e_ 36 = .int .i64 (a2.get i196) ∧ e_ 37 = .bool (decide (a2.get i196 > 0)) ∧ e_ 38 = .int .i64 (i196 : Int) ∧ e_ 39 = .int .i64 (IntKind.i64.wrap ((i196 : Int) + 1)) ∧ Ctx Nox w0 w_ [blk b8 85 (A8.enc .i64 A8.zero), blk b5 85 (A8.enc .i64 a2), blk b2 85 (A8.enc .i64 a0)] [Ty.item ((EI .i64).ty.sl) a1 [u1_0] fp1]) ?_ (s0 := (IntKind.i64.wrap ((i196 : Int) + 1), s197)) ?_ h
          · clear hC h
            rintro s246 e_ w250 next247 K248 ⟨h1_, h3_, h5_, h6_, h7_, h8_, h9_, h10_, h11_, h13_, h14_, h15_, h16_, h17_, h18_, h19_, h20_, h21_, h22_, h23_, h24_, h25_, h26_, h27_, h32_, h34_, h35_, h36_, h37_, h38_, h39_, hC⟩ h hK249
            refine wp_seq ?_
            refine wp_seq ?_
            refine cw_region ?_
            refine s_mv (v := .int .i64 s246.1) h11_ ?_
            refine s_mv (v := u1_0) h1_ ?_
            obtain ⟨Ad251, c252, hv253⟩ := sl_len (hC.getP 0 rfl)
            refine s_len Try.underlying22 (tr rfl hv253) ?_
            refine s_lss rfl rfl ?_
            refine done ?_
            refine then_norm ?_
            refine cw_cond rfl (fun hb254 => ?_) (fun hb254 => ?_)
            · replace h := ift h (ct hb254)
              refine wp_skip ?_
              refine then_norm ?_
              refine wp_seq ?_
              refine wp_block ?_
              refine cw_draw 10 mixed (fun w255 hB_ => ?_)
              replace hC := hC.grow hB_
              refine ae_lookF 0 (.int .i64 s246.2) rfl rfl (by kernel_rfl) (by kernel_rfl) (by kernel_rfl) (fun w_ => .inl ⟨rfl, by exact r_mv (v := .int .i64 s246.2) h8_⟩) (listed' := (List.toArray [true, false, false, false, false, false, false, false, false, false, false, false])) rfl ?_
              refine ae_lookF 1 (u1_0) rfl rfl (by kernel_rfl) (by kernel_rfl) (by kernel_rfl) (fun w_ => .inl ⟨rfl, by exact r_mv (v := u1_0) h1_⟩) (listed' := (List.toArray [true, true, false, false, false, false, false, false, false, false, false, false])) rfl ?_
              refine ae_lookF 2 (.int .i64 s246.1) rfl rfl (by kernel_rfl) (by kernel_rfl) (by kernel_rfl) (fun w_ => .inl ⟨rfl, by exact r_mv (v := .int .i64 s246.1) h11_⟩) (listed' := (List.toArray [true, true, true, false, false, false, false, false, false, false, false, false])) rfl ?_
              obtain ⟨⟨h0_256, h1_257⟩, h⟩ := h
              obtain ⟨Ad258, c259, hv260⟩ := sl_form (hC.getP 0 rfl) s246.1.toNat (show s246.1.toNat < a1.length by omega)
              refine ae_look 3 (.pointer (some (Ad258.add (s246.1.toNat * 1)))) rfl rfl (by kernel_rfl) (by kernel_rfl) (by kernel_rfl) (fun w_ hB_ => .inl ⟨rfl, by exact r_iaddrS (len := a1.length) Try.underlying22 sc2.size (by exact tr rfl hv260) rfl h0_256 h1_257⟩) (listed' := (List.toArray [true, true, true, true, false, false, false, false, false, false, false, false])) rfl ?_
              refine ae_look 4 (.int .i64 (a1.getD s246.1.toNat default)) rfl rfl (by kernel_rfl) (by kernel_rfl) (by kernel_rfl) (fun w_ hB_ => .inl ⟨rfl, by exact r_loadCS (.int .i64 (a1.getD s246.1.toNat default)) (sl_cellsE ((hC.grow hB_).getP 0 rfl) hv260 s246.1.toNat (show s246.1.toNat < a1.length by omega)) sc2 rfl⟩) (listed' := (List.toArray [true, true, true, true, true, false, false, false, false, false, false, false])) rfl ?_
              refine ae_lookF 5 (.int .i64 (Int.tmod (a1.getD s246.1.toNat default) 2)) rfl rfl (by kernel_rfl) (by kernel_rfl) (by kernel_rfl) (fun w_ => .inl ⟨rfl, by exact r_rem rfl rfl (by decide)⟩) (listed' := (List.toArray [true, true, true, true, true, true, false, false, false, false, false, false])) rfl ?_
              refine ae_lookF 6 (.int .i64 s246.1) rfl rfl (by kernel_rfl) (by kernel_rfl) (by kernel_rfl) (fun w_ => .inl ⟨rfl, by exact r_mv (v := .int .i64 s246.1) h11_⟩) (listed' := (List.toArray [true, true, true, true, true, true, true, false, false, false, false, false])) rfl ?_
              obtain ⟨⟨h0_261, h1_262⟩, h⟩ := h
              refine ae_look 7 (.pointer (some ⟨b2, s246.1.toNat, none⟩)) rfl rfl (by kernel_rfl) (by kernel_rfl) (by kernel_rfl) (fun w_ hB_ => .inl ⟨rfl, by exact r_iaddrB s246.1.toNat Try.underlying85 sc3.size h3_ rfl h0_261 h1_262 (by omega)⟩) (listed' := (List.toArray [true, true, true, true, true, true, true, true, false, false, false, false])) rfl ?_
              refine ae_look 8 (.int .i64 (a0.get s246.1.toNat)) rfl rfl (by kernel_rfl) (by kernel_rfl) (by kernel_rfl) (fun w_ hB_ => .inl ⟨rfl, by exact r_loadS (hC.grow hB_) 2 (.int .i64 (a0.get s246.1.toNat)) rfl sc3 rfl (A8.enc_get _ _ (show s246.1.toNat < 8 by omega))⟩) (listed' := (List.toArray [true, true, true, true, true, true, true, true, true, false, false, false])) rfl ?_
              refine ae_lookF 9 (.int .i64 (IntKind.i64.wrap ((Int.tmod (a1.getD s246.1.toNat default) 2) * (a0.get s246.1.toNat)))) rfl rfl (by kernel_rfl) (by kernel_rfl) (by kernel_rfl) (fun w_ => .inl ⟨rfl, by exact r_mul rfl rfl⟩) (listed' := (List.toArray [true, true, true, true, true, true, true, true, true, true, false, false])) rfl ?_
              refine ae_tail 10 (by decide) (by decide) (by kernel_rfl) rfl rfl ?_
              refine s_add rfl rfl ?_
              refine s_as (v := .int .i64 (IntKind.i64.wrap (s246.2 + (IntKind.i64.wrap ((Int.tmod (a1.getD s246.1.toNat default) 2) * (a0.get s246.1.toNat)))))) rfl ?_
              refine done ?_
              refine qn_norm ?_
              refine blk_norm ?_
              refine then_norm ?_
              refine cw_region ?_
              refine s_mv (v := .int .i64 s246.1) h11_ ?_
              refine s_add rfl rfl ?_
              refine s_as (v := .int .i64 (IntKind.i64.wrap (s246.1 + 1))) rfl ?_
              refine done ?_
              exact hK249 (IntKind.i64.wrap (s246.1 + 1), IntKind.i64.wrap (s246.2 + (IntKind.i64.wrap ((Int.tmod (a1.getD s246.1.toNat default) 2) * (a0.get s246.1.toNat))))) _ _ ⟨h1_, h3_, h5_, h6_, h7_, rfl, h9_, h10_, rfl, h13_, h14_, h15_, h16_, h17_, h18_, h19_, h20_, h21_, h22_, h23_, h24_, h25_, h26_, h27_, h32_, h34_, h35_, h36_, h37_, h38_, h39_, hC⟩ h
            · replace h := iff_ h (cf hb254)
              refine wp_exit (then_exit (then_exit (exit_in ?_)))
              refine blk_norm ?_
              refine then_norm ?_
              refine cw_region ?_
              refine s_add h15_ rfl ?_
              refine s_mv (v := .int .i64 (IntKind.i64.wrap ((i196 : Int) + 1))) rfl ?_
              refine done ?_
              exact hK201 s246.2 _ _ ⟨h1_, h3_, h5_, h6_, h7_, h8_, h13_, h14_, (tr rfl (congrArg _ (wrap64_nat hi202 hN198))), hC⟩ h
          · skip
            exact ⟨h1_, h3_, h5_, h6_, h7_, h8_, rfl, rfl, rfl, h13_, h14_, h15_, rfl, rfl, rfl, rfl, rfl, rfl, rfl, rfl, rfl, rfl, rfl, rfl, rfl, rfl, rfl, rfl, rfl, rfl, rfl, hC⟩
        · replace h := iff_ h (cf hb219)
          refine wp_skip ?_
          refine blk_norm ?_
          refine then_norm ?_
          refine cw_region ?_
          refine s_add h15_ rfl ?_
          refine s_mv (v := .int .i64 (IntKind.i64.wrap ((i196 : Int) + 1))) rfl ?_
          refine done ?_
          exact hK201 s197 _ _ ⟨h1_, h3_, h5_, h6_, h7_, h8_, h13_, h14_, (tr rfl (congrArg _ (wrap64_nat hi202 hN198))), hC⟩ h
  · clear hC h
    rintro s197 e_ w263 K200 ⟨h1_, h3_, h5_, h6_, h7_, h8_, h13_, h14_, h15_, hC⟩ h
    refine wp_seq ?_
    refine cw_region ?_
    refine s_lss h15_ h14_ ?_
    refine done ?_
    refine then_norm ?_
    refine wp_seq ?_
    refine cw_false rfl (decide_eq_false (by omega)) ?_
    refine wp_exit (then_exit (then_exit (exit_in ?_)))
    refine then_norm ?_
    refine wp_seq ?_
    refine wp_seq ?_
    refine cw_region ?_
    refine s_mv (v := .int .i64 0) rfl ?_
    refine done ?_
    refine then_norm ?_
    refine wp_block ?_
    refine loopN (S := A8) _ _ (fun i280 s281 e_ w_ => e_ 3 = .pointer (some ⟨b2, 0, none⟩) ∧ e_ 5 = .pointer (some ⟨b5, 0, none⟩) ∧ e_ 6 = .pointer (some ⟨b8, 0, none⟩) ∧ e_ 7 = .int .i64 0 ∧ e_ 8 = .int .i64 s197 ∧ e_ 58 = .int .i64 (i280 : Int) ∧ Ctx Nox w0 w_ [blk b8 85 (A8.enc .i64 A8.zero), blk b5 85 (A8.enc .i64 a2), blk b2 85 (A8.enc .i64 s281)] [Ty.item ((EI .i64).ty.sl) a1 [u1_0] fp1]) 8 ?_ ?_ (s0 := a0) ?_ h
    · clear hC h
      rintro i280 s281 e_ w286 next282 K283 hi285 ⟨h3_, h5_, h6_, h7_, h8_, h58_, hC⟩ h hK284
      refine wp_seq ?_
      refine cw_region ?_
      refine s_lss h58_ rfl ?_
      refine done ?_
      refine then_norm ?_
      refine wp_seq ?_
      refine cw_true rfl (decide_eq_true (by omega)) ?_
      refine wp_skip ?_
      refine then_norm ?_
      refine wp_seq ?_
      refine wp_block ?_
      refine wp_seq ?_
      refine cw_region ?_
      refine s_mv (v := .int .i64 (i280 : Int)) h58_ ?_
      refine s_as (v := .int .i64 (i280 : Int)) rfl ?_
      refine done ?_
      refine then_norm ?_
      refine cw_draw 6 mixed (fun w287 hB_ => ?_)
      replace hC := hC.grow hB_
      refine ae_lookF 0 (.int .i64 (i280 : Int)) rfl rfl (by kernel_rfl) (by kernel_rfl) (by kernel_rfl) (fun w_ => .inl ⟨rfl, by exact r_mv (v := .int .i64 (i280 : Int)) rfl⟩) (listed' := (List.toArray [true, false, false, false, false, false, false, false, false])) rfl ?_
      refine ae_look 1 (.pointer (some ⟨b2, i280, none⟩)) rfl rfl (by kernel_rfl) (by kernel_rfl) (by kernel_rfl) (fun w_ hB_ => .inl ⟨rfl, by exact r_iaddrB i280 Try.underlying85 sc3.size h3_ rfl (Int.natCast_nonneg _) (by omega) (by omega)⟩) (listed' := (List.toArray [true, true, false, false, false, false, false, false, false])) rfl ?_
      refine ae_look 2 (.int .i64 (s281.get i280)) rfl rfl (by kernel_rfl) (by kernel_rfl) (by kernel_rfl) (fun w_ hB_ => .inl ⟨rfl, by exact r_loadS (hC.grow hB_) 2 (.int .i64 (s281.get i280)) rfl sc3 rfl (A8.enc_get _ _ hi285)⟩) (listed' := (List.toArray [true, true, true, false, false, false, false, false, false])) rfl ?_
      refine ae_lookF 3 (.int .i64 (i280 : Int)) rfl rfl (by kernel_rfl) (by kernel_rfl) (by kernel_rfl) (fun w_ => .inl ⟨rfl, by exact r_mv (v := .int .i64 (i280 : Int)) rfl⟩) (listed' := (List.toArray [true, true, true, true, false, false, false, false, false])) rfl ?_
      refine ae_look 4 (.pointer (some ⟨b5, i280, none⟩)) rfl rfl (by kernel_rfl) (by kernel_rfl) (by kernel_rfl) (fun w_ hB_ => .inl ⟨rfl, by exact r_iaddrB i280 Try.underlying85 sc3.size h5_ rfl (Int.natCast_nonneg _) (by omega) (by omega)⟩) (listed' := (List.toArray [true, true, true, true, true, false, false, false, false])) rfl ?_
      refine ae_look 5 (.int .i64 (a2.get i280)) rfl rfl (by kernel_rfl) (by kernel_rfl) (by kernel_rfl) (fun w_ hB_ => .inl ⟨rfl, by exact r_loadS (hC.grow hB_) 1 (.int .i64 (a2.get i280)) rfl sc3 rfl (A8.enc_get _ _ hi285)⟩) (listed' := (List.toArray [true, true, true, true, true, true, false, false, false])) rfl ?_
      refine ae_tail 6 (by decide) (by decide) (by kernel_rfl) rfl rfl ?_
      refine s_add rfl rfl ?_
      refine s_iaddrB i280 Try.underlying85 sc3.size h3_ rfl (Int.natCast_nonneg _) (by omega) (by omega) ?_
      refine s_store (v := .int .i64 (IntKind.i64.wrap ((s281.get i280) + (a2.get i280)))) hC 2 [.int .i64 (IntKind.i64.wrap ((s281.get i280) + (a2.get i280)))] (A8.enc .i64 (s281.set i280 (IntKind.i64.wrap ((s281.get i280) + (a2.get i280))))) rfl sc3.size rfl rfl rfl rfl rfl hi285 (A8.enc_set _ _ _ hi285) fun w288 hC => ?_
      refine done ?_
      refine qn_norm ?_
      refine blk_norm ?_
      refine then_norm ?_
      refine cw_region ?_
      refine s_add h58_ rfl ?_
      refine s_mv (v := .int .i64 (IntKind.i64.wrap ((i280 : Int) + 1))) rfl ?_
      refine done ?_
      exact hK284 (s281.set i280 (IntKind.i64.wrap ((s281.get i280) + (a2.get i280)))) _ _ ⟨h3_, h5_, h6_, h7_, h8_, (tr rfl (congrArg _ (wrap64_nat hi285 (by decide)))), hC⟩ h
    · clear hC h
      rintro s281 e_ w289 K283 ⟨h3_, h5_, h6_, h7_, h8_, h58_, hC⟩ h
      refine wp_seq ?_
      refine cw_region ?_
      refine s_lss h58_ rfl ?_
      refine done ?_
      refine then_norm ?_
      refine wp_seq ?_
      refine cw_false rfl (decide_eq_false (by omega)) ?_
      refine wp_exit (then_exit (then_exit (exit_in ?_)))
      refine then_norm ?_
      refine wp_seq ?_
      refine wp_seq ?_
      refine cw_region ?_
      refine s_mv (v := .int .i64 s197) h8_ ?_
      refine s_rem rfl rfl (by decide) ?_
      refine s_eql rfl rfl ?_
      refine done ?_
      refine then_norm ?_
      refine cw_cond rfl (fun hb290 => ?_) (fun hb290 => ?_)
      · replace h := ift h (ct hb290)
        refine wp_seq ?_
        refine cw_region ?_
        refine s_loadA hC 2 (A8.enc .i64 s281) rfl ag85 h3_ rfl rfl ?_
        refine s_store (v := .agg (List.toArray (A8.enc .i64 s281))) hC 0 (A8.enc .i64 s281) (A8.enc .i64 s281) rfl ag85.size h6_ rfl rfl rfl rfl (Nat.le_of_ble_eq_true rfl) rfl fun w291 hC => ?_
        refine s_as (v := .int .i64 (-1)) rfl ?_
        refine done ?_
        refine then_norm ?_
        refine wp_ret (then_ret ?_)
        refine ret2 (fn := Try.f65) rfl ?_ ?_ ⟨s281, (-1), rfl, h, hC.below⟩ (.inl rfl)
        · exact res_cellA hC 0 rfl ag85 h6_ rfl
        · exact res_tmp rfl
      · replace h := iff_ h (cf hb290)
        refine wp_skip ?_
        refine then_norm ?_
        refine wp_seq ?_
        refine cw_region ?_
        refine s_loadA hC 2 (A8.enc .i64 s281) rfl ag85 h3_ rfl rfl ?_
        refine s_store (v := .agg (List.toArray (A8.enc .i64 s281))) hC 0 (A8.enc .i64 s281) (A8.enc .i64 s281) rfl ag85.size h6_ rfl rfl rfl rfl (Nat.le_of_ble_eq_true rfl) rfl fun w292 hC => ?_
        refine s_as (v := .int .i64 1) rfl ?_
        refine done ?_
        refine then_norm ?_
        refine wp_ret ?_
        refine ret2 (fn := Try.f65) rfl ?_ ?_ ⟨s281, 1, rfl, h, hC.below⟩ (.inl rfl)
        · exact res_cellA hC 0 rfl ag85 h6_ rfl
        · exact res_tmp rfl
    · skip
      exact ⟨h3_, h5_, h6_, h7_, h8_, rfl, hC⟩
  · skip
    exact ⟨rfl, rfl, rfl, rfl, rfl, rfl, rfl, rfl, rfl, hC⟩
def f_impl_sum_add (a0 : List (A8 × Int)) (a1 : A8) (a2 : Int) (K : List (A8 × Int) → Prop) : Prop :=
  f_impl_field (IntKind.i64.wrap (((mget a0 a1).getD 0) + a2)) (fun r8 => (if r8 ≠ 0 then K (mset a0 a1 r8) else K (mdel a0 a1)))
theorem c_impl_sum_add (a0 : List (A8 × Int)) (a1 : A8) (a2 : Int) {b0 : Nat} {K : List (A8 × Int) → Prop} (h : f_impl_sum_add a0 a1 a2 K) (w0 : World) (q0 : (mapI (kvA .i64) (vvI .i64) b0 a0).holds w0) :
    Calls Try.prog 123 #[.map (some b0), .agg (List.toArray (A8.enc .i64 a1)), .int .i64 a2] w0 fun e w' => ∃ (m0 : List (A8 × Int)), 
      e = .returned (.tuple #[]) ∧ K m0 ∧ (mapI (kvA .i64) (vvI .i64) b0 m0).holds w' ∧ BelB b0 w0 w' := by
  unfold f_impl_sum_add at h
  refine calls_of (args := [.map (some b0), .agg (List.toArray (A8.enc .i64 a1)), .int .i64 a2]) Try.func123 rfl 20 Try.ntmps123 (Nat.le_of_ble_eq_true rfl) ?_
  have hC := Ctx.start1 w0 b0 (it := mapI (kvA .i64) (vvI .i64) b0 a0) rfl [] q0 (by simp) (by simp)
  refine wp_seq ?_
  refine cw_region ?_
  refine s_box (v := .agg (List.toArray (A8.enc .i64 a1))) hC (A8.enc .i64 a1) rfl rfl fun b2 w4 hB_ hC => ?_
  refine done ?_
  refine then_norm ?_
  refine wp_seq ?_
  refine cw_region ?_
  refine s_mv (v := .map (some b0)) rfl ?_
  refine s_loadA hC 0 (A8.enc .i64 a1) rfl ag85 rfl rfl rfl ?_
  refine s_lookup a1 0 (hC.getM 1 rfl) kt85 Try.underlying90 z2 rfl rfl ?_
  refine s_mv (v := .int .i64 a2) rfl ?_
  refine s_add rfl rfl ?_
  refine s_call [.int .i64 (IntKind.i64.wrap (((mget a0 a1).getD 0) + a2))] _ Try.func131 rfl rfl rfl (c_impl_field (IntKind.i64.wrap (((mget a0 a1).getD 0) + a2)) h _) (fun ret5 w7 hR6 => ?_)
  obtain ⟨r8, rfl, h, hB9⟩ := hR6
  refine ⟨_, rfl, ?_⟩
  replace hC := hC.grow hB9
  refine s_as (v := .int .i64 r8) rfl ?_
  refine done ?_
  refine then_norm ?_
  refine wp_seq ?_
  refine cw_region ?_
  refine s_mv (v := .int .i64 r8) rfl ?_
  refine s_neq rfl rfl ?_
  refine done ?_
  refine then_norm ?_
  refine cw_cond rfl (fun hb10 => ?_) (fun hb10 => ?_)
  · replace h := ift h (ct hb10)
    refine cw_region ?_
    refine s_mv (v := .map (some b0)) rfl ?_
    refine s_loadA hC 0 (A8.enc .i64 a1) rfl ag85 rfl rfl rfl ?_
    refine s_mv (v := .int .i64 r8) rfl ?_
    refine s_mapset hC 1 a1 r8 rfl kt85 Try.underlying90 rfl rfl rfl (fun w11 hC => ?_) (.inl rfl)
    refine done ?_
    refine ret0 (fn := Try.f123) rfl  ⟨mset a0 a1 r8, rfl, h, (hC.getM 1 rfl), hC.belB⟩ (.inr rfl)
  · replace h := iff_ h (cf hb10)
    refine cw_region ?_
    refine s_mv (v := .map (some b0)) rfl ?_
    refine s_loadA hC 0 (A8.enc .i64 a1) rfl ag85 rfl rfl rfl ?_
    refine s_mapdel hC 1 a1 rfl kt85 Try.underlying90 rfl rfl rfl fun w12 hC => ?_
    refine done ?_
    refine ret0 (fn := Try.f123) rfl  ⟨mdel a0 a1, rfl, h, (hC.getM 1 rfl), hC.belB⟩ (.inr rfl)
def f_impl_sumOf (a0 : Vc.Form) (K : List (A8 × Int) → Prop) : Prop :=
  forN (fun i46 (s47 : (List (A8 × Int))) next49 => f_impl_powerOf ((a0.terms.getD i46 default).mono) (fun r65 => next49 (mset s47 r65 ((a0.terms.getD i46 default).factor)))) (fun (s47 : (List (A8 × Int))) => K s47) a0.terms.length 0 ([] : List (A8 × Int))
theorem c_impl_sumOf (a0 : Vc.Form) {u0_0 : Value} {fp0 : List Nat} {K : List (A8 × Int) → Prop} (h : f_impl_sumOf a0 K) (w0 : World) (q0 : TForm.rep a0 [u0_0] fp0 w0) :
    Calls Try.prog 91 #[.agg #[u0_0]] w0 fun e w' => ∃ (r0 : List (A8 × Int)) (zb0 : Nat), 
      e = .returned (.map (some zb0)) ∧ K r0 ∧ (mapI (kvA .i64) (vvI .i64) zb0 r0).holds w' ∧ w0.heap.size ≤ zb0 ∧ Bel w0 w' := by
  unfold f_impl_sumOf at h
  refine calls_of (args := [.agg #[u0_0]]) Try.func91 rfl 22 Try.ntmps91 (Nat.le_of_ble_eq_true rfl) ?_
  have hC := Ctx.start (X := Nox) w0 [Ty.item TForm a0 [u0_0] fp0] (by simp only [List.mem_cons, List.not_mem_nil, or_false, forall_eq_or_imp, forall_eq]; exact q0)
  replace hC := hC.derive 0 rfl (Ty.item ETerm.ty.sl a0.terms [u0_0] fp0) (fun _ => (form_parts (hC.getP 0 rfl))) (fun _ hb_ => hb_)
  refine wp_seq ?_
  refine cw_region ?_
  refine s_box (v := .agg #[u0_0]) hC [u0_0] rfl rfl fun b3 w5 hB_ hC => ?_
  refine s_as (v := .map none) rfl ?_
  refine done ?_
  refine then_norm ?_
  refine wp_seq ?_
  refine cw_region ?_
  refine s_makeMap hC (kvA .i64) (vvI .i64) fun b6 w8 hB_ hC => ?_
  refine s_as (v := .map (some b6)) rfl ?_
  refine done ?_
  refine then_norm ?_
  refine wp_seq ?_
  refine wp_seq ?_
  refine cw_region ?_
  refine s_faddrB 0 Try.underlying51 rfl sc49.size rfl rfl ?_
  refine s_loadS hC 1 (u0_0) rfl sc49 rfl rfl ?_
  obtain ⟨Ad9, c10, hv11⟩ := sl_len (hC.getP 0 rfl)
  refine s_len Try.underlying49 (tr rfl hv11) ?_
  refine s_mv (v := .int .i64 0) rfl ?_
  refine done ?_
  refine then_norm ?_
  refine wp_block ?_
  have hN48 : a0.terms.length ≤ 9223372036854775807 := sl_max (hC.getP 0 rfl)
  refine loopN (S := (List (A8 × Int))) _ _ (fun i46 s47 e_ w_ => e_ 2 = .map none ∧ e_ 3 = .map (some b6) ∧ e_ 8 = u0_0 ∧ e_ 9 = .int .i64 (a0.terms.length : Int) ∧ e_ 10 = .int .i64 (i46 : Int) ∧ Ctx Nox w0 w_ [mapI (kvA .i64) (vvI .i64) b6 s47] [Ty.item ETerm.ty.sl a0.terms [u0_0] fp0, Ty.item TForm a0 [u0_0] fp0]) a0.terms.length ?_ ?_ (s0 := ([] : List (A8 × Int))) ?_ h
  · clear hC h
    rintro i46 s47 e_ w53 next49 K50 hi52 ⟨h2_, h3_, h8_, h9_, h10_, hC⟩ h hK51
    refine wp_seq ?_
    refine cw_region ?_
    refine s_lss h10_ h9_ ?_
    refine done ?_
    refine then_norm ?_
    refine wp_seq ?_
    refine cw_true rfl (decide_eq_true (by omega)) ?_
    refine wp_skip ?_
    refine then_norm ?_
    refine wp_seq ?_
    refine wp_block ?_
    refine wp_seq ?_
    refine cw_region ?_
    obtain ⟨Ad54, c55, hv56⟩ := sl_form (hC.getP 0 rfl) i46 hi52
    refine s_iaddrS (len := a0.terms.length) Try.underlying49 ag93.size (tr h8_ hv56) h10_ (Int.natCast_nonneg _) (Int.ofNat_lt.2 hi52) ?_
    refine s_loadCA (Term.enc (a0.terms.getD i46 default)) (sl_cellsE (hC.getP 0 rfl) hv56 i46 hi52) ag93 rfl rfl ?_
    refine s_alloc hC (Term.enc (⟨A8.zero, 0⟩ : Term)) z93 rfl fun b57 w59 hB_ hC => ?_
    refine s_store (v := .agg (List.toArray (Term.enc (a0.terms.getD i46 default)))) hC 0 (Term.enc (a0.terms.getD i46 default)) (Term.enc (a0.terms.getD i46 default)) rfl ag93.size rfl rfl rfl rfl rfl (Nat.le_of_ble_eq_true rfl) rfl fun w60 hC => ?_
    refine done ?_
    refine then_norm ?_
    refine cw_draw 6 mixed (fun w61 hB_ => ?_)
    replace hC := hC.grow hB_
    refine ae_lookF 0 (.map (some b6)) rfl rfl (by kernel_rfl) (by kernel_rfl) (by kernel_rfl) (fun w_ => .inl ⟨rfl, by exact r_mv (v := .map (some b6)) h3_⟩) (listed' := (List.toArray [true, false, false, false, false, false, false])) rfl ?_
    refine ae_lookF 1 (.pointer (some ⟨b57, 0, none⟩)) rfl rfl (by kernel_rfl) (by kernel_rfl) (by kernel_rfl) (fun w_ => .inl ⟨rfl, by exact r_faddrB 0 Try.underlying93 rfl ag24.size rfl rfl⟩) (listed' := (List.toArray [true, true, false, false, false, false, false])) rfl ?_
    refine ae_look 2 (.agg (List.toArray (A8.enc .u8 ((a0.terms.getD i46 default).mono)))) rfl rfl (by kernel_rfl) (by kernel_rfl) (by kernel_rfl) (fun w_ hB_ => .inl ⟨rfl, by exact r_loadA (hC.grow hB_) 0 (A8.enc .u8 ((a0.terms.getD i46 default).mono)) rfl ag24 rfl rfl rfl⟩) (listed' := (List.toArray [true, true, true, false, false, false, false])) rfl ?_
    refine ae_lookF 4 (.pointer (some ⟨b57, 8, none⟩)) rfl rfl (by kernel_rfl) (by kernel_rfl) (by kernel_rfl) (fun w_ => .inl ⟨rfl, by exact r_faddrB 8 Try.underlying93 rfl sc2.size rfl rfl⟩) (listed' := (List.toArray [true, true, true, false, true, false, false])) rfl ?_
    refine ae_look 5 (.int .i64 ((a0.terms.getD i46 default).factor)) rfl rfl (by kernel_rfl) (by kernel_rfl) (by kernel_rfl) (fun w_ hB_ => .inl ⟨rfl, by exact r_loadS (hC.grow hB_) 0 (.int .i64 ((a0.terms.getD i46 default).factor)) rfl sc2 rfl rfl⟩) (listed' := (List.toArray [true, true, true, false, true, true, false])) rfl ?_
    refine ae_one 3 rfl (by kernel_rfl) ?_
    refine s_call [.agg (List.toArray (A8.enc .u8 ((a0.terms.getD i46 default).mono)))] _ Try.func64 rfl rfl rfl (c_impl_powerOf ((a0.terms.getD i46 default).mono) h _) (fun ret62 w64 hR63 => ?_)
    obtain ⟨r65, rfl, h, hB66⟩ := hR63
    refine ⟨_, rfl, ?_⟩
    replace hC := hC.grow hB66
    refine done ?_
    refine ak_intro (by assumption) (listed' := (List.toArray [true, true, true, true, true, true, false])) rfl ?_
    refine ae_tail 6 (by decide) (by decide) (by kernel_rfl) rfl rfl ?_
    refine s_mapset hC 1 r65 ((a0.terms.getD i46 default).factor) rfl kt85 Try.underlying90 rfl rfl rfl (fun w67 hC => ?_) (.inl rfl)
    refine done ?_
    refine qn_norm ?_
    refine blk_norm ?_
    refine then_norm ?_
    refine cw_region ?_
    refine s_add h10_ rfl ?_
    refine s_mv (v := .int .i64 (IntKind.i64.wrap ((i46 : Int) + 1))) rfl ?_
    refine done ?_
    replace hC := hC.sel [1] [0, 1] (M' := [mapI (kvA .i64) (vvI .i64) b6 (mset s47 r65 ((a0.terms.getD i46 default).factor))]) (Ps' := [Ty.item ETerm.ty.sl a0.terms [u0_0] fp0, Ty.item TForm a0 [u0_0] fp0]) (by decide) rfl rfl
    exact hK51 (mset s47 r65 ((a0.terms.getD i46 default).factor)) _ _ ⟨h2_, h3_, h8_, h9_, (tr rfl (congrArg _ (wrap64_nat hi52 hN48))), hC⟩ h
  · clear hC h
    rintro s47 e_ w68 K50 ⟨h2_, h3_, h8_, h9_, h10_, hC⟩ h
    refine wp_seq ?_
    refine cw_region ?_
    refine s_lss h10_ h9_ ?_
    refine done ?_
    refine then_norm ?_
    refine wp_seq ?_
    refine cw_false rfl (decide_eq_false (by omega)) ?_
    refine wp_exit (then_exit (then_exit (exit_in ?_)))
    refine then_norm ?_
    refine wp_seq ?_
    refine cw_region ?_
    refine s_mv (v := .map (some b6)) h3_ ?_
    refine s_as (v := .map (some b6)) rfl ?_
    refine done ?_
    refine then_norm ?_
    refine wp_ret ?_
    refine ret1 (fn := Try.f91) rfl ?_ ⟨s47, b6, rfl, h, (hC.getM 0 rfl), (map_fresh hC 0 rfl), hC.below⟩ (.inl rfl)
    exact res_tmp rfl
  · skip
    replace hC := hC.sel [0] [0, 1] (M' := [mapI (kvA .i64) (vvI .i64) b6 ([] : List (A8 × Int))]) (Ps' := [Ty.item ETerm.ty.sl a0.terms [u0_0] fp0, Ty.item TForm a0 [u0_0] fp0]) (by decide) rfl rfl
    exact ⟨rfl, rfl, rfl, rfl, rfl, hC⟩
def f_impl_power_compare (a0 : A8) (a1 : A8) (K : Int → Prop) : Prop :=
  forN (fun i13 (s14 : Unit) next15 => (if a0.get i13 ≠ a1.get i13 then K (IntKind.i64.wrap ((a1.get i13) - (a0.get i13))) else next15 ())) (fun (s14 : Unit) => K 0) 8 0 ()
theorem c_impl_power_compare (a0 : A8) (a1 : A8)  {K : Int → Prop} (h : f_impl_power_compare a0 a1 K) (w0 : World)  :
    Calls Try.prog 128 #[.agg (List.toArray (A8.enc .i64 a0)), .agg (List.toArray (A8.enc .i64 a1))] w0 fun e w' => ∃ (r0 : Int), 
      e = .returned (.int .i64 r0) ∧ K r0 ∧ Bel w0 w' := by
  unfold f_impl_power_compare at h
  refine calls_of (args := [.agg (List.toArray (A8.enc .i64 a0)), .agg (List.toArray (A8.enc .i64 a1))]) Try.func128 rfl 24 Try.ntmps128 (Nat.le_of_ble_eq_true rfl) ?_
  have hC := Ctx.start (X := Nox) w0 [] (by simp)
  refine wp_seq ?_
  refine cw_region ?_
  refine s_box (v := .agg (List.toArray (A8.enc .i64 a0))) hC (A8.enc .i64 a0) rfl rfl fun b1 w3 hB_ hC => ?_
  refine s_box (v := .agg (List.toArray (A8.enc .i64 a1))) hC (A8.enc .i64 a1) rfl rfl fun b4 w6 hB_ hC => ?_
  refine s_as (v := .int .i64 0) rfl ?_
  refine done ?_
  refine then_norm ?_
  refine wp_seq ?_
  refine wp_seq ?_
  refine cw_region ?_
  refine s_mv (v := .int .i64 0) rfl ?_
  refine done ?_
  refine then_norm ?_
  refine wp_block ?_
  refine loopN (S := Unit) _ _ (fun i13 s14 e_ w_ => e_ 2 = .pointer (some ⟨b1, 0, none⟩) ∧ e_ 3 = .pointer (some ⟨b4, 0, none⟩) ∧ e_ 4 = .int .i64 0 ∧ e_ 6 = .int .i64 (i13 : Int) ∧ Ctx Nox w0 w_ [blk b4 85 (A8.enc .i64 a1), blk b1 85 (A8.enc .i64 a0)] []) 8 ?_ ?_ (s0 := ()) ?_ h
  · clear hC h
    rintro i13 s14 e_ w19 next15 K16 hi18 ⟨h2_, h3_, h4_, h6_, hC⟩ h hK17
    refine wp_seq ?_
    refine cw_region ?_
    refine s_lss h6_ rfl ?_
    refine done ?_
    refine then_norm ?_
    refine wp_seq ?_
    refine cw_true rfl (decide_eq_true (by omega)) ?_
    refine wp_skip ?_
    refine then_norm ?_
    refine wp_seq ?_
    refine wp_block ?_
    refine wp_seq ?_
    refine cw_region ?_
    refine s_mv (v := .int .i64 (i13 : Int)) h6_ ?_
    refine s_as (v := .int .i64 (i13 : Int)) rfl ?_
    refine done ?_
    refine then_norm ?_
    refine wp_seq ?_
    refine cw_draw 6 mixed (fun w20 hB_ => ?_)
    replace hC := hC.grow hB_
    refine ae_lookF 0 (.int .i64 (i13 : Int)) rfl rfl (by kernel_rfl) (by kernel_rfl) (by kernel_rfl) (fun w_ => .inl ⟨rfl, by exact r_mv (v := .int .i64 (i13 : Int)) rfl⟩) (listed' := (List.toArray [true, false, false, false, false, false, false])) rfl ?_
    refine ae_look 1 (.pointer (some ⟨b1, i13, none⟩)) rfl rfl (by kernel_rfl) (by kernel_rfl) (by kernel_rfl) (fun w_ hB_ => .inl ⟨rfl, by exact r_iaddrB i13 Try.underlying85 sc3.size h2_ rfl (Int.natCast_nonneg _) (by omega) (by omega)⟩) (listed' := (List.toArray [true, true, false, false, false, false, false])) rfl ?_
    refine ae_look 2 (.int .i64 (a0.get i13)) rfl rfl (by kernel_rfl) (by kernel_rfl) (by kernel_rfl) (fun w_ hB_ => .inl ⟨rfl, by exact r_loadS (hC.grow hB_) 1 (.int .i64 (a0.get i13)) rfl sc3 rfl (A8.enc_get _ _ hi18)⟩) (listed' := (List.toArray [true, true, true, false, false, false, false])) rfl ?_
    refine ae_lookF 3 (.int .i64 (i13 : Int)) rfl rfl (by kernel_rfl) (by kernel_rfl) (by kernel_rfl) (fun w_ => .inl ⟨rfl, by exact r_mv (v := .int .i64 (i13 : Int)) rfl⟩) (listed' := (List.toArray [true, true, true, true, false, false, false])) rfl ?_
    refine ae_look 4 (.pointer (some ⟨b4, i13, none⟩)) rfl rfl (by kernel_rfl) (by kernel_rfl) (by kernel_rfl) (fun w_ hB_ => .inl ⟨rfl, by exact r_iaddrB i13 Try.underlying85 sc3.size h3_ rfl (Int.natCast_nonneg _) (by omega) (by omega)⟩) (listed' := (List.toArray [true, true, true, true, true, false, false])) rfl ?_
    refine ae_look 5 (.int .i64 (a1.get i13)) rfl rfl (by kernel_rfl) (by kernel_rfl) (by kernel_rfl) (fun w_ hB_ => .inl ⟨rfl, by exact r_loadS (hC.grow hB_) 0 (.int .i64 (a1.get i13)) rfl sc3 rfl (A8.enc_get _ _ hi18)⟩) (listed' := (List.toArray [true, true, true, true, true, true, false])) rfl ?_
    refine ae_tail 6 (by decide) (by decide) (by kernel_rfl) rfl rfl ?_
    refine s_neq rfl rfl ?_
    refine done ?_
    refine qn_norm ?_
    refine then_norm ?_
    refine cw_cond rfl (fun hb21 => ?_) (fun hb21 => ?_)
    · replace h := ift h (ct hb21)
      refine wp_seq ?_
      refine cw_draw 6 mixed (fun w22 hB_ => ?_)
      replace hC := hC.grow hB_
      refine ae_lookF 0 (.int .i64 (i13 : Int)) rfl rfl (by kernel_rfl) (by kernel_rfl) (by kernel_rfl) (fun w_ => .inl ⟨rfl, by exact r_mv (v := .int .i64 (i13 : Int)) rfl⟩) (listed' := (List.toArray [true, false, false, false, false, false, false, false])) rfl ?_
      refine ae_look 1 (.pointer (some ⟨b4, i13, none⟩)) rfl rfl (by kernel_rfl) (by kernel_rfl) (by kernel_rfl) (fun w_ hB_ => .inl ⟨rfl, by exact r_iaddrB i13 Try.underlying85 sc3.size h3_ rfl (Int.natCast_nonneg _) (by omega) (by omega)⟩) (listed' := (List.toArray [true, true, false, false, false, false, false, false])) rfl ?_
      refine ae_look 2 (.int .i64 (a1.get i13)) rfl rfl (by kernel_rfl) (by kernel_rfl) (by kernel_rfl) (fun w_ hB_ => .inl ⟨rfl, by exact r_loadS (hC.grow hB_) 0 (.int .i64 (a1.get i13)) rfl sc3 rfl (A8.enc_get _ _ hi18)⟩) (listed' := (List.toArray [true, true, true, false, false, false, false, false])) rfl ?_
      refine ae_lookF 3 (.int .i64 (i13 : Int)) rfl rfl (by kernel_rfl) (by kernel_rfl) (by kernel_rfl) (fun w_ => .inl ⟨rfl, by exact r_mv (v := .int .i64 (i13 : Int)) rfl⟩) (listed' := (List.toArray [true, true, true, true, false, false, false, false])) rfl ?_
      refine ae_look 4 (.pointer (some ⟨b1, i13, none⟩)) rfl rfl (by kernel_rfl) (by kernel_rfl) (by kernel_rfl) (fun w_ hB_ => .inl ⟨rfl, by exact r_iaddrB i13 Try.underlying85 sc3.size h2_ rfl (Int.natCast_nonneg _) (by omega) (by omega)⟩) (listed' := (List.toArray [true, true, true, true, true, false, false, false])) rfl ?_
      refine ae_look 5 (.int .i64 (a0.get i13)) rfl rfl (by kernel_rfl) (by kernel_rfl) (by kernel_rfl) (fun w_ hB_ => .inl ⟨rfl, by exact r_loadS (hC.grow hB_) 1 (.int .i64 (a0.get i13)) rfl sc3 rfl (A8.enc_get _ _ hi18)⟩) (listed' := (List.toArray [true, true, true, true, true, true, false, false])) rfl ?_
      refine ae_tail 6 (by decide) (by decide) (by kernel_rfl) rfl rfl ?_
      refine s_sub rfl rfl ?_
      refine s_as (v := .int .i64 (IntKind.i64.wrap ((a1.get i13) - (a0.get i13)))) rfl ?_
      refine done ?_
      refine qn_norm ?_
      refine then_norm ?_
      refine wp_ret (blk_ret (then_ret (then_ret (blk_ret (then_ret ?_)))))
      refine ret1 (fn := Try.f128) rfl ?_ ⟨IntKind.i64.wrap ((a1.get i13) - (a0.get i13)), rfl, h, hC.below⟩ (.inl rfl)
      exact res_tmp rfl
    · replace h := iff_ h (cf hb21)
      refine wp_skip ?_
      refine blk_norm ?_
      refine then_norm ?_
      refine cw_region ?_
      refine s_add h6_ rfl ?_
      refine s_mv (v := .int .i64 (IntKind.i64.wrap ((i13 : Int) + 1))) rfl ?_
      refine done ?_
      exact hK17 () _ _ ⟨h2_, h3_, h4_, (tr rfl (congrArg _ (wrap64_nat hi18 (by decide)))), hC⟩ h
  · clear hC h
    rintro s14 e_ w23 K16 ⟨h2_, h3_, h4_, h6_, hC⟩ h
    refine wp_seq ?_
    refine cw_region ?_
    refine s_lss h6_ rfl ?_
    refine done ?_
    refine then_norm ?_
    refine wp_seq ?_
    refine cw_false rfl (decide_eq_false (by omega)) ?_
    refine wp_exit (then_exit (then_exit (exit_in ?_)))
    refine then_norm ?_
    refine wp_seq ?_
    refine cw_region ?_
    refine s_as (v := .int .i64 0) rfl ?_
    refine done ?_
    refine then_norm ?_
    refine wp_ret ?_
    refine ret1 (fn := Try.f128) rfl ?_ ⟨0, rfl, h, hC.below⟩ (.inl rfl)
    exact res_tmp rfl
  · skip
    exact ⟨rfl, rfl, rfl, rfl, hC⟩
theorem pw_law : Cmp Try.prog Try.sortPow_ren (EA .i64) OkP pcmp 128 := ⟨Try.sortPow, ⟨_, OkP.zero⟩, ag85, pcmp_swo, ⟨_, Try.func128, rfl, rfl⟩, fun a b ha hb w => by
  refine (c_impl_power_compare a b (K := fun r => r = pcmp a b) (cmpText_meets (K := fun r => r = pcmp a b) ha hb rfl) w).mono ?_
  rintro e w' ⟨r, rfl, rfl, hB⟩
  exact ⟨rfl, hB⟩⟩
def f_impl_sum_powers (a0 : List (A8 × Int)) (K : List A8 → Prop) : Prop :=
  mapP (fun (q13 : A8 × Int) (s55 : (List A8)) next57 => (Room (s55.length + 1) 64 ∧ next57 (s55 ++ [q13.1]))) (fun (s55 : (List A8)) => SortP OkP pcmp s55 (fun xs66 => K xs66)) a0.length a0 []
theorem c_impl_sum_powers (a0 : List (A8 × Int)) {b0 : Nat} {K : List A8 → Prop} (h : f_impl_sum_powers a0 K) (w0 : World) (q0 : (mapI (kvA .i64) (vvI .i64) b0 a0).holds w0) :
    Calls Try.prog 113 #[.map (some b0)] w0 fun e w' => ∃ (r0 : List A8) (z0_0 : Value) (fz0 : List Nat), 
      e = .returned (z0_0) ∧ K r0 ∧ ((EA .i64).ty.sl).rep r0 [z0_0] fz0 w' ∧ (∀ b, b ∈ fz0 → w0.heap.size ≤ b) ∧ Bel w0 w' := by
  unfold f_impl_sum_powers at h
  refine calls_of (args := [.map (some b0)]) Try.func113 rfl 19 Try.ntmps113 (Nat.le_of_ble_eq_true rfl) ?_
  have hC := Ctx.start (X := Nox) w0 [mapI (kvA .i64) (vvI .i64) b0 a0] (by simp only [List.mem_cons, List.not_mem_nil, or_false, forall_eq_or_imp, forall_eq]; exact q0)
  refine wp_seq ?_
  refine cw_region ?_
  refine s_as (v := .slice none 0 0) rfl ?_
  refine done ?_
  refine then_norm ?_
  refine wp_seq ?_
  refine cw_region ?_
  refine s_bslice (sz := 8) hC [] ((EA .i64).encs []) rfl (fun _ => bs102_0  _) rfl (by decide) fun b2 w3 hB_ hC => ?_
  refine s_as (v := .slice (some ⟨b2, 0, none⟩) 0 0) rfl ?_
  refine done ?_
  refine then_norm ?_
  refine wp_seq ?_
  refine wp_seq ?_
  refine cw_region ?_
  refine s_mv (v := .map (some b0)) rfl ?_
  refine s_range hC 0 rfl Try.underlying90 rfl fun r5 es6 ck7 w12 hB_ hn8 hbn9 hC => ?_
  refine done ?_
  refine then_norm ?_
  refine wp_block ?_
  refine loopM (S := (List A8)) _ _ (fun l15 s55 e_ w_ => ∃ (v56 : Value), ∃ (la17 : Option MapEntry), e_ 2 = .slice none 0 0 ∧ e_ 3 = v56 ∧ e_ 7 = .pointer (some ⟨r5, 0, none⟩) ∧ Ctx Nox w0 w_ [itI (kvA .i64) (vvI .i64) r5 b0 es6 ck7 la17 l15, own 85 8 v56 s55.length ((EA .i64).encs s55)] [mapE b0 es6 ck7, mapI (kvA .i64) (vvI .i64) b0 a0]) ?_ (l0 := a0) (s0 := []) ?_ h
  · clear hC h
    rintro l15 s55 e_ w60 next57 K58 ⟨v56, la17, h2_, h3_, h7_, hC⟩ h hK59
    refine wp_seq ?_
    refine cw_region ?_
    refine s_next hC 0 0 rfl rfl hn8 hbn9 h7_ (fun hr61 => ?_) (fun q13 l14 ent62 w65 hp16 hk63 hv64 hC => ?_)
    · replace h := h.1 hr61
      refine s_ext (v := .bool false) rfl rfl ?_
      refine done ?_
      refine then_norm ?_
      refine wp_seq ?_
      refine cw_false rfl rfl ?_
      refine wp_exit (then_exit (then_exit (exit_in ?_)))
      refine then_norm ?_
      refine wp_seq ?_
      refine cw_region ?_
      refine s_mv (v := v56) h3_ ?_
      refine s_sort hC 1 pw_law rfl rfl Try.func127 rfl rfl rfl rfl h fun xs66 w67 h hC => ?_
      refine done ?_
      refine then_norm ?_
      refine wp_seq ?_
      refine cw_region ?_
      refine s_mv (v := v56) h3_ ?_
      refine s_as (v := v56) rfl ?_
      refine done ?_
      refine then_norm ?_
      refine wp_ret ?_
      refine ret1 (fn := Try.f113) rfl ?_ ⟨xs66, v56, (Option.toList (Value.ownBlock v56)), rfl, h, (own_repE (hC.getM 1 rfl)), (fun b hb => (own_fresh hC 1 rfl) b hb), hC.below⟩ (.inl rfl)
      exact res_tmp rfl
    · replace h := h.2 q13 l14 hp16
      refine s_ext (v := .bool true) rfl rfl ?_
      refine done ?_
      refine then_norm ?_
      refine wp_seq ?_
      refine cw_true rfl rfl ?_
      refine wp_skip ?_
      refine then_norm ?_
      refine wp_block ?_
      refine wp_seq ?_
      refine cw_region ?_
      refine s_entry hC 0 0 q13 rfl rfl hn8 h7_ hk63 hv64 ?_
      refine s_ext (v := .agg (List.toArray (A8.enc .i64 q13.1))) rfl rfl ?_
      refine s_alloc hC (A8.enc .i64 A8.zero) z85 rfl fun b68 w70 hB_ hC => ?_
      refine s_store (v := .agg (List.toArray (A8.enc .i64 q13.1))) hC 0 (A8.enc .i64 q13.1) (A8.enc .i64 q13.1) rfl ag85.size rfl rfl rfl rfl rfl (Nat.le_of_ble_eq_true rfl) rfl fun w71 hC => ?_
      refine done ?_
      refine then_norm ?_
      refine cw_region ?_
      refine s_mv (v := v56) h3_ ?_
      refine s_loadA hC 0 (A8.enc .i64 q13.1) rfl ag85 rfl rfl rfl ?_
      refine s_bslice (sz := 8) hC [(0, .agg (List.toArray (A8.enc .i64 q13.1)))] ((EA .i64).encs [q13.1]) rfl (fun _ => bs102_1 q13.1 _) rfl (by decide) fun b72 w73 hB_ hC => ?_
      obtain ⟨hm77, h⟩ := h
      refine s_app hC 3 Try.underlying102 el85 rfl (by decide) (by decide) rfl (own_rdr (hC.getM 0 rfl)) (fun q hq => Enc.encs_one' (E := (EA .i64)) _ q hq) rfl rfl hm77 fun v75 w76 hC => ?_
      replace hC := own_re hC 3 ((s55 ++ [q13.1]).length) ((EA .i64).encs (s55 ++ [q13.1])) rfl (by simp) (by simp [Enc.encs_append])
      refine s_as (v := v75) rfl ?_
      refine done ?_
      refine blk_norm ?_
      replace hC := hC.sel [2, 3] [0, 1] (M' := [itI (kvA .i64) (vvI .i64) r5 b0 es6 ck7 (some ent62) l14, own 85 8 v75 ((s55 ++ [q13.1]).length) ((EA .i64).encs (s55 ++ [q13.1]))]) (Ps' := [mapE b0 es6 ck7, mapI (kvA .i64) (vvI .i64) b0 a0]) (by decide) rfl rfl
      exact hK59 q13 l14 (s55 ++ [q13.1]) _ _ hp16 ⟨v75, (some ent62), h2_, rfl, h7_, hC⟩ h
  · skip
    exact ⟨.slice (some ⟨b2, 0, none⟩) 0 0, none, rfl, rfl, rfl, hC⟩
def f_impl_sum_form (a0 : List (A8 × Int)) (K : Vc.Form → Int → Prop) : Prop :=
  (if (a0.length : Int) > 400 then K (⟨[]⟩ : Vc.Form) 3 else f_impl_sum_powers a0 (fun r14 => forN (fun i154 (s155 : (List Term)) next159 => forN (fun i203 (s204 : A8) next205 => (if (r14.getD i154 default).get i203 > 20 then K (⟨[]⟩ : Vc.Form) 3 else next205 (s204.set i203 (IntKind.u8.wrap ((r14.getD i154 default).get i203))))) (fun (s204 : A8) => (Room (s155.length + 1) 16 ∧ next159 (s155 ++ [(⟨s204, (mget a0 (r14.getD i154 default)).getD 0⟩ : Term)]))) 8 0 A8.zero) (fun (s155 : (List Term)) => K (⟨s155⟩ : Vc.Form) 0) r14.length 0 []))
theorem c_impl_sum_form (a0 : List (A8 × Int)) {b0 : Nat} {K : Vc.Form → Int → Prop} (h : f_impl_sum_form a0 K) (w0 : World) (q0 : (mapI (kvA .i64) (vvI .i64) b0 a0).holds w0) :
    Calls Try.prog 66 #[.map (some b0)] w0 fun e w' => ∃ (r0 : Vc.Form) (z0_0 : Value) (fz0 : List Nat) (r1 : Int), 
      e = .returned (.tuple #[.agg #[z0_0], .int .i64 r1]) ∧ K r0 r1 ∧ TForm.rep r0 [z0_0] fz0 w' ∧ (∀ b, b ∈ fz0 → w0.heap.size ≤ b) ∧ Bel w0 w' := by
  unfold f_impl_sum_form at h
  refine calls_of (args := [.map (some b0)]) Try.func66 rfl 48 Try.ntmps66 (Nat.le_of_ble_eq_true rfl) ?_
  have hC := Ctx.start (X := Nox) w0 [mapI (kvA .i64) (vvI .i64) b0 a0] (by simp only [List.mem_cons, List.not_mem_nil, or_false, forall_eq_or_imp, forall_eq]; exact q0)
  refine wp_seq ?_
  refine cw_region ?_
  refine s_alloc hC [.slice none 0 0] z51 rfl fun b2 w4 hB_ hC => ?_
  refine s_as (v := .int .i64 0) rfl ?_
  refine done ?_
  refine then_norm ?_
  refine wp_seq ?_
  refine wp_seq ?_
  refine cw_region ?_
  refine s_mv (v := .map (some b0)) rfl ?_
  refine s_maplen (hC.getP 0 rfl) Try.underlying90 rfl rfl ?_
  refine s_gtr rfl rfl ?_
  refine done ?_
  refine then_norm ?_
  refine cw_cond rfl (fun hb5 => ?_) (fun hb5 => ?_)
  · replace h := ift h (ct hb5)
    refine wp_seq ?_
    refine cw_region ?_
    refine s_build [] rfl (bl51  _) ?_
    refine s_store (v := .agg #[.slice none 0 0]) hC 0 [.slice none 0 0] [.slice none 0 0] rfl ag51.size rfl rfl rfl rfl rfl (Nat.le_of_ble_eq_true rfl) rfl fun w6 hC => ?_
    refine s_as (v := .int .i64 3) rfl ?_
    refine done ?_
    refine then_norm ?_
    refine wp_ret (then_ret ?_)
    refine ret2 (fn := Try.f66) rfl ?_ ?_ ⟨(⟨[]⟩ : Vc.Form), .slice none 0 0, [], 3, rfl, h, (form_mk (rep_nil _ _)), (fun b hb => (fun b hb => absurd hb (by simp)) b hb), hC.below⟩ (.inl rfl)
    · exact res_cellA hC 0 rfl ag51 rfl rfl
    · exact res_tmp rfl
  · replace h := iff_ h (cf hb5)
    refine wp_skip ?_
    refine then_norm ?_
    refine wp_seq ?_
    refine cw_region ?_
    refine s_build [] rfl (bl51  _) ?_
    refine s_alloc hC [.slice none 0 0] z51 rfl fun b7 w9 hB_ hC => ?_
    refine s_store (v := .agg #[.slice none 0 0]) hC 0 [.slice none 0 0] [.slice none 0 0] rfl ag51.size rfl rfl rfl rfl rfl (Nat.le_of_ble_eq_true rfl) rfl fun w10 hC => ?_
    refine done ?_
    refine then_norm ?_
    refine wp_seq ?_
    refine wp_seq ?_
    refine cw_region ?_
    refine s_mv (v := .map (some b0)) rfl ?_
    refine s_call [.map (some b0)] _ Try.func113 rfl rfl rfl (c_impl_sum_powers a0 h _ (hC.getP 0 rfl)) (fun ret11 w13 hR12 => ?_)
    obtain ⟨r14, u15, f16, rfl, h, hr17, hf18, hB19⟩ := hR12
    refine ⟨_, rfl, ?_⟩
    have hs20 := fresh_on hC.size hf18
    replace hC := hC.pushR hB19 (Ty.item ((EA .i64).ty.sl) r14 [u15] f16) hr17 (fun b hb => .inl (hf18 b hb))
    obtain ⟨Ad22, c23, hv24⟩ := sl_len (hC.getP 0 rfl)
    refine s_len Try.underlying102 (tr rfl hv24) ?_
    refine s_mv (v := .int .i64 0) rfl ?_
    refine done ?_
    refine then_norm ?_
    refine wp_block ?_
    have hN158 : r14.length ≤ 9223372036854775807 := sl_max (hC.getP 0 rfl)
    refine loopN (S := (List Term)) _ _ (fun i154 s155 e_ w_ => ∃ (v156 : Value), e_ 0 = .map (some b0) ∧ e_ 2 = .pointer (some ⟨b2, 0, none⟩) ∧ e_ 3 = .int .i64 0 ∧ e_ 4 = .pointer (some ⟨b7, 0, none⟩) ∧ e_ 16 = u15 ∧ e_ 17 = .int .i64 (r14.length : Int) ∧ e_ 18 = .int .i64 (i154 : Int) ∧ Ctx Nox w0 w_ [own 93 9 v156 s155.length (ETerm.encs s155), blk b7 51 [v156], blk b2 51 [.slice none 0 0]] [Ty.item ((EA .i64).ty.sl) r14 [u15] f16, mapI (kvA .i64) (vvI .i64) b0 a0]) r14.length ?_ ?_ (s0 := []) ?_ h
    · clear hC h
      rintro i154 s155 e_ w163 next159 K160 hi162 ⟨v156, h0_, h2_, h3_, h4_, h16_, h17_, h18_, hC⟩ h hK161
      refine wp_seq ?_
      refine cw_region ?_
      refine s_lss h18_ h17_ ?_
      refine done ?_
      refine then_norm ?_
      refine wp_seq ?_
      refine cw_true rfl (decide_eq_true (by omega)) ?_
      refine wp_skip ?_
      refine then_norm ?_
      refine wp_seq ?_
      refine wp_block ?_
      refine wp_seq ?_
      refine cw_region ?_
      obtain ⟨Ad164, c165, hv166⟩ := sl_form (hC.getP 0 rfl) i154 hi162
      refine s_iaddrS (len := r14.length) Try.underlying102 ag85.size (tr h16_ hv166) h18_ (Int.natCast_nonneg _) (Int.ofNat_lt.2 hi162) ?_
      refine s_loadCA (A8.enc .i64 (r14.getD i154 default)) (sl_cellsE (hC.getP 0 rfl) hv166 i154 hi162) ag85 rfl rfl ?_
      refine s_alloc hC (A8.enc .i64 A8.zero) z85 rfl fun b167 w169 hB_ hC => ?_
      refine s_store (v := .agg (List.toArray (A8.enc .i64 (r14.getD i154 default)))) hC 0 (A8.enc .i64 (r14.getD i154 default)) (A8.enc .i64 (r14.getD i154 default)) rfl ag85.size rfl rfl rfl rfl rfl (Nat.le_of_ble_eq_true rfl) rfl fun w170 hC => ?_
      refine done ?_
      refine then_norm ?_
      refine wp_seq ?_
      refine cw_region ?_
      refine s_build [] rfl (bl24  _) ?_
      refine s_alloc hC (A8.enc .u8 A8.zero) z24 rfl fun b171 w173 hB_ hC => ?_
      refine s_store (v := .agg (List.toArray (A8.enc .u8 A8.zero))) hC 0 (A8.enc .u8 A8.zero) (A8.enc .u8 A8.zero) rfl ag24.size rfl rfl rfl rfl rfl (Nat.le_of_ble_eq_true rfl) rfl fun w174 hC => ?_
      refine done ?_
      refine then_norm ?_
      refine wp_seq ?_
      refine wp_seq ?_
      refine cw_region ?_
      refine s_loadA hC 1 (A8.enc .i64 (r14.getD i154 default)) rfl ag85 rfl rfl rfl ?_
      refine s_mv (v := .int .i64 0) rfl ?_
      refine done ?_
      refine then_norm ?_
      refine wp_block ?_
      refine loopN (S := A8) _ _ (fun i203 s204 e_ w_ => e_ 0 = .map (some b0) ∧ e_ 2 = .pointer (some ⟨b2, 0, none⟩) ∧ e_ 3 = .int .i64 0 ∧ e_ 4 = .pointer (some ⟨b7, 0, none⟩) ∧ e_ 6 = .pointer (some ⟨b167, 0, none⟩) ∧ e_ 7 = .pointer (some ⟨b171, 0, none⟩) ∧ e_ 16 = u15 ∧ e_ 17 = .int .i64 (r14.length : Int) ∧ e_ 18 = .int .i64 (i154 : Int) ∧ e_ 19 = .bool (decide ((i154 : Int) < (r14.length : Int))) ∧ e_ 20 = .pointer (some (Ad164.add (i154 * 8))) ∧ e_ 21 = .agg (List.toArray (A8.enc .i64 (r14.getD i154 default))) ∧ e_ 22 = .agg (List.toArray (A8.enc .u8 A8.zero)) ∧ e_ 23 = .agg (List.toArray (A8.enc .i64 (r14.getD i154 default))) ∧ e_ 24 = .int .i64 (i203 : Int) ∧ Ctx Nox w0 w_ [blk b171 24 (A8.enc .u8 s204), blk b167 85 (A8.enc .i64 (r14.getD i154 default)), own 93 9 v156 s155.length (ETerm.encs s155), blk b7 51 [v156], blk b2 51 [.slice none 0 0]] [Ty.item ((EA .i64).ty.sl) r14 [u15] f16, mapI (kvA .i64) (vvI .i64) b0 a0]) 8 ?_ ?_ (s0 := A8.zero) ?_ h
      · clear hC h
        rintro i203 s204 e_ w209 next205 K206 hi208 ⟨h0_, h2_, h3_, h4_, h6_, h7_, h16_, h17_, h18_, h19_, h20_, h21_, h22_, h23_, h24_, hC⟩ h hK207
        refine wp_seq ?_
        refine cw_region ?_
        refine s_lss h24_ rfl ?_
        refine done ?_
        refine then_norm ?_
        refine wp_seq ?_
        refine cw_true rfl (decide_eq_true (by omega)) ?_
        refine wp_skip ?_
        refine then_norm ?_
        refine wp_seq ?_
        refine wp_block ?_
        refine wp_seq ?_
        refine cw_region ?_
        refine s_mv (v := .int .i64 (i203 : Int)) h24_ ?_
        refine s_index (.int .i64 ((r14.getD i154 default).get i203)) Try.underlying85 h23_ h24_ (Int.natCast_nonneg _) (by omega) sc3 (A8.enc_get _ _ hi208) ?_
        refine s_as (v := .int .i64 (i203 : Int)) rfl ?_
        refine s_as (v := .int .i64 ((r14.getD i154 default).get i203)) rfl ?_
        refine done ?_
        refine then_norm ?_
        refine wp_seq ?_
        refine wp_seq ?_
        refine cw_region ?_
        refine s_mv (v := .int .i64 ((r14.getD i154 default).get i203)) rfl ?_
        refine s_gtr rfl rfl ?_
        refine done ?_
        refine then_norm ?_
        refine cw_cond rfl (fun hb210 => ?_) (fun hb210 => ?_)
        · replace h := ift h (ct hb210)
          refine wp_seq ?_
          refine cw_region ?_
          refine s_build [] rfl (bl51  _) ?_
          refine s_store (v := .agg #[.slice none 0 0]) hC 4 [.slice none 0 0] [.slice none 0 0] rfl ag51.size h2_ rfl rfl rfl rfl (Nat.le_of_ble_eq_true rfl) rfl fun w211 hC => ?_
          refine s_as (v := .int .i64 3) rfl ?_
          refine done ?_
          refine then_norm ?_
          refine wp_ret (then_ret (blk_ret (then_ret (then_ret (blk_ret (then_ret (blk_ret (then_ret (then_ret (blk_ret (then_ret ?_)))))))))))
          refine ret2 (fn := Try.f66) rfl ?_ ?_ ⟨(⟨[]⟩ : Vc.Form), .slice none 0 0, [], 3, rfl, h, (form_mk (rep_nil _ _)), (fun b hb => (fun b hb => absurd hb (by simp)) b hb), hC.below⟩ (.inl rfl)
          · exact res_cellA hC 4 rfl ag51 h2_ rfl
          · exact res_tmp rfl
        · replace h := iff_ h (cf hb210)
          refine wp_skip ?_
          refine then_norm ?_
          refine cw_region ?_
          refine s_mv (v := .int .i64 (i203 : Int)) rfl ?_
          refine s_mv (v := .int .i64 ((r14.getD i154 default).get i203)) rfl ?_
          refine s_conv Try.underlying3 Try.underlying5 rfl ?_
          refine s_iaddrB i203 Try.underlying24 sc5.size h7_ rfl (Int.natCast_nonneg _) (by omega) (by omega) ?_
          refine s_store (v := .int .u8 (IntKind.u8.wrap ((r14.getD i154 default).get i203))) hC 0 [.int .u8 (IntKind.u8.wrap ((r14.getD i154 default).get i203))] (A8.enc .u8 (s204.set i203 (IntKind.u8.wrap ((r14.getD i154 default).get i203)))) rfl sc5.size rfl rfl rfl rfl rfl hi208 (A8.enc_set _ _ _ hi208) fun w212 hC => ?_
          refine done ?_
          refine blk_norm ?_
          refine then_norm ?_
          refine cw_region ?_
          refine s_add h24_ rfl ?_
          refine s_mv (v := .int .i64 (IntKind.i64.wrap ((i203 : Int) + 1))) rfl ?_
          refine done ?_
          exact hK207 (s204.set i203 (IntKind.u8.wrap ((r14.getD i154 default).get i203))) _ _ ⟨h0_, h2_, h3_, h4_, h6_, h7_, h16_, h17_, h18_, h19_, h20_, h21_, h22_, h23_, (tr rfl (congrArg _ (wrap64_nat hi208 (by decide)))), hC⟩ h
      · clear hC h
        rintro s204 e_ w213 K206 ⟨h0_, h2_, h3_, h4_, h6_, h7_, h16_, h17_, h18_, h19_, h20_, h21_, h22_, h23_, h24_, hC⟩ h
        refine wp_seq ?_
        refine cw_region ?_
        refine s_lss h24_ rfl ?_
        refine done ?_
        refine then_norm ?_
        refine wp_seq ?_
        refine cw_false rfl (decide_eq_false (by omega)) ?_
        refine wp_exit (then_exit (then_exit (exit_in ?_)))
        refine then_norm ?_
        refine cw_draw 8 mixed (fun w214 hB_ => ?_)
        replace hC := hC.grow hB_
        refine ae_lookF 0 (.pointer (some ⟨b7, 0, none⟩)) rfl rfl (by kernel_rfl) (by kernel_rfl) (by kernel_rfl) (fun w_ => .inl ⟨rfl, by exact r_faddrB 0 Try.underlying51 rfl sc49.size h4_ rfl⟩) (listed' := (List.toArray [true, false, false, false, false, false, false, false, false, false, false])) rfl ?_
        refine ae_look 1 (v156) rfl rfl (by kernel_rfl) (by kernel_rfl) (by kernel_rfl) (fun w_ hB_ => .inl ⟨rfl, by exact r_loadS (hC.grow hB_) 3 (v156) rfl sc49 rfl rfl⟩) (listed' := (List.toArray [true, true, false, false, false, false, false, false, false, false, false])) rfl ?_
        refine ae_look 2 (.agg (List.toArray (A8.enc .u8 s204))) rfl rfl (by kernel_rfl) (by kernel_rfl) (by kernel_rfl) (fun w_ hB_ => .inl ⟨rfl, by exact r_loadA (hC.grow hB_) 0 (A8.enc .u8 s204) rfl ag24 h7_ rfl rfl⟩) (listed' := (List.toArray [true, true, true, false, false, false, false, false, false, false, false])) rfl ?_
        refine ae_lookF 3 (.map (some b0)) rfl rfl (by kernel_rfl) (by kernel_rfl) (by kernel_rfl) (fun w_ => .inl ⟨rfl, by exact r_mv (v := .map (some b0)) h0_⟩) (listed' := (List.toArray [true, true, true, true, false, false, false, false, false, false, false])) rfl ?_
        refine ae_look 4 (.agg (List.toArray (A8.enc .i64 (r14.getD i154 default)))) rfl rfl (by kernel_rfl) (by kernel_rfl) (by kernel_rfl) (fun w_ hB_ => .inl ⟨rfl, by exact r_loadA (hC.grow hB_) 1 (A8.enc .i64 (r14.getD i154 default)) rfl ag85 h6_ rfl rfl⟩) (listed' := (List.toArray [true, true, true, true, true, false, false, false, false, false, false])) rfl ?_
        refine ae_look 5 (.int .i64 ((mget a0 (r14.getD i154 default)).getD 0)) rfl rfl (by kernel_rfl) (by kernel_rfl) (by kernel_rfl) (fun w_ hB_ => .inl ⟨rfl, by exact r_lookup (r14.getD i154 default) 0 ((hC.grow hB_).getP 1 rfl) kt85 Try.underlying90 z2 rfl rfl⟩) (listed' := (List.toArray [true, true, true, true, true, true, false, false, false, false, false])) rfl ?_
        refine ae_look 6 (.agg (List.toArray (Term.enc (⟨s204, (mget a0 (r14.getD i154 default)).getD 0⟩ : Term)))) rfl rfl (by kernel_rfl) (by kernel_rfl) (by kernel_rfl) (fun w_ hB_ => .inl ⟨rfl, by exact r_build [(0, .agg (List.toArray (A8.enc .u8 s204))), (1, .int .i64 ((mget a0 (r14.getD i154 default)).getD 0))] rfl (bl93_0flat_1int s204 ((mget a0 (r14.getD i154 default)).getD 0) _)⟩) (listed' := (List.toArray [true, true, true, true, true, true, true, false, false, false, false])) rfl ?_
        refine ae_one 7 rfl (by kernel_rfl) ?_
        refine s_bslice (sz := 9) hC [(0, .agg (List.toArray (Term.enc (⟨s204, (mget a0 (r14.getD i154 default)).getD 0⟩ : Term))))] (ETerm.encs [(⟨s204, (mget a0 (r14.getD i154 default)).getD 0⟩ : Term)]) rfl (fun _ => bs49_1 (⟨s204, (mget a0 (r14.getD i154 default)).getD 0⟩ : Term) _) rfl (by decide) fun b215 w216 hB_ hC => ?_
        refine done ?_
        refine ak_intro (by assumption) (listed' := (List.toArray [true, true, true, true, true, true, true, true, false, false, false])) rfl ?_
        refine ae_tail 8 (by decide) (by decide) (by kernel_rfl) rfl rfl ?_
        obtain ⟨hm220, h⟩ := h
        refine s_app hC 3 Try.underlying49 el93 rfl (by decide) (by decide) rfl (own_rdr (hC.getM 0 rfl)) (fun q hq => Enc.encs_one' (E := ETerm) _ q hq) rfl rfl hm220 fun v218 w219 hC => ?_
        replace hC := own_re hC 3 ((s155 ++ [(⟨s204, (mget a0 (r14.getD i154 default)).getD 0⟩ : Term)]).length) (ETerm.encs (s155 ++ [(⟨s204, (mget a0 (r14.getD i154 default)).getD 0⟩ : Term)])) rfl (by simp) (by simp [Enc.encs_append])
        refine s_faddrB 0 Try.underlying51 rfl sc49.size h4_ rfl ?_
        refine s_store (v := v218) hC 4 [v218] [v218] rfl sc49.size rfl rfl (own_cellsV (hC.getM 3 rfl)) rfl (all_c (own_oneC (hC.getM 3 rfl)) rfl) (Nat.le_of_ble_eq_true rfl) rfl fun w221 hC => ?_
        refine done ?_
        refine qn_norm ?_
        refine blk_norm ?_
        refine then_norm ?_
        refine cw_region ?_
        refine s_add h18_ rfl ?_
        refine s_mv (v := .int .i64 (IntKind.i64.wrap ((i154 : Int) + 1))) rfl ?_
        refine done ?_
        replace hC := hC.sel [3, 4, 5] [0, 1] (M' := [own 93 9 v218 ((s155 ++ [(⟨s204, (mget a0 (r14.getD i154 default)).getD 0⟩ : Term)]).length) (ETerm.encs (s155 ++ [(⟨s204, (mget a0 (r14.getD i154 default)).getD 0⟩ : Term)])), blk b7 51 [v218], blk b2 51 [.slice none 0 0]]) (Ps' := [Ty.item ((EA .i64).ty.sl) r14 [u15] f16, mapI (kvA .i64) (vvI .i64) b0 a0]) (by decide) rfl rfl
        exact hK161 (s155 ++ [(⟨s204, (mget a0 (r14.getD i154 default)).getD 0⟩ : Term)]) _ _ ⟨v218, h0_, h2_, h3_, h4_, h16_, h17_, (tr rfl (congrArg _ (wrap64_nat hi162 hN158))), hC⟩ h
      · skip
        exact ⟨h0_, h2_, h3_, h4_, rfl, rfl, h16_, h17_, h18_, rfl, rfl, rfl, rfl, rfl, rfl, hC⟩
    · clear hC h
      rintro s155 e_ w222 K160 ⟨v156, h0_, h2_, h3_, h4_, h16_, h17_, h18_, hC⟩ h
      refine wp_seq ?_
      refine cw_region ?_
      refine s_lss h18_ h17_ ?_
      refine done ?_
      refine then_norm ?_
      refine wp_seq ?_
      refine cw_false rfl (decide_eq_false (by omega)) ?_
      refine wp_exit (then_exit (then_exit (exit_in ?_)))
      refine then_norm ?_
      refine wp_seq ?_
      refine cw_region ?_
      refine s_loadA hC 1 [v156] rfl ag51 h4_ rfl rfl ?_
      refine s_store (v := .agg #[v156]) hC 2 [v156] [v156] rfl ag51.size h2_ rfl rfl rfl (all_c (own_oneC (hC.getM 0 rfl)) rfl) (Nat.le_of_ble_eq_true rfl) rfl fun w223 hC => ?_
      refine s_as (v := .int .i64 0) rfl ?_
      refine done ?_
      refine then_norm ?_
      refine wp_ret ?_
      refine ret2 (fn := Try.f66) rfl ?_ ?_ ⟨(⟨s155⟩ : Vc.Form), v156, (Option.toList (Value.ownBlock v156)), 0, rfl, h, (form_mk (own_repE (hC.getM 0 rfl))), (fun b hb => (own_fresh hC 0 rfl) b hb), hC.below⟩ (.inl rfl)
      · exact res_cellA hC 2 rfl ag51 h2_ rfl
      · exact res_tmp rfl
    · skip
      replace hC := hC.pushNil 93 9
      exact ⟨.slice none 0 0, rfl, rfl, rfl, rfl, rfl, rfl, rfl, hC⟩
def f_slices_IndexFunc_int64_int64 (a0 : List Int) (p1 : Int → (Bool → Prop) → Prop) (K : Int → Prop) : Prop :=
  forN (fun i17 (s18 : Unit) next20 => p1 (a0.getD i17 default) (fun r32 => (if r32 = true then K (i17 : Int) else next20 ()))) (fun (s18 : Unit) => K (-1)) a0.length 0 ()
theorem c_slices_IndexFunc_int64_int64 (a0 : List Int) (p1 : Int → (Bool → Prop) → Prop) {u0_0 : Value} {fp0 : List Nat} {K : Int → Prop} (h : f_slices_IndexFunc_int64_int64 a0 p1 K) (w0 : World) (q0 : ((EI .i64).ty.sl).rep a0 [u0_0] fp0 w0) {g1 : Nat} {cp1 : List Value} {fn1 : Func} (hf1 : Try.prog.funcs[g1]? = some fn1) (hb1 : fn1.body.isNone = false) (hn1 : (fn1.name == "runtime.NumGoroutine") = false) (hp1 : ∀ (y0 : Int) (K_ : Bool → Prop) (w_ : World), Bel w0 w_ → p1 y0 K_ → Calls Try.prog g1 (List.toArray ([.int .i64 y0] ++ cp1)) w_ fun e w' => ∃ (z0 : Bool), e = .returned (.bool z0) ∧ K_ z0 ∧ Bel w_ w') :
    Calls Try.prog 125 #[u0_0, .func (.func g1) #[] (List.toArray cp1)] w0 fun e w' => ∃ (r0 : Int), 
      e = .returned (.int .i64 r0) ∧ K r0 ∧ Bel w0 w' := by
  unfold f_slices_IndexFunc_int64_int64 at h
  refine calls_of (args := [u0_0, .func (.func g1) #[] (List.toArray cp1)]) Try.func125 rfl 19 Try.ntmps125 (Nat.le_of_ble_eq_true rfl) ?_
  have hC := Ctx.start (X := Nox) w0 [Ty.item ((EI .i64).ty.sl) a0 [u0_0] fp0] (by simp only [List.mem_cons, List.not_mem_nil, or_false, forall_eq_or_imp, forall_eq]; exact q0)
  refine wp_seq ?_
  refine cw_region ?_
  refine s_as (v := .int .i64 0) rfl ?_
  refine done ?_
  refine then_norm ?_
  refine wp_seq ?_
  refine wp_seq ?_
  refine cw_region ?_
  refine s_mv (v := u0_0) rfl ?_
  obtain ⟨Ad2, c3, hv4⟩ := sl_len (hC.getP 0 rfl)
  refine s_len Try.underlying22 (tr rfl hv4) ?_
  refine s_mv (v := .int .i64 0) rfl ?_
  refine done ?_
  refine then_norm ?_
  refine wp_block ?_
  have hN19 : a0.length ≤ 9223372036854775807 := sl_max (hC.getP 0 rfl)
  refine loopN (S := Unit) _ _ (fun i17 s18 e_ w_ => e_ 0 = u0_0 ∧ e_ 1 = .func (.func g1) #[] (List.toArray cp1) ∧ e_ 4 = .int .i64 0 ∧ e_ 7 = .int .i64 (a0.length : Int) ∧ e_ 8 = .int .i64 (i17 : Int) ∧ Ctx Nox w0 w_ [] [Ty.item ((EI .i64).ty.sl) a0 [u0_0] fp0]) a0.length ?_ ?_ (s0 := ()) ?_ h
  · clear hC h
    rintro i17 s18 e_ w24 next20 K21 hi23 ⟨h0_, h1_, h4_, h7_, h8_, hC⟩ h hK22
    refine wp_seq ?_
    refine cw_region ?_
    refine s_lss h8_ h7_ ?_
    refine done ?_
    refine then_norm ?_
    refine wp_seq ?_
    refine cw_true rfl (decide_eq_true (by omega)) ?_
    refine wp_skip ?_
    refine then_norm ?_
    refine wp_seq ?_
    refine wp_block ?_
    refine wp_seq ?_
    refine cw_region ?_
    refine s_mv (v := .int .i64 (i17 : Int)) h8_ ?_
    refine s_as (v := .int .i64 (i17 : Int)) rfl ?_
    refine done ?_
    refine then_norm ?_
    refine wp_seq ?_
    refine cw_region ?_
    refine s_mv (v := .func (.func g1) #[] (List.toArray cp1)) h1_ ?_
    refine s_mv (v := u0_0) h0_ ?_
    refine s_mv (v := .int .i64 (i17 : Int)) rfl ?_
    obtain ⟨Ad25, c26, hv27⟩ := sl_form (hC.getP 0 rfl) i17 hi23
    refine s_iaddrS (len := a0.length) Try.underlying22 sc2.size (tr rfl hv27) rfl (Int.natCast_nonneg _) (Int.ofNat_lt.2 hi23) ?_
    refine s_loadCS (.int .i64 (a0.getD i17 default)) (sl_cellsE (hC.getP 0 rfl) hv27 i17 hi23) sc2 rfl ?_
    refine s_callv [.int .i64 (a0.getD i17 default)] _ rfl hf1 hb1 hn1 rfl (hp1 _ _ _ hC.below  h) (fun ret28 w30 hR29 => ?_)
    obtain ⟨r32, rfl, h, hB31⟩ := hR29
    refine ⟨_, rfl, ?_⟩
    replace hC := hC.grow hB31
    refine done ?_
    refine then_norm ?_
    refine cw_cond rfl (fun hb33 => ?_) (fun hb33 => ?_)
    · replace h := ift h (hb33)
      refine wp_seq ?_
      refine cw_region ?_
      refine s_mv (v := .int .i64 (i17 : Int)) rfl ?_
      refine s_as (v := .int .i64 (i17 : Int)) rfl ?_
      refine done ?_
      refine then_norm ?_
      refine wp_ret (blk_ret (then_ret (then_ret (blk_ret (then_ret ?_)))))
      refine ret1 (fn := Try.f125) rfl ?_ ⟨(i17 : Int), rfl, h, hC.below⟩ (.inl rfl)
      exact res_tmp rfl
    · replace h := iff_ h (ne_t hb33)
      refine wp_skip ?_
      refine blk_norm ?_
      refine then_norm ?_
      refine cw_region ?_
      refine s_add h8_ rfl ?_
      refine s_mv (v := .int .i64 (IntKind.i64.wrap ((i17 : Int) + 1))) rfl ?_
      refine done ?_
      exact hK22 () _ _ ⟨h0_, h1_, h4_, h7_, (tr rfl (congrArg _ (wrap64_nat hi23 hN19))), hC⟩ h
  · clear hC h
    rintro s18 e_ w34 K21 ⟨h0_, h1_, h4_, h7_, h8_, hC⟩ h
    refine wp_seq ?_
    refine cw_region ?_
    refine s_lss h8_ h7_ ?_
    refine done ?_
    refine then_norm ?_
    refine wp_seq ?_
    refine cw_false rfl (decide_eq_false (by omega)) ?_
    refine wp_exit (then_exit (then_exit (exit_in ?_)))
    refine then_norm ?_
    refine wp_seq ?_
    refine cw_region ?_
    refine s_as (v := .int .i64 (-1)) rfl ?_
    refine done ?_
    refine then_norm ?_
    refine wp_ret ?_
    refine ret1 (fn := Try.f125) rfl ?_ ⟨(-1), rfl, h, hC.below⟩ (.inl rfl)
    exact res_tmp rfl
  · skip
    exact ⟨rfl, rfl, rfl, rfl, rfl, hC⟩
def f_slices_ContainsFunc_int64_int64 (a0 : List Int) (p1 : Int → (Bool → Prop) → Prop) (K : Bool → Prop) : Prop :=
  f_slices_IndexFunc_int64_int64 a0 p1 (fun r5 => K (decide (r5 ≥ 0)))
theorem c_slices_ContainsFunc_int64_int64 (a0 : List Int) (p1 : Int → (Bool → Prop) → Prop) {u0_0 : Value} {fp0 : List Nat} {K : Bool → Prop} (h : f_slices_ContainsFunc_int64_int64 a0 p1 K) (w0 : World) (q0 : ((EI .i64).ty.sl).rep a0 [u0_0] fp0 w0) {g1 : Nat} {cp1 : List Value} {fn1 : Func} (hf1 : Try.prog.funcs[g1]? = some fn1) (hb1 : fn1.body.isNone = false) (hn1 : (fn1.name == "runtime.NumGoroutine") = false) (hp1 : ∀ (y0 : Int) (K_ : Bool → Prop) (w_ : World), Bel w0 w_ → p1 y0 K_ → Calls Try.prog g1 (List.toArray ([.int .i64 y0] ++ cp1)) w_ fun e w' => ∃ (z0 : Bool), e = .returned (.bool z0) ∧ K_ z0 ∧ Bel w_ w') :
    Calls Try.prog 102 #[u0_0, .func (.func g1) #[] (List.toArray cp1)] w0 fun e w' => ∃ (r0 : Bool), 
      e = .returned (.bool r0) ∧ K r0 ∧ Bel w0 w' := by
  unfold f_slices_ContainsFunc_int64_int64 at h
  refine calls_of (args := [u0_0, .func (.func g1) #[] (List.toArray cp1)]) Try.func102 rfl 9 Try.ntmps102 (Nat.le_of_ble_eq_true rfl) ?_
  have hC := Ctx.start (X := Nox) w0 [Ty.item ((EI .i64).ty.sl) a0 [u0_0] fp0] (by simp only [List.mem_cons, List.not_mem_nil, or_false, forall_eq_or_imp, forall_eq]; exact q0)
  refine wp_seq ?_
  refine cw_region ?_
  refine s_as (v := .bool false) rfl ?_
  refine done ?_
  refine then_norm ?_
  refine wp_seq ?_
  refine cw_region ?_
  refine s_mv (v := u0_0) rfl ?_
  refine s_mv (v := .func (.func g1) #[] (List.toArray cp1)) rfl ?_
  refine s_call [u0_0, .func (.func g1) #[] (List.toArray cp1)] _ Try.func125 rfl rfl rfl (c_slices_IndexFunc_int64_int64 a0 p1 h _ (hC.getP 0 rfl) hf1 hb1 hn1 (fun x0_ K_ w_ hb_ => hp1 x0_ K_ w_ (below_on hC.below hb_))) (fun ret2 w4 hR3 => ?_)
  obtain ⟨r5, rfl, h, hB6⟩ := hR3
  refine ⟨_, rfl, ?_⟩
  replace hC := hC.grow hB6
  refine s_geq rfl rfl ?_
  refine s_as (v := .bool (decide (r5 ≥ 0))) rfl ?_
  refine done ?_
  refine then_norm ?_
  refine wp_ret ?_
  refine ret1 (fn := Try.f102) rfl ?_ ⟨decide (r5 ≥ 0), rfl, h, hC.below⟩ (.inl rfl)
  exact res_tmp rfl
def f_impl_within (a0 : Int) (a1 : Int) (a2 : Int) (K : Bool → Prop) : Prop :=
  (if a0 ≥ a1 then K (decide (a0 ≤ a2)) else K false)
theorem c_impl_within (a0 : Int) (a1 : Int) (a2 : Int)  {K : Bool → Prop} (h : f_impl_within a0 a1 a2 K) (w0 : World)  :
    Calls Try.prog 69 #[.int .i64 a0, .int .i64 a1, .int .i64 a2] w0 fun e w' => ∃ (r0 : Bool), 
      e = .returned (.bool r0) ∧ K r0 ∧ Bel w0 w' := by
  unfold f_impl_within at h
  refine calls_of (args := [.int .i64 a0, .int .i64 a1, .int .i64 a2]) Try.func69 rfl 15 Try.ntmps69 (Nat.le_of_ble_eq_true rfl) ?_
  have hC := Ctx.start (X := Nox) w0 [] (by simp)
  refine wp_seq ?_
  refine cw_region ?_
  refine s_as (v := .bool false) rfl ?_
  refine done ?_
  refine then_norm ?_
  refine wp_seq ?_
  refine cw_region ?_
  refine s_mv (v := .int .i64 a0) rfl ?_
  refine s_mv (v := .int .i64 a1) rfl ?_
  refine s_geq rfl rfl ?_
  refine s_mv (v := .bool (decide (a0 ≥ a1))) rfl ?_
  refine bsplit (decide (a0 ≥ a1)) (fun hb1 => ?_) (fun hb1 => ?_)
  · replace h := ift h (ct hb1)
    refine guardOn 3 10 rfl rfl hb1 ?_
    refine s_mv (v := .int .i64 a0) rfl ?_
    refine guardOn 3 10 rfl rfl hb1 ?_
    refine s_mv (v := .int .i64 a2) rfl ?_
    refine guardOn 3 10 rfl rfl hb1 ?_
    refine s_leq rfl rfl ?_
    refine s_pick (v := .bool (decide (a0 ≤ a2))) (b := true) (tr rfl (congrArg _ hb1)) rfl ?_
    refine s_as (v := .bool (decide (a0 ≤ a2))) rfl ?_
    refine done ?_
    refine then_norm ?_
    refine wp_ret ?_
    refine ret1 (fn := Try.f69) rfl ?_ ⟨decide (a0 ≤ a2), rfl, h, hC.below⟩ (.inl rfl)
    exact res_tmp rfl
  · replace h := iff_ h (cf hb1)
    refine guardOff (b := false) 3 10 rfl (tr rfl (congrArg _ hb1)) (by decide) ?_
    refine guardOff (b := false) 3 10 rfl (tr rfl (congrArg _ hb1)) (by decide) ?_
    refine guardOff (b := false) 3 10 rfl (tr rfl (congrArg _ hb1)) (by decide) ?_
    refine s_pick (v := .bool false) (b := false) (tr rfl (congrArg _ hb1)) rfl ?_
    refine s_as (v := .bool false) rfl ?_
    refine done ?_
    refine then_norm ?_
    refine wp_ret ?_
    refine ret1 (fn := Try.f69) rfl ?_ ⟨false, rfl, h, hC.below⟩ (.inl rfl)
    exact res_tmp rfl
def f_impl_AreDegrees_1 (a0 : Int) (K : Bool → Prop) : Prop :=
  f_impl_within a0 1 12 (fun r4 => K (!r4))
theorem c_impl_AreDegrees_1 (a0 : Int)  {K : Bool → Prop} (h : f_impl_AreDegrees_1 a0 K) (w0 : World)  :
    Calls Try.prog 103 #[.int .i64 a0] w0 fun e w' => ∃ (r0 : Bool), 
      e = .returned (.bool r0) ∧ K r0 ∧ Bel w0 w' := by
  unfold f_impl_AreDegrees_1 at h
  refine calls_of (args := [.int .i64 a0]) Try.func103 rfl 6 Try.ntmps103 (Nat.le_of_ble_eq_true rfl) ?_
  have hC := Ctx.start (X := Nox) w0 [] (by simp)
  refine wp_seq ?_
  refine cw_region ?_
  refine s_as (v := .bool false) rfl ?_
  refine done ?_
  refine then_norm ?_
  refine wp_seq ?_
  refine cw_region ?_
  refine s_mv (v := .int .i64 a0) rfl ?_
  refine s_call [.int .i64 a0, .int .i64 1, .int .i64 12] _ Try.func69 rfl rfl rfl (c_impl_within a0 1 12 h _) (fun ret1 w3 hR2 => ?_)
  obtain ⟨r4, rfl, h, hB5⟩ := hR2
  refine ⟨_, rfl, ?_⟩
  replace hC := hC.grow hB5
  refine s_not rfl ?_
  refine s_as (v := .bool (!r4)) rfl ?_
  refine done ?_
  refine then_norm ?_
  refine wp_ret ?_
  refine ret1 (fn := Try.f103) rfl ?_ ⟨!r4, rfl, h, hC.below⟩ (.inl rfl)
  exact res_tmp rfl
def f_impl_AreDegrees (a0 : List Int) (K : Bool → Prop) : Prop :=
  (if (a0.length : Int) ≤ 8 then f_slices_ContainsFunc_int64_int64 a0 f_impl_AreDegrees_1 (fun r9 => K (!r9)) else K false)
theorem c_impl_AreDegrees (a0 : List Int) {u0_0 : Value} {fp0 : List Nat} {K : Bool → Prop} (h : f_impl_AreDegrees a0 K) (w0 : World) (q0 : ((EI .i64).ty.sl).rep a0 [u0_0] fp0 w0) :
    Calls Try.prog 52 #[u0_0] w0 fun e w' => ∃ (r0 : Bool), 
      e = .returned (.bool r0) ∧ K r0 ∧ Bel w0 w' := by
  unfold f_impl_AreDegrees at h
  refine calls_of (args := [u0_0]) Try.func52 rfl 11 Try.ntmps52 (Nat.le_of_ble_eq_true rfl) ?_
  have hC := Ctx.start (X := Nox) w0 [Ty.item ((EI .i64).ty.sl) a0 [u0_0] fp0] (by simp only [List.mem_cons, List.not_mem_nil, or_false, forall_eq_or_imp, forall_eq]; exact q0)
  refine wp_seq ?_
  refine cw_region ?_
  refine s_as (v := .bool false) rfl ?_
  refine done ?_
  refine then_norm ?_
  refine wp_seq ?_
  refine cw_region ?_
  refine s_mv (v := u0_0) rfl ?_
  obtain ⟨Ad2, c3, hv4⟩ := sl_len (hC.getP 0 rfl)
  refine s_len Try.underlying22 (tr rfl hv4) ?_
  refine s_leq rfl rfl ?_
  refine s_mv (v := .bool (decide ((a0.length : Int) ≤ 8))) rfl ?_
  refine bsplit (decide ((a0.length : Int) ≤ 8)) (fun hb5 => ?_) (fun hb5 => ?_)
  · replace h := ift h (ct hb5)
    refine guardOn 3 6 rfl rfl hb5 ?_
    refine s_mv (v := u0_0) rfl ?_
    refine guardOn 3 6 rfl rfl hb5 ?_
    refine s_call [u0_0, .func (.func 103) #[] (List.toArray [])] _ Try.func102 rfl rfl rfl (c_slices_ContainsFunc_int64_int64 a0 f_impl_AreDegrees_1 h _ (hC.getP 0 rfl) Try.func103 rfl rfl (fun x0_ K_ w_ _ hq_ => c_impl_AreDegrees_1 x0_ hq_ w_)) (fun ret6 w8 hR7 => ?_)
    obtain ⟨r9, rfl, h, hB10⟩ := hR7
    refine ⟨_, rfl, ?_⟩
    replace hC := hC.grow hB10
    refine guardOn 3 6 rfl rfl hb5 ?_
    refine s_not rfl ?_
    refine s_pick (v := .bool (!r9)) (b := true) (tr rfl (congrArg _ hb5)) rfl ?_
    refine s_as (v := .bool (!r9)) rfl ?_
    refine done ?_
    refine then_norm ?_
    refine wp_ret ?_
    refine ret1 (fn := Try.f52) rfl ?_ ⟨!r9, rfl, h, hC.below⟩ (.inl rfl)
    exact res_tmp rfl
  · replace h := iff_ h (cf hb5)
    refine guardOff (b := false) 3 6 rfl (tr rfl (congrArg _ hb5)) (by decide) ?_
    refine guardOff (b := false) 3 6 rfl (tr rfl (congrArg _ hb5)) (by decide) ?_
    refine guardOff (b := false) 3 6 rfl (tr rfl (congrArg _ hb5)) (by decide) ?_
    refine s_pick (v := .bool false) (b := false) (tr rfl (congrArg _ hb5)) rfl ?_
    refine s_as (v := .bool false) rfl ?_
    refine done ?_
    refine then_norm ?_
    refine wp_ret ?_
    refine ret1 (fn := Try.f52) rfl ?_ ⟨false, rfl, h, hC.below⟩ (.inl rfl)
    exact res_tmp rfl
def f_impl_isMonomial (a0 : List Int) (a1 : A8) (K : Bool → Prop) : Prop :=
  forN (fun i21 (s22 : Unit) next23 => (if (i21 : Int) < (a0.length : Int) then ((0 ≤ (i21 : Int) ∧ (i21 : Int) < (a0.length : Int)) ∧ (if Int.tmod (a0.getD i21 default) 2 = 1 then (if a1.get i21 > 1 then K false else next23 ()) else (if a1.get i21 > 20 then K false else next23 ()))) else (if a1.get i21 > 0 then K false else next23 ()))) (fun (s22 : Unit) => K true) 8 0 ()
theorem c_impl_isMonomial (a0 : List Int) (a1 : A8) {u0_0 : Value} {fp0 : List Nat} {K : Bool → Prop} (h : f_impl_isMonomial a0 a1 K) (w0 : World) (q0 : ((EI .i64).ty.sl).rep a0 [u0_0] fp0 w0) :
    Calls Try.prog 101 #[u0_0, .agg (List.toArray (A8.enc .u8 a1))] w0 fun e w' => ∃ (r0 : Bool), 
      e = .returned (.bool r0) ∧ K r0 ∧ Bel w0 w' := by
  unfold f_impl_isMonomial at h
  refine calls_of (args := [u0_0, .agg (List.toArray (A8.enc .u8 a1))]) Try.func101 rfl 27 Try.ntmps101 (Nat.le_of_ble_eq_true rfl) ?_
  have hC := Ctx.start (X := Nox) w0 [Ty.item ((EI .i64).ty.sl) a0 [u0_0] fp0] (by simp only [List.mem_cons, List.not_mem_nil, or_false, forall_eq_or_imp, forall_eq]; exact q0)
  refine wp_seq ?_
  refine cw_region ?_
  refine s_box (v := .agg (List.toArray (A8.enc .u8 a1))) hC (A8.enc .u8 a1) rfl rfl fun b2 w4 hB_ hC => ?_
  refine s_as (v := .bool false) rfl ?_
  refine done ?_
  refine then_norm ?_
  refine wp_seq ?_
  refine wp_seq ?_
  refine cw_region ?_
  refine s_loadA hC 0 (A8.enc .u8 a1) rfl ag24 rfl rfl rfl ?_
  refine s_mv (v := .int .i64 0) rfl ?_
  refine done ?_
  refine then_norm ?_
  refine wp_block ?_
  refine loopN (S := Unit) _ _ (fun i21 s22 e_ w_ => e_ 0 = u0_0 ∧ e_ 4 = .bool false ∧ e_ 8 = .agg (List.toArray (A8.enc .u8 a1)) ∧ e_ 9 = .int .i64 (i21 : Int) ∧ Ctx Nox w0 w_ [] [Ty.item ((EI .i64).ty.sl) a0 [u0_0] fp0]) 8 ?_ ?_ (s0 := ()) ?_ h
  · clear hC h
    rintro i21 s22 e_ w27 next23 K24 hi26 ⟨h0_, h4_, h8_, h9_, hC⟩ h hK25
    refine wp_seq ?_
    refine cw_region ?_
    refine s_lss h9_ rfl ?_
    refine done ?_
    refine then_norm ?_
    refine wp_seq ?_
    refine cw_true rfl (decide_eq_true (by omega)) ?_
    refine wp_skip ?_
    refine then_norm ?_
    refine wp_seq ?_
    refine wp_block ?_
    refine wp_seq ?_
    refine cw_region ?_
    refine s_mv (v := .int .i64 (i21 : Int)) h9_ ?_
    refine s_index (.int .u8 (a1.get i21)) Try.underlying24 h8_ h9_ (Int.natCast_nonneg _) (by omega) sc5 (A8.enc_get _ _ hi26) ?_
    refine s_as (v := .int .i64 (i21 : Int)) rfl ?_
    refine s_as (v := .int .u8 (a1.get i21)) rfl ?_
    refine done ?_
    refine then_norm ?_
    refine wp_seq ?_
    refine cw_region ?_
    refine s_as (v := .int .u8 0) rfl ?_
    refine done ?_
    refine then_norm ?_
    refine wp_seq ?_
    refine wp_seq ?_
    refine cw_region ?_
    refine s_mv (v := .int .i64 (i21 : Int)) rfl ?_
    refine s_mv (v := u0_0) h0_ ?_
    obtain ⟨Ad28, c29, hv30⟩ := sl_len (hC.getP 0 rfl)
    refine s_len Try.underlying22 (tr rfl hv30) ?_
    refine s_lss rfl rfl ?_
    refine done ?_
    refine then_norm ?_
    refine cw_cond rfl (fun hb31 => ?_) (fun hb31 => ?_)
    · replace h := ift h (ct hb31)
      refine wp_seq ?_
      refine cw_region ?_
      refine s_as (v := .int .u8 20) rfl ?_
      refine done ?_
      refine then_norm ?_
      refine wp_seq ?_
      refine cw_region ?_
      refine s_mv (v := u0_0) h0_ ?_
      refine s_mv (v := .int .i64 (i21 : Int)) rfl ?_
      obtain ⟨⟨h0_32, h1_33⟩, h⟩ := h
      obtain ⟨Ad34, c35, hv36⟩ := sl_form (hC.getP 0 rfl) i21 (show i21 < a0.length by omega)
      refine s_iaddrS (len := a0.length) Try.underlying22 sc2.size (tr rfl hv36) rfl h0_32 h1_33 ?_
      refine s_loadCS (.int .i64 (a0.getD i21 default)) (sl_cellsE (hC.getP 0 rfl) hv36 i21 (show i21 < a0.length by omega)) sc2 rfl ?_
      refine s_rem rfl rfl (by decide) ?_
      refine s_eql rfl rfl ?_
      refine done ?_
      refine then_norm ?_
      refine cw_cond rfl (fun hb37 => ?_) (fun hb37 => ?_)
      · replace h := ift h (ct hb37)
        refine cw_region ?_
        refine s_as (v := .int .u8 1) rfl ?_
        refine done ?_
        refine then_norm ?_
        refine wp_seq ?_
        refine cw_region ?_
        refine s_mv (v := .int .u8 (a1.get i21)) rfl ?_
        refine s_mv (v := .int .u8 1) rfl ?_
        refine s_gtr rfl rfl ?_
        refine done ?_
        refine then_norm ?_
        refine cw_cond rfl (fun hb38 => ?_) (fun hb38 => ?_)
        · replace h := ift h (ct hb38)
          refine wp_seq ?_
          refine cw_region ?_
          refine s_as (v := .bool false) rfl ?_
          refine done ?_
          refine then_norm ?_
          refine wp_ret (blk_ret (then_ret (then_ret (blk_ret (then_ret ?_)))))
          refine ret1 (fn := Try.f101) rfl ?_ ⟨false, rfl, h, hC.below⟩ (.inl rfl)
          exact res_tmp rfl
        · replace h := iff_ h (cf hb38)
          refine wp_skip ?_
          refine blk_norm ?_
          refine then_norm ?_
          refine cw_region ?_
          refine s_add h9_ rfl ?_
          refine s_mv (v := .int .i64 (IntKind.i64.wrap ((i21 : Int) + 1))) rfl ?_
          refine done ?_
          exact hK25 () _ _ ⟨h0_, h4_, h8_, (tr rfl (congrArg _ (wrap64_nat hi26 (by decide)))), hC⟩ h
      · replace h := iff_ h (cf hb37)
        refine wp_skip ?_
        refine then_norm ?_
        refine wp_seq ?_
        refine cw_region ?_
        refine s_mv (v := .int .u8 (a1.get i21)) rfl ?_
        refine s_mv (v := .int .u8 20) rfl ?_
        refine s_gtr rfl rfl ?_
        refine done ?_
        refine then_norm ?_
        refine cw_cond rfl (fun hb39 => ?_) (fun hb39 => ?_)
        · replace h := ift h (ct hb39)
          refine wp_seq ?_
          refine cw_region ?_
          refine s_as (v := .bool false) rfl ?_
          refine done ?_
          refine then_norm ?_
          refine wp_ret (blk_ret (then_ret (then_ret (blk_ret (then_ret ?_)))))
          refine ret1 (fn := Try.f101) rfl ?_ ⟨false, rfl, h, hC.below⟩ (.inl rfl)
          exact res_tmp rfl
        · replace h := iff_ h (cf hb39)
          refine wp_skip ?_
          refine blk_norm ?_
          refine then_norm ?_
          refine cw_region ?_
          refine s_add h9_ rfl ?_
          refine s_mv (v := .int .i64 (IntKind.i64.wrap ((i21 : Int) + 1))) rfl ?_
          refine done ?_
          exact hK25 () _ _ ⟨h0_, h4_, h8_, (tr rfl (congrArg _ (wrap64_nat hi26 (by decide)))), hC⟩ h
    · replace h := iff_ h (cf hb31)
      refine wp_skip ?_
      refine then_norm ?_
      refine wp_seq ?_
      refine cw_region ?_
      refine s_mv (v := .int .u8 (a1.get i21)) rfl ?_
      refine s_mv (v := .int .u8 0) rfl ?_
      refine s_gtr rfl rfl ?_
      refine done ?_
      refine then_norm ?_
      refine cw_cond rfl (fun hb40 => ?_) (fun hb40 => ?_)
      · replace h := ift h (ct hb40)
        refine wp_seq ?_
        refine cw_region ?_
        refine s_as (v := .bool false) rfl ?_
        refine done ?_
        refine then_norm ?_
        refine wp_ret (blk_ret (then_ret (then_ret (blk_ret (then_ret ?_)))))
        refine ret1 (fn := Try.f101) rfl ?_ ⟨false, rfl, h, hC.below⟩ (.inl rfl)
        exact res_tmp rfl
      · replace h := iff_ h (cf hb40)
        refine wp_skip ?_
        refine blk_norm ?_
        refine then_norm ?_
        refine cw_region ?_
        refine s_add h9_ rfl ?_
        refine s_mv (v := .int .i64 (IntKind.i64.wrap ((i21 : Int) + 1))) rfl ?_
        refine done ?_
        exact hK25 () _ _ ⟨h0_, h4_, h8_, (tr rfl (congrArg _ (wrap64_nat hi26 (by decide)))), hC⟩ h
  · clear hC h
    rintro s22 e_ w41 K24 ⟨h0_, h4_, h8_, h9_, hC⟩ h
    refine wp_seq ?_
    refine cw_region ?_
    refine s_lss h9_ rfl ?_
    refine done ?_
    refine then_norm ?_
    refine wp_seq ?_
    refine cw_false rfl (decide_eq_false (by omega)) ?_
    refine wp_exit (then_exit (then_exit (exit_in ?_)))
    refine then_norm ?_
    refine wp_seq ?_
    refine cw_region ?_
    refine s_as (v := .bool true) rfl ?_
    refine done ?_
    refine then_norm ?_
    refine wp_ret ?_
    refine ret1 (fn := Try.f101) rfl ?_ ⟨true, rfl, h, hC.below⟩ (.inl rfl)
    exact res_tmp rfl
  · skip
    replace hC := hC.sel [] [0] (M' := []) (Ps' := [Ty.item ((EI .i64).ty.sl) a0 [u0_0] fp0]) (by decide) rfl rfl
    exact ⟨rfl, rfl, rfl, rfl, hC⟩
def f_impl_IsMonomial (a0 : List Int) (a1 : A8) (K : Bool → Prop) : Prop :=
  f_impl_AreDegrees a0 (fun r8 => (if r8 = true then f_impl_isMonomial a0 a1 (fun r14 => K r14) else K false))
theorem c_impl_IsMonomial (a0 : List Int) (a1 : A8) {u0_0 : Value} {fp0 : List Nat} {K : Bool → Prop} (h : f_impl_IsMonomial a0 a1 K) (w0 : World) (q0 : ((EI .i64).ty.sl).rep a0 [u0_0] fp0 w0) :
    Calls Try.prog 50 #[u0_0, .agg (List.toArray (A8.enc .u8 a1))] w0 fun e w' => ∃ (r0 : Bool), 
      e = .returned (.bool r0) ∧ K r0 ∧ Bel w0 w' := by
  unfold f_impl_IsMonomial at h
  refine calls_of (args := [u0_0, .agg (List.toArray (A8.enc .u8 a1))]) Try.func50 rfl 12 Try.ntmps50 (Nat.le_of_ble_eq_true rfl) ?_
  have hC := Ctx.start (X := Nox) w0 [Ty.item ((EI .i64).ty.sl) a0 [u0_0] fp0] (by simp only [List.mem_cons, List.not_mem_nil, or_false, forall_eq_or_imp, forall_eq]; exact q0)
  refine wp_seq ?_
  refine cw_region ?_
  refine s_box (v := .agg (List.toArray (A8.enc .u8 a1))) hC (A8.enc .u8 a1) rfl rfl fun b2 w4 hB_ hC => ?_
  refine s_as (v := .bool false) rfl ?_
  refine done ?_
  refine then_norm ?_
  refine wp_seq ?_
  refine cw_region ?_
  refine s_mv (v := u0_0) rfl ?_
  refine s_call [u0_0] _ Try.func52 rfl rfl rfl (c_impl_AreDegrees a0 h _ (hC.getP 0 rfl)) (fun ret5 w7 hR6 => ?_)
  obtain ⟨r8, rfl, h, hB9⟩ := hR6
  refine ⟨_, rfl, ?_⟩
  replace hC := hC.grow hB9
  refine s_mv (v := .bool r8) rfl ?_
  refine bsplit r8 (fun hb10 => ?_) (fun hb10 => ?_)
  · replace h := ift h (hb10)
    refine guardOn 2 7 rfl rfl hb10 ?_
    refine s_mv (v := u0_0) rfl ?_
    refine guardOn 2 7 rfl rfl hb10 ?_
    refine s_loadA hC 0 (A8.enc .u8 a1) rfl ag24 rfl rfl rfl ?_
    refine guardOn 2 7 rfl rfl hb10 ?_
    refine s_call [u0_0, .agg (List.toArray (A8.enc .u8 a1))] _ Try.func101 rfl rfl rfl (c_impl_isMonomial a0 a1 h _ (hC.getP 0 rfl)) (fun ret11 w13 hR12 => ?_)
    obtain ⟨r14, rfl, h, hB15⟩ := hR12
    refine ⟨_, rfl, ?_⟩
    replace hC := hC.grow hB15
    refine s_pick (v := .bool r14) (b := true) (tr rfl (congrArg _ hb10)) rfl ?_
    refine s_as (v := .bool r14) rfl ?_
    refine done ?_
    refine then_norm ?_
    refine wp_ret ?_
    refine ret1 (fn := Try.f50) rfl ?_ ⟨r14, rfl, h, hC.below⟩ (.inl rfl)
    exact res_tmp rfl
  · replace h := iff_ h (ne_t hb10)
    refine guardOff (b := false) 2 7 rfl (tr rfl (congrArg _ hb10)) (by decide) ?_
    refine guardOff (b := false) 2 7 rfl (tr rfl (congrArg _ hb10)) (by decide) ?_
    refine guardOff (b := false) 2 7 rfl (tr rfl (congrArg _ hb10)) (by decide) ?_
    refine s_pick (v := .bool false) (b := false) (tr rfl (congrArg _ hb10)) rfl ?_
    refine s_as (v := .bool false) rfl ?_
    refine done ?_
    refine then_norm ?_
    refine wp_ret ?_
    refine ret1 (fn := Try.f50) rfl ?_ ⟨false, rfl, h, hC.below⟩ (.inl rfl)
    exact res_tmp rfl
def f_impl_MultiplyMonomials (a0 : List Int) (a1 : A8) (a2 : A8) (K : A8 → Int → Int → Prop) : Prop :=
  f_impl_IsMonomial a0 a1 (fun r14 => (if ¬ (r14 = true) then K A8.zero 0 1 else f_impl_IsMonomial a0 a2 (fun r21 => (if ¬ (r21 = true) then K A8.zero 0 1 else f_impl_powerOf a1 (fun r29 => f_impl_powerOf a2 (fun r34 => f_impl_power_times r29 a0 r34 (fun r39 r40 => (if r40 = 0 then K A8.zero 0 0 else f_impl_sum_form (mset ([] : List (A8 × Int)) r39 1) (fun r55 r60 => (if r60 ≠ 0 then K A8.zero 0 r60 else ((0 ≤ (0 : Int) ∧ (0 : Int) < (r55.terms.length : Int)) ∧ K ((r55.terms.getD 0 default).mono) r40 0)))))))))))
theorem c_impl_MultiplyMonomials (a0 : List Int) (a1 : A8) (a2 : A8) {u0_0 : Value} {fp0 : List Nat} {K : A8 → Int → Int → Prop} (h : f_impl_MultiplyMonomials a0 a1 a2 K) (w0 : World) (q0 : ((EI .i64).ty.sl).rep a0 [u0_0] fp0 w0) :
    Calls Try.prog 16 #[u0_0, .agg (List.toArray (A8.enc .u8 a1)), .agg (List.toArray (A8.enc .u8 a2))] w0 fun e w' => ∃ (r0 : A8) (r1 : Int) (r2 : Int), 
      e = .returned (.tuple #[.agg (List.toArray (A8.enc .u8 r0)), .int .i64 r1, .int .i64 r2]) ∧ K r0 r1 r2 ∧ Bel w0 w' := by
  unfold f_impl_MultiplyMonomials at h
  refine calls_of (args := [u0_0, .agg (List.toArray (A8.enc .u8 a1)), .agg (List.toArray (A8.enc .u8 a2))]) Try.func16 rfl 53 Try.ntmps16 (Nat.le_of_ble_eq_true rfl) ?_
  have hC := Ctx.start (X := Nox) w0 [Ty.item ((EI .i64).ty.sl) a0 [u0_0] fp0] (by simp only [List.mem_cons, List.not_mem_nil, or_false, forall_eq_or_imp, forall_eq]; exact q0)
  refine wp_seq ?_
  refine cw_region ?_
  refine s_box (v := .agg (List.toArray (A8.enc .u8 a1))) hC (A8.enc .u8 a1) rfl rfl fun b2 w4 hB_ hC => ?_
  refine s_box (v := .agg (List.toArray (A8.enc .u8 a2))) hC (A8.enc .u8 a2) rfl rfl fun b5 w7 hB_ hC => ?_
  refine s_alloc hC (A8.enc .u8 A8.zero) z24 rfl fun b8 w10 hB_ hC => ?_
  refine s_as (v := .int .i64 0) rfl ?_
  refine s_as (v := .int .i64 0) rfl ?_
  refine done ?_
  refine then_norm ?_
  refine wp_seq ?_
  refine wp_seq ?_
  refine cw_region ?_
  refine s_mv (v := u0_0) rfl ?_
  refine s_loadA hC 2 (A8.enc .u8 a1) rfl ag24 rfl rfl rfl ?_
  refine s_call [u0_0, .agg (List.toArray (A8.enc .u8 a1))] _ Try.func50 rfl rfl rfl (c_impl_IsMonomial a0 a1 h _ (hC.getP 0 rfl)) (fun ret11 w13 hR12 => ?_)
  obtain ⟨r14, rfl, h, hB15⟩ := hR12
  refine ⟨_, rfl, ?_⟩
  replace hC := hC.grow hB15
  refine s_not rfl ?_
  refine s_mv (v := .bool (!r14)) rfl ?_
  refine bsplit (!r14) (fun hb16 => ?_) (fun hb16 => ?_)
  · replace h := ift h (ne_t (not_t hb16))
    refine guardOff (b := true) 4 17 rfl (tr rfl (congrArg _ hb16)) (by decide) ?_
    refine guardOff (b := true) 4 17 rfl (tr rfl (congrArg _ hb16)) (by decide) ?_
    refine guardOff (b := true) 4 17 rfl (tr rfl (congrArg _ hb16)) (by decide) ?_
    refine guardOff (b := true) 4 17 rfl (tr rfl (congrArg _ hb16)) (by decide) ?_
    refine s_pick (v := .bool true) (b := true) (tr rfl (congrArg _ hb16)) rfl ?_
    refine done ?_
    refine then_norm ?_
    refine cw_true rfl rfl ?_
    refine wp_seq ?_
    refine cw_region ?_
    refine s_build [] rfl (bl24  _) ?_
    refine s_store (v := .agg (List.toArray (A8.enc .u8 A8.zero))) hC 0 (A8.enc .u8 A8.zero) (A8.enc .u8 A8.zero) rfl ag24.size rfl rfl rfl rfl rfl (Nat.le_of_ble_eq_true rfl) rfl fun w17 hC => ?_
    refine s_as (v := .int .i64 0) rfl ?_
    refine s_as (v := .int .i64 1) rfl ?_
    refine done ?_
    refine then_norm ?_
    refine wp_ret (then_ret ?_)
    refine ret3 (fn := Try.f16) rfl ?_ ?_ ?_ ⟨A8.zero, 0, 1, rfl, h, hC.below⟩ (.inl rfl)
    · exact res_cellA hC 0 rfl ag24 rfl rfl
    · exact res_tmp rfl
    · exact res_tmp rfl
  · replace h := iff_ h (not_not_intro ((not_f hb16)))
    refine guardOn 4 17 rfl rfl hb16 ?_
    refine s_mv (v := u0_0) rfl ?_
    refine guardOn 4 17 rfl rfl hb16 ?_
    refine s_loadA hC 1 (A8.enc .u8 a2) rfl ag24 rfl rfl rfl ?_
    refine guardOn 4 17 rfl rfl hb16 ?_
    refine s_call [u0_0, .agg (List.toArray (A8.enc .u8 a2))] _ Try.func50 rfl rfl rfl (c_impl_IsMonomial a0 a2 h _ (hC.getP 0 rfl)) (fun ret18 w20 hR19 => ?_)
    obtain ⟨r21, rfl, h, hB22⟩ := hR19
    refine ⟨_, rfl, ?_⟩
    replace hC := hC.grow hB22
    refine guardOn 4 17 rfl rfl hb16 ?_
    refine s_not rfl ?_
    refine s_pick (v := .bool (!r21)) (b := false) (tr rfl (congrArg _ hb16)) rfl ?_
    refine done ?_
    refine then_norm ?_
    refine cw_cond rfl (fun hb23 => ?_) (fun hb23 => ?_)
    · replace h := ift h (ne_t (not_t hb23))
      refine wp_seq ?_
      refine cw_region ?_
      refine s_build [] rfl (bl24  _) ?_
      refine s_store (v := .agg (List.toArray (A8.enc .u8 A8.zero))) hC 0 (A8.enc .u8 A8.zero) (A8.enc .u8 A8.zero) rfl ag24.size rfl rfl rfl rfl rfl (Nat.le_of_ble_eq_true rfl) rfl fun w24 hC => ?_
      refine s_as (v := .int .i64 0) rfl ?_
      refine s_as (v := .int .i64 1) rfl ?_
      refine done ?_
      refine then_norm ?_
      refine wp_ret (then_ret ?_)
      refine ret3 (fn := Try.f16) rfl ?_ ?_ ?_ ⟨A8.zero, 0, 1, rfl, h, hC.below⟩ (.inl rfl)
      · exact res_cellA hC 0 rfl ag24 rfl rfl
      · exact res_tmp rfl
      · exact res_tmp rfl
    · replace h := iff_ h (not_not_intro ((not_f hb23)))
      refine wp_skip ?_
      refine then_norm ?_
      refine wp_seq ?_
      refine cw_draw 10 mixed (fun w25 hB_ => ?_)
      replace hC := hC.grow hB_
      refine ae_look 0 (.agg (List.toArray (A8.enc .u8 a1))) rfl rfl (by kernel_rfl) (by kernel_rfl) (by kernel_rfl) (fun w_ hB_ => .inl ⟨rfl, by exact r_loadA (hC.grow hB_) 2 (A8.enc .u8 a1) rfl ag24 rfl rfl rfl⟩) (listed' := (List.toArray [true, false, false, false, false, false, false, false, false, false, false, false])) rfl ?_
      refine ae_lookF 2 (u0_0) rfl rfl (by kernel_rfl) (by kernel_rfl) (by kernel_rfl) (fun w_ => .inl ⟨rfl, by exact r_mv (v := u0_0) rfl⟩) (listed' := (List.toArray [true, false, true, false, false, false, false, false, false, false, false, false])) rfl ?_
      refine ae_look 3 (.agg (List.toArray (A8.enc .u8 a2))) rfl rfl (by kernel_rfl) (by kernel_rfl) (by kernel_rfl) (fun w_ hB_ => .inl ⟨rfl, by exact r_loadA (hC.grow hB_) 1 (A8.enc .u8 a2) rfl ag24 rfl rfl rfl⟩) (listed' := (List.toArray [true, false, true, true, false, false, false, false, false, false, false, false])) rfl ?_
      refine ae_two 1 9 rfl rfl (by kernel_rfl) ?_ ?_
      · skip
        refine s_call [.agg (List.toArray (A8.enc .u8 a1))] _ Try.func64 rfl rfl rfl (c_impl_powerOf a1 h _) (fun ret26 w28 hR27 => ?_)
        obtain ⟨r29, rfl, h, hB30⟩ := hR27
        refine ⟨_, rfl, ?_⟩
        replace hC := hC.grow hB30
        refine done ?_
        refine ak_intro (by assumption) (listed' := (List.toArray [true, true, true, true, false, false, false, false, false, false, false, false])) rfl ?_
        refine ae_two 4 9 rfl rfl (by kernel_rfl) ?_ ?_
        · skip
          refine s_call [.agg (List.toArray (A8.enc .u8 a2))] _ Try.func64 rfl rfl rfl (c_impl_powerOf a2 h _) (fun ret31 w33 hR32 => ?_)
          obtain ⟨r34, rfl, h, hB35⟩ := hR32
          refine ⟨_, rfl, ?_⟩
          replace hC := hC.grow hB35
          refine done ?_
          refine ak_intro (by assumption) (listed' := (List.toArray [true, true, true, true, true, false, false, false, false, false, false, false])) rfl ?_
          refine ae_two 5 9 rfl rfl (by kernel_rfl) ?_ ?_
          · skip
            refine s_call [.agg (List.toArray (A8.enc .i64 r29)), u0_0, .agg (List.toArray (A8.enc .i64 r34))] _ Try.func65 rfl rfl rfl (c_impl_power_times r29 a0 r34 h _ (hC.getP 0 rfl)) (fun ret36 w38 hR37 => ?_)
            obtain ⟨r39, r40, rfl, h, hB41⟩ := hR37
            refine ⟨_, rfl, ?_⟩
            replace hC := hC.grow hB41
            refine done ?_
            refine ak_intro (by assumption) (listed' := (List.toArray [true, true, true, true, true, true, false, false, false, false, false, false])) rfl ?_
            refine ae_lookF 6 (.tuple #[.agg (List.toArray (A8.enc .i64 r39)), .int .i64 r40]) rfl rfl (by kernel_rfl) (by kernel_rfl) (by kernel_rfl) (fun w_ => .inl ⟨rfl, by exact r_mv (v := .tuple #[.agg (List.toArray (A8.enc .i64 r39)), .int .i64 r40]) rfl⟩) (listed' := (List.toArray [true, true, true, true, true, true, true, false, false, false, false, false])) rfl ?_
            refine ae_lookF 7 (.agg (List.toArray (A8.enc .i64 r39))) rfl rfl (by kernel_rfl) (by kernel_rfl) (by kernel_rfl) (fun w_ => .inl ⟨rfl, by exact r_ext (v := .agg (List.toArray (A8.enc .i64 r39))) rfl rfl⟩) (listed' := (List.toArray [true, true, true, true, true, true, true, true, false, false, false, false])) rfl ?_
            refine ae_lookF 8 (.int .i64 r40) rfl rfl (by kernel_rfl) (by kernel_rfl) (by kernel_rfl) (fun w_ => .inl ⟨rfl, by exact r_ext (v := .int .i64 r40) rfl rfl⟩) (listed' := (List.toArray [true, true, true, true, true, true, true, true, true, false, false, false])) rfl ?_
            refine ae_one 9 rfl (by kernel_rfl) ?_
            refine s_alloc hC (A8.enc .i64 A8.zero) z85 rfl fun b42 w44 hB_ hC => ?_
            refine done ?_
            refine ak_intro (by assumption) (listed' := (List.toArray [true, true, true, true, true, true, true, true, true, true, false, false])) rfl ?_
            refine ae_one 10 rfl (by kernel_rfl) ?_
            refine s_store (v := .agg (List.toArray (A8.enc .i64 r39))) hC 0 (A8.enc .i64 r39) (A8.enc .i64 r39) rfl ag85.size rfl rfl rfl rfl rfl (Nat.le_of_ble_eq_true rfl) rfl fun w45 hC => ?_
            refine done ?_
            refine ak_introN (by decide) (listed' := (List.toArray [true, true, true, true, true, true, true, true, true, true, true, false])) rfl ?_
            refine ae_tail 11 (by decide) (by decide) (by kernel_rfl) rfl rfl ?_
            refine s_as (v := .int .i64 r40) rfl ?_
            refine done ?_
            refine qn_norm ?_
            refine then_norm ?_
            refine wp_seq ?_
            refine wp_seq ?_
            refine cw_region ?_
            refine s_mv (v := .int .i64 r40) rfl ?_
            refine s_eql rfl rfl ?_
            refine done ?_
            refine then_norm ?_
            refine cw_cond rfl (fun hb46 => ?_) (fun hb46 => ?_)
            · replace h := ift h (ct hb46)
              refine wp_seq ?_
              refine cw_region ?_
              refine s_build [] rfl (bl24  _) ?_
              refine s_store (v := .agg (List.toArray (A8.enc .u8 A8.zero))) hC 1 (A8.enc .u8 A8.zero) (A8.enc .u8 A8.zero) rfl ag24.size rfl rfl rfl rfl rfl (Nat.le_of_ble_eq_true rfl) rfl fun w47 hC => ?_
              refine s_as (v := .int .i64 0) rfl ?_
              refine s_as (v := .int .i64 0) rfl ?_
              refine done ?_
              refine then_norm ?_
              refine wp_ret (then_ret ?_)
              refine ret3 (fn := Try.f16) rfl ?_ ?_ ?_ ⟨A8.zero, 0, 0, rfl, h, hC.below⟩ (.inl rfl)
              · exact res_cellA hC 1 rfl ag24 rfl rfl
              · exact res_tmp rfl
              · exact res_tmp rfl
            · replace h := iff_ h (cf hb46)
              refine wp_skip ?_
              refine then_norm ?_
              refine wp_seq ?_
              refine cw_region ?_
              refine s_makeMap hC (kvA .i64) (vvI .i64) fun b48 w50 hB_ hC => ?_
              refine s_loadA hC 1 (A8.enc .i64 r39) rfl ag85 rfl rfl rfl ?_
              refine s_mapset hC 0 r39 1 rfl kt85 Try.underlying90 rfl rfl rfl (fun w51 hC => ?_) (.inr rfl)
              refine s_mv (v := .map (some b48)) rfl ?_
              refine s_call [.map (some b48)] _ Try.func66 rfl rfl rfl (c_impl_sum_form (mset ([] : List (A8 × Int)) r39 1) h _ (hC.getM 0 rfl)) (fun ret52 w54 hR53 => ?_)
              obtain ⟨r55, u56, f57, r60, rfl, h, hr58, hf59, hB61⟩ := hR53
              refine ⟨_, rfl, ?_⟩
              have hs62 := fresh_on hC.size hf59
              replace hC := hC.pushR hB61 (Ty.item TForm r55 [u56] f57) hr58 (fun b hb => .inl (hf59 b hb))
              replace hC := hC.derive 0 rfl (Ty.item ETerm.ty.sl r55.terms [u56] f57) (fun _ => (form_parts (hC.getP 0 rfl))) (fun _ hb_ => hb_)
              refine s_mv (v := .tuple #[.agg #[u56], .int .i64 r60]) rfl ?_
              refine s_ext (v := .agg #[u56]) rfl rfl ?_
              refine s_ext (v := .int .i64 r60) rfl rfl ?_
              refine s_alloc hC [.slice none 0 0] z51 rfl fun b65 w67 hB_ hC => ?_
              refine s_store (v := .agg #[u56]) hC 0 [u56] [u56] rfl ag51.size rfl rfl rfl rfl (all_c (rep_oneC (hC.getP 0 rfl)) rfl) (Nat.le_of_ble_eq_true rfl) rfl fun w68 hC => ?_
              refine s_as (v := .int .i64 r60) rfl ?_
              refine done ?_
              refine then_norm ?_
              refine wp_seq ?_
              refine wp_seq ?_
              refine cw_region ?_
              refine s_mv (v := .int .i64 r60) rfl ?_
              refine s_neq rfl rfl ?_
              refine done ?_
              refine then_norm ?_
              refine cw_cond rfl (fun hb69 => ?_) (fun hb69 => ?_)
              · replace h := ift h (ct hb69)
                refine wp_seq ?_
                refine cw_region ?_
                refine s_build [] rfl (bl24  _) ?_
                refine s_mv (v := .int .i64 r60) rfl ?_
                refine s_store (v := .agg (List.toArray (A8.enc .u8 A8.zero))) hC 3 (A8.enc .u8 A8.zero) (A8.enc .u8 A8.zero) rfl ag24.size rfl rfl rfl rfl rfl (Nat.le_of_ble_eq_true rfl) rfl fun w70 hC => ?_
                refine s_as (v := .int .i64 0) rfl ?_
                refine s_as (v := .int .i64 r60) rfl ?_
                refine done ?_
                refine then_norm ?_
                refine wp_ret (then_ret ?_)
                refine ret3 (fn := Try.f16) rfl ?_ ?_ ?_ ⟨A8.zero, 0, r60, rfl, h, hC.below⟩ (.inl rfl)
                · exact res_cellA hC 3 rfl ag24 rfl rfl
                · exact res_tmp rfl
                · exact res_tmp rfl
              · replace h := iff_ h (cf hb69)
                refine wp_skip ?_
                refine then_norm ?_
                refine wp_seq ?_
                refine cw_region ?_
                refine s_faddrB 0 Try.underlying51 rfl sc49.size rfl rfl ?_
                refine s_loadS hC 0 (u56) rfl sc49 rfl rfl ?_
                obtain ⟨⟨h0_71, h1_72⟩, h⟩ := h
                obtain ⟨Ad73, c74, hv75⟩ := sl_form (hC.getP 0 rfl) 0 (show 0 < r55.terms.length by omega)
                refine s_iaddrS (len := r55.terms.length) Try.underlying49 ag93.size (tr rfl hv75) rfl h0_71 h1_72 ?_
                refine s_faddrS (0 * 9 + 0) Try.underlying93 rfl ag24.size rfl rfl ?_
                refine s_loadCA (A8.enc .u8 ((r55.terms.getD 0 default).mono)) (cells_subS (o := 0) (k := 8) (sl_cellsE (hC.getP 0 rfl) hv75 0 (show 0 < r55.terms.length by omega)) rfl) ag24 rfl rfl ?_
                refine s_mv (v := .int .i64 r40) rfl ?_
                refine s_store (v := .agg (List.toArray (A8.enc .u8 ((r55.terms.getD 0 default).mono)))) hC 3 (A8.enc .u8 ((r55.terms.getD 0 default).mono)) (A8.enc .u8 ((r55.terms.getD 0 default).mono)) rfl ag24.size rfl rfl rfl rfl rfl (Nat.le_of_ble_eq_true rfl) rfl fun w76 hC => ?_
                refine s_as (v := .int .i64 r40) rfl ?_
                refine s_as (v := .int .i64 0) rfl ?_
                refine done ?_
                refine then_norm ?_
                refine wp_ret ?_
                refine ret3 (fn := Try.f16) rfl ?_ ?_ ?_ ⟨(r55.terms.getD 0 default).mono, r40, 0, rfl, h, hC.below⟩ (.inl rfl)
                · exact res_cellA hC 3 rfl ag24 rfl rfl
                · exact res_tmp rfl
                · exact res_tmp rfl
          · skip
            refine s_alloc hC (A8.enc .i64 A8.zero) z85 rfl fun b77 w79 hB_ hC => ?_
            refine done ?_
            refine ak_intro (by assumption) (listed' := (List.toArray [true, true, true, true, true, false, false, false, false, true, false, false])) rfl ?_
            refine ae_one 5 rfl (by kernel_rfl) ?_
            refine s_call [.agg (List.toArray (A8.enc .i64 r29)), u0_0, .agg (List.toArray (A8.enc .i64 r34))] _ Try.func65 rfl rfl rfl (c_impl_power_times r29 a0 r34 h _ (hC.getP 0 rfl)) (fun ret80 w82 hR81 => ?_)
            obtain ⟨r83, r84, rfl, h, hB85⟩ := hR81
            refine ⟨_, rfl, ?_⟩
            replace hC := hC.grow hB85
            refine done ?_
            refine ak_intro (by assumption) (listed' := (List.toArray [true, true, true, true, true, true, false, false, false, true, false, false])) rfl ?_
            refine ae_lookF 6 (.tuple #[.agg (List.toArray (A8.enc .i64 r83)), .int .i64 r84]) rfl rfl (by kernel_rfl) (by kernel_rfl) (by kernel_rfl) (fun w_ => .inl ⟨rfl, by exact r_mv (v := .tuple #[.agg (List.toArray (A8.enc .i64 r83)), .int .i64 r84]) rfl⟩) (listed' := (List.toArray [true, true, true, true, true, true, true, false, false, true, false, false])) rfl ?_
            refine ae_lookF 7 (.agg (List.toArray (A8.enc .i64 r83))) rfl rfl (by kernel_rfl) (by kernel_rfl) (by kernel_rfl) (fun w_ => .inl ⟨rfl, by exact r_ext (v := .agg (List.toArray (A8.enc .i64 r83))) rfl rfl⟩) (listed' := (List.toArray [true, true, true, true, true, true, true, true, false, true, false, false])) rfl ?_
            refine ae_lookF 8 (.int .i64 r84) rfl rfl (by kernel_rfl) (by kernel_rfl) (by kernel_rfl) (fun w_ => .inl ⟨rfl, by exact r_ext (v := .int .i64 r84) rfl rfl⟩) (listed' := (List.toArray [true, true, true, true, true, true, true, true, true, true, false, false])) rfl ?_
            refine ae_one 10 rfl (by kernel_rfl) ?_
            refine s_store (v := .agg (List.toArray (A8.enc .i64 r83))) hC 0 (A8.enc .i64 r83) (A8.enc .i64 r83) rfl ag85.size rfl rfl rfl rfl rfl (Nat.le_of_ble_eq_true rfl) rfl fun w86 hC => ?_
            refine done ?_
            refine ak_introN (by decide) (listed' := (List.toArray [true, true, true, true, true, true, true, true, true, true, true, false])) rfl ?_
            refine ae_tail 11 (by decide) (by decide) (by kernel_rfl) rfl rfl ?_
            refine s_as (v := .int .i64 r84) rfl ?_
            refine done ?_
            refine qn_norm ?_
            refine then_norm ?_
            refine wp_seq ?_
            refine wp_seq ?_
            refine cw_region ?_
            refine s_mv (v := .int .i64 r84) rfl ?_
            refine s_eql rfl rfl ?_
            refine done ?_
            refine then_norm ?_
            refine cw_cond rfl (fun hb87 => ?_) (fun hb87 => ?_)
            · replace h := ift h (ct hb87)
              refine wp_seq ?_
              refine cw_region ?_
              refine s_build [] rfl (bl24  _) ?_
              refine s_store (v := .agg (List.toArray (A8.enc .u8 A8.zero))) hC 1 (A8.enc .u8 A8.zero) (A8.enc .u8 A8.zero) rfl ag24.size rfl rfl rfl rfl rfl (Nat.le_of_ble_eq_true rfl) rfl fun w88 hC => ?_
              refine s_as (v := .int .i64 0) rfl ?_
              refine s_as (v := .int .i64 0) rfl ?_
              refine done ?_
              refine then_norm ?_
              refine wp_ret (then_ret ?_)
              refine ret3 (fn := Try.f16) rfl ?_ ?_ ?_ ⟨A8.zero, 0, 0, rfl, h, hC.below⟩ (.inl rfl)
              · exact res_cellA hC 1 rfl ag24 rfl rfl
              · exact res_tmp rfl
              · exact res_tmp rfl
            · replace h := iff_ h (cf hb87)
              refine wp_skip ?_
              refine then_norm ?_
              refine wp_seq ?_
              refine cw_region ?_
              refine s_makeMap hC (kvA .i64) (vvI .i64) fun b89 w91 hB_ hC => ?_
              refine s_loadA hC 1 (A8.enc .i64 r83) rfl ag85 rfl rfl rfl ?_
              refine s_mapset hC 0 r83 1 rfl kt85 Try.underlying90 rfl rfl rfl (fun w92 hC => ?_) (.inr rfl)
              refine s_mv (v := .map (some b89)) rfl ?_
              refine s_call [.map (some b89)] _ Try.func66 rfl rfl rfl (c_impl_sum_form (mset ([] : List (A8 × Int)) r83 1) h _ (hC.getM 0 rfl)) (fun ret93 w95 hR94 => ?_)
              obtain ⟨r96, u97, f98, r101, rfl, h, hr99, hf100, hB102⟩ := hR94
              refine ⟨_, rfl, ?_⟩
              have hs103 := fresh_on hC.size hf100
              replace hC := hC.pushR hB102 (Ty.item TForm r96 [u97] f98) hr99 (fun b hb => .inl (hf100 b hb))
              replace hC := hC.derive 0 rfl (Ty.item ETerm.ty.sl r96.terms [u97] f98) (fun _ => (form_parts (hC.getP 0 rfl))) (fun _ hb_ => hb_)
              refine s_mv (v := .tuple #[.agg #[u97], .int .i64 r101]) rfl ?_
              refine s_ext (v := .agg #[u97]) rfl rfl ?_
              refine s_ext (v := .int .i64 r101) rfl rfl ?_
              refine s_alloc hC [.slice none 0 0] z51 rfl fun b106 w108 hB_ hC => ?_
              refine s_store (v := .agg #[u97]) hC 0 [u97] [u97] rfl ag51.size rfl rfl rfl rfl (all_c (rep_oneC (hC.getP 0 rfl)) rfl) (Nat.le_of_ble_eq_true rfl) rfl fun w109 hC => ?_
              refine s_as (v := .int .i64 r101) rfl ?_
              refine done ?_
              refine then_norm ?_
              refine wp_seq ?_
              refine wp_seq ?_
              refine cw_region ?_
              refine s_mv (v := .int .i64 r101) rfl ?_
              refine s_neq rfl rfl ?_
              refine done ?_
              refine then_norm ?_
              refine cw_cond rfl (fun hb110 => ?_) (fun hb110 => ?_)
              · replace h := ift h (ct hb110)
                refine wp_seq ?_
                refine cw_region ?_
                refine s_build [] rfl (bl24  _) ?_
                refine s_mv (v := .int .i64 r101) rfl ?_
                refine s_store (v := .agg (List.toArray (A8.enc .u8 A8.zero))) hC 3 (A8.enc .u8 A8.zero) (A8.enc .u8 A8.zero) rfl ag24.size rfl rfl rfl rfl rfl (Nat.le_of_ble_eq_true rfl) rfl fun w111 hC => ?_
                refine s_as (v := .int .i64 0) rfl ?_
                refine s_as (v := .int .i64 r101) rfl ?_
                refine done ?_
                refine then_norm ?_
                refine wp_ret (then_ret ?_)
                refine ret3 (fn := Try.f16) rfl ?_ ?_ ?_ ⟨A8.zero, 0, r101, rfl, h, hC.below⟩ (.inl rfl)
                · exact res_cellA hC 3 rfl ag24 rfl rfl
                · exact res_tmp rfl
                · exact res_tmp rfl
              · replace h := iff_ h (cf hb110)
                refine wp_skip ?_
                refine then_norm ?_
                refine wp_seq ?_
                refine cw_region ?_
                refine s_faddrB 0 Try.underlying51 rfl sc49.size rfl rfl ?_
                refine s_loadS hC 0 (u97) rfl sc49 rfl rfl ?_
                obtain ⟨⟨h0_112, h1_113⟩, h⟩ := h
                obtain ⟨Ad114, c115, hv116⟩ := sl_form (hC.getP 0 rfl) 0 (show 0 < r96.terms.length by omega)
                refine s_iaddrS (len := r96.terms.length) Try.underlying49 ag93.size (tr rfl hv116) rfl h0_112 h1_113 ?_
                refine s_faddrS (0 * 9 + 0) Try.underlying93 rfl ag24.size rfl rfl ?_
                refine s_loadCA (A8.enc .u8 ((r96.terms.getD 0 default).mono)) (cells_subS (o := 0) (k := 8) (sl_cellsE (hC.getP 0 rfl) hv116 0 (show 0 < r96.terms.length by omega)) rfl) ag24 rfl rfl ?_
                refine s_mv (v := .int .i64 r84) rfl ?_
                refine s_store (v := .agg (List.toArray (A8.enc .u8 ((r96.terms.getD 0 default).mono)))) hC 3 (A8.enc .u8 ((r96.terms.getD 0 default).mono)) (A8.enc .u8 ((r96.terms.getD 0 default).mono)) rfl ag24.size rfl rfl rfl rfl rfl (Nat.le_of_ble_eq_true rfl) rfl fun w117 hC => ?_
                refine s_as (v := .int .i64 r84) rfl ?_
                refine s_as (v := .int .i64 0) rfl ?_
                refine done ?_
                refine then_norm ?_
                refine wp_ret ?_
                refine ret3 (fn := Try.f16) rfl ?_ ?_ ?_ ⟨(r96.terms.getD 0 default).mono, r84, 0, rfl, h, hC.below⟩ (.inl rfl)
                · exact res_cellA hC 3 rfl ag24 rfl rfl
                · exact res_tmp rfl
                · exact res_tmp rfl
        · skip
          refine s_alloc hC (A8.enc .i64 A8.zero) z85 rfl fun b118 w120 hB_ hC => ?_
          refine done ?_
          refine ak_intro (by assumption) (listed' := (List.toArray [true, true, true, true, false, false, false, false, false, true, false, false])) rfl ?_
          refine ae_one 4 rfl (by kernel_rfl) ?_
          refine s_call [.agg (List.toArray (A8.enc .u8 a2))] _ Try.func64 rfl rfl rfl (c_impl_powerOf a2 h _) (fun ret121 w123 hR122 => ?_)
          obtain ⟨r124, rfl, h, hB125⟩ := hR122
          refine ⟨_, rfl, ?_⟩
          replace hC := hC.grow hB125
          refine done ?_
          refine ak_intro (by assumption) (listed' := (List.toArray [true, true, true, true, true, false, false, false, false, true, false, false])) rfl ?_
          refine ae_one 5 rfl (by kernel_rfl) ?_
          refine s_call [.agg (List.toArray (A8.enc .i64 r29)), u0_0, .agg (List.toArray (A8.enc .i64 r124))] _ Try.func65 rfl rfl rfl (c_impl_power_times r29 a0 r124 h _ (hC.getP 0 rfl)) (fun ret126 w128 hR127 => ?_)
          obtain ⟨r129, r130, rfl, h, hB131⟩ := hR127
          refine ⟨_, rfl, ?_⟩
          replace hC := hC.grow hB131
          refine done ?_
          refine ak_intro (by assumption) (listed' := (List.toArray [true, true, true, true, true, true, false, false, false, true, false, false])) rfl ?_
          refine ae_lookF 6 (.tuple #[.agg (List.toArray (A8.enc .i64 r129)), .int .i64 r130]) rfl rfl (by kernel_rfl) (by kernel_rfl) (by kernel_rfl) (fun w_ => .inl ⟨rfl, by exact r_mv (v := .tuple #[.agg (List.toArray (A8.enc .i64 r129)), .int .i64 r130]) rfl⟩) (listed' := (List.toArray [true, true, true, true, true, true, true, false, false, true, false, false])) rfl ?_
          refine ae_lookF 7 (.agg (List.toArray (A8.enc .i64 r129))) rfl rfl (by kernel_rfl) (by kernel_rfl) (by kernel_rfl) (fun w_ => .inl ⟨rfl, by exact r_ext (v := .agg (List.toArray (A8.enc .i64 r129))) rfl rfl⟩) (listed' := (List.toArray [true, true, true, true, true, true, true, true, false, true, false, false])) rfl ?_
          refine ae_lookF 8 (.int .i64 r130) rfl rfl (by kernel_rfl) (by kernel_rfl) (by kernel_rfl) (fun w_ => .inl ⟨rfl, by exact r_ext (v := .int .i64 r130) rfl rfl⟩) (listed' := (List.toArray [true, true, true, true, true, true, true, true, true, true, false, false])) rfl ?_
          refine ae_one 10 rfl (by kernel_rfl) ?_
          refine s_store (v := .agg (List.toArray (A8.enc .i64 r129))) hC 0 (A8.enc .i64 r129) (A8.enc .i64 r129) rfl ag85.size rfl rfl rfl rfl rfl (Nat.le_of_ble_eq_true rfl) rfl fun w132 hC => ?_
          refine done ?_
          refine ak_introN (by decide) (listed' := (List.toArray [true, true, true, true, true, true, true, true, true, true, true, false])) rfl ?_
          refine ae_tail 11 (by decide) (by decide) (by kernel_rfl) rfl rfl ?_
          refine s_as (v := .int .i64 r130) rfl ?_
          refine done ?_
          refine qn_norm ?_
          refine then_norm ?_
          refine wp_seq ?_
          refine wp_seq ?_
          refine cw_region ?_
          refine s_mv (v := .int .i64 r130) rfl ?_
          refine s_eql rfl rfl ?_
          refine done ?_
          refine then_norm ?_
          refine cw_cond rfl (fun hb133 => ?_) (fun hb133 => ?_)
          · replace h := ift h (ct hb133)
            refine wp_seq ?_
            refine cw_region ?_
            refine s_build [] rfl (bl24  _) ?_
            refine s_store (v := .agg (List.toArray (A8.enc .u8 A8.zero))) hC 1 (A8.enc .u8 A8.zero) (A8.enc .u8 A8.zero) rfl ag24.size rfl rfl rfl rfl rfl (Nat.le_of_ble_eq_true rfl) rfl fun w134 hC => ?_
            refine s_as (v := .int .i64 0) rfl ?_
            refine s_as (v := .int .i64 0) rfl ?_
            refine done ?_
            refine then_norm ?_
            refine wp_ret (then_ret ?_)
            refine ret3 (fn := Try.f16) rfl ?_ ?_ ?_ ⟨A8.zero, 0, 0, rfl, h, hC.below⟩ (.inl rfl)
            · exact res_cellA hC 1 rfl ag24 rfl rfl
            · exact res_tmp rfl
            · exact res_tmp rfl
          · replace h := iff_ h (cf hb133)
            refine wp_skip ?_
            refine then_norm ?_
            refine wp_seq ?_
            refine cw_region ?_
            refine s_makeMap hC (kvA .i64) (vvI .i64) fun b135 w137 hB_ hC => ?_
            refine s_loadA hC 1 (A8.enc .i64 r129) rfl ag85 rfl rfl rfl ?_
            refine s_mapset hC 0 r129 1 rfl kt85 Try.underlying90 rfl rfl rfl (fun w138 hC => ?_) (.inr rfl)
            refine s_mv (v := .map (some b135)) rfl ?_
            refine s_call [.map (some b135)] _ Try.func66 rfl rfl rfl (c_impl_sum_form (mset ([] : List (A8 × Int)) r129 1) h _ (hC.getM 0 rfl)) (fun ret139 w141 hR140 => ?_)
            obtain ⟨r142, u143, f144, r147, rfl, h, hr145, hf146, hB148⟩ := hR140
            refine ⟨_, rfl, ?_⟩
            have hs149 := fresh_on hC.size hf146
            replace hC := hC.pushR hB148 (Ty.item TForm r142 [u143] f144) hr145 (fun b hb => .inl (hf146 b hb))
            replace hC := hC.derive 0 rfl (Ty.item ETerm.ty.sl r142.terms [u143] f144) (fun _ => (form_parts (hC.getP 0 rfl))) (fun _ hb_ => hb_)
            refine s_mv (v := .tuple #[.agg #[u143], .int .i64 r147]) rfl ?_
            refine s_ext (v := .agg #[u143]) rfl rfl ?_
            refine s_ext (v := .int .i64 r147) rfl rfl ?_
            refine s_alloc hC [.slice none 0 0] z51 rfl fun b152 w154 hB_ hC => ?_
            refine s_store (v := .agg #[u143]) hC 0 [u143] [u143] rfl ag51.size rfl rfl rfl rfl (all_c (rep_oneC (hC.getP 0 rfl)) rfl) (Nat.le_of_ble_eq_true rfl) rfl fun w155 hC => ?_
            refine s_as (v := .int .i64 r147) rfl ?_
            refine done ?_
            refine then_norm ?_
            refine wp_seq ?_
            refine wp_seq ?_
            refine cw_region ?_
            refine s_mv (v := .int .i64 r147) rfl ?_
            refine s_neq rfl rfl ?_
            refine done ?_
            refine then_norm ?_
            refine cw_cond rfl (fun hb156 => ?_) (fun hb156 => ?_)
            · replace h := ift h (ct hb156)
              refine wp_seq ?_
              refine cw_region ?_
              refine s_build [] rfl (bl24  _) ?_
              refine s_mv (v := .int .i64 r147) rfl ?_
              refine s_store (v := .agg (List.toArray (A8.enc .u8 A8.zero))) hC 3 (A8.enc .u8 A8.zero) (A8.enc .u8 A8.zero) rfl ag24.size rfl rfl rfl rfl rfl (Nat.le_of_ble_eq_true rfl) rfl fun w157 hC => ?_
              refine s_as (v := .int .i64 0) rfl ?_
              refine s_as (v := .int .i64 r147) rfl ?_
              refine done ?_
              refine then_norm ?_
              refine wp_ret (then_ret ?_)
              refine ret3 (fn := Try.f16) rfl ?_ ?_ ?_ ⟨A8.zero, 0, r147, rfl, h, hC.below⟩ (.inl rfl)
              · exact res_cellA hC 3 rfl ag24 rfl rfl
              · exact res_tmp rfl
              · exact res_tmp rfl
            · replace h := iff_ h (cf hb156)
              refine wp_skip ?_
              refine then_norm ?_
              refine wp_seq ?_
              refine cw_region ?_
              refine s_faddrB 0 Try.underlying51 rfl sc49.size rfl rfl ?_
              refine s_loadS hC 0 (u143) rfl sc49 rfl rfl ?_
              obtain ⟨⟨h0_158, h1_159⟩, h⟩ := h
              obtain ⟨Ad160, c161, hv162⟩ := sl_form (hC.getP 0 rfl) 0 (show 0 < r142.terms.length by omega)
              refine s_iaddrS (len := r142.terms.length) Try.underlying49 ag93.size (tr rfl hv162) rfl h0_158 h1_159 ?_
              refine s_faddrS (0 * 9 + 0) Try.underlying93 rfl ag24.size rfl rfl ?_
              refine s_loadCA (A8.enc .u8 ((r142.terms.getD 0 default).mono)) (cells_subS (o := 0) (k := 8) (sl_cellsE (hC.getP 0 rfl) hv162 0 (show 0 < r142.terms.length by omega)) rfl) ag24 rfl rfl ?_
              refine s_mv (v := .int .i64 r130) rfl ?_
              refine s_store (v := .agg (List.toArray (A8.enc .u8 ((r142.terms.getD 0 default).mono)))) hC 3 (A8.enc .u8 ((r142.terms.getD 0 default).mono)) (A8.enc .u8 ((r142.terms.getD 0 default).mono)) rfl ag24.size rfl rfl rfl rfl rfl (Nat.le_of_ble_eq_true rfl) rfl fun w163 hC => ?_
              refine s_as (v := .int .i64 r130) rfl ?_
              refine s_as (v := .int .i64 0) rfl ?_
              refine done ?_
              refine then_norm ?_
              refine wp_ret ?_
              refine ret3 (fn := Try.f16) rfl ?_ ?_ ?_ ⟨(r142.terms.getD 0 default).mono, r130, 0, rfl, h, hC.below⟩ (.inl rfl)
              · exact res_cellA hC 3 rfl ag24 rfl rfl
              · exact res_tmp rfl
              · exact res_tmp rfl
      · skip
        refine s_alloc hC (A8.enc .i64 A8.zero) z85 rfl fun b164 w166 hB_ hC => ?_
        refine done ?_
        refine ak_intro (by assumption) (listed' := (List.toArray [true, false, true, true, false, false, false, false, false, true, false, false])) rfl ?_
        refine ae_one 1 rfl (by kernel_rfl) ?_
        refine s_call [.agg (List.toArray (A8.enc .u8 a1))] _ Try.func64 rfl rfl rfl (c_impl_powerOf a1 h _) (fun ret167 w169 hR168 => ?_)
        obtain ⟨r170, rfl, h, hB171⟩ := hR168
        refine ⟨_, rfl, ?_⟩
        replace hC := hC.grow hB171
        refine done ?_
        refine ak_intro (by assumption) (listed' := (List.toArray [true, true, true, true, false, false, false, false, false, true, false, false])) rfl ?_
        refine ae_one 4 rfl (by kernel_rfl) ?_
        refine s_call [.agg (List.toArray (A8.enc .u8 a2))] _ Try.func64 rfl rfl rfl (c_impl_powerOf a2 h _) (fun ret172 w174 hR173 => ?_)
        obtain ⟨r175, rfl, h, hB176⟩ := hR173
        refine ⟨_, rfl, ?_⟩
        replace hC := hC.grow hB176
        refine done ?_
        refine ak_intro (by assumption) (listed' := (List.toArray [true, true, true, true, true, false, false, false, false, true, false, false])) rfl ?_
        refine ae_one 5 rfl (by kernel_rfl) ?_
        refine s_call [.agg (List.toArray (A8.enc .i64 r170)), u0_0, .agg (List.toArray (A8.enc .i64 r175))] _ Try.func65 rfl rfl rfl (c_impl_power_times r170 a0 r175 h _ (hC.getP 0 rfl)) (fun ret177 w179 hR178 => ?_)
        obtain ⟨r180, r181, rfl, h, hB182⟩ := hR178
        refine ⟨_, rfl, ?_⟩
        replace hC := hC.grow hB182
        refine done ?_
        refine ak_intro (by assumption) (listed' := (List.toArray [true, true, true, true, true, true, false, false, false, true, false, false])) rfl ?_
        refine ae_lookF 6 (.tuple #[.agg (List.toArray (A8.enc .i64 r180)), .int .i64 r181]) rfl rfl (by kernel_rfl) (by kernel_rfl) (by kernel_rfl) (fun w_ => .inl ⟨rfl, by exact r_mv (v := .tuple #[.agg (List.toArray (A8.enc .i64 r180)), .int .i64 r181]) rfl⟩) (listed' := (List.toArray [true, true, true, true, true, true, true, false, false, true, false, false])) rfl ?_
        refine ae_lookF 7 (.agg (List.toArray (A8.enc .i64 r180))) rfl rfl (by kernel_rfl) (by kernel_rfl) (by kernel_rfl) (fun w_ => .inl ⟨rfl, by exact r_ext (v := .agg (List.toArray (A8.enc .i64 r180))) rfl rfl⟩) (listed' := (List.toArray [true, true, true, true, true, true, true, true, false, true, false, false])) rfl ?_
        refine ae_lookF 8 (.int .i64 r181) rfl rfl (by kernel_rfl) (by kernel_rfl) (by kernel_rfl) (fun w_ => .inl ⟨rfl, by exact r_ext (v := .int .i64 r181) rfl rfl⟩) (listed' := (List.toArray [true, true, true, true, true, true, true, true, true, true, false, false])) rfl ?_
        refine ae_one 10 rfl (by kernel_rfl) ?_
        refine s_store (v := .agg (List.toArray (A8.enc .i64 r180))) hC 0 (A8.enc .i64 r180) (A8.enc .i64 r180) rfl ag85.size rfl rfl rfl rfl rfl (Nat.le_of_ble_eq_true rfl) rfl fun w183 hC => ?_
        refine done ?_
        refine ak_introN (by decide) (listed' := (List.toArray [true, true, true, true, true, true, true, true, true, true, true, false])) rfl ?_
        refine ae_tail 11 (by decide) (by decide) (by kernel_rfl) rfl rfl ?_
        refine s_as (v := .int .i64 r181) rfl ?_
        refine done ?_
        refine qn_norm ?_
        refine then_norm ?_
        refine wp_seq ?_
        refine wp_seq ?_
        refine cw_region ?_
        refine s_mv (v := .int .i64 r181) rfl ?_
        refine s_eql rfl rfl ?_
        refine done ?_
        refine then_norm ?_
        refine cw_cond rfl (fun hb184 => ?_) (fun hb184 => ?_)
        · replace h := ift h (ct hb184)
          refine wp_seq ?_
          refine cw_region ?_
          refine s_build [] rfl (bl24  _) ?_
          refine s_store (v := .agg (List.toArray (A8.enc .u8 A8.zero))) hC 1 (A8.enc .u8 A8.zero) (A8.enc .u8 A8.zero) rfl ag24.size rfl rfl rfl rfl rfl (Nat.le_of_ble_eq_true rfl) rfl fun w185 hC => ?_
          refine s_as (v := .int .i64 0) rfl ?_
          refine s_as (v := .int .i64 0) rfl ?_
          refine done ?_
          refine then_norm ?_
          refine wp_ret (then_ret ?_)
          refine ret3 (fn := Try.f16) rfl ?_ ?_ ?_ ⟨A8.zero, 0, 0, rfl, h, hC.below⟩ (.inl rfl)
          · exact res_cellA hC 1 rfl ag24 rfl rfl
          · exact res_tmp rfl
          · exact res_tmp rfl
        · replace h := iff_ h (cf hb184)
          refine wp_skip ?_
          refine then_norm ?_
          refine wp_seq ?_
          refine cw_region ?_
          refine s_makeMap hC (kvA .i64) (vvI .i64) fun b186 w188 hB_ hC => ?_
          refine s_loadA hC 1 (A8.enc .i64 r180) rfl ag85 rfl rfl rfl ?_
          refine s_mapset hC 0 r180 1 rfl kt85 Try.underlying90 rfl rfl rfl (fun w189 hC => ?_) (.inr rfl)
          refine s_mv (v := .map (some b186)) rfl ?_
          refine s_call [.map (some b186)] _ Try.func66 rfl rfl rfl (c_impl_sum_form (mset ([] : List (A8 × Int)) r180 1) h _ (hC.getM 0 rfl)) (fun ret190 w192 hR191 => ?_)
          obtain ⟨r193, u194, f195, r198, rfl, h, hr196, hf197, hB199⟩ := hR191
          refine ⟨_, rfl, ?_⟩
          have hs200 := fresh_on hC.size hf197
          replace hC := hC.pushR hB199 (Ty.item TForm r193 [u194] f195) hr196 (fun b hb => .inl (hf197 b hb))
          replace hC := hC.derive 0 rfl (Ty.item ETerm.ty.sl r193.terms [u194] f195) (fun _ => (form_parts (hC.getP 0 rfl))) (fun _ hb_ => hb_)
          refine s_mv (v := .tuple #[.agg #[u194], .int .i64 r198]) rfl ?_
          refine s_ext (v := .agg #[u194]) rfl rfl ?_
          refine s_ext (v := .int .i64 r198) rfl rfl ?_
          refine s_alloc hC [.slice none 0 0] z51 rfl fun b203 w205 hB_ hC => ?_
          refine s_store (v := .agg #[u194]) hC 0 [u194] [u194] rfl ag51.size rfl rfl rfl rfl (all_c (rep_oneC (hC.getP 0 rfl)) rfl) (Nat.le_of_ble_eq_true rfl) rfl fun w206 hC => ?_
          refine s_as (v := .int .i64 r198) rfl ?_
          refine done ?_
          refine then_norm ?_
          refine wp_seq ?_
          refine wp_seq ?_
          refine cw_region ?_
          refine s_mv (v := .int .i64 r198) rfl ?_
          refine s_neq rfl rfl ?_
          refine done ?_
          refine then_norm ?_
          refine cw_cond rfl (fun hb207 => ?_) (fun hb207 => ?_)
          · replace h := ift h (ct hb207)
            refine wp_seq ?_
            refine cw_region ?_
            refine s_build [] rfl (bl24  _) ?_
            refine s_mv (v := .int .i64 r198) rfl ?_
            refine s_store (v := .agg (List.toArray (A8.enc .u8 A8.zero))) hC 3 (A8.enc .u8 A8.zero) (A8.enc .u8 A8.zero) rfl ag24.size rfl rfl rfl rfl rfl (Nat.le_of_ble_eq_true rfl) rfl fun w208 hC => ?_
            refine s_as (v := .int .i64 0) rfl ?_
            refine s_as (v := .int .i64 r198) rfl ?_
            refine done ?_
            refine then_norm ?_
            refine wp_ret (then_ret ?_)
            refine ret3 (fn := Try.f16) rfl ?_ ?_ ?_ ⟨A8.zero, 0, r198, rfl, h, hC.below⟩ (.inl rfl)
            · exact res_cellA hC 3 rfl ag24 rfl rfl
            · exact res_tmp rfl
            · exact res_tmp rfl
          · replace h := iff_ h (cf hb207)
            refine wp_skip ?_
            refine then_norm ?_
            refine wp_seq ?_
            refine cw_region ?_
            refine s_faddrB 0 Try.underlying51 rfl sc49.size rfl rfl ?_
            refine s_loadS hC 0 (u194) rfl sc49 rfl rfl ?_
            obtain ⟨⟨h0_209, h1_210⟩, h⟩ := h
            obtain ⟨Ad211, c212, hv213⟩ := sl_form (hC.getP 0 rfl) 0 (show 0 < r193.terms.length by omega)
            refine s_iaddrS (len := r193.terms.length) Try.underlying49 ag93.size (tr rfl hv213) rfl h0_209 h1_210 ?_
            refine s_faddrS (0 * 9 + 0) Try.underlying93 rfl ag24.size rfl rfl ?_
            refine s_loadCA (A8.enc .u8 ((r193.terms.getD 0 default).mono)) (cells_subS (o := 0) (k := 8) (sl_cellsE (hC.getP 0 rfl) hv213 0 (show 0 < r193.terms.length by omega)) rfl) ag24 rfl rfl ?_
            refine s_mv (v := .int .i64 r181) rfl ?_
            refine s_store (v := .agg (List.toArray (A8.enc .u8 ((r193.terms.getD 0 default).mono)))) hC 3 (A8.enc .u8 ((r193.terms.getD 0 default).mono)) (A8.enc .u8 ((r193.terms.getD 0 default).mono)) rfl ag24.size rfl rfl rfl rfl rfl (Nat.le_of_ble_eq_true rfl) rfl fun w214 hC => ?_
            refine s_as (v := .int .i64 r181) rfl ?_
            refine s_as (v := .int .i64 0) rfl ?_
            refine done ?_
            refine then_norm ?_
            refine wp_ret ?_
            refine ret3 (fn := Try.f16) rfl ?_ ?_ ?_ ⟨(r193.terms.getD 0 default).mono, r181, 0, rfl, h, hC.below⟩ (.inl rfl)
            · exact res_cellA hC 3 rfl ag24 rfl rfl
            · exact res_tmp rfl
            · exact res_tmp rfl
def f_spec_l01In (a0 : Int) (a1 : Int) (a2 : Int) (K : Bool → Prop) : Prop :=
  (if a0 ≥ a1 then K (decide (a0 ≤ a2)) else K false)
theorem c_spec_l01In (a0 : Int) (a1 : Int) (a2 : Int)  {K : Bool → Prop} (h : f_spec_l01In a0 a1 a2 K) (w0 : World)  :
    Calls Try.prog 67 #[.int .i64 a0, .int .i64 a1, .int .i64 a2] w0 fun e w' => ∃ (r0 : Bool), 
      e = .returned (.bool r0) ∧ K r0 ∧ Bel w0 w' := by
  unfold f_spec_l01In at h
  refine calls_of (args := [.int .i64 a0, .int .i64 a1, .int .i64 a2]) Try.func67 rfl 15 Try.ntmps67 (Nat.le_of_ble_eq_true rfl) ?_
  have hC := Ctx.start (X := Nox) w0 [] (by simp)
  refine wp_seq ?_
  refine cw_region ?_
  refine s_as (v := .bool false) rfl ?_
  refine done ?_
  refine then_norm ?_
  refine wp_seq ?_
  refine cw_region ?_
  refine s_mv (v := .int .i64 a0) rfl ?_
  refine s_mv (v := .int .i64 a1) rfl ?_
  refine s_geq rfl rfl ?_
  refine s_mv (v := .bool (decide (a0 ≥ a1))) rfl ?_
  refine bsplit (decide (a0 ≥ a1)) (fun hb1 => ?_) (fun hb1 => ?_)
  · replace h := ift h (ct hb1)
    refine guardOn 3 10 rfl rfl hb1 ?_
    refine s_mv (v := .int .i64 a0) rfl ?_
    refine guardOn 3 10 rfl rfl hb1 ?_
    refine s_mv (v := .int .i64 a2) rfl ?_
    refine guardOn 3 10 rfl rfl hb1 ?_
    refine s_leq rfl rfl ?_
    refine s_pick (v := .bool (decide (a0 ≤ a2))) (b := true) (tr rfl (congrArg _ hb1)) rfl ?_
    refine s_as (v := .bool (decide (a0 ≤ a2))) rfl ?_
    refine done ?_
    refine then_norm ?_
    refine wp_ret ?_
    refine ret1 (fn := Try.f67) rfl ?_ ⟨decide (a0 ≤ a2), rfl, h, hC.below⟩ (.inl rfl)
    exact res_tmp rfl
  · replace h := iff_ h (cf hb1)
    refine guardOff (b := false) 3 10 rfl (tr rfl (congrArg _ hb1)) (by decide) ?_
    refine guardOff (b := false) 3 10 rfl (tr rfl (congrArg _ hb1)) (by decide) ?_
    refine guardOff (b := false) 3 10 rfl (tr rfl (congrArg _ hb1)) (by decide) ?_
    refine s_pick (v := .bool false) (b := false) (tr rfl (congrArg _ hb1)) rfl ?_
    refine s_as (v := .bool false) rfl ?_
    refine done ?_
    refine then_norm ?_
    refine wp_ret ?_
    refine ret1 (fn := Try.f67) rfl ?_ ⟨false, rfl, h, hC.below⟩ (.inl rfl)
    exact res_tmp rfl
def f_spec_l01Degrees (a0 : List Int) (K : Bool → Prop) : Prop :=
  forN (fun i23 (s24 : Unit) next26 => f_spec_l01In (a0.getD i23 default) 1 12 (fun r40 => (if ¬ (r40 = true) then K false else next26 ()))) (fun (s24 : Unit) => K (decide ((a0.length : Int) ≤ 8))) a0.length 0 ()
theorem c_spec_l01Degrees (a0 : List Int) {u0_0 : Value} {fp0 : List Nat} {K : Bool → Prop} (h : f_spec_l01Degrees a0 K) (w0 : World) (q0 : ((EI .i64).ty.sl).rep a0 [u0_0] fp0 w0) :
    Calls Try.prog 61 #[u0_0] w0 fun e w' => ∃ (r0 : Bool), 
      e = .returned (.bool r0) ∧ K r0 ∧ Bel w0 w' := by
  unfold f_spec_l01Degrees at h
  refine calls_of (args := [u0_0]) Try.func61 rfl 19 Try.ntmps61 (Nat.le_of_ble_eq_true rfl) ?_
  have hC := Ctx.start (X := Nox) w0 [Ty.item ((EI .i64).ty.sl) a0 [u0_0] fp0] (by simp only [List.mem_cons, List.not_mem_nil, or_false, forall_eq_or_imp, forall_eq]; exact q0)
  refine wp_seq ?_
  refine cw_region ?_
  refine s_as (v := .bool false) rfl ?_
  refine done ?_
  refine then_norm ?_
  refine wp_seq ?_
  refine wp_seq ?_
  refine cw_region ?_
  refine s_as (v := .int .i64 0) rfl ?_
  refine done ?_
  refine then_norm ?_
  refine wp_block ?_
  have hN25 : a0.length ≤ 9223372036854775807 := sl_max (hC.getP 0 rfl)
  refine loopN (S := Unit) _ _ (fun i23 s24 e_ w_ => e_ 0 = u0_0 ∧ e_ 2 = .bool false ∧ e_ 3 = .int .i64 (i23 : Int) ∧ Ctx Nox w0 w_ [] [Ty.item ((EI .i64).ty.sl) a0 [u0_0] fp0]) a0.length ?_ ?_ (s0 := ()) ?_ h
  · clear hC h
    rintro i23 s24 e_ w30 next26 K27 hi29 ⟨h0_, h2_, h3_, hC⟩ h hK28
    refine wp_seq ?_
    refine wp_seq ?_
    refine cw_region ?_
    refine s_mv (v := .int .i64 (i23 : Int)) h3_ ?_
    refine s_mv (v := u0_0) h0_ ?_
    obtain ⟨Ad31, c32, hv33⟩ := sl_len (hC.getP 0 rfl)
    refine s_len Try.underlying22 (tr rfl hv33) ?_
    refine s_lss rfl rfl ?_
    refine done ?_
    refine then_norm ?_
    refine cw_true rfl (decide_eq_true (by omega)) ?_
    refine wp_skip ?_
    refine then_norm ?_
    refine wp_seq ?_
    refine wp_block ?_
    refine wp_seq ?_
    refine cw_region ?_
    refine s_mv (v := u0_0) h0_ ?_
    refine s_mv (v := .int .i64 (i23 : Int)) h3_ ?_
    obtain ⟨Ad34, c35, hv36⟩ := sl_form (hC.getP 0 rfl) i23 hi29
    refine s_iaddrS (len := a0.length) Try.underlying22 sc2.size (tr rfl hv36) rfl (Int.natCast_nonneg _) (Int.ofNat_lt.2 hi29) ?_
    refine s_loadCS (.int .i64 (a0.getD i23 default)) (sl_cellsE (hC.getP 0 rfl) hv36 i23 hi29) sc2 rfl ?_
    refine s_call [.int .i64 (a0.getD i23 default), .int .i64 1, .int .i64 12] _ Try.func67 rfl rfl rfl (c_spec_l01In (a0.getD i23 default) 1 12 h _) (fun ret37 w39 hR38 => ?_)
    obtain ⟨r40, rfl, h, hB41⟩ := hR38
    refine ⟨_, rfl, ?_⟩
    replace hC := hC.grow hB41
    refine s_not rfl ?_
    refine done ?_
    refine then_norm ?_
    refine cw_cond rfl (fun hb42 => ?_) (fun hb42 => ?_)
    · replace h := ift h (ne_t (not_t hb42))
      refine wp_seq ?_
      refine cw_region ?_
      refine s_as (v := .bool false) rfl ?_
      refine done ?_
      refine then_norm ?_
      refine wp_ret (blk_ret (then_ret (then_ret (blk_ret (then_ret ?_)))))
      refine ret1 (fn := Try.f61) rfl ?_ ⟨false, rfl, h, hC.below⟩ (.inl rfl)
      exact res_tmp rfl
    · replace h := iff_ h (not_not_intro ((not_f hb42)))
      refine wp_skip ?_
      refine blk_norm ?_
      refine then_norm ?_
      refine cw_region ?_
      refine s_mv (v := .int .i64 (i23 : Int)) h3_ ?_
      refine s_add rfl rfl ?_
      refine s_as (v := .int .i64 (IntKind.i64.wrap ((i23 : Int) + 1))) rfl ?_
      refine done ?_
      exact hK28 () _ _ ⟨h0_, h2_, (tr rfl (congrArg _ (wrap64_nat hi29 hN25))), hC⟩ h
  · clear hC h
    rintro s24 e_ w43 K27 ⟨h0_, h2_, h3_, hC⟩ h
    refine wp_seq ?_
    refine wp_seq ?_
    refine cw_region ?_
    refine s_mv (v := .int .i64 (a0.length : Int)) h3_ ?_
    refine s_mv (v := u0_0) h0_ ?_
    obtain ⟨Ad44, c45, hv46⟩ := sl_len (hC.getP 0 rfl)
    refine s_len Try.underlying22 (tr rfl hv46) ?_
    refine s_lss rfl rfl ?_
    refine done ?_
    refine then_norm ?_
    refine cw_false rfl (decide_eq_false (by omega)) ?_
    refine wp_exit (then_exit (then_exit (exit_in ?_)))
    refine then_norm ?_
    refine wp_seq ?_
    refine cw_region ?_
    refine s_mv (v := u0_0) h0_ ?_
    obtain ⟨Ad47, c48, hv49⟩ := sl_len (hC.getP 0 rfl)
    refine s_len Try.underlying22 (tr rfl hv49) ?_
    refine s_leq rfl rfl ?_
    refine s_as (v := .bool (decide ((a0.length : Int) ≤ 8))) rfl ?_
    refine done ?_
    refine then_norm ?_
    refine wp_ret ?_
    refine ret1 (fn := Try.f61) rfl ?_ ⟨decide ((a0.length : Int) ≤ 8), rfl, h, hC.below⟩ (.inl rfl)
    exact res_tmp rfl
  · skip
    exact ⟨rfl, rfl, rfl, hC⟩
def f_spec_l01Mono (a0 : List Int) (a1 : A8) (K : Bool → Prop) : Prop :=
  forN (fun i21 (s22 : Unit) next23 => (if (i21 : Int) ≥ (a0.length : Int) then (if a1.get i21 ≠ 0 then K false else next23 ()) else (if a1.get i21 > 20 then K false else ((0 ≤ (i21 : Int) ∧ (i21 : Int) < (a0.length : Int)) ∧ (if Int.tmod (a0.getD i21 default) 2 ≠ 0 then (if a1.get i21 > 1 then K false else next23 ()) else next23 ()))))) (fun (s22 : Unit) => K true) 8 0 ()
theorem c_spec_l01Mono (a0 : List Int) (a1 : A8) {u0_0 : Value} {fp0 : List Nat} {K : Bool → Prop} (h : f_spec_l01Mono a0 a1 K) (w0 : World) (q0 : ((EI .i64).ty.sl).rep a0 [u0_0] fp0 w0) :
    Calls Try.prog 62 #[u0_0, .agg (List.toArray (A8.enc .u8 a1))] w0 fun e w' => ∃ (r0 : Bool), 
      e = .returned (.bool r0) ∧ K r0 ∧ Bel w0 w' := by
  unfold f_spec_l01Mono at h
  refine calls_of (args := [u0_0, .agg (List.toArray (A8.enc .u8 a1))]) Try.func62 rfl 38 Try.ntmps62 (Nat.le_of_ble_eq_true rfl) ?_
  have hC := Ctx.start (X := Nox) w0 [Ty.item ((EI .i64).ty.sl) a0 [u0_0] fp0] (by simp only [List.mem_cons, List.not_mem_nil, or_false, forall_eq_or_imp, forall_eq]; exact q0)
  refine wp_seq ?_
  refine cw_region ?_
  refine s_box (v := .agg (List.toArray (A8.enc .u8 a1))) hC (A8.enc .u8 a1) rfl rfl fun b2 w4 hB_ hC => ?_
  refine s_as (v := .bool false) rfl ?_
  refine done ?_
  refine then_norm ?_
  refine wp_seq ?_
  refine wp_seq ?_
  refine cw_region ?_
  refine s_as (v := .int .i64 0) rfl ?_
  refine done ?_
  refine then_norm ?_
  refine wp_block ?_
  refine loopN (S := Unit) _ _ (fun i21 s22 e_ w_ => e_ 0 = u0_0 ∧ e_ 3 = .pointer (some ⟨b2, 0, none⟩) ∧ e_ 4 = .bool false ∧ e_ 5 = .int .i64 (i21 : Int) ∧ Ctx Nox w0 w_ [blk b2 24 (A8.enc .u8 a1)] [Ty.item ((EI .i64).ty.sl) a0 [u0_0] fp0]) 8 ?_ ?_ (s0 := ()) ?_ h
  · clear hC h
    rintro i21 s22 e_ w27 next23 K24 hi26 ⟨h0_, h3_, h4_, h5_, hC⟩ h hK25
    refine wp_seq ?_
    refine wp_seq ?_
    refine cw_region ?_
    refine s_mv (v := .int .i64 (i21 : Int)) h5_ ?_
    refine s_lss rfl rfl ?_
    refine done ?_
    refine then_norm ?_
    refine cw_true rfl (decide_eq_true (by omega)) ?_
    refine wp_skip ?_
    refine then_norm ?_
    refine wp_seq ?_
    refine wp_block ?_
    refine wp_block ?_
    refine wp_seq ?_
    refine cw_region ?_
    refine s_mv (v := .int .i64 (i21 : Int)) h5_ ?_
    refine s_mv (v := u0_0) h0_ ?_
    obtain ⟨Ad28, c29, hv30⟩ := sl_len (hC.getP 0 rfl)
    refine s_len Try.underlying22 (tr rfl hv30) ?_
    refine s_geq rfl rfl ?_
    refine s_as (v := .bool (decide ((i21 : Int) ≥ (a0.length : Int)))) rfl ?_
    refine done ?_
    refine then_norm ?_
    refine cw_cond rfl (fun hb31 => ?_) (fun hb31 => ?_)
    · replace h := ift h (ct hb31)
      refine wp_seq ?_
      refine cw_region ?_
      refine s_mv (v := .int .i64 (i21 : Int)) h5_ ?_
      refine s_iaddrB i21 Try.underlying24 sc5.size h3_ rfl (Int.natCast_nonneg _) (by omega) (by omega) ?_
      refine s_loadS hC 0 (.int .u8 (a1.get i21)) rfl sc5 rfl (A8.enc_get _ _ hi26) ?_
      refine s_neq rfl rfl ?_
      refine done ?_
      refine then_norm ?_
      refine cw_cond rfl (fun hb32 => ?_) (fun hb32 => ?_)
      · replace h := ift h (ct hb32)
        refine wp_seq ?_
        refine cw_region ?_
        refine s_as (v := .bool false) rfl ?_
        refine done ?_
        refine then_norm ?_
        refine wp_ret (blk_ret (blk_ret (then_ret (then_ret (blk_ret (then_ret ?_))))))
        refine ret1 (fn := Try.f62) rfl ?_ ⟨false, rfl, h, hC.below⟩ (.inl rfl)
        exact res_tmp rfl
      · replace h := iff_ h (cf hb32)
        refine wp_skip ?_
        refine blk_norm ?_
        refine blk_norm ?_
        refine then_norm ?_
        refine cw_region ?_
        refine s_mv (v := .int .i64 (i21 : Int)) h5_ ?_
        refine s_add rfl rfl ?_
        refine s_as (v := .int .i64 (IntKind.i64.wrap ((i21 : Int) + 1))) rfl ?_
        refine done ?_
        exact hK25 () _ _ ⟨h0_, h3_, h4_, (tr rfl (congrArg _ (wrap64_nat hi26 (by decide)))), hC⟩ h
    · replace h := iff_ h (cf hb31)
      refine wp_seq ?_
      refine cw_region ?_
      refine s_mv (v := .int .i64 (i21 : Int)) h5_ ?_
      refine s_iaddrB i21 Try.underlying24 sc5.size h3_ rfl (Int.natCast_nonneg _) (by omega) (by omega) ?_
      refine s_loadS hC 0 (.int .u8 (a1.get i21)) rfl sc5 rfl (A8.enc_get _ _ hi26) ?_
      refine s_gtr rfl rfl ?_
      refine s_mv (v := .bool (decide (a1.get i21 > 20))) rfl ?_
      refine bsplit (decide (a1.get i21 > 20)) (fun hb33 => ?_) (fun hb33 => ?_)
      · replace h := ift h (ct hb33)
        refine guardOff (b := true) 4 24 rfl (tr rfl (congrArg _ hb33)) (by decide) ?_
        refine guardOff (b := true) 4 24 rfl (tr rfl (congrArg _ hb33)) (by decide) ?_
        refine guardOff (b := true) 4 24 rfl (tr rfl (congrArg _ hb33)) (by decide) ?_
        refine guardOff (b := true) 4 24 rfl (tr rfl (congrArg _ hb33)) (by decide) ?_
        refine guardOff (b := true) 4 24 rfl (tr rfl (congrArg _ hb33)) (by decide) ?_
        refine guardOff (b := true) 4 24 rfl (tr rfl (congrArg _ hb33)) (by decide) ?_
        refine guardOff (b := true) 4 24 rfl (tr rfl (congrArg _ hb33)) (by decide) ?_
        refine guardOffU 11 31 rfl rfl ?_
        refine guardOffU 11 31 rfl rfl ?_
        refine guardOffU 11 31 rfl rfl ?_
        refine guardOffU 11 31 rfl rfl ?_
        refine guardOff (b := true) 4 24 rfl (tr rfl (congrArg _ hb33)) (by decide) ?_
        refine s_pick (v := .bool true) (b := true) (tr rfl (congrArg _ hb33)) rfl ?_
        refine s_as (v := .bool true) rfl ?_
        refine done ?_
        refine then_norm ?_
        refine cw_true rfl rfl ?_
        refine wp_seq ?_
        refine cw_region ?_
        refine s_as (v := .bool false) rfl ?_
        refine done ?_
        refine then_norm ?_
        refine wp_ret (blk_ret (blk_ret (then_ret (then_ret (blk_ret (then_ret ?_))))))
        refine ret1 (fn := Try.f62) rfl ?_ ⟨false, rfl, h, hC.below⟩ (.inl rfl)
        exact res_tmp rfl
      · replace h := iff_ h (cf hb33)
        refine guardOn 4 24 rfl rfl hb33 ?_
        refine s_mv (v := u0_0) h0_ ?_
        refine guardOn 4 24 rfl rfl hb33 ?_
        refine s_mv (v := .int .i64 (i21 : Int)) h5_ ?_
        refine guardOn 4 24 rfl rfl hb33 ?_
        obtain ⟨⟨h0_34, h1_35⟩, h⟩ := h
        obtain ⟨Ad36, c37, hv38⟩ := sl_form (hC.getP 0 rfl) i21 (show i21 < a0.length by omega)
        refine s_iaddrS (len := a0.length) Try.underlying22 sc2.size (tr rfl hv38) rfl h0_34 h1_35 ?_
        refine guardOn 4 24 rfl rfl hb33 ?_
        refine s_loadCS (.int .i64 (a0.getD i21 default)) (sl_cellsE (hC.getP 0 rfl) hv38 i21 (show i21 < a0.length by omega)) sc2 rfl ?_
        refine guardOn 4 24 rfl rfl hb33 ?_
        refine s_rem rfl rfl (by decide) ?_
        refine guardOn 4 24 rfl rfl hb33 ?_
        refine s_neq rfl rfl ?_
        refine guardOn 4 24 rfl rfl hb33 ?_
        refine s_mv (v := .bool (decide (Int.tmod (a0.getD i21 default) 2 ≠ 0))) rfl ?_
        refine bsplit (decide (Int.tmod (a0.getD i21 default) 2 ≠ 0)) (fun hb39 => ?_) (fun hb39 => ?_)
        · replace h := ift h (ct hb39)
          refine guardOn 11 31 rfl rfl hb39 ?_
          refine s_mv (v := .int .i64 (i21 : Int)) h5_ ?_
          refine guardOn 11 31 rfl rfl hb39 ?_
          refine s_iaddrB i21 Try.underlying24 sc5.size h3_ rfl (Int.natCast_nonneg _) (by omega) (by omega) ?_
          refine guardOn 11 31 rfl rfl hb39 ?_
          refine s_loadS hC 0 (.int .u8 (a1.get i21)) rfl sc5 rfl (A8.enc_get _ _ hi26) ?_
          refine guardOn 11 31 rfl rfl hb39 ?_
          refine s_gtr rfl rfl ?_
          refine guardOn 4 24 rfl rfl hb33 ?_
          refine s_pick (v := .bool (decide (a1.get i21 > 1))) (b := true) (tr rfl (congrArg _ hb39)) rfl ?_
          refine s_pick (v := .bool (decide (a1.get i21 > 1))) (b := false) (tr rfl (congrArg _ hb33)) rfl ?_
          refine s_as (v := .bool (decide (a1.get i21 > 1))) rfl ?_
          refine done ?_
          refine then_norm ?_
          refine cw_cond rfl (fun hb40 => ?_) (fun hb40 => ?_)
          · replace h := ift h (ct hb40)
            refine wp_seq ?_
            refine cw_region ?_
            refine s_as (v := .bool false) rfl ?_
            refine done ?_
            refine then_norm ?_
            refine wp_ret (blk_ret (blk_ret (then_ret (then_ret (blk_ret (then_ret ?_))))))
            refine ret1 (fn := Try.f62) rfl ?_ ⟨false, rfl, h, hC.below⟩ (.inl rfl)
            exact res_tmp rfl
          · replace h := iff_ h (cf hb40)
            refine wp_skip ?_
            refine blk_norm ?_
            refine blk_norm ?_
            refine then_norm ?_
            refine cw_region ?_
            refine s_mv (v := .int .i64 (i21 : Int)) h5_ ?_
            refine s_add rfl rfl ?_
            refine s_as (v := .int .i64 (IntKind.i64.wrap ((i21 : Int) + 1))) rfl ?_
            refine done ?_
            exact hK25 () _ _ ⟨h0_, h3_, h4_, (tr rfl (congrArg _ (wrap64_nat hi26 (by decide)))), hC⟩ h
        · replace h := iff_ h (cf hb39)
          refine guardOff (b := false) 11 31 rfl (tr rfl (congrArg _ hb39)) (by decide) ?_
          refine guardOff (b := false) 11 31 rfl (tr rfl (congrArg _ hb39)) (by decide) ?_
          refine guardOff (b := false) 11 31 rfl (tr rfl (congrArg _ hb39)) (by decide) ?_
          refine guardOff (b := false) 11 31 rfl (tr rfl (congrArg _ hb39)) (by decide) ?_
          refine guardOn 4 24 rfl rfl hb33 ?_
          refine s_pick (v := .bool false) (b := false) (tr rfl (congrArg _ hb39)) rfl ?_
          refine s_pick (v := .bool false) (b := false) (tr rfl (congrArg _ hb33)) rfl ?_
          refine s_as (v := .bool false) rfl ?_
          refine done ?_
          refine then_norm ?_
          refine cw_false rfl rfl ?_
          refine wp_skip ?_
          refine blk_norm ?_
          refine blk_norm ?_
          refine then_norm ?_
          refine cw_region ?_
          refine s_mv (v := .int .i64 (i21 : Int)) h5_ ?_
          refine s_add rfl rfl ?_
          refine s_as (v := .int .i64 (IntKind.i64.wrap ((i21 : Int) + 1))) rfl ?_
          refine done ?_
          exact hK25 () _ _ ⟨h0_, h3_, h4_, (tr rfl (congrArg _ (wrap64_nat hi26 (by decide)))), hC⟩ h
  · clear hC h
    rintro s22 e_ w41 K24 ⟨h0_, h3_, h4_, h5_, hC⟩ h
    refine wp_seq ?_
    refine wp_seq ?_
    refine cw_region ?_
    refine s_mv (v := .int .i64 8) h5_ ?_
    refine s_lss rfl rfl ?_
    refine done ?_
    refine then_norm ?_
    refine cw_false rfl (decide_eq_false (by omega)) ?_
    refine wp_exit (then_exit (then_exit (exit_in ?_)))
    refine then_norm ?_
    refine wp_seq ?_
    refine cw_region ?_
    refine s_as (v := .bool true) rfl ?_
    refine done ?_
    refine then_norm ?_
    refine wp_ret ?_
    refine ret1 (fn := Try.f62) rfl ?_ ⟨true, rfl, h, hC.below⟩ (.inl rfl)
    exact res_tmp rfl
  · skip
    exact ⟨rfl, rfl, rfl, rfl, hC⟩
def f_spec_l01Joined (a0 : List Int) (a1 : A8) (a2 : A8) (K : A8 → Int → Prop) : Prop :=
  forN (fun i174 (s175 : A8 × Int) next177 => ((0 ≤ (i174 : Int) ∧ (i174 : Int) < 8) ∧ ((0 ≤ (i174 : Int) ∧ (i174 : Int) < 8) ∧ ((0 ≤ (i174 : Int) ∧ (i174 : Int) < 8) ∧ (if Int.tmod (a0.getD i174 default) 2 = 0 then next177 (s175.1.set i174 (IntKind.u8.wrap ((a1.get i174) + (a2.get i174))), s175.2) else ((0 ≤ (i174 : Int) ∧ (i174 : Int) < 8) ∧ (if (s175.1.set i174 (IntKind.u8.wrap ((a1.get i174) + (a2.get i174)))).get i174 > 1 then K A8.zero 0 else whileP (fun (s235 : Int × Int) next236 => (if s235.1 < (a0.length : Int) then ((0 ≤ (i174 : Int) ∧ (i174 : Int) < 8) ∧ (if a2.get i174 = 1 then ((0 ≤ s235.1 ∧ s235.1 < (a0.length : Int)) ∧ (if Int.tmod (a0.getD s235.1.toNat default) 2 ≠ 0 then ((0 ≤ s235.1 ∧ s235.1 < 8) ∧ (if a1.get s235.1.toNat = 1 then next236 (IntKind.i64.wrap (s235.1 + 1), IntKind.i64.wrap (0 - s235.2)) else next236 (IntKind.i64.wrap (s235.1 + 1), s235.2))) else next236 (IntKind.i64.wrap (s235.1 + 1), s235.2))) else next177 (s175.1.set i174 (IntKind.u8.wrap ((a1.get i174) + (a2.get i174))), s235.2))) else next177 (s175.1.set i174 (IntKind.u8.wrap ((a1.get i174) + (a2.get i174))), s235.2))) (IntKind.i64.wrap ((i174 : Int) + 1), s175.2)))))))) (fun (s175 : A8 × Int) => K s175.1 s175.2) a0.length 0 (A8.zero, 1)
theorem c_spec_l01Joined (a0 : List Int) (a1 : A8) (a2 : A8) {u0_0 : Value} {fp0 : List Nat} {K : A8 → Int → Prop} (h : f_spec_l01Joined a0 a1 a2 K) (w0 : World) (q0 : ((EI .i64).ty.sl).rep a0 [u0_0] fp0 w0) :
    Calls Try.prog 63 #[u0_0, .agg (List.toArray (A8.enc .u8 a1)), .agg (List.toArray (A8.enc .u8 a2))] w0 fun e w' => ∃ (r0 : A8) (r1 : Int), 
      e = .returned (.tuple #[.agg (List.toArray (A8.enc .u8 r0)), .int .i64 r1]) ∧ K r0 r1 ∧ Bel w0 w' := by
  unfold f_spec_l01Joined at h
  refine calls_of (args := [u0_0, .agg (List.toArray (A8.enc .u8 a1)), .agg (List.toArray (A8.enc .u8 a2))]) Try.func63 rfl 69 Try.ntmps63 (Nat.le_of_ble_eq_true rfl) ?_
  have hC := Ctx.start (X := Nox) w0 [Ty.item ((EI .i64).ty.sl) a0 [u0_0] fp0] (by simp only [List.mem_cons, List.not_mem_nil, or_false, forall_eq_or_imp, forall_eq]; exact q0)
  refine wp_seq ?_
  refine cw_region ?_
  refine s_box (v := .agg (List.toArray (A8.enc .u8 a1))) hC (A8.enc .u8 a1) rfl rfl fun b2 w4 hB_ hC => ?_
  refine s_box (v := .agg (List.toArray (A8.enc .u8 a2))) hC (A8.enc .u8 a2) rfl rfl fun b5 w7 hB_ hC => ?_
  refine s_alloc hC (A8.enc .u8 A8.zero) z24 rfl fun b8 w10 hB_ hC => ?_
  refine s_as (v := .int .i64 0) rfl ?_
  refine done ?_
  refine then_norm ?_
  refine wp_seq ?_
  refine cw_region ?_
  refine s_build [] rfl (bl24  _) ?_
  refine s_alloc hC (A8.enc .u8 A8.zero) z24 rfl fun b11 w13 hB_ hC => ?_
  refine s_store (v := .agg (List.toArray (A8.enc .u8 A8.zero))) hC 0 (A8.enc .u8 A8.zero) (A8.enc .u8 A8.zero) rfl ag24.size rfl rfl rfl rfl rfl (Nat.le_of_ble_eq_true rfl) rfl fun w14 hC => ?_
  refine s_as (v := .int .i64 1) rfl ?_
  refine done ?_
  refine then_norm ?_
  refine wp_seq ?_
  refine wp_seq ?_
  refine cw_region ?_
  refine s_as (v := .int .i64 0) rfl ?_
  refine done ?_
  refine then_norm ?_
  refine wp_block ?_
  have hN176 : a0.length ≤ 9223372036854775807 := sl_max (hC.getP 0 rfl)
  refine loopN (S := A8 × Int) _ _ (fun i174 s175 e_ w_ => e_ 0 = u0_0 ∧ e_ 4 = .pointer (some ⟨b2, 0, none⟩) ∧ e_ 5 = .pointer (some ⟨b5, 0, none⟩) ∧ e_ 6 = .pointer (some ⟨b8, 0, none⟩) ∧ e_ 7 = .int .i64 0 ∧ e_ 8 = .pointer (some ⟨b11, 0, none⟩) ∧ e_ 9 = .int .i64 s175.2 ∧ e_ 10 = .int .i64 (i174 : Int) ∧ Ctx Nox w0 w_ [blk b11 24 (A8.enc .u8 s175.1), blk b8 24 (A8.enc .u8 A8.zero), blk b5 24 (A8.enc .u8 a2), blk b2 24 (A8.enc .u8 a1)] [Ty.item ((EI .i64).ty.sl) a0 [u0_0] fp0]) a0.length ?_ ?_ (s0 := (A8.zero, 1)) ?_ h
  · clear hC h
    rintro i174 s175 e_ w181 next177 K178 hi180 ⟨h0_, h4_, h5_, h6_, h7_, h8_, h9_, h10_, hC⟩ h hK179
    refine wp_seq ?_
    refine wp_seq ?_
    refine cw_region ?_
    refine s_mv (v := .int .i64 (i174 : Int)) h10_ ?_
    refine s_mv (v := u0_0) h0_ ?_
    obtain ⟨Ad182, c183, hv184⟩ := sl_len (hC.getP 0 rfl)
    refine s_len Try.underlying22 (tr rfl hv184) ?_
    refine s_lss rfl rfl ?_
    refine done ?_
    refine then_norm ?_
    refine cw_true rfl (decide_eq_true (by omega)) ?_
    refine wp_skip ?_
    refine then_norm ?_
    refine wp_seq ?_
    refine wp_block ?_
    refine wp_seq ?_
    refine cw_draw 8 mixed (fun w185 hB_ => ?_)
    replace hC := hC.grow hB_
    refine ae_lookF 0 (.int .i64 (i174 : Int)) rfl rfl (by kernel_rfl) (by kernel_rfl) (by kernel_rfl) (fun w_ => .inl ⟨rfl, by exact r_mv (v := .int .i64 (i174 : Int)) h10_⟩) (listed' := (List.toArray [true, false, false, false, false, false, false, false, false, false])) rfl ?_
    refine ae_lookF 1 (.int .i64 (i174 : Int)) rfl rfl (by kernel_rfl) (by kernel_rfl) (by kernel_rfl) (fun w_ => .inl ⟨rfl, by exact r_mv (v := .int .i64 (i174 : Int)) h10_⟩) (listed' := (List.toArray [true, true, false, false, false, false, false, false, false, false])) rfl ?_
    obtain ⟨⟨h0_186, h1_187⟩, h⟩ := h
    refine ae_look 2 (.pointer (some ⟨b2, i174, none⟩)) rfl rfl (by kernel_rfl) (by kernel_rfl) (by kernel_rfl) (fun w_ hB_ => .inl ⟨rfl, by exact r_iaddrB i174 Try.underlying24 sc5.size h4_ rfl h0_186 h1_187 (by omega)⟩) (listed' := (List.toArray [true, true, true, false, false, false, false, false, false, false])) rfl ?_
    refine ae_look 3 (.int .u8 (a1.get i174)) rfl rfl (by kernel_rfl) (by kernel_rfl) (by kernel_rfl) (fun w_ hB_ => .inl ⟨rfl, by exact r_loadS (hC.grow hB_) 3 (.int .u8 (a1.get i174)) rfl sc5 rfl (A8.enc_get _ _ (show i174 < 8 by omega))⟩) (listed' := (List.toArray [true, true, true, true, false, false, false, false, false, false])) rfl ?_
    refine ae_lookF 4 (.int .i64 (i174 : Int)) rfl rfl (by kernel_rfl) (by kernel_rfl) (by kernel_rfl) (fun w_ => .inl ⟨rfl, by exact r_mv (v := .int .i64 (i174 : Int)) h10_⟩) (listed' := (List.toArray [true, true, true, true, true, false, false, false, false, false])) rfl ?_
    obtain ⟨⟨h0_188, h1_189⟩, h⟩ := h
    refine ae_look 5 (.pointer (some ⟨b5, i174, none⟩)) rfl rfl (by kernel_rfl) (by kernel_rfl) (by kernel_rfl) (fun w_ hB_ => .inl ⟨rfl, by exact r_iaddrB i174 Try.underlying24 sc5.size h5_ rfl h0_188 h1_189 (by omega)⟩) (listed' := (List.toArray [true, true, true, true, true, true, false, false, false, false])) rfl ?_
    refine ae_look 6 (.int .u8 (a2.get i174)) rfl rfl (by kernel_rfl) (by kernel_rfl) (by kernel_rfl) (fun w_ hB_ => .inl ⟨rfl, by exact r_loadS (hC.grow hB_) 2 (.int .u8 (a2.get i174)) rfl sc5 rfl (A8.enc_get _ _ (show i174 < 8 by omega))⟩) (listed' := (List.toArray [true, true, true, true, true, true, true, false, false, false])) rfl ?_
    refine ae_lookF 7 (.int .u8 (IntKind.u8.wrap ((a1.get i174) + (a2.get i174)))) rfl rfl (by kernel_rfl) (by kernel_rfl) (by kernel_rfl) (fun w_ => .inl ⟨rfl, by exact r_add rfl rfl⟩) (listed' := (List.toArray [true, true, true, true, true, true, true, true, false, false])) rfl ?_
    refine ae_tail 8 (by decide) (by decide) (by kernel_rfl) rfl rfl ?_
    obtain ⟨⟨h0_190, h1_191⟩, h⟩ := h
    refine s_iaddrB i174 Try.underlying24 sc5.size h8_ rfl h0_190 h1_191 (by omega) ?_
    refine s_store (v := .int .u8 (IntKind.u8.wrap ((a1.get i174) + (a2.get i174)))) hC 0 [.int .u8 (IntKind.u8.wrap ((a1.get i174) + (a2.get i174)))] (A8.enc .u8 (s175.1.set i174 (IntKind.u8.wrap ((a1.get i174) + (a2.get i174))))) rfl sc5.size rfl rfl rfl rfl rfl (show i174 < 8 by omega) (A8.enc_set _ _ _ (show i174 < 8 by omega)) fun w192 hC => ?_
    refine done ?_
    refine qn_norm ?_
    refine then_norm ?_
    refine wp_seq ?_
    refine wp_seq ?_
    refine cw_region ?_
    refine s_mv (v := u0_0) h0_ ?_
    refine s_mv (v := .int .i64 (i174 : Int)) h10_ ?_
    obtain ⟨Ad193, c194, hv195⟩ := sl_form (hC.getP 0 rfl) i174 hi180
    refine s_iaddrS (len := a0.length) Try.underlying22 sc2.size (tr rfl hv195) rfl (Int.natCast_nonneg _) (Int.ofNat_lt.2 hi180) ?_
    refine s_loadCS (.int .i64 (a0.getD i174 default)) (sl_cellsE (hC.getP 0 rfl) hv195 i174 hi180) sc2 rfl ?_
    refine s_rem rfl rfl (by decide) ?_
    refine s_eql rfl rfl ?_
    refine done ?_
    refine then_norm ?_
    refine cw_cond rfl (fun hb196 => ?_) (fun hb196 => ?_)
    · replace h := ift h (ct hb196)
      refine wp_exit (then_exit (exit_in ?_))
      refine then_norm ?_
      refine cw_region ?_
      refine s_mv (v := .int .i64 (i174 : Int)) h10_ ?_
      refine s_add rfl rfl ?_
      refine s_as (v := .int .i64 (IntKind.i64.wrap ((i174 : Int) + 1))) rfl ?_
      refine done ?_
      exact hK179 (s175.1.set i174 (IntKind.u8.wrap ((a1.get i174) + (a2.get i174))), s175.2) _ _ ⟨h0_, h4_, h5_, h6_, h7_, h8_, h9_, (tr rfl (congrArg _ (wrap64_nat hi180 hN176))), hC⟩ h
    · replace h := iff_ h (cf hb196)
      refine wp_skip ?_
      refine then_norm ?_
      refine wp_seq ?_
      refine wp_seq ?_
      refine cw_region ?_
      refine s_mv (v := .int .i64 (i174 : Int)) h10_ ?_
      obtain ⟨⟨h0_197, h1_198⟩, h⟩ := h
      refine s_iaddrB i174 Try.underlying24 sc5.size h8_ rfl h0_197 h1_198 (by omega) ?_
      refine s_loadS hC 0 (.int .u8 ((s175.1.set i174 (IntKind.u8.wrap ((a1.get i174) + (a2.get i174)))).get i174)) rfl sc5 rfl (A8.enc_get _ _ (show i174 < 8 by omega)) ?_
      refine s_gtr rfl rfl ?_
      refine done ?_
      refine then_norm ?_
      refine cw_cond rfl (fun hb199 => ?_) (fun hb199 => ?_)
      · replace h := ift h (ct hb199)
        refine wp_seq ?_
        refine cw_region ?_
        refine s_build [] rfl (bl24  _) ?_
        refine s_store (v := .agg (List.toArray (A8.enc .u8 A8.zero))) hC 1 (A8.enc .u8 A8.zero) (A8.enc .u8 A8.zero) rfl ag24.size h6_ rfl rfl rfl rfl (Nat.le_of_ble_eq_true rfl) rfl fun w200 hC => ?_
        refine s_as (v := .int .i64 0) rfl ?_
        refine done ?_
        refine then_norm ?_
        refine wp_ret (then_ret (blk_ret (then_ret (then_ret (blk_ret (then_ret ?_))))))
        refine ret2 (fn := Try.f63) rfl ?_ ?_ ⟨A8.zero, 0, rfl, h, hC.below⟩ (.inl rfl)
        · exact res_cellA hC 1 rfl ag24 h6_ rfl
        · exact res_tmp rfl
      · replace h := iff_ h (cf hb199)
        refine wp_skip ?_
        refine then_norm ?_
        refine wp_seq ?_
        refine cw_region ?_
        refine s_mv (v := .int .i64 (i174 : Int)) h10_ ?_
        refine s_add rfl rfl ?_
        refine s_as (v := .int .i64 (IntKind.i64.wrap ((i174 : Int) + 1))) rfl ?_
        refine done ?_
        refine then_norm ?_
        refine wp_block ?_
        refine loopW (S := Int × Int) _ (fun s235 e_ w_ => e_ 0 = u0_0 ∧ e_ 4 = .pointer (some ⟨b2, 0, none⟩) ∧ e_ 5 = .pointer (some ⟨b5, 0, none⟩) ∧ e_ 6 = .pointer (some ⟨b8, 0, none⟩) ∧ e_ 7 = .int .i64 0 ∧ e_ 8 = .pointer (some ⟨b11, 0, none⟩) ∧ e_ 9 = .int .i64 s235.2 ∧ e_ 10 = .int .i64 (i174 : Int) ∧ e_ 11 = .int .i64 s235.1 ∧ e_ 13 = .int .i64 (i174 : Int) ∧ e_ 14 = u0_0 ∧ e_ 15 = .int .i64 (a0.length : Int) ∧ e_ 16 = .bool (decide ((i174 : Int) < (a0.length : Int))) ∧ e_ 19 = .int .i64 (i174 : Int) ∧ e_ 20 = .int .i64 (i174 : Int) ∧ e_ 21 = .pointer (some ⟨b2, i174, none⟩) ∧ e_ 22 = .int .u8 (a1.get i174) ∧ e_ 23 = .int .i64 (i174 : Int) ∧ e_ 24 = .pointer (some ⟨b5, i174, none⟩) ∧ e_ 25 = .int .u8 (a2.get i174) ∧ e_ 26 = .int .u8 (IntKind.u8.wrap ((a1.get i174) + (a2.get i174))) ∧ e_ 27 = .pointer (some ⟨b11, i174, none⟩) ∧ e_ 28 = u0_0 ∧ e_ 29 = .int .i64 (i174 : Int) ∧ e_ 30 = .pointer (some (Ad193.add (i174 * 1))) ∧ e_ 31 = .int .i64 (a0.getD i174 default) ∧ e_ 32 = .int .i64 (Int.tmod (a0.getD i174 default) 2) ∧ e_ 33 = .bool (decide (Int.tmod (a0.getD i174 default) 2 = 0)) ∧ e_ 34 = .int .i64 (i174 : Int) ∧ e_ 35 = .pointer (some ⟨b11, i174, none⟩) ∧ e_ 36 = .int .u8 ((s175.1.set i174 (IntKind.u8.wrap ((a1.get i174) + (a2.get i174)))).get i174) ∧ e_ 37 = .bool (decide ((s175.1.set i174 (IntKind.u8.wrap ((a1.get i174) + (a2.get i174)))).get i174 > 1)) ∧ e_ 39 = .int .i64 (i174 : Int) ∧ e_ 40 = .int .i64 (IntKind.i64.wrap ((i174 : Int) + 1)) ∧ Ctx Nox w0 w_ [blk b11 24 (A8.enc .u8 (s175.1.set i174 (IntKind.u8.wrap ((a1.get i174) + (a2.get i174))))), blk b8 24 (A8.enc .u8 A8.zero), blk b5 24 (A8.enc .u8 a2), blk b2 24 (A8.enc .u8 a1)] [Ty.item ((EI .i64).ty.sl) a0 [u0_0] fp0]) ?_ (s0 := (IntKind.i64.wrap ((i174 : Int) + 1), s175.2)) ?_ h
        · clear hC h
          rintro s235 e_ w239 next236 K237 ⟨h0_, h4_, h5_, h6_, h7_, h8_, h9_, h10_, h11_, h13_, h14_, h15_, h16_, h19_, h20_, h21_, h22_, h23_, h24_, h25_, h26_, h27_, h28_, h29_, h30_, h31_, h32_, h33_, h34_, h35_, h36_, h37_, h39_, h40_, hC⟩ h hK238
          refine wp_seq ?_
          refine wp_seq ?_
          refine cw_region ?_
          refine s_mv (v := .int .i64 s235.1) h11_ ?_
          refine s_mv (v := u0_0) h0_ ?_
          obtain ⟨Ad240, c241, hv242⟩ := sl_len (hC.getP 0 rfl)
          refine s_len Try.underlying22 (tr rfl hv242) ?_
          refine s_lss rfl rfl ?_
          refine s_mv (v := .bool (decide (s235.1 < (a0.length : Int)))) rfl ?_
          refine bsplit (decide (s235.1 < (a0.length : Int))) (fun hb243 => ?_) (fun hb243 => ?_)
          · replace h := ift h (ct hb243)
            refine guardOn 4 45 rfl rfl hb243 ?_
            refine s_mv (v := .int .i64 (i174 : Int)) h10_ ?_
            refine guardOn 4 45 rfl rfl hb243 ?_
            obtain ⟨⟨h0_244, h1_245⟩, h⟩ := h
            refine s_iaddrB i174 Try.underlying24 sc5.size h5_ rfl h0_244 h1_245 (by omega) ?_
            refine guardOn 4 45 rfl rfl hb243 ?_
            refine s_loadS hC 2 (.int .u8 (a2.get i174)) rfl sc5 rfl (A8.enc_get _ _ (show i174 < 8 by omega)) ?_
            refine guardOn 4 45 rfl rfl hb243 ?_
            refine s_eql rfl rfl ?_
            refine s_pick (v := .bool (decide (a2.get i174 = 1))) (b := true) (tr rfl (congrArg _ hb243)) rfl ?_
            refine done ?_
            refine then_norm ?_
            refine cw_cond rfl (fun hb246 => ?_) (fun hb246 => ?_)
            · replace h := ift h (ct hb246)
              refine wp_skip ?_
              refine then_norm ?_
              refine wp_seq ?_
              refine wp_block ?_
              refine wp_seq ?_
              refine cw_region ?_
              refine s_mv (v := u0_0) h0_ ?_
              refine s_mv (v := .int .i64 s235.1) h11_ ?_
              obtain ⟨⟨h0_247, h1_248⟩, h⟩ := h
              obtain ⟨Ad249, c250, hv251⟩ := sl_form (hC.getP 0 rfl) s235.1.toNat (show s235.1.toNat < a0.length by omega)
              refine s_iaddrS (len := a0.length) Try.underlying22 sc2.size (tr rfl hv251) rfl h0_247 h1_248 ?_
              refine s_loadCS (.int .i64 (a0.getD s235.1.toNat default)) (sl_cellsE (hC.getP 0 rfl) hv251 s235.1.toNat (show s235.1.toNat < a0.length by omega)) sc2 rfl ?_
              refine s_rem rfl rfl (by decide) ?_
              refine s_neq rfl rfl ?_
              refine s_mv (v := .bool (decide (Int.tmod (a0.getD s235.1.toNat default) 2 ≠ 0))) rfl ?_
              refine bsplit (decide (Int.tmod (a0.getD s235.1.toNat default) 2 ≠ 0)) (fun hb252 => ?_) (fun hb252 => ?_)
              · replace h := ift h (ct hb252)
                refine guardOn 6 59 rfl rfl hb252 ?_
                refine s_mv (v := .int .i64 s235.1) h11_ ?_
                refine guardOn 6 59 rfl rfl hb252 ?_
                obtain ⟨⟨h0_253, h1_254⟩, h⟩ := h
                refine s_iaddrB s235.1.toNat Try.underlying24 sc5.size h4_ rfl h0_253 h1_254 (by omega) ?_
                refine guardOn 6 59 rfl rfl hb252 ?_
                refine s_loadS hC 3 (.int .u8 (a1.get s235.1.toNat)) rfl sc5 rfl (A8.enc_get _ _ (show s235.1.toNat < 8 by omega)) ?_
                refine guardOn 6 59 rfl rfl hb252 ?_
                refine s_eql rfl rfl ?_
                refine s_pick (v := .bool (decide (a1.get s235.1.toNat = 1))) (b := true) (tr rfl (congrArg _ hb252)) rfl ?_
                refine done ?_
                refine then_norm ?_
                refine cw_cond rfl (fun hb255 => ?_) (fun hb255 => ?_)
                · replace h := ift h (ct hb255)
                  refine cw_region ?_
                  refine s_mv (v := .int .i64 s235.2) h9_ ?_
                  refine s_neg rfl ?_
                  refine s_as (v := .int .i64 (IntKind.i64.wrap (0 - s235.2))) rfl ?_
                  refine done ?_
                  refine blk_norm ?_
                  refine then_norm ?_
                  refine cw_region ?_
                  refine s_mv (v := .int .i64 s235.1) h11_ ?_
                  refine s_add rfl rfl ?_
                  refine s_as (v := .int .i64 (IntKind.i64.wrap (s235.1 + 1))) rfl ?_
                  refine done ?_
                  exact hK238 (IntKind.i64.wrap (s235.1 + 1), IntKind.i64.wrap (0 - s235.2)) _ _ ⟨h0_, h4_, h5_, h6_, h7_, h8_, rfl, h10_, rfl, h13_, h14_, h15_, h16_, h19_, h20_, h21_, h22_, h23_, h24_, h25_, h26_, h27_, h28_, h29_, h30_, h31_, h32_, h33_, h34_, h35_, h36_, h37_, h39_, h40_, hC⟩ h
                · replace h := iff_ h (cf hb255)
                  refine wp_skip ?_
                  refine blk_norm ?_
                  refine then_norm ?_
                  refine cw_region ?_
                  refine s_mv (v := .int .i64 s235.1) h11_ ?_
                  refine s_add rfl rfl ?_
                  refine s_as (v := .int .i64 (IntKind.i64.wrap (s235.1 + 1))) rfl ?_
                  refine done ?_
                  exact hK238 (IntKind.i64.wrap (s235.1 + 1), s235.2) _ _ ⟨h0_, h4_, h5_, h6_, h7_, h8_, h9_, h10_, rfl, h13_, h14_, h15_, h16_, h19_, h20_, h21_, h22_, h23_, h24_, h25_, h26_, h27_, h28_, h29_, h30_, h31_, h32_, h33_, h34_, h35_, h36_, h37_, h39_, h40_, hC⟩ h
              · replace h := iff_ h (cf hb252)
                refine guardOff (b := false) 6 59 rfl (tr rfl (congrArg _ hb252)) (by decide) ?_
                refine guardOff (b := false) 6 59 rfl (tr rfl (congrArg _ hb252)) (by decide) ?_
                refine guardOff (b := false) 6 59 rfl (tr rfl (congrArg _ hb252)) (by decide) ?_
                refine guardOff (b := false) 6 59 rfl (tr rfl (congrArg _ hb252)) (by decide) ?_
                refine s_pick (v := .bool false) (b := false) (tr rfl (congrArg _ hb252)) rfl ?_
                refine done ?_
                refine then_norm ?_
                refine cw_false rfl rfl ?_
                refine wp_skip ?_
                refine blk_norm ?_
                refine then_norm ?_
                refine cw_region ?_
                refine s_mv (v := .int .i64 s235.1) h11_ ?_
                refine s_add rfl rfl ?_
                refine s_as (v := .int .i64 (IntKind.i64.wrap (s235.1 + 1))) rfl ?_
                refine done ?_
                exact hK238 (IntKind.i64.wrap (s235.1 + 1), s235.2) _ _ ⟨h0_, h4_, h5_, h6_, h7_, h8_, h9_, h10_, rfl, h13_, h14_, h15_, h16_, h19_, h20_, h21_, h22_, h23_, h24_, h25_, h26_, h27_, h28_, h29_, h30_, h31_, h32_, h33_, h34_, h35_, h36_, h37_, h39_, h40_, hC⟩ h
            · replace h := iff_ h (cf hb246)
              refine wp_exit (then_exit (then_exit (exit_in ?_)))
              refine blk_norm ?_
              refine then_norm ?_
              refine cw_region ?_
              refine s_mv (v := .int .i64 (i174 : Int)) h10_ ?_
              refine s_add rfl rfl ?_
              refine s_as (v := .int .i64 (IntKind.i64.wrap ((i174 : Int) + 1))) rfl ?_
              refine done ?_
              exact hK179 (s175.1.set i174 (IntKind.u8.wrap ((a1.get i174) + (a2.get i174))), s235.2) _ _ ⟨h0_, h4_, h5_, h6_, h7_, h8_, h9_, (tr rfl (congrArg _ (wrap64_nat hi180 hN176))), hC⟩ h
          · replace h := iff_ h (cf hb243)
            refine guardOff (b := false) 4 45 rfl (tr rfl (congrArg _ hb243)) (by decide) ?_
            refine guardOff (b := false) 4 45 rfl (tr rfl (congrArg _ hb243)) (by decide) ?_
            refine guardOff (b := false) 4 45 rfl (tr rfl (congrArg _ hb243)) (by decide) ?_
            refine guardOff (b := false) 4 45 rfl (tr rfl (congrArg _ hb243)) (by decide) ?_
            refine s_pick (v := .bool false) (b := false) (tr rfl (congrArg _ hb243)) rfl ?_
            refine done ?_
            refine then_norm ?_
            refine cw_false rfl rfl ?_
            refine wp_exit (then_exit (then_exit (exit_in ?_)))
            refine blk_norm ?_
            refine then_norm ?_
            refine cw_region ?_
            refine s_mv (v := .int .i64 (i174 : Int)) h10_ ?_
            refine s_add rfl rfl ?_
            refine s_as (v := .int .i64 (IntKind.i64.wrap ((i174 : Int) + 1))) rfl ?_
            refine done ?_
            exact hK179 (s175.1.set i174 (IntKind.u8.wrap ((a1.get i174) + (a2.get i174))), s235.2) _ _ ⟨h0_, h4_, h5_, h6_, h7_, h8_, h9_, (tr rfl (congrArg _ (wrap64_nat hi180 hN176))), hC⟩ h
        · skip
          exact ⟨h0_, h4_, h5_, h6_, h7_, h8_, h9_, h10_, rfl, rfl, rfl, rfl, rfl, rfl, rfl, rfl, rfl, rfl, rfl, rfl, rfl, rfl, rfl, rfl, rfl, rfl, rfl, rfl, rfl, rfl, rfl, rfl, rfl, rfl, hC⟩
  · clear hC h
    rintro s175 e_ w256 K178 ⟨h0_, h4_, h5_, h6_, h7_, h8_, h9_, h10_, hC⟩ h
    refine wp_seq ?_
    refine wp_seq ?_
    refine cw_region ?_
    refine s_mv (v := .int .i64 (a0.length : Int)) h10_ ?_
    refine s_mv (v := u0_0) h0_ ?_
    obtain ⟨Ad257, c258, hv259⟩ := sl_len (hC.getP 0 rfl)
    refine s_len Try.underlying22 (tr rfl hv259) ?_
    refine s_lss rfl rfl ?_
    refine done ?_
    refine then_norm ?_
    refine cw_false rfl (decide_eq_false (by omega)) ?_
    refine wp_exit (then_exit (then_exit (exit_in ?_)))
    refine then_norm ?_
    refine wp_seq ?_
    refine cw_region ?_
    refine s_loadA hC 0 (A8.enc .u8 s175.1) rfl ag24 h8_ rfl rfl ?_
    refine s_mv (v := .int .i64 s175.2) h9_ ?_
    refine s_store (v := .agg (List.toArray (A8.enc .u8 s175.1))) hC 1 (A8.enc .u8 s175.1) (A8.enc .u8 s175.1) rfl ag24.size h6_ rfl rfl rfl rfl (Nat.le_of_ble_eq_true rfl) rfl fun w260 hC => ?_
    refine s_as (v := .int .i64 s175.2) rfl ?_
    refine done ?_
    refine then_norm ?_
    refine wp_ret ?_
    refine ret2 (fn := Try.f63) rfl ?_ ?_ ⟨s175.1, s175.2, rfl, h, hC.below⟩ (.inl rfl)
    · exact res_cellA hC 1 rfl ag24 h6_ rfl
    · exact res_tmp rfl
  · skip
    exact ⟨rfl, rfl, rfl, rfl, rfl, rfl, rfl, rfl, hC⟩
def f_spec_MultiplyMonomials (a0 : List Int) (a1 : A8) (a2 : A8) (K : A8 → Int → Int → Prop) : Prop :=
  f_spec_l01Degrees a0 (fun r14 => (if ¬ (r14 = true) then K A8.zero 0 1 else f_spec_l01Mono a0 a1 (fun r21 => (if ¬ (r21 = true) then K A8.zero 0 1 else f_spec_l01Mono a0 a2 (fun r28 => (if ¬ (r28 = true) then K A8.zero 0 1 else f_spec_l01Joined a0 a1 a2 (fun r35 r36 => (if r36 ≠ 0 then f_spec_l01Mono a0 r35 (fun r46 => (if ¬ (r46 = true) then K A8.zero 0 3 else K r35 r36 0)) else K r35 r36 0))))))))
theorem c_spec_MultiplyMonomials (a0 : List Int) (a1 : A8) (a2 : A8) {u0_0 : Value} {fp0 : List Nat} {K : A8 → Int → Int → Prop} (h : f_spec_MultiplyMonomials a0 a1 a2 K) (w0 : World) (q0 : ((EI .i64).ty.sl).rep a0 [u0_0] fp0 w0) :
    Calls Try.prog 13 #[u0_0, .agg (List.toArray (A8.enc .u8 a1)), .agg (List.toArray (A8.enc .u8 a2))] w0 fun e w' => ∃ (r0 : A8) (r1 : Int) (r2 : Int), 
      e = .returned (.tuple #[.agg (List.toArray (A8.enc .u8 r0)), .int .i64 r1, .int .i64 r2]) ∧ K r0 r1 r2 ∧ Bel w0 w' := by
  unfold f_spec_MultiplyMonomials at h
  refine calls_of (args := [u0_0, .agg (List.toArray (A8.enc .u8 a1)), .agg (List.toArray (A8.enc .u8 a2))]) Try.func13 rfl 45 Try.ntmps13 (Nat.le_of_ble_eq_true rfl) ?_
  have hC := Ctx.start (X := Nox) w0 [Ty.item ((EI .i64).ty.sl) a0 [u0_0] fp0] (by simp only [List.mem_cons, List.not_mem_nil, or_false, forall_eq_or_imp, forall_eq]; exact q0)
  refine wp_seq ?_
  refine cw_region ?_
  refine s_box (v := .agg (List.toArray (A8.enc .u8 a1))) hC (A8.enc .u8 a1) rfl rfl fun b2 w4 hB_ hC => ?_
  refine s_box (v := .agg (List.toArray (A8.enc .u8 a2))) hC (A8.enc .u8 a2) rfl rfl fun b5 w7 hB_ hC => ?_
  refine s_alloc hC (A8.enc .u8 A8.zero) z24 rfl fun b8 w10 hB_ hC => ?_
  refine s_as (v := .int .i64 0) rfl ?_
  refine s_as (v := .int .i64 0) rfl ?_
  refine done ?_
  refine then_norm ?_
  refine wp_seq ?_
  refine wp_seq ?_
  refine cw_region ?_
  refine s_mv (v := u0_0) rfl ?_
  refine s_call [u0_0] _ Try.func61 rfl rfl rfl (c_spec_l01Degrees a0 h _ (hC.getP 0 rfl)) (fun ret11 w13 hR12 => ?_)
  obtain ⟨r14, rfl, h, hB15⟩ := hR12
  refine ⟨_, rfl, ?_⟩
  replace hC := hC.grow hB15
  refine s_not rfl ?_
  refine s_mv (v := .bool (!r14)) rfl ?_
  refine bsplit (!r14) (fun hb16 => ?_) (fun hb16 => ?_)
  · replace h := ift h (ne_t (not_t hb16))
    refine guardOff (b := true) 3 14 rfl (tr rfl (congrArg _ hb16)) (by decide) ?_
    refine guardOff (b := true) 3 14 rfl (tr rfl (congrArg _ hb16)) (by decide) ?_
    refine guardOff (b := true) 3 14 rfl (tr rfl (congrArg _ hb16)) (by decide) ?_
    refine guardOff (b := true) 3 14 rfl (tr rfl (congrArg _ hb16)) (by decide) ?_
    refine s_pick (v := .bool true) (b := true) (tr rfl (congrArg _ hb16)) rfl ?_
    refine s_mv (v := .bool true) rfl ?_
    refine guardOff (b := true) 9 20 rfl (tr rfl (congrArg _ rfl)) (by decide) ?_
    refine guardOff (b := true) 9 20 rfl (tr rfl (congrArg _ rfl)) (by decide) ?_
    refine guardOff (b := true) 9 20 rfl (tr rfl (congrArg _ rfl)) (by decide) ?_
    refine guardOff (b := true) 9 20 rfl (tr rfl (congrArg _ rfl)) (by decide) ?_
    refine s_pick (v := .bool true) (b := true) rfl rfl ?_
    refine done ?_
    refine then_norm ?_
    refine cw_true rfl rfl ?_
    refine wp_seq ?_
    refine cw_region ?_
    refine s_build [] rfl (bl24  _) ?_
    refine s_store (v := .agg (List.toArray (A8.enc .u8 A8.zero))) hC 0 (A8.enc .u8 A8.zero) (A8.enc .u8 A8.zero) rfl ag24.size rfl rfl rfl rfl rfl (Nat.le_of_ble_eq_true rfl) rfl fun w17 hC => ?_
    refine s_as (v := .int .i64 0) rfl ?_
    refine s_as (v := .int .i64 1) rfl ?_
    refine done ?_
    refine then_norm ?_
    refine wp_ret (then_ret ?_)
    refine ret3 (fn := Try.f13) rfl ?_ ?_ ?_ ⟨A8.zero, 0, 1, rfl, h, hC.below⟩ (.inl rfl)
    · exact res_cellA hC 0 rfl ag24 rfl rfl
    · exact res_tmp rfl
    · exact res_tmp rfl
  · replace h := iff_ h (not_not_intro ((not_f hb16)))
    refine guardOn 3 14 rfl rfl hb16 ?_
    refine s_mv (v := u0_0) rfl ?_
    refine guardOn 3 14 rfl rfl hb16 ?_
    refine s_loadA hC 2 (A8.enc .u8 a1) rfl ag24 rfl rfl rfl ?_
    refine guardOn 3 14 rfl rfl hb16 ?_
    refine s_call [u0_0, .agg (List.toArray (A8.enc .u8 a1))] _ Try.func62 rfl rfl rfl (c_spec_l01Mono a0 a1 h _ (hC.getP 0 rfl)) (fun ret18 w20 hR19 => ?_)
    obtain ⟨r21, rfl, h, hB22⟩ := hR19
    refine ⟨_, rfl, ?_⟩
    replace hC := hC.grow hB22
    refine guardOn 3 14 rfl rfl hb16 ?_
    refine s_not rfl ?_
    refine s_pick (v := .bool (!r21)) (b := false) (tr rfl (congrArg _ hb16)) rfl ?_
    refine s_mv (v := .bool (!r21)) rfl ?_
    refine bsplit (!r21) (fun hb23 => ?_) (fun hb23 => ?_)
    · replace h := ift h (ne_t (not_t hb23))
      refine guardOff (b := true) 9 20 rfl (tr rfl (congrArg _ hb23)) (by decide) ?_
      refine guardOff (b := true) 9 20 rfl (tr rfl (congrArg _ hb23)) (by decide) ?_
      refine guardOff (b := true) 9 20 rfl (tr rfl (congrArg _ hb23)) (by decide) ?_
      refine guardOff (b := true) 9 20 rfl (tr rfl (congrArg _ hb23)) (by decide) ?_
      refine s_pick (v := .bool true) (b := true) (tr rfl (congrArg _ hb23)) rfl ?_
      refine done ?_
      refine then_norm ?_
      refine cw_true rfl rfl ?_
      refine wp_seq ?_
      refine cw_region ?_
      refine s_build [] rfl (bl24  _) ?_
      refine s_store (v := .agg (List.toArray (A8.enc .u8 A8.zero))) hC 0 (A8.enc .u8 A8.zero) (A8.enc .u8 A8.zero) rfl ag24.size rfl rfl rfl rfl rfl (Nat.le_of_ble_eq_true rfl) rfl fun w24 hC => ?_
      refine s_as (v := .int .i64 0) rfl ?_
      refine s_as (v := .int .i64 1) rfl ?_
      refine done ?_
      refine then_norm ?_
      refine wp_ret (then_ret ?_)
      refine ret3 (fn := Try.f13) rfl ?_ ?_ ?_ ⟨A8.zero, 0, 1, rfl, h, hC.below⟩ (.inl rfl)
      · exact res_cellA hC 0 rfl ag24 rfl rfl
      · exact res_tmp rfl
      · exact res_tmp rfl
    · replace h := iff_ h (not_not_intro ((not_f hb23)))
      refine guardOn 9 20 rfl rfl hb23 ?_
      refine s_mv (v := u0_0) rfl ?_
      refine guardOn 9 20 rfl rfl hb23 ?_
      refine s_loadA hC 1 (A8.enc .u8 a2) rfl ag24 rfl rfl rfl ?_
      refine guardOn 9 20 rfl rfl hb23 ?_
      refine s_call [u0_0, .agg (List.toArray (A8.enc .u8 a2))] _ Try.func62 rfl rfl rfl (c_spec_l01Mono a0 a2 h _ (hC.getP 0 rfl)) (fun ret25 w27 hR26 => ?_)
      obtain ⟨r28, rfl, h, hB29⟩ := hR26
      refine ⟨_, rfl, ?_⟩
      replace hC := hC.grow hB29
      refine guardOn 9 20 rfl rfl hb23 ?_
      refine s_not rfl ?_
      refine s_pick (v := .bool (!r28)) (b := false) (tr rfl (congrArg _ hb23)) rfl ?_
      refine done ?_
      refine then_norm ?_
      refine cw_cond rfl (fun hb30 => ?_) (fun hb30 => ?_)
      · replace h := ift h (ne_t (not_t hb30))
        refine wp_seq ?_
        refine cw_region ?_
        refine s_build [] rfl (bl24  _) ?_
        refine s_store (v := .agg (List.toArray (A8.enc .u8 A8.zero))) hC 0 (A8.enc .u8 A8.zero) (A8.enc .u8 A8.zero) rfl ag24.size rfl rfl rfl rfl rfl (Nat.le_of_ble_eq_true rfl) rfl fun w31 hC => ?_
        refine s_as (v := .int .i64 0) rfl ?_
        refine s_as (v := .int .i64 1) rfl ?_
        refine done ?_
        refine then_norm ?_
        refine wp_ret (then_ret ?_)
        refine ret3 (fn := Try.f13) rfl ?_ ?_ ?_ ⟨A8.zero, 0, 1, rfl, h, hC.below⟩ (.inl rfl)
        · exact res_cellA hC 0 rfl ag24 rfl rfl
        · exact res_tmp rfl
        · exact res_tmp rfl
      · replace h := iff_ h (not_not_intro ((not_f hb30)))
        refine wp_skip ?_
        refine then_norm ?_
        refine wp_seq ?_
        refine cw_region ?_
        refine s_mv (v := u0_0) rfl ?_
        refine s_loadA hC 2 (A8.enc .u8 a1) rfl ag24 rfl rfl rfl ?_
        refine s_loadA hC 1 (A8.enc .u8 a2) rfl ag24 rfl rfl rfl ?_
        refine s_call [u0_0, .agg (List.toArray (A8.enc .u8 a1)), .agg (List.toArray (A8.enc .u8 a2))] _ Try.func63 rfl rfl rfl (c_spec_l01Joined a0 a1 a2 h _ (hC.getP 0 rfl)) (fun ret32 w34 hR33 => ?_)
        obtain ⟨r35, r36, rfl, h, hB37⟩ := hR33
        refine ⟨_, rfl, ?_⟩
        replace hC := hC.grow hB37
        refine s_mv (v := .tuple #[.agg (List.toArray (A8.enc .u8 r35)), .int .i64 r36]) rfl ?_
        refine s_ext (v := .agg (List.toArray (A8.enc .u8 r35))) rfl rfl ?_
        refine s_ext (v := .int .i64 r36) rfl rfl ?_
        refine s_alloc hC (A8.enc .u8 A8.zero) z24 rfl fun b38 w40 hB_ hC => ?_
        refine s_store (v := .agg (List.toArray (A8.enc .u8 r35))) hC 0 (A8.enc .u8 r35) (A8.enc .u8 r35) rfl ag24.size rfl rfl rfl rfl rfl (Nat.le_of_ble_eq_true rfl) rfl fun w41 hC => ?_
        refine s_as (v := .int .i64 r36) rfl ?_
        refine done ?_
        refine then_norm ?_
        refine wp_seq ?_
        refine wp_seq ?_
        refine cw_region ?_
        refine s_mv (v := .int .i64 r36) rfl ?_
        refine s_neq rfl rfl ?_
        refine s_mv (v := .bool (decide (r36 ≠ 0))) rfl ?_
        refine bsplit (decide (r36 ≠ 0)) (fun hb42 => ?_) (fun hb42 => ?_)
        · replace h := ift h (ct hb42)
          refine guardOn 2 36 rfl rfl hb42 ?_
          refine s_mv (v := u0_0) rfl ?_
          refine guardOn 2 36 rfl rfl hb42 ?_
          refine s_loadA hC 0 (A8.enc .u8 r35) rfl ag24 rfl rfl rfl ?_
          refine guardOn 2 36 rfl rfl hb42 ?_
          refine s_call [u0_0, .agg (List.toArray (A8.enc .u8 r35))] _ Try.func62 rfl rfl rfl (c_spec_l01Mono a0 r35 h _ (hC.getP 0 rfl)) (fun ret43 w45 hR44 => ?_)
          obtain ⟨r46, rfl, h, hB47⟩ := hR44
          refine ⟨_, rfl, ?_⟩
          replace hC := hC.grow hB47
          refine guardOn 2 36 rfl rfl hb42 ?_
          refine s_not rfl ?_
          refine s_pick (v := .bool (!r46)) (b := true) (tr rfl (congrArg _ hb42)) rfl ?_
          refine done ?_
          refine then_norm ?_
          refine cw_cond rfl (fun hb48 => ?_) (fun hb48 => ?_)
          · replace h := ift h (ne_t (not_t hb48))
            refine wp_seq ?_
            refine cw_region ?_
            refine s_build [] rfl (bl24  _) ?_
            refine s_store (v := .agg (List.toArray (A8.enc .u8 A8.zero))) hC 1 (A8.enc .u8 A8.zero) (A8.enc .u8 A8.zero) rfl ag24.size rfl rfl rfl rfl rfl (Nat.le_of_ble_eq_true rfl) rfl fun w49 hC => ?_
            refine s_as (v := .int .i64 0) rfl ?_
            refine s_as (v := .int .i64 3) rfl ?_
            refine done ?_
            refine then_norm ?_
            refine wp_ret (then_ret ?_)
            refine ret3 (fn := Try.f13) rfl ?_ ?_ ?_ ⟨A8.zero, 0, 3, rfl, h, hC.below⟩ (.inl rfl)
            · exact res_cellA hC 1 rfl ag24 rfl rfl
            · exact res_tmp rfl
            · exact res_tmp rfl
          · replace h := iff_ h (not_not_intro ((not_f hb48)))
            refine wp_skip ?_
            refine then_norm ?_
            refine wp_seq ?_
            refine cw_region ?_
            refine s_loadA hC 0 (A8.enc .u8 r35) rfl ag24 rfl rfl rfl ?_
            refine s_mv (v := .int .i64 r36) rfl ?_
            refine s_store (v := .agg (List.toArray (A8.enc .u8 r35))) hC 1 (A8.enc .u8 r35) (A8.enc .u8 r35) rfl ag24.size rfl rfl rfl rfl rfl (Nat.le_of_ble_eq_true rfl) rfl fun w50 hC => ?_
            refine s_as (v := .int .i64 r36) rfl ?_
            refine s_as (v := .int .i64 0) rfl ?_
            refine done ?_
            refine then_norm ?_
            refine wp_ret ?_
            refine ret3 (fn := Try.f13) rfl ?_ ?_ ?_ ⟨r35, r36, 0, rfl, h, hC.below⟩ (.inl rfl)
            · exact res_cellA hC 1 rfl ag24 rfl rfl
            · exact res_tmp rfl
            · exact res_tmp rfl
        · replace h := iff_ h (cf hb42)
          refine guardOff (b := false) 2 36 rfl (tr rfl (congrArg _ hb42)) (by decide) ?_
          refine guardOff (b := false) 2 36 rfl (tr rfl (congrArg _ hb42)) (by decide) ?_
          refine guardOff (b := false) 2 36 rfl (tr rfl (congrArg _ hb42)) (by decide) ?_
          refine guardOff (b := false) 2 36 rfl (tr rfl (congrArg _ hb42)) (by decide) ?_
          refine s_pick (v := .bool false) (b := false) (tr rfl (congrArg _ hb42)) rfl ?_
          refine done ?_
          refine then_norm ?_
          refine cw_false rfl rfl ?_
          refine wp_skip ?_
          refine then_norm ?_
          refine wp_seq ?_
          refine cw_region ?_
          refine s_loadA hC 0 (A8.enc .u8 r35) rfl ag24 rfl rfl rfl ?_
          refine s_mv (v := .int .i64 r36) rfl ?_
          refine s_store (v := .agg (List.toArray (A8.enc .u8 r35))) hC 1 (A8.enc .u8 r35) (A8.enc .u8 r35) rfl ag24.size rfl rfl rfl rfl rfl (Nat.le_of_ble_eq_true rfl) rfl fun w51 hC => ?_
          refine s_as (v := .int .i64 r36) rfl ?_
          refine s_as (v := .int .i64 0) rfl ?_
          refine done ?_
          refine then_norm ?_
          refine wp_ret ?_
          refine ret3 (fn := Try.f13) rfl ?_ ?_ ?_ ⟨r35, r36, 0, rfl, h, hC.below⟩ (.inl rfl)
          · exact res_cellA hC 1 rfl ag24 rfl rfl
          · exact res_tmp rfl
          · exact res_tmp rfl
def f_laws_toMonomial (a0 : A8) (K : A8 → Prop) : Prop :=
  forN (fun i20 (s21 : A8) next22 => next22 (s21.set i20 (a0.get i20))) (fun (s21 : A8) => K s21) 8 0 A8.zero
theorem c_laws_toMonomial (a0 : A8)  {K : A8 → Prop} (h : f_laws_toMonomial a0 K) (w0 : World)  :
    Calls Try.prog 15 #[.agg (List.toArray (A8.enc .u8 a0))] w0 fun e w' => ∃ (r0 : A8), 
      e = .returned (.agg (List.toArray (A8.enc .u8 r0))) ∧ K r0 ∧ Bel w0 w' := by
  unfold f_laws_toMonomial at h
  refine calls_of (args := [.agg (List.toArray (A8.enc .u8 a0))]) Try.func15 rfl 15 Try.ntmps15 (Nat.le_of_ble_eq_true rfl) ?_
  have hC := Ctx.start (X := Nox) w0 [] (by simp)
  refine wp_seq ?_
  refine cw_region ?_
  refine s_box (v := .agg (List.toArray (A8.enc .u8 a0))) hC (A8.enc .u8 a0) rfl rfl fun b1 w3 hB_ hC => ?_
  refine s_alloc hC (A8.enc .u8 A8.zero) z24 rfl fun b4 w6 hB_ hC => ?_
  refine done ?_
  refine then_norm ?_
  refine wp_seq ?_
  refine cw_region ?_
  refine s_alloc hC (A8.enc .u8 A8.zero) z24 rfl fun b7 w9 hB_ hC => ?_
  refine done ?_
  refine then_norm ?_
  refine wp_seq ?_
  refine wp_seq ?_
  refine cw_region ?_
  refine s_as (v := .int .i64 0) rfl ?_
  refine done ?_
  refine then_norm ?_
  refine wp_block ?_
  refine loopN (S := A8) _ _ (fun i20 s21 e_ w_ => e_ 1 = .pointer (some ⟨b1, 0, none⟩) ∧ e_ 2 = .pointer (some ⟨b4, 0, none⟩) ∧ e_ 3 = .pointer (some ⟨b7, 0, none⟩) ∧ e_ 4 = .int .i64 (i20 : Int) ∧ Ctx Nox w0 w_ [blk b7 24 (A8.enc .u8 s21), blk b4 24 (A8.enc .u8 A8.zero), blk b1 23 (A8.enc .u8 a0)] []) 8 ?_ ?_ (s0 := A8.zero) ?_ h
  · clear hC h
    rintro i20 s21 e_ w26 next22 K23 hi25 ⟨h1_, h2_, h3_, h4_, hC⟩ h hK24
    refine wp_seq ?_
    refine wp_seq ?_
    refine cw_region ?_
    refine s_mv (v := .int .i64 (i20 : Int)) h4_ ?_
    refine s_lss rfl rfl ?_
    refine done ?_
    refine then_norm ?_
    refine cw_true rfl (decide_eq_true (by omega)) ?_
    refine wp_skip ?_
    refine then_norm ?_
    refine wp_seq ?_
    refine wp_block ?_
    refine cw_region ?_
    refine s_mv (v := .int .i64 (i20 : Int)) h4_ ?_
    refine s_mv (v := .int .i64 (i20 : Int)) h4_ ?_
    refine s_iaddrB i20 Try.underlying23 sc5.size h1_ rfl (Int.natCast_nonneg _) (by omega) (by omega) ?_
    refine s_loadS hC 2 (.int .u8 (a0.get i20)) rfl sc5 rfl (A8.enc_get _ _ hi25) ?_
    refine s_iaddrB i20 Try.underlying24 sc5.size h3_ rfl (Int.natCast_nonneg _) (by omega) (by omega) ?_
    refine s_store (v := .int .u8 (a0.get i20)) hC 0 [.int .u8 (a0.get i20)] (A8.enc .u8 (s21.set i20 (a0.get i20))) rfl sc5.size rfl rfl rfl rfl rfl hi25 (A8.enc_set _ _ _ hi25) fun w27 hC => ?_
    refine done ?_
    refine blk_norm ?_
    refine then_norm ?_
    refine cw_region ?_
    refine s_mv (v := .int .i64 (i20 : Int)) h4_ ?_
    refine s_add rfl rfl ?_
    refine s_as (v := .int .i64 (IntKind.i64.wrap ((i20 : Int) + 1))) rfl ?_
    refine done ?_
    exact hK24 (s21.set i20 (a0.get i20)) _ _ ⟨h1_, h2_, h3_, (tr rfl (congrArg _ (wrap64_nat hi25 (by decide)))), hC⟩ h
  · clear hC h
    rintro s21 e_ w28 K23 ⟨h1_, h2_, h3_, h4_, hC⟩ h
    refine wp_seq ?_
    refine wp_seq ?_
    refine cw_region ?_
    refine s_mv (v := .int .i64 8) h4_ ?_
    refine s_lss rfl rfl ?_
    refine done ?_
    refine then_norm ?_
    refine cw_false rfl (decide_eq_false (by omega)) ?_
    refine wp_exit (then_exit (then_exit (exit_in ?_)))
    refine then_norm ?_
    refine wp_seq ?_
    refine cw_region ?_
    refine s_loadA hC 0 (A8.enc .u8 s21) rfl ag24 h3_ rfl rfl ?_
    refine s_store (v := .agg (List.toArray (A8.enc .u8 s21))) hC 1 (A8.enc .u8 s21) (A8.enc .u8 s21) rfl ag24.size h2_ rfl rfl rfl rfl (Nat.le_of_ble_eq_true rfl) rfl fun w29 hC => ?_
    refine done ?_
    refine then_norm ?_
    refine wp_ret ?_
    refine ret1 (fn := Try.f15) rfl ?_ ⟨s21, rfl, h, hC.below⟩ (.inl rfl)
    exact res_cellA hC 1 rfl ag24 h2_ rfl
  · skip
    exact ⟨rfl, rfl, rfl, rfl, hC⟩
end Go.Proofs.Ytjngkbalaipdbaa
