/- Printed by vcgen.py: functions of the program as predicates, and that the machine's calls meet them. -/
import Derived.Test.YtgmldfmfpodgiaaGC
import Derived.Test.YtgmldfmfpodgiaaVo
import Derived.Test.YtgmldfmfpodgiaaVr
import Derived.Test.YtgmldfmfpodgiaaVx
import Derived.KernelRfl
set_option linter.unusedVariables false
set_option linter.unusedSimpArgs false
set_option maxRecDepth 4000
set_option maxHeartbeats 4000000
namespace Go.Proofs.Ytgmldfmfpodgiaa
open Go Go.RowKit Vc
theorem sc102 : ScaT Try.prog 102 := ⟨⟨_, Try.underlying102, rfl⟩, by kernel_rfl⟩
theorem bs22_0  (w : World) : (Instr.buildSlice 22 0 #[]).run Try.prog w = .ok (.slice (some ⟨w.heap.size, 0, none⟩) 0 0) (w.alloc (.cells (List.toArray ((EI .i64).encs [])) 2)) := by kernel_rfl
theorem bl30_0sl (x0 : Value) (hx0 : IsSl x0) (w : World) : (Instr.build 30 #[(0, x0)]).run Try.prog w = .ok (.agg #[x0, .slice none 0 0]) w := by obtain ⟨_, _, _, rfl⟩ := hx0; kernel_rfl
theorem bsr28_1_s (x0 : Value) (hx0 : IsSl x0) (w : World) : (Instr.buildSlice 28 1 #[(0, .agg #[x0])]).run Try.prog w = .ok (.slice (some ⟨w.heap.size, 0, none⟩) 1 1) (w.alloc (.cells (List.toArray [x0]) 59)) := by obtain ⟨_, _, _, rfl⟩ := hx0; kernel_rfl
theorem bl30  (w : World) : (Instr.build 30 #[]).run Try.prog w = .ok (.agg #[.slice none 0 0, .slice none 0 0]) w := by kernel_rfl
theorem bs22_1 (x0 : Int) (w : World) : (Instr.buildSlice 22 1 #[(0, .int .i64 x0)]).run Try.prog w = .ok (.slice (some ⟨w.heap.size, 0, none⟩) 1 1) (w.alloc (.cells (List.toArray ((EI .i64).encs [x0])) 2)) := by kernel_rfl
theorem bs45_0 (w : World) : (Instr.buildSlice 45 0 #[]).run Try.prog w = .ok (.slice (some ⟨w.heap.size, 0, none⟩) 0 0) (w.alloc (.cells (List.toArray []) 22)) := by kernel_rfl
theorem bsr45_1_s (x0 : Value) (hx0 : IsSl x0) (w : World) : (Instr.buildSlice 45 1 #[(0, x0)]).run Try.prog w = .ok (.slice (some ⟨w.heap.size, 0, none⟩) 1 1) (w.alloc (.cells (List.toArray [x0]) 22)) := by obtain ⟨_, _, _, rfl⟩ := hx0; kernel_rfl
theorem el22 : ElemT Try.prog 22 (.slice none 0 0) 1 24 := by unfold ElemT; kernel_rfl
theorem bs22_2 (x0 : Int) (x1 : Int) (w : World) : (Instr.buildSlice 22 2 #[(0, .int .i64 x0), (1, .int .i64 x1)]).run Try.prog w = .ok (.slice (some ⟨w.heap.size, 0, none⟩) 2 2) (w.alloc (.cells (List.toArray ((EI .i64).encs [x0, x1])) 2)) := by kernel_rfl
theorem bs57_0  (w : World) : (Instr.buildSlice 57 0 #[]).run Try.prog w = .ok (.slice (some ⟨w.heap.size, 0, none⟩) 0 0) (w.alloc (.cells (List.toArray (ETerm.encs [])) 76)) := by kernel_rfl
theorem bs28_0 (w : World) : (Instr.buildSlice 28 0 #[]).run Try.prog w = .ok (.slice (some ⟨w.heap.size, 0, none⟩) 0 0) (w.alloc (.cells (List.toArray []) 59)) := by kernel_rfl
theorem bl30_0sl_1sl (x0 : Value) (x1 : Value) (hx0 : IsSl x0) (hx1 : IsSl x1) (w : World) : (Instr.build 30 #[(0, x0), (1, x1)]).run Try.prog w = .ok (.agg #[x0, x1]) w := by obtain ⟨_, _, _, rfl⟩ := hx0; obtain ⟨_, _, _, rfl⟩ := hx1; kernel_rfl
theorem ag25 : AggT Try.prog 25 2 := ⟨⟨_, Try.underlying25, rfl⟩, by kernel_rfl⟩
def f_impl_part_1 (a0 : Term) (p1 : A8 → (Bool → Prop) → Prop) (K : Bool → Prop) : Prop :=
 f_impl_powerOf a0.mono (fun r11 => p1 r11 (fun r17 => K (!r17)))
theorem c_impl_part_1 (a0 : Term) (p1 : A8 → (Bool → Prop) → Prop) {b1 : Nat} {K : Bool → Prop} (h : f_impl_part_1 a0 p1 K) (w0 : World)  {g1 : Nat} {cp1 : List Value} {fn1 : Func} (hf1 : Try.prog.funcs[g1]? = some fn1) (hb1 : fn1.body.isNone = false) (hn1 : (fn1.name == "runtime.NumGoroutine") = false) (hp1 : ∀ (y0 : A8) (K_ : Bool → Prop) (w_ : World), Bel w0 w_ → p1 y0 K_ → Calls Try.prog g1 (List.toArray ([.agg (List.toArray (A8.enc .i64 y0))] ++ cp1)) w_ fun e w' => ∃ (z0 : Bool), e = .returned (.bool z0) ∧ K_ z0 ∧ Bel w_ w') (qf1 : (blk b1 102 [.func (.func g1) #[] (List.toArray cp1)]).holds w0) :
  Calls Try.prog 111 #[.agg (List.toArray (Term.enc a0)), .pointer (some ⟨b1, 0, none⟩)] w0 fun e w' => ∃ (r0 : Bool), 
   e = .returned (.bool r0) ∧ K r0 ∧ Bel w0 w' := by
 unfold f_impl_part_1 at h
 refine calls_of (args := [.agg (List.toArray (Term.enc a0)), .pointer (some ⟨b1, 0, none⟩)]) Try.func111 rfl 10 Try.ntmps111 (Nat.le_of_ble_eq_true rfl) ?_
 have hC := Ctx.start (X := Nox) w0 [blk b1 102 [.func (.func g1) #[] (List.toArray cp1)]] (by simp only [List.mem_cons, List.not_mem_nil, or_false, forall_eq_or_imp, forall_eq]; exact qf1)
 refine sr ?_
 refine s_box (v := .agg (List.toArray (Term.enc a0))) hC (Term.enc a0) rfl rfl fun b2 w4 hB_ hC => ?_
 refine s_as (v := .bool false) rfl ?_
 refine dn ?_
 refine wp_seq ?_
 refine cw_draw 4 mixed [0, 0, 2, 6, 15, 31, 63] [0, 2] [1] (by kernel_rfl) (by kernel_rfl) (by kernel_rfl) (fun hM6 hM7 w5 hB_ => ?_)
 replace hC := hC.grow hB_
 refine ae_look belPre 0 (.func (.func g1) #[] (List.toArray cp1)) rfl rfl (by kernel_rfl) (hM6 0 rfl) (fun w_ hB_ => .inl ⟨rfl, by exact r_loadSh (.func (.func g1) #[] (List.toArray cp1)) ((hC.grow hB_).getP 0 rfl) sc102 rfl rfl⟩) (l9 := (dbits 7 1)) (by kernel_rfl) ?_
 refine ae_lookF belPre 1 (.pointer (some ⟨b2, 0, none⟩)) rfl rfl (by kernel_rfl) (hM7 1 rfl) (fun w_ => .inl ⟨rfl, by exact r_faddrB 0 Try.underlying76 rfl ag74.size rfl rfl⟩) (l9 := (dbits 7 3)) (by kernel_rfl) ?_
 refine ae_look belPre 2 (.agg (List.toArray (A8.enc .u8 a0.mono))) rfl rfl (by kernel_rfl) (hM6 2 rfl) (fun w_ hB_ => .inl ⟨rfl, by exact r_loadA (hC.grow hB_) 0 (A8.enc .u8 a0.mono) rfl ag74 rfl rfl rfl⟩) (l9 := (dbits 7 7)) (by kernel_rfl) ?_
 refine ae_one 3 rfl (by kernel_rfl) ?_
 refine s_call [.agg (List.toArray (A8.enc .u8 a0.mono))] _ Try.func48 rfl rfl rfl (c_impl_powerOf a0.mono h _) (fun ret8 w10 hR9 => ?_)
 obtain ⟨r11, rfl, h, hB12⟩ := hR9
 refine ⟨_, rfl, ?_⟩
 replace hC := hC.grow hB12
 refine done ?_
 refine ak_intro (by assumption) (l9 := (dbits 7 15)) (by kernel_rfl) ?_
 refine ae_tail 4 (by decide) (by decide) (by kernel_rfl) (by kernel_rfl) rfl ?_
 refine s_callv [.agg (List.toArray (A8.enc .i64 r11))] _ rfl hf1 hb1 hn1 rfl (hp1 _ _ _ hC.below  h) (fun ret13 w15 hR14 => ?_)
 obtain ⟨r17, rfl, h, hB16⟩ := hR14
 refine ⟨_, rfl, ?_⟩
 replace hC := hC.grow hB16
 refine s_not rfl ?_
 refine s_as (v := .bool (!r17)) rfl ?_
 refine done ?_
 refine qn_norm ?_
 refine then_norm ?_
 refine wp_ret ?_
 refine ret1 (fn := Try.f111) rfl ?_ ⟨!r17, rfl, h, hC.below⟩ (.inl rfl)
 exact res_tmp rfl
def f_impl_power_length (a0 : A8) (K : Int → Prop) : Prop :=
 forN (fun i10 (s11 : Int) next12 => next12 (IntKind.i64.wrap (s11 + (a0.get i10)))) (fun (s11 : Int) => K s11) 8 0 0
theorem c_impl_power_length (a0 : A8)  {K : Int → Prop} (h : f_impl_power_length a0 K) (w0 : World)  :
  Calls Try.prog 49 #[.agg (List.toArray (A8.enc .i64 a0))] w0 fun e w' => ∃ (r0 : Int), 
   e = .returned (.int .i64 r0) ∧ K r0 ∧ Bel w0 w' := by
 unfold f_impl_power_length at h
 refine calls_of (args := [.agg (List.toArray (A8.enc .i64 a0))]) Try.func49 rfl 15 Try.ntmps49 (Nat.le_of_ble_eq_true rfl) ?_
 have hC := Ctx.start (X := Nox) w0 [] (by simp)
 refine sr ?_
 refine s_box (v := .agg (List.toArray (A8.enc .i64 a0))) hC (A8.enc .i64 a0) rfl rfl fun b1 w3 hB_ hC => ?_
 refine s_as (v := .int .i64 0) rfl ?_
 refine dn ?_
 refine sr ?_
 refine s_as (v := .int .i64 0) rfl ?_
 refine dn ?_
 refine wp_seq ?_
 refine sr ?_
 refine s_loadA hC 0 (A8.enc .i64 a0) rfl ag78 rfl rfl rfl ?_
 refine s_mv (v := .int .i64 0) rfl ?_
 refine dn ?_
 refine wp_block ?_
 refine loopN (S := Int) _ _ (fun i10 s11 e_ w_ => Slots e_ [(2, .int .i64 0), (3, .int .i64 s11), (6, .agg (List.toArray (A8.enc .i64 a0))), (7, .int .i64 (i10 : Int))] ∧ Ctx Nox w0 w_ [] []) 8 ?_ ?_ (s0 := 0) ?_ h
 ·clear hC h
  rintro i10 s11 e_ w16 next12 K13 hi15 ⟨hS_, hC⟩ h hK14
  refine sr ?_
  refine s_lss (sx hS_ 3 rfl) rfl ?_
  refine dn ?_
  refine wp_seq ?_
  refine cw_true rfl (decide_eq_true (by omega)) ?_
  refine wp_skip ?_
  refine then_norm ?_
  refine wp_seq ?_
  refine wp_block ?_
  refine sr ?_
  refine s_index (.int .i64 (a0.get i10)) Try.underlying78 (sx hS_ 2 rfl) (sx hS_ 3 rfl) (Int.natCast_nonneg _) (by omega) sc3 (A8.enc_get _ _ hi15) ?_
  refine s_as (v := .int .i64 (a0.get i10)) rfl ?_
  refine dn ?_
  refine cw_region ?_
  refine s_mv (v := .int .i64 s11) (sx hS_ 1 rfl) ?_
  refine s_mv (v := .int .i64 (a0.get i10)) rfl ?_
  refine s_add rfl rfl ?_
  refine s_as (v := .int .i64 (IntKind.i64.wrap (s11 + (a0.get i10)))) rfl ?_
  refine done ?_
  refine blk_norm ?_
  refine then_norm ?_
  refine cw_region ?_
  refine s_add (sx hS_ 3 rfl) rfl ?_
  refine s_mv (v := .int .i64 (IntKind.i64.wrap ((i10 : Int) + 1))) rfl ?_
  refine done ?_
  exact hK14 (IntKind.i64.wrap (s11 + (a0.get i10))) _ _ ⟨(sk (sx hS_ 0 rfl) (sk rfl (sk (sx hS_ 2 rfl) (sk (tr rfl (congrArg _ (wrap64_nat hi15 (by decide)))) sn)))), hC⟩ h
 ·clear hC h
  rintro s11 e_ w17 K13 ⟨hS_, hC⟩ h
  refine sr ?_
  refine s_lss (sx hS_ 3 rfl) rfl ?_
  refine dn ?_
  refine wp_seq ?_
  refine cw_false rfl (decide_eq_false (by omega)) ?_
  refine wp_exit (then_exit (then_exit (exit_in ?_)))
  refine then_norm ?_
  refine sr ?_
  refine s_mv (v := .int .i64 s11) (sx hS_ 1 rfl) ?_
  refine s_as (v := .int .i64 s11) rfl ?_
  refine dn ?_
  refine wp_ret ?_
  refine ret1 (fn := Try.f49) rfl ?_ ⟨s11, rfl, h, hC.below⟩ (.inl rfl)
  exact res_tmp rfl
 ·skip
  replace hC := hC.sel [] [] (M' := []) (Ps' := []) (by decide) rfl rfl
  exact ⟨(sk rfl (sk rfl (sk rfl (sk rfl sn)))), hC⟩
def f_impl_QuadraticParts_1 (a0 : A8) (K : Bool → Prop) : Prop :=
 f_impl_power_length a0 (fun r7 => K (decide (r7 = 2)))
theorem c_impl_QuadraticParts_1 (a0 : A8)  {K : Bool → Prop} (h : f_impl_QuadraticParts_1 a0 K) (w0 : World)  :
  Calls Try.prog 77 #[.agg (List.toArray (A8.enc .i64 a0))] w0 fun e w' => ∃ (r0 : Bool), 
   e = .returned (.bool r0) ∧ K r0 ∧ Bel w0 w' := by
 unfold f_impl_QuadraticParts_1 at h
 refine calls_of (args := [.agg (List.toArray (A8.enc .i64 a0))]) Try.func77 rfl 6 Try.ntmps77 (Nat.le_of_ble_eq_true rfl) ?_
 have hC := Ctx.start (X := Nox) w0 [] (by simp)
 refine sr ?_
 refine s_box (v := .agg (List.toArray (A8.enc .i64 a0))) hC (A8.enc .i64 a0) rfl rfl fun b1 w3 hB_ hC => ?_
 refine s_as (v := .bool false) rfl ?_
 refine dn ?_
 refine sr ?_
 refine s_loadA hC 0 (A8.enc .i64 a0) rfl ag78 rfl rfl rfl ?_
 refine s_call [.agg (List.toArray (A8.enc .i64 a0))] _ Try.func49 rfl rfl rfl (c_impl_power_length a0 h _) (fun ret4 w6 hR5 => ?_)
 obtain ⟨r7, rfl, h, hB8⟩ := hR5
 refine ⟨_, rfl, ?_⟩
 replace hC := hC.grow hB8
 refine s_eql rfl rfl ?_
 refine s_as (v := .bool (decide (r7 = 2))) rfl ?_
 refine dn ?_
 refine wp_ret ?_
 refine ret1 (fn := Try.f77) rfl ?_ ⟨decide (r7 = 2), rfl, h, hC.below⟩ (.inl rfl)
 exact res_tmp rfl
def f_impl_Algebra_isMinimal_1_1 (a0 : Int) (K : Bool → Prop) : Prop :=
 K (decide (a0 ≠ 0))
theorem c_impl_Algebra_isMinimal_1_1 (a0 : Int)  {K : Bool → Prop} (h : f_impl_Algebra_isMinimal_1_1 a0 K) (w0 : World)  :
  Calls Try.prog 108 #[.int .i64 a0] w0 fun e w' => ∃ (r0 : Bool), 
   e = .returned (.bool r0) ∧ K r0 ∧ Bel w0 w' := by
 unfold f_impl_Algebra_isMinimal_1_1 at h
 refine calls_of (args := [.int .i64 a0]) Try.func108 rfl 5 Try.ntmps108 (Nat.le_of_ble_eq_true rfl) ?_
 have hC := Ctx.start (X := Nox) w0 [] (by simp)
 refine sr ?_
 refine s_as (v := .bool false) rfl ?_
 refine dn ?_
 refine sr ?_
 refine s_mv (v := .int .i64 a0) rfl ?_
 refine s_neq rfl rfl ?_
 refine s_as (v := .bool (decide (a0 ≠ 0))) rfl ?_
 refine dn ?_
 refine wp_ret ?_
 refine ret1 (fn := Try.f108) rfl ?_ ⟨decide (a0 ≠ 0), rfl, h, hC.below⟩ (.inl rfl)
 exact res_tmp rfl
def f_impl_Algebra_isMinimal_1 (a0 : List Int) (K : Bool → Prop) : Prop :=
 f_slices_ContainsFunc_int64_int64 a0 f_impl_Algebra_isMinimal_1_1 (fun r5 => K r5)
theorem c_impl_Algebra_isMinimal_1 (a0 : List Int) {u0_0 : Value} {fp0 : List Nat} {K : Bool → Prop} (h : f_impl_Algebra_isMinimal_1 a0 K) (w0 : World) (q0 : ((EI .i64).ty.sl).rep a0 [u0_0] fp0 w0) :
  Calls Try.prog 106 #[u0_0] w0 fun e w' => ∃ (r0 : Bool), 
   e = .returned (.bool r0) ∧ K r0 ∧ Bel w0 w' := by
 unfold f_impl_Algebra_isMinimal_1 at h
 refine calls_of (args := [u0_0]) Try.func106 rfl 5 Try.ntmps106 (Nat.le_of_ble_eq_true rfl) ?_
 have hC := Ctx.start (X := Nox) w0 [Ty.item ((EI .i64).ty.sl) a0 [u0_0] fp0] (by simp only [List.mem_cons, List.not_mem_nil, or_false, forall_eq_or_imp, forall_eq]; exact q0)
 refine sr ?_
 refine s_as (v := .bool false) rfl ?_
 refine dn ?_
 refine sr ?_
 refine s_mv (v := u0_0) rfl ?_
 refine s_call [u0_0, .func (.func 108) #[] (List.toArray [])] _ Try.func107 rfl rfl rfl (c_slices_ContainsFunc_int64_int64 a0 f_impl_Algebra_isMinimal_1_1 h _ (hC.getP 0 rfl) Try.func108 rfl rfl (fun x0_ K_ w_ _ hq_ => c_impl_Algebra_isMinimal_1_1 x0_ hq_ w_)) (fun ret2 w4 hR3 => ?_)
 obtain ⟨r5, rfl, h, hB6⟩ := hR3
 refine ⟨_, rfl, ?_⟩
 replace hC := hC.grow hB6
 refine s_as (v := .bool r5) rfl ?_
 refine dn ?_
 refine wp_ret ?_
 refine ret1 (fn := Try.f106) rfl ?_ ⟨r5, rfl, h, hC.below⟩ (.inl rfl)
 exact res_tmp rfl
def f_spec_l02Word (a0 : A8) (K : Int → Prop) : Prop :=
 forN (fun i10 (s11 : Int) next12 => next12 (IntKind.i64.wrap (s11 + (IntKind.i64.wrap (a0.get i10))))) (fun (s11 : Int) => K s11) 8 0 0
theorem c_spec_l02Word (a0 : A8)  {K : Int → Prop} (h : f_spec_l02Word a0 K) (w0 : World)  :
  Calls Try.prog 78 #[.agg (List.toArray (A8.enc .u8 a0))] w0 fun e w' => ∃ (r0 : Int), 
   e = .returned (.int .i64 r0) ∧ K r0 ∧ Bel w0 w' := by
 unfold f_spec_l02Word at h
 refine calls_of (args := [.agg (List.toArray (A8.enc .u8 a0))]) Try.func78 rfl 16 Try.ntmps78 (Nat.le_of_ble_eq_true rfl) ?_
 have hC := Ctx.start (X := Nox) w0 [] (by simp)
 refine sr ?_
 refine s_box (v := .agg (List.toArray (A8.enc .u8 a0))) hC (A8.enc .u8 a0) rfl rfl fun b1 w3 hB_ hC => ?_
 refine s_as (v := .int .i64 0) rfl ?_
 refine dn ?_
 refine sr ?_
 refine s_as (v := .int .i64 0) rfl ?_
 refine dn ?_
 refine wp_seq ?_
 refine sr ?_
 refine s_as (v := .int .i64 0) rfl ?_
 refine dn ?_
 refine wp_block ?_
 refine loopN (S := Int) _ _ (fun i10 s11 e_ w_ => Slots e_ [(1, .pointer (some ⟨b1, 0, none⟩)), (2, .int .i64 0), (3, .int .i64 s11), (4, .int .i64 (i10 : Int))] ∧ Ctx Nox w0 w_ [blk b1 74 (A8.enc .u8 a0)] []) 8 ?_ ?_ (s0 := 0) ?_ h
 ·clear hC h
  rintro i10 s11 e_ w16 next12 K13 hi15 ⟨hS_, hC⟩ h hK14
  refine wp_seq ?_
  refine sr ?_
  refine s_mv (v := .int .i64 (i10 : Int)) (sx hS_ 3 rfl) ?_
  refine s_lss rfl rfl ?_
  refine dn ?_
  refine cw_true rfl (decide_eq_true (by omega)) ?_
  refine wp_skip ?_
  refine then_norm ?_
  refine wp_seq ?_
  refine wp_block ?_
  refine cw_region ?_
  refine s_mv (v := .int .i64 s11) (sx hS_ 2 rfl) ?_
  refine s_mv (v := .int .i64 (i10 : Int)) (sx hS_ 3 rfl) ?_
  refine s_iaddrB i10 Try.underlying74 sc5.size (sx hS_ 0 rfl) rfl (Int.natCast_nonneg _) (by omega) (by omega) ?_
  refine s_loadS hC 0 (.int .u8 (a0.get i10)) rfl sc5 rfl (A8.enc_get _ _ hi15) ?_
  refine s_conv Try.underlying5 Try.underlying2 rfl ?_
  refine s_add rfl rfl ?_
  refine s_as (v := .int .i64 (IntKind.i64.wrap (s11 + (IntKind.i64.wrap (a0.get i10))))) rfl ?_
  refine done ?_
  refine blk_norm ?_
  refine then_norm ?_
  refine cw_region ?_
  refine s_mv (v := .int .i64 (i10 : Int)) (sx hS_ 3 rfl) ?_
  refine s_add rfl rfl ?_
  refine s_as (v := .int .i64 (IntKind.i64.wrap ((i10 : Int) + 1))) rfl ?_
  refine done ?_
  exact hK14 (IntKind.i64.wrap (s11 + (IntKind.i64.wrap (a0.get i10)))) _ _ ⟨(sk (sx hS_ 0 rfl) (sk (sx hS_ 1 rfl) (sk rfl (sk (tr rfl (congrArg _ (wrap64_nat hi15 (by decide)))) sn)))), hC⟩ h
 ·clear hC h
  rintro s11 e_ w17 K13 ⟨hS_, hC⟩ h
  refine wp_seq ?_
  refine sr ?_
  refine s_mv (v := .int .i64 8) (sx hS_ 3 rfl) ?_
  refine s_lss rfl rfl ?_
  refine dn ?_
  refine cw_false rfl (decide_eq_false (by omega)) ?_
  refine wp_exit (then_exit (then_exit (exit_in ?_)))
  refine then_norm ?_
  refine sr ?_
  refine s_mv (v := .int .i64 s11) (sx hS_ 2 rfl) ?_
  refine s_as (v := .int .i64 s11) rfl ?_
  refine dn ?_
  refine wp_ret ?_
  refine ret1 (fn := Try.f78) rfl ?_ ⟨s11, rfl, h, hC.below⟩ (.inl rfl)
  exact res_tmp rfl
 ·skip
  exact ⟨(sk rfl (sk rfl (sk rfl (sk rfl sn)))), hC⟩
def f_spec_l02Least (a0 : Vc.Form) (K : Int → Prop) : Prop :=
 whileP (fun (s41 : Int × Int) next42 => (if s41.2 < (a0.terms.length : Int) then ((0 ≤ s41.2 ∧ s41.2 < (a0.terms.length : Int)) ∧ f_spec_l02Word ((a0.terms.getD s41.2.toNat default).mono) (fun r58 => (if s41.2 = 0 then next42 (r58, IntKind.i64.wrap (s41.2 + 1)) else (if r58 < s41.1 then next42 (r58, IntKind.i64.wrap (s41.2 + 1)) else next42 (s41.1, IntKind.i64.wrap (s41.2 + 1)))))) else K s41.1)) (0, 0)
theorem c_spec_l02Least (a0 : Vc.Form) {u0_0 : Value} {fp0 : List Nat} {K : Int → Prop} (h : f_spec_l02Least a0 K) (w0 : World) (q0 : TForm.rep a0 [u0_0] fp0 w0) :
  Calls Try.prog 103 #[.agg #[u0_0]] w0 fun e w' => ∃ (r0 : Int), 
   e = .returned (.int .i64 r0) ∧ K r0 ∧ Bel w0 w' := by
 unfold f_spec_l02Least at h
 refine calls_of (args := [.agg #[u0_0]]) Try.func103 rfl 29 Try.ntmps103 (Nat.le_of_ble_eq_true rfl) ?_
 have hC := Ctx.start (X := Nox) w0 [Ty.item TForm a0 [u0_0] fp0] (by simp only [List.mem_cons, List.not_mem_nil, or_false, forall_eq_or_imp, forall_eq]; exact q0)
 have hp2 := (hC.getP 0 rfl)
 replace hC := hC.derive 0 rfl (Ty.item ETerm.ty.sl a0.terms [u0_0] fp0) (fun _ => (form_parts hp2)) (fun _ hb_ => hb_)
 refine sr ?_
 refine s_box (v := .agg #[u0_0]) hC [u0_0] rfl rfl fun b4 w6 hB_ hC => ?_
 refine s_as (v := .int .i64 0) rfl ?_
 refine dn ?_
 refine sr ?_
 refine s_as (v := .int .i64 0) rfl ?_
 refine dn ?_
 refine wp_seq ?_
 refine sr ?_
 refine s_as (v := .int .i64 0) rfl ?_
 refine dn ?_
 refine wp_block ?_
 refine loopW (S := Int × Int) _ (fun s41 e_ w_ => Slots e_ [(1, .pointer (some ⟨b4, 0, none⟩)), (2, .int .i64 0), (3, .int .i64 s41.1), (4, .int .i64 s41.2)] ∧ Ctx Nox w0 w_ [blk b4 59 [u0_0]] [Ty.item ETerm.ty.sl a0.terms [u0_0] fp0, Ty.item TForm a0 [u0_0] fp0]) ?_ (s0 := (0, 0)) ?_ h
 ·clear hC h
  rintro s41 e_ w45 next42 K43 ⟨hS_, hC⟩ h hK44
  refine wp_seq ?_
  refine sr ?_
  refine s_mv (v := .int .i64 s41.2) (sx hS_ 3 rfl) ?_
  refine s_faddrB 0 Try.underlying59 rfl sc57.size (sx hS_ 0 rfl) rfl ?_
  refine s_loadS hC 0 (u0_0) rfl sc57 rfl rfl ?_
  obtain ⟨Ad46, c47, hv48⟩ := sl_len (hC.getP 0 rfl)
  refine s_len Try.underlying57 (tr rfl hv48) ?_
  refine s_lss rfl rfl ?_
  refine dn ?_
  refine cw_cond rfl (fun hb49 => ?_) (fun hb49 => ?_)
  ·replace h := ift h (ct hb49)
   refine wp_skip ?_
   refine then_norm ?_
   refine wp_seq ?_
   refine wp_block ?_
   refine sr ?_
   refine s_faddrB 0 Try.underlying59 rfl sc57.size (sx hS_ 0 rfl) rfl ?_
   refine s_loadS hC 0 (u0_0) rfl sc57 rfl rfl ?_
   refine s_mv (v := .int .i64 s41.2) (sx hS_ 3 rfl) ?_
   obtain ⟨⟨h0_50, h1_51⟩, h⟩ := h
   obtain ⟨Ad52, c53, hv54⟩ := sl_form (hC.getP 0 rfl) s41.2.toNat (show s41.2.toNat < a0.terms.length by omega)
   refine s_iaddrS (len := a0.terms.length) Try.underlying57 ag76.size (tr rfl hv54) rfl h0_50 h1_51 ?_
   refine s_faddrS (s41.2.toNat * 9 + 0) Try.underlying76 rfl ag74.size rfl rfl ?_
   refine s_loadCA (A8.enc .u8 ((a0.terms.getD s41.2.toNat default).mono)) (cells_subS (o := 0) (k := 8) (sl_cellsE (hC.getP 0 rfl) hv54 s41.2.toNat (show s41.2.toNat < a0.terms.length by omega)) rfl) ag74 rfl rfl ?_
   refine s_call [.agg (List.toArray (A8.enc .u8 ((a0.terms.getD s41.2.toNat default).mono)))] _ Try.func78 rfl rfl rfl (c_spec_l02Word ((a0.terms.getD s41.2.toNat default).mono) h _) (fun ret55 w57 hR56 => ?_)
   obtain ⟨r58, rfl, h, hB59⟩ := hR56
   refine ⟨_, rfl, ?_⟩
   replace hC := hC.grow hB59
   refine s_as (v := .int .i64 r58) rfl ?_
   refine dn ?_
   refine sr ?_
   refine s_mv (v := .int .i64 s41.2) (sx hS_ 3 rfl) ?_
   refine s_eql rfl rfl ?_
   refine s_mv (v := .bool (decide (s41.2 = 0))) rfl ?_
   refine bsplit (decide (s41.2 = 0)) (fun hb60 => ?_) (fun hb60 => ?_)
   ·replace h := ift h (ct hb60)
    refine guardOff (b := true) 2 22 rfl (tr rfl (congrArg _ hb60)) (by decide) ?_
    refine guardOff (b := true) 2 22 rfl (tr rfl (congrArg _ hb60)) (by decide) ?_
    refine guardOff (b := true) 2 22 rfl (tr rfl (congrArg _ hb60)) (by decide) ?_
    refine s_pick (v := .bool true) (b := true) (tr rfl (congrArg _ hb60)) rfl ?_
    refine dn ?_
    refine cw_true rfl rfl ?_
    refine cw_region ?_
    refine s_mv (v := .int .i64 r58) rfl ?_
    refine s_as (v := .int .i64 r58) rfl ?_
    refine done ?_
    refine blk_norm ?_
    refine then_norm ?_
    refine cw_region ?_
    refine s_mv (v := .int .i64 s41.2) (sx hS_ 3 rfl) ?_
    refine s_add rfl rfl ?_
    refine s_as (v := .int .i64 (IntKind.i64.wrap (s41.2 + 1))) rfl ?_
    refine done ?_
    exact hK44 (r58, IntKind.i64.wrap (s41.2 + 1)) _ _ ⟨(sk (sx hS_ 0 rfl) (sk (sx hS_ 1 rfl) (sk rfl (sk rfl sn)))), hC⟩ h
   ·replace h := iff_ h (cf hb60)
    refine guardOn 2 22 rfl rfl hb60 ?_
    refine s_mv (v := .int .i64 r58) rfl ?_
    refine guardOn 2 22 rfl rfl hb60 ?_
    refine s_mv (v := .int .i64 s41.1) (sx hS_ 2 rfl) ?_
    refine guardOn 2 22 rfl rfl hb60 ?_
    refine s_lss rfl rfl ?_
    refine s_pick (v := .bool (decide (r58 < s41.1))) (b := false) (tr rfl (congrArg _ hb60)) rfl ?_
    refine dn ?_
    refine cw_cond rfl (fun hb61 => ?_) (fun hb61 => ?_)
    ·replace h := ift h (ct hb61)
     refine cw_region ?_
     refine s_mv (v := .int .i64 r58) rfl ?_
     refine s_as (v := .int .i64 r58) rfl ?_
     refine done ?_
     refine blk_norm ?_
     refine then_norm ?_
     refine cw_region ?_
     refine s_mv (v := .int .i64 s41.2) (sx hS_ 3 rfl) ?_
     refine s_add rfl rfl ?_
     refine s_as (v := .int .i64 (IntKind.i64.wrap (s41.2 + 1))) rfl ?_
     refine done ?_
     exact hK44 (r58, IntKind.i64.wrap (s41.2 + 1)) _ _ ⟨(sk (sx hS_ 0 rfl) (sk (sx hS_ 1 rfl) (sk rfl (sk rfl sn)))), hC⟩ h
    ·replace h := iff_ h (cf hb61)
     refine wp_skip ?_
     refine blk_norm ?_
     refine then_norm ?_
     refine cw_region ?_
     refine s_mv (v := .int .i64 s41.2) (sx hS_ 3 rfl) ?_
     refine s_add rfl rfl ?_
     refine s_as (v := .int .i64 (IntKind.i64.wrap (s41.2 + 1))) rfl ?_
     refine done ?_
     exact hK44 (s41.1, IntKind.i64.wrap (s41.2 + 1)) _ _ ⟨(sk (sx hS_ 0 rfl) (sk (sx hS_ 1 rfl) (sk (sx hS_ 2 rfl) (sk rfl sn)))), hC⟩ h
  ·replace h := iff_ h (cf hb49)
   refine wp_exit (then_exit (then_exit (exit_in ?_)))
   refine then_norm ?_
   refine sr ?_
   refine s_mv (v := .int .i64 s41.1) (sx hS_ 2 rfl) ?_
   refine s_as (v := .int .i64 s41.1) rfl ?_
   refine dn ?_
   refine wp_ret ?_
   refine ret1 (fn := Try.f103) rfl ?_ ⟨s41.1, rfl, h, hC.below⟩ (.inl rfl)
   exact res_tmp rfl
 ·skip
  exact ⟨(sk rfl (sk rfl (sk rfl (sk rfl sn)))), hC⟩
def f_spec_l02Minimal (a0 : Alg) (K : Bool → Prop) : Prop :=
 whileP (fun (s52 : Int) next53 => (if s52 < (a0.images.length : Int) then ((0 ≤ s52 ∧ s52 < (a0.images.length : Int)) ∧ f_spec_l02Least (a0.images.getD s52.toNat default) (fun r75 => (if r75 = 1 then K false else next53 (IntKind.i64.wrap (s52 + 1))))) else K true)) 0
theorem c_spec_l02Minimal (a0 : Alg) {u0_0 : Value} {u0_1 : Value} {fp0 : List Nat} {K : Bool → Prop} (h : f_spec_l02Minimal a0 K) (w0 : World) (q0 : TAlg.rep a0 [u0_0, u0_1] fp0 w0) :
  Calls Try.prog 74 #[.agg #[u0_0, u0_1]] w0 fun e w' => ∃ (r0 : Bool), 
   e = .returned (.bool r0) ∧ K r0 ∧ Bel w0 w' := by
 unfold f_spec_l02Minimal at h
 refine calls_of (args := [.agg #[u0_0, u0_1]]) Try.func74 rfl 18 Try.ntmps74 (Nat.le_of_ble_eq_true rfl) ?_
 have hC := Ctx.start (X := Nox) w0 [Ty.item TAlg a0 [u0_0, u0_1] fp0] (by simp only [List.mem_cons, List.not_mem_nil, or_false, forall_eq_or_imp, forall_eq]; exact q0)
 have hp2 := (hC.getP 0 rfl)
 replace hC := hC.derive 0 rfl (Ty.item ((EI .i64).ty.sl) a0.degrees [u0_0] fp0) (fun _ => (alg_parts hp2).1) (fun _ hb_ => hb_)
 replace hC := hC.derive 1 rfl (Ty.item TForm.sl a0.images [u0_1] fp0) (fun _ => (alg_parts hp2).2) (fun _ hb_ => hb_)
 refine sr ?_
 refine s_box (v := .agg #[u0_0, u0_1]) hC [u0_0, u0_1] rfl rfl fun b5 w7 hB_ hC => ?_
 refine s_as (v := .bool false) rfl ?_
 refine dn ?_
 refine wp_seq ?_
 refine sr ?_
 refine s_as (v := .int .i64 0) rfl ?_
 refine dn ?_
 refine wp_block ?_
 refine loopW (S := Int) _ (fun s52 e_ w_ => Slots e_ [(1, .pointer (some ⟨b5, 0, none⟩)), (2, .bool false), (3, .int .i64 s52)] ∧ Ctx Nox w0 w_ [blk b5 30 [u0_0, u0_1]] [Ty.item TForm.sl a0.images [u0_1] fp0, Ty.item ((EI .i64).ty.sl) a0.degrees [u0_0] fp0, Ty.item TAlg a0 [u0_0, u0_1] fp0]) ?_ (s0 := 0) ?_ h
 ·clear hC h
  rintro s52 e_ w56 next53 K54 ⟨hS_, hC⟩ h hK55
  refine wp_seq ?_
  refine sr ?_
  refine s_mv (v := .int .i64 s52) (sx hS_ 2 rfl) ?_
  refine s_faddrB 1 Try.underlying30 rfl sc28.size (sx hS_ 0 rfl) rfl ?_
  refine s_loadS hC 0 (u0_1) rfl sc28 rfl rfl ?_
  obtain ⟨Ad57, c58, hv59⟩ := sl_len (hC.getP 0 rfl)
  refine s_len Try.underlying28 (tr rfl hv59) ?_
  refine s_lss rfl rfl ?_
  refine dn ?_
  refine cw_cond rfl (fun hb60 => ?_) (fun hb60 => ?_)
  ·replace h := ift h (ct hb60)
   refine wp_skip ?_
   refine then_norm ?_
   refine wp_seq ?_
   refine wp_block ?_
   refine sr ?_
   refine s_faddrB 1 Try.underlying30 rfl sc28.size (sx hS_ 0 rfl) rfl ?_
   refine s_loadS hC 0 (u0_1) rfl sc28 rfl rfl ?_
   refine s_mv (v := .int .i64 s52) (sx hS_ 2 rfl) ?_
   obtain ⟨⟨h0_61, h1_62⟩, h⟩ := h
   obtain ⟨Ad63, c64, hv65⟩ := sl_form (hC.getP 0 rfl) s52.toNat (show s52.toNat < a0.images.length by omega)
   refine s_iaddrS (len := a0.images.length) Try.underlying28 ag59.size (tr rfl hv65) rfl h0_61 h1_62 ?_
   obtain ⟨cs_, hl67, hc68, hr69⟩ := sl_cells (hC.getP 0 rfl) hv65 s52.toNat (show s52.toNat < a0.images.length by omega)
   obtain ⟨u66, rfl⟩ := List.length_eq_one_iff.1 hl67
   clear hl67
   rw [getD_eq _ _ (show s52.toNat < a0.images.length by omega)] at hr69
   have hp70 := hr69
   replace hC := hC.derive 0 rfl (Ty.item ETerm.ty.sl ((a0.images.getD s52.toNat default).terms) [u66] fp0) (fun _ => (form_parts hp70)) (fun _ hb_ => hb_)
   refine s_loadCA [u66] hc68 ag59 rfl rfl ?_
   refine s_call [.agg #[u66]] _ Try.func103 rfl rfl rfl (c_spec_l02Least (a0.images.getD s52.toNat default) h _ (form_mk (hC.getP 0 rfl))) (fun ret72 w74 hR73 => ?_)
   obtain ⟨r75, rfl, h, hB76⟩ := hR73
   refine ⟨_, rfl, ?_⟩
   replace hC := hC.grow hB76
   refine s_eql rfl rfl ?_
   refine dn ?_
   refine cw_cond rfl (fun hb77 => ?_) (fun hb77 => ?_)
   ·replace h := ift h (ct hb77)
    refine sr ?_
    refine s_as (v := .bool false) rfl ?_
    refine dn ?_
    refine wp_ret (blk_ret (then_ret (then_ret (blk_ret (then_ret ?_)))))
    refine ret1 (fn := Try.f74) rfl ?_ ⟨false, rfl, h, hC.below⟩ (.inl rfl)
    exact res_tmp rfl
   ·replace h := iff_ h (cf hb77)
    refine wp_skip ?_
    refine blk_norm ?_
    refine then_norm ?_
    refine cw_region ?_
    refine s_mv (v := .int .i64 s52) (sx hS_ 2 rfl) ?_
    refine s_add rfl rfl ?_
    refine s_as (v := .int .i64 (IntKind.i64.wrap (s52 + 1))) rfl ?_
    refine done ?_
    replace hC := hC.sel [0] [1, 2, 3] (M' := [blk b5 30 [u0_0, u0_1]]) (Ps' := [Ty.item TForm.sl a0.images [u0_1] fp0, Ty.item ((EI .i64).ty.sl) a0.degrees [u0_0] fp0, Ty.item TAlg a0 [u0_0, u0_1] fp0]) (by decide) rfl rfl
    exact hK55 (IntKind.i64.wrap (s52 + 1)) _ _ ⟨(sk (sx hS_ 0 rfl) (sk (sx hS_ 1 rfl) (sk rfl sn))), hC⟩ h
  ·replace h := iff_ h (cf hb60)
   refine wp_exit (then_exit (then_exit (exit_in ?_)))
   refine then_norm ?_
   refine sr ?_
   refine s_as (v := .bool true) rfl ?_
   refine dn ?_
   refine wp_ret ?_
   refine ret1 (fn := Try.f74) rfl ?_ ⟨true, rfl, h, hC.below⟩ (.inl rfl)
   exact res_tmp rfl
 ·skip
  exact ⟨(sk rfl (sk rfl (sk rfl sn))), hC⟩
def f_spec_l10Minimal (a0 : Alg) (K : Int → Prop) : Prop :=
 f_spec_l02Is a0 (fun r11 => (if ¬ (r11 = true) then K 1 else f_spec_l02Minimal a0 (fun r17 => (if ¬ (r17 = true) then K 5 else K 0))))
theorem c_spec_l10Minimal (a0 : Alg) {u0_0 : Value} {u0_1 : Value} {fp0 : List Nat} {K : Int → Prop} (h : f_spec_l10Minimal a0 K) (w0 : World) (q0 : TAlg.rep a0 [u0_0, u0_1] fp0 w0) :
  Calls Try.prog 42 #[.agg #[u0_0, u0_1]] w0 fun e w' => ∃ (r0 : Int), 
   e = .returned (.int .i64 r0) ∧ K r0 ∧ Bel w0 w' := by
 unfold f_spec_l10Minimal at h
 refine calls_of (args := [.agg #[u0_0, u0_1]]) Try.func42 rfl 11 Try.ntmps42 (Nat.le_of_ble_eq_true rfl) ?_
 have hC := Ctx.start (X := Nox) w0 [Ty.item TAlg a0 [u0_0, u0_1] fp0] (by simp only [List.mem_cons, List.not_mem_nil, or_false, forall_eq_or_imp, forall_eq]; exact q0)
 have hp2 := (hC.getP 0 rfl)
 replace hC := hC.derive 0 rfl (Ty.item ((EI .i64).ty.sl) a0.degrees [u0_0] fp0) (fun _ => (alg_parts hp2).1) (fun _ hb_ => hb_)
 replace hC := hC.derive 1 rfl (Ty.item TForm.sl a0.images [u0_1] fp0) (fun _ => (alg_parts hp2).2) (fun _ hb_ => hb_)
 refine sr ?_
 refine s_box (v := .agg #[u0_0, u0_1]) hC [u0_0, u0_1] rfl rfl fun b5 w7 hB_ hC => ?_
 refine s_as (v := .int .i64 0) rfl ?_
 refine dn ?_
 refine wp_seq ?_
 refine wp_block ?_
 refine sr ?_
 refine s_loadA hC 0 [u0_0, u0_1] rfl ag30 rfl rfl rfl ?_
 refine s_call [.agg #[u0_0, u0_1]] _ Try.func29 rfl rfl rfl (c_spec_l02Is a0 h _ (alg_mk (hC.getP 1 rfl) (hC.getP 0 rfl))) (fun ret8 w10 hR9 => ?_)
 obtain ⟨r11, rfl, h, hB12⟩ := hR9
 refine ⟨_, rfl, ?_⟩
 replace hC := hC.grow hB12
 refine s_not rfl ?_
 refine s_as (v := .bool (!r11)) rfl ?_
 refine dn ?_
 refine cw_cond rfl (fun hb13 => ?_) (fun hb13 => ?_)
 ·replace h := ift h (ne_t (not_t hb13))
  refine sr ?_
  refine s_as (v := .int .i64 1) rfl ?_
  refine dn ?_
  refine wp_ret (blk_ret (then_ret ?_))
  refine ret1 (fn := Try.f42) rfl ?_ ⟨1, rfl, h, hC.below⟩ (.inl rfl)
  exact res_tmp rfl
 ·replace h := iff_ h (not_not_intro ((not_f hb13)))
  refine sr ?_
  refine s_loadA hC 0 [u0_0, u0_1] rfl ag30 rfl rfl rfl ?_
  refine s_call [.agg #[u0_0, u0_1]] _ Try.func74 rfl rfl rfl (c_spec_l02Minimal a0 h _ (alg_mk (hC.getP 1 rfl) (hC.getP 0 rfl))) (fun ret14 w16 hR15 => ?_)
  obtain ⟨r17, rfl, h, hB18⟩ := hR15
  refine ⟨_, rfl, ?_⟩
  replace hC := hC.grow hB18
  refine s_not rfl ?_
  refine s_as (v := .bool (!r17)) rfl ?_
  refine dn ?_
  refine cw_cond rfl (fun hb19 => ?_) (fun hb19 => ?_)
  ·replace h := ift h (ne_t (not_t hb19))
   refine sr ?_
   refine s_as (v := .int .i64 5) rfl ?_
   refine dn ?_
   refine wp_ret (blk_ret (then_ret ?_))
   refine ret1 (fn := Try.f42) rfl ?_ ⟨5, rfl, h, hC.below⟩ (.inl rfl)
   exact res_tmp rfl
  ·replace h := iff_ h (not_not_intro ((not_f hb19)))
   refine wp_skip ?_
   refine blk_norm ?_
   refine then_norm ?_
   refine sr ?_
   refine s_as (v := .int .i64 0) rfl ?_
   refine dn ?_
   refine wp_ret ?_
   refine ret1 (fn := Try.f42) rfl ?_ ⟨0, rfl, h, hC.below⟩ (.inl rfl)
   exact res_tmp rfl
def f_spec_l02Words (a0 : Vc.Form) (a1 : Int) (K : Vc.Form → Prop) : Prop :=
 whileP (fun (s81 : (List Term) × Int) next84 => (if s81.2 < (a0.terms.length : Int) then ((0 ≤ s81.2 ∧ s81.2 < (a0.terms.length : Int)) ∧ f_spec_l02Word ((a0.terms.getD s81.2.toNat default).mono) (fun r100 => (if r100 = a1 then ((0 ≤ s81.2 ∧ s81.2 < (a0.terms.length : Int)) ∧ (Room (s81.1.length + 1) 16 ∧ next84 (s81.1 ++ [a0.terms.getD s81.2.toNat default], IntKind.i64.wrap (s81.2 + 1)))) else next84 (s81.1, IntKind.i64.wrap (s81.2 + 1))))) else K (⟨s81.1⟩ : Vc.Form))) ([], 0)
theorem c_spec_l02Words (a0 : Vc.Form) (a1 : Int) {u0_0 : Value} {fp0 : List Nat} {K : Vc.Form → Prop} (h : f_spec_l02Words a0 a1 K) (w0 : World) (q0 : TForm.rep a0 [u0_0] fp0 w0) :
  Calls Try.prog 47 #[.agg #[u0_0], .int .i64 a1] w0 fun e w' => ∃ (r0 : Vc.Form) (z0_0 : Value) (fz0 : List Nat), 
   e = .returned (.agg #[z0_0]) ∧ K r0 ∧ (Tr.item (TrForm 76) r0 [z0_0] fz0).holds w' ∧ (∀ b, b ∈ fz0 → w0.heap.size ≤ b) ∧ Bel w0 w' := by
 unfold f_spec_l02Words at h
 refine calls_of (args := [.agg #[u0_0], .int .i64 a1]) Try.func47 rfl 35 Try.ntmps47 (Nat.le_of_ble_eq_true rfl) ?_
 have hC := Ctx.start (X := Nox) w0 [Ty.item TForm a0 [u0_0] fp0] (by simp only [List.mem_cons, List.not_mem_nil, or_false, forall_eq_or_imp, forall_eq]; exact q0)
 have hp2 := (hC.getP 0 rfl)
 replace hC := hC.derive 0 rfl (Ty.item ETerm.ty.sl a0.terms [u0_0] fp0) (fun _ => (form_parts hp2)) (fun _ hb_ => hb_)
 refine sr ?_
 refine s_box (v := .agg #[u0_0]) hC [u0_0] rfl rfl fun b4 w6 hB_ hC => ?_
 refine s_alloc hC [.slice none 0 0] z59 rfl fun b7 w9 hB_ hC => ?_
 refine dn ?_
 refine sr ?_
 refine s_build [] rfl (bl59   _) ?_
 refine s_alloc hC [.slice none 0 0] z59 rfl fun b10 w12 hB_ hC => ?_
 refine s_store (v := .agg #[.slice none 0 0]) hC 0 [.slice none 0 0] [.slice none 0 0] rfl ag59.size rfl rfl rfl rfl rfl (Nat.le_of_ble_eq_true rfl) rfl fun w13 hC => ?_
 refine dn ?_
 refine wp_seq ?_
 refine sr ?_
 refine s_as (v := .int .i64 0) rfl ?_
 refine dn ?_
 refine wp_block ?_
 refine loopW (S := (List Term) × Int) _ (fun s81 e_ w_ => ∃ (v82 : Value), Slots e_ [(1, .int .i64 a1), (2, .pointer (some ⟨b4, 0, none⟩)), (4, .pointer (some ⟨b7, 0, none⟩)), (5, .pointer (some ⟨b10, 0, none⟩)), (6, .int .i64 s81.2)] ∧ Ctx Nox w0 w_ [own 76 9 v82 s81.1.length (ETerm.encs s81.1), blk b10 59 [v82], blk b7 59 [.slice none 0 0], blk b4 59 [u0_0]] [Ty.item ETerm.ty.sl a0.terms [u0_0] fp0, Ty.item TForm a0 [u0_0] fp0]) ?_ (s0 := ([], 0)) ?_ h
 ·clear hC h
  rintro s81 e_ w87 next84 K85 ⟨v82, hS_, hC⟩ h hK86
  refine wp_seq ?_
  refine sr ?_
  refine s_mv (v := .int .i64 s81.2) (sx hS_ 4 rfl) ?_
  refine s_faddrB 0 Try.underlying59 rfl sc57.size (sx hS_ 1 rfl) rfl ?_
  refine s_loadS hC 3 (u0_0) rfl sc57 rfl rfl ?_
  obtain ⟨Ad88, c89, hv90⟩ := sl_len (hC.getP 0 rfl)
  refine s_len Try.underlying57 (tr rfl hv90) ?_
  refine s_lss rfl rfl ?_
  refine dn ?_
  refine cw_cond rfl (fun hb91 => ?_) (fun hb91 => ?_)
  ·replace h := ift h (ct hb91)
   refine wp_skip ?_
   refine then_norm ?_
   refine wp_seq ?_
   refine wp_block ?_
   refine sr ?_
   refine s_faddrB 0 Try.underlying59 rfl sc57.size (sx hS_ 1 rfl) rfl ?_
   refine s_loadS hC 3 (u0_0) rfl sc57 rfl rfl ?_
   refine s_mv (v := .int .i64 s81.2) (sx hS_ 4 rfl) ?_
   obtain ⟨⟨h0_92, h1_93⟩, h⟩ := h
   obtain ⟨Ad94, c95, hv96⟩ := sl_form (hC.getP 0 rfl) s81.2.toNat (show s81.2.toNat < a0.terms.length by omega)
   refine s_iaddrS (len := a0.terms.length) Try.underlying57 ag76.size (tr rfl hv96) rfl h0_92 h1_93 ?_
   refine s_faddrS (s81.2.toNat * 9 + 0) Try.underlying76 rfl ag74.size rfl rfl ?_
   refine s_loadCA (A8.enc .u8 ((a0.terms.getD s81.2.toNat default).mono)) (cells_subS (o := 0) (k := 8) (sl_cellsE (hC.getP 0 rfl) hv96 s81.2.toNat (show s81.2.toNat < a0.terms.length by omega)) rfl) ag74 rfl rfl ?_
   refine s_call [.agg (List.toArray (A8.enc .u8 ((a0.terms.getD s81.2.toNat default).mono)))] _ Try.func78 rfl rfl rfl (c_spec_l02Word ((a0.terms.getD s81.2.toNat default).mono) h _) (fun ret97 w99 hR98 => ?_)
   obtain ⟨r100, rfl, h, hB101⟩ := hR98
   refine ⟨_, rfl, ?_⟩
   replace hC := hC.grow hB101
   refine s_mv (v := .int .i64 a1) (sx hS_ 0 rfl) ?_
   refine s_eql rfl rfl ?_
   refine dn ?_
   refine cw_cond rfl (fun hb102 => ?_) (fun hb102 => ?_)
   ·replace h := ift h (ct hb102)
    refine cw_draw 8 mixed [0, 1, 0, 4, 0, 28, 60, 124, 255, 511, 1023] [1, 3, 5, 6] [0, 2, 4] (by kernel_rfl) (by kernel_rfl) (by kernel_rfl) (fun hM104 hM105 w103 hB_ => ?_)
    replace hC := hC.grow hB_
    refine ae_lookF belPre 0 (.pointer (some ⟨b10, 0, none⟩)) rfl rfl (by kernel_rfl) (hM105 0 rfl) (fun w_ => .inl ⟨rfl, by exact r_faddrB 0 Try.underlying59 rfl sc57.size (sx hS_ 3 rfl) rfl⟩) (l9 := (dbits 11 1)) (by kernel_rfl) ?_
    refine ae_look belPre 1 (v82) rfl rfl (by kernel_rfl) (hM104 1 rfl) (fun w_ hB_ => .inl ⟨rfl, by exact r_loadS (hC.grow hB_) 1 (v82) rfl sc57 rfl rfl⟩) (l9 := (dbits 11 3)) (by kernel_rfl) ?_
    refine ae_lookF belPre 2 (.pointer (some ⟨b4, 0, none⟩)) rfl rfl (by kernel_rfl) (hM105 2 rfl) (fun w_ => .inl ⟨rfl, by exact r_faddrB 0 Try.underlying59 rfl sc57.size (sx hS_ 1 rfl) rfl⟩) (l9 := (dbits 11 7)) (by kernel_rfl) ?_
    refine ae_look belPre 3 (u0_0) rfl rfl (by kernel_rfl) (hM104 3 rfl) (fun w_ hB_ => .inl ⟨rfl, by exact r_loadS (hC.grow hB_) 3 (u0_0) rfl sc57 rfl rfl⟩) (l9 := (dbits 11 15)) (by kernel_rfl) ?_
    refine ae_lookF belPre 4 (.int .i64 s81.2) rfl rfl (by kernel_rfl) (hM105 4 rfl) (fun w_ => .inl ⟨rfl, by exact r_mv (v := .int .i64 s81.2) (sx hS_ 4 rfl)⟩) (l9 := (dbits 11 31)) (by kernel_rfl) ?_
    obtain ⟨⟨h0_106, h1_107⟩, h⟩ := h
    obtain ⟨Ad108, c109, hv110⟩ := sl_form (hC.getP 0 rfl) s81.2.toNat (show s81.2.toNat < a0.terms.length by omega)
    refine ae_look belPre 5 (.pointer (some (Ad108.add (s81.2.toNat * 9)))) rfl rfl (by kernel_rfl) (hM104 5 rfl) (fun w_ hB_ => .inl ⟨rfl, by exact r_iaddrS (len := a0.terms.length) Try.underlying57 ag76.size (by exact tr rfl hv110) rfl h0_106 h1_107⟩) (l9 := (dbits 11 63)) (by kernel_rfl) ?_
    refine ae_look belPre 6 (.agg (List.toArray (Term.enc (a0.terms.getD s81.2.toNat default)))) rfl rfl (by kernel_rfl) (hM104 6 rfl) (fun w_ hB_ => .inl ⟨rfl, by exact r_loadCA (Term.enc (a0.terms.getD s81.2.toNat default)) (sl_cellsE ((hC.grow hB_).getP 0 rfl) hv110 s81.2.toNat (show s81.2.toNat < a0.terms.length by omega)) ag76 rfl rfl⟩) (l9 := (dbits 11 127)) (by kernel_rfl) ?_
    refine ae_one 7 rfl (by kernel_rfl) ?_
    refine s_bslice (sz := 9) hC [(0, .agg (List.toArray (Term.enc (a0.terms.getD s81.2.toNat default))))] (ETerm.encs [a0.terms.getD s81.2.toNat default]) rfl (fun _ => bs57_1 (a0.terms.getD s81.2.toNat default) _) rfl (by decide) fun b111 w112 hB_ hC => ?_
    refine done ?_
    refine ak_intro (by assumption) (l9 := (dbits 11 255)) (by kernel_rfl) ?_
    refine ae_tail 8 (by decide) (by decide) (by kernel_rfl) (by kernel_rfl) rfl ?_
    obtain ⟨hm116, h⟩ := h
    refine s_app hC 1 Try.underlying57 el76 rfl (by decide) (by decide) rfl (own_rdr (hC.getM 0 rfl)) (fun q hq => Enc.encs_one' (E := ETerm) _ q hq) rfl rfl hm116 fun v114 w115 hC => ?_
    replace hC := own_re hC 1 ((s81.1 ++ [a0.terms.getD s81.2.toNat default]).length) (ETerm.encs (s81.1 ++ [a0.terms.getD s81.2.toNat default])) rfl (by simp) (by first | (simp [Enc.encs_append]; done) | simp [Enc.encs_append, Enc.encs])
    refine s_faddrB 0 Try.underlying59 rfl sc57.size (sx hS_ 3 rfl) rfl ?_
    refine s_store (v := v114) hC 2 [v114] [v114] rfl sc57.size rfl rfl (own_cellsV (hC.getM 1 rfl)) rfl (all_c (own_oneC (hC.getM 1 rfl)) rfl) (Nat.le_of_ble_eq_true rfl) rfl fun w117 hC => ?_
    refine done ?_
    refine qn_norm ?_
    refine blk_norm ?_
    refine then_norm ?_
    refine cw_region ?_
    refine s_mv (v := .int .i64 s81.2) (sx hS_ 4 rfl) ?_
    refine s_add rfl rfl ?_
    refine s_as (v := .int .i64 (IntKind.i64.wrap (s81.2 + 1))) rfl ?_
    refine done ?_
    replace hC := hC.sel [1, 2, 3, 4] [0, 1] (M' := [own 76 9 v114 ((s81.1 ++ [a0.terms.getD s81.2.toNat default]).length) (ETerm.encs (s81.1 ++ [a0.terms.getD s81.2.toNat default])), blk b10 59 [v114], blk b7 59 [.slice none 0 0], blk b4 59 [u0_0]]) (Ps' := [Ty.item ETerm.ty.sl a0.terms [u0_0] fp0, Ty.item TForm a0 [u0_0] fp0]) (by decide) rfl rfl
    exact hK86 (s81.1 ++ [a0.terms.getD s81.2.toNat default], IntKind.i64.wrap (s81.2 + 1)) _ _ ⟨v114, (sk (sx hS_ 0 rfl) (sk (sx hS_ 1 rfl) (sk (sx hS_ 2 rfl) (sk (sx hS_ 3 rfl) (sk rfl sn))))), hC⟩ h
   ·replace h := iff_ h (cf hb102)
    refine wp_skip ?_
    refine blk_norm ?_
    refine then_norm ?_
    refine cw_region ?_
    refine s_mv (v := .int .i64 s81.2) (sx hS_ 4 rfl) ?_
    refine s_add rfl rfl ?_
    refine s_as (v := .int .i64 (IntKind.i64.wrap (s81.2 + 1))) rfl ?_
    refine done ?_
    exact hK86 (s81.1, IntKind.i64.wrap (s81.2 + 1)) _ _ ⟨v82, (sk (sx hS_ 0 rfl) (sk (sx hS_ 1 rfl) (sk (sx hS_ 2 rfl) (sk (sx hS_ 3 rfl) (sk rfl sn))))), hC⟩ h
  ·replace h := iff_ h (cf hb91)
   refine wp_exit (then_exit (then_exit (exit_in ?_)))
   refine then_norm ?_
   refine sr ?_
   refine s_loadA hC 1 [v82] rfl ag59 (sx hS_ 3 rfl) rfl rfl ?_
   refine s_store (v := .agg #[v82]) hC 2 [v82] [v82] rfl ag59.size (sx hS_ 2 rfl) rfl rfl rfl (all_c (own_oneC (hC.getM 0 rfl)) rfl) (Nat.le_of_ble_eq_true rfl) rfl fun w118 hC => ?_
   refine dn ?_
   refine wp_ret ?_
   refine ret1 (fn := Try.f47) rfl ?_ ⟨(⟨s81.1⟩ : Vc.Form), v82, (Option.toList (Value.ownBlock v82)), rfl, h, (form_join (own_item (hC.getM 0 rfl))), (own_fresh hC 0 rfl), hC.below⟩ (.inl rfl)
   exact res_cellA hC 2 rfl ag59 (sx hS_ 2 rfl) rfl
 ·skip
  replace hC := hC.pushNil 76 9
  exact ⟨.slice none 0 0, (sk rfl (sk rfl (sk rfl (sk rfl (sk rfl sn))))), hC⟩
def f_spec_l01Own (a0 : List Int) (K : List Int → Prop) : Prop :=
 (Room (0 + a0.length) 8 ∧ K a0)
theorem c_spec_l01Own (a0 : List Int) {u0_0 : Value} {fp0 : List Nat} {K : List Int → Prop} (h : f_spec_l01Own a0 K) (w0 : World) (q0 : ((EI .i64).ty.sl).rep a0 [u0_0] fp0 w0) :
  Calls Try.prog 57 #[u0_0] w0 fun e w' => ∃ (r0 : List Int) (z0_0 : Value) (fz0 : List Nat), 
   e = .returned (z0_0) ∧ K r0 ∧ (Tr.item (Tr.sl 2 ((EI .i64).tr)) r0 [z0_0] fz0).holds w' ∧ (∀ b, b ∈ fz0 → w0.heap.size ≤ b) ∧ Bel w0 w' := by
 unfold f_spec_l01Own at h
 refine calls_of (args := [u0_0]) Try.func57 rfl 6 Try.ntmps57 (Nat.le_of_ble_eq_true rfl) ?_
 have hC := Ctx.start (X := Nox) w0 [Ty.item ((EI .i64).ty.sl) a0 [u0_0] fp0] (by simp only [List.mem_cons, List.not_mem_nil, or_false, forall_eq_or_imp, forall_eq]; exact q0)
 refine sr ?_
 refine s_as (v := .slice none 0 0) rfl ?_
 refine dn ?_
 refine sr ?_
 refine s_bslice (sz := 1) hC [] ((EI .i64).encs []) rfl (fun _ => bs22_0  _) rfl (by decide) fun b2 w3 hB_ hC => ?_
 refine s_mv (v := u0_0) rfl ?_
 obtain ⟨hm7, h⟩ := h
 refine s_app hC 0 Try.underlying22 el2 rfl (by decide) (by decide) rfl (sl_rdr (hC.getP 0 rfl)) (fun q hq => Enc.encs_one' (E := (EI .i64)) _ q hq) rfl rfl hm7 fun v5 w6 hC => ?_
 replace hC := own_re hC 0 (a0.length) ((EI .i64).encs a0) rfl (by simp) (by first | (simp [Enc.encs_append]; done) | simp [Enc.encs_append, Enc.encs])
 refine s_as (v := v5) rfl ?_
 refine dn ?_
 refine wp_ret ?_
 refine ret1 (fn := Try.f57) rfl ?_ ⟨a0, v5, (Option.toList (Value.ownBlock v5)), rfl, h, (own_item (hC.getM 0 rfl)), (own_fresh hC 0 rfl), hC.below⟩ (.inl rfl)
 exact res_tmp rfl
def f_spec_l10Quadratic (a0 : Alg) (K : Alg → Prop) : Prop :=
 f_spec_l01Own a0.degrees (fun r14 => whileP (fun (s118 : (List Vc.Form) × Int) next122 => (if s118.2 < (a0.images.length : Int) then ((0 ≤ s118.2 ∧ s118.2 < (a0.images.length : Int)) ∧ f_spec_l02Words (a0.images.getD s118.2.toNat default) 2 (fun r147 => (Room (s118.1.length + 1) 24 ∧ next122 (s118.1 ++ [r147], IntKind.i64.wrap (s118.2 + 1))))) else K (⟨r14, s118.1⟩ : Alg))) ([], 0))
theorem c_spec_l10Quadratic (a0 : Alg) {u0_0 : Value} {u0_1 : Value} {fp0 : List Nat} {K : Alg → Prop} (h : f_spec_l10Quadratic a0 K) (w0 : World) (q0 : TAlg.rep a0 [u0_0, u0_1] fp0 w0) :
  Calls Try.prog 43 #[.agg #[u0_0, u0_1]] w0 fun e w' => ∃ (r0 : Alg) (z0_0 : Value) (z0_1 : Value) (fz0 : List Nat), 
   e = .returned (.agg #[z0_0, z0_1]) ∧ K r0 ∧ (Tr.item (TrAlg 2 76 59) r0 [z0_0, z0_1] fz0).holds w' ∧ (∀ b, b ∈ fz0 → w0.heap.size ≤ b) ∧ Bel w0 w' := by
 unfold f_spec_l10Quadratic at h
 refine calls_of (args := [.agg #[u0_0, u0_1]]) Try.func43 rfl 28 Try.ntmps43 (Nat.le_of_ble_eq_true rfl) ?_
 have hC := Ctx.start (X := Nox) w0 [Ty.item TAlg a0 [u0_0, u0_1] fp0] (by simp only [List.mem_cons, List.not_mem_nil, or_false, forall_eq_or_imp, forall_eq]; exact q0)
 have hp2 := (hC.getP 0 rfl)
 replace hC := hC.derive 0 rfl (Ty.item ((EI .i64).ty.sl) a0.degrees [u0_0] fp0) (fun _ => (alg_parts hp2).1) (fun _ hb_ => hb_)
 replace hC := hC.derive 1 rfl (Ty.item TForm.sl a0.images [u0_1] fp0) (fun _ => (alg_parts hp2).2) (fun _ hb_ => hb_)
 refine sr ?_
 refine s_box (v := .agg #[u0_0, u0_1]) hC [u0_0, u0_1] rfl rfl fun b5 w7 hB_ hC => ?_
 refine s_alloc hC [.slice none 0 0, .slice none 0 0] z30 rfl fun b8 w10 hB_ hC => ?_
 refine dn ?_
 refine sr ?_
 refine s_faddrB 0 Try.underlying30 rfl sc22.size rfl rfl ?_
 refine s_loadS hC 1 (u0_0) rfl sc22 rfl rfl ?_
 refine s_call [u0_0] _ Try.func57 rfl rfl rfl (c_spec_l01Own a0.degrees h _ (hC.getP 1 rfl)) (fun ret11 w13 hR12 => ?_)
 obtain ⟨r14, u15, f16, rfl, h, hr17, hf18, hB19⟩ := hR12
 refine ⟨_, rfl, ?_⟩
 replace hC := hC.push hB19 (Tr.item (Tr.sl 2 ((EI .i64).tr)) r14 [u15] f16) hr17 hf18
 obtain ⟨ho21, hf22⟩ := flat_tr (hC.getM 0 rfl).1
 subst hf22
 replace hC := hC.recast (c := own 2 1 u15 r14.length ((EI .i64).encs r14)) (fun _ h_ => h_) (fun _ => ho21)
 refine s_build [(0, u15)] rfl (bl30_0sl u15 (own_isSl (hC.getM 0 rfl)) _) ?_
 refine s_alloc hC [.slice none 0 0, .slice none 0 0] z30 rfl fun b24 w26 hB_ hC => ?_
 refine s_store (v := .agg #[u15, .slice none 0 0]) hC 0 [u15, .slice none 0 0] [u15, .slice none 0 0] rfl ag30.size rfl rfl rfl rfl (all_c (own_oneC (hC.getM 1 rfl)) (all_c rfl rfl)) (Nat.le_of_ble_eq_true rfl) rfl fun w27 hC => ?_
 refine dn ?_
 refine wp_seq ?_
 refine sr ?_
 refine s_as (v := .int .i64 0) rfl ?_
 refine dn ?_
 refine wp_block ?_
 refine loopW (S := (List Vc.Form) × Int) _ (fun s118 e_ w_ => ∃ (v119 : Value), ∃ (f121 : List Nat), Slots e_ [(1, .pointer (some ⟨b5, 0, none⟩)), (2, .pointer (some ⟨b8, 0, none⟩)), (3, .pointer (some ⟨b24, 0, none⟩)), (4, .int .i64 s118.2)] ∧ Ctx Nox w0 w_ [Tr.item (Tr.sl 59 (TrForm 76)) s118.1 [v119] f121, blk b24 30 [u15, v119], own 2 1 u15 r14.length ((EI .i64).encs r14), blk b8 30 [.slice none 0 0, .slice none 0 0], blk b5 30 [u0_0, u0_1]] [Ty.item TForm.sl a0.images [u0_1] fp0, Ty.item ((EI .i64).ty.sl) a0.degrees [u0_0] fp0, Ty.item TAlg a0 [u0_0, u0_1] fp0]) ?_ (s0 := ([], 0)) ?_ h
 ·clear hC h
  rintro s118 e_ w125 next122 K123 ⟨v119, f121, hS_, hC⟩ h hK124
  refine wp_seq ?_
  refine sr ?_
  refine s_mv (v := .int .i64 s118.2) (sx hS_ 3 rfl) ?_
  refine s_faddrB 1 Try.underlying30 rfl sc28.size (sx hS_ 0 rfl) rfl ?_
  refine s_loadS hC 4 (u0_1) rfl sc28 rfl rfl ?_
  obtain ⟨Ad126, c127, hv128⟩ := sl_len (hC.getP 0 rfl)
  refine s_len Try.underlying28 (tr rfl hv128) ?_
  refine s_lss rfl rfl ?_
  refine dn ?_
  refine cw_cond rfl (fun hb129 => ?_) (fun hb129 => ?_)
  ·replace h := ift h (ct hb129)
   refine wp_skip ?_
   refine then_norm ?_
   refine wp_seq ?_
   refine wp_block ?_
   refine cw_draw 9 mixed [0, 1, 0, 4, 0, 28, 60, 124, 252, 511, 1023, 2047] [1, 3, 5, 6] [0, 2, 4] (by kernel_rfl) (by kernel_rfl) (by kernel_rfl) (fun hM131 hM132 w130 hB_ => ?_)
   replace hC := hC.grow hB_
   refine ae_lookF belPre 0 (.pointer (some ⟨b24, 1, none⟩)) rfl rfl (by kernel_rfl) (hM132 0 rfl) (fun w_ => .inl ⟨rfl, by exact r_faddrB 1 Try.underlying30 rfl sc28.size (sx hS_ 2 rfl) rfl⟩) (l9 := (dbits 12 1)) (by kernel_rfl) ?_
   refine ae_look belPre 1 (v119) rfl rfl (by kernel_rfl) (hM131 1 rfl) (fun w_ hB_ => .inl ⟨rfl, by exact r_loadS (hC.grow hB_) 1 (v119) rfl sc28 rfl rfl⟩) (l9 := (dbits 12 3)) (by kernel_rfl) ?_
   refine ae_lookF belPre 2 (.pointer (some ⟨b5, 1, none⟩)) rfl rfl (by kernel_rfl) (hM132 2 rfl) (fun w_ => .inl ⟨rfl, by exact r_faddrB 1 Try.underlying30 rfl sc28.size (sx hS_ 0 rfl) rfl⟩) (l9 := (dbits 12 7)) (by kernel_rfl) ?_
   refine ae_look belPre 3 (u0_1) rfl rfl (by kernel_rfl) (hM131 3 rfl) (fun w_ hB_ => .inl ⟨rfl, by exact r_loadS (hC.grow hB_) 4 (u0_1) rfl sc28 rfl rfl⟩) (l9 := (dbits 12 15)) (by kernel_rfl) ?_
   refine ae_lookF belPre 4 (.int .i64 s118.2) rfl rfl (by kernel_rfl) (hM132 4 rfl) (fun w_ => .inl ⟨rfl, by exact r_mv (v := .int .i64 s118.2) (sx hS_ 3 rfl)⟩) (l9 := (dbits 12 31)) (by kernel_rfl) ?_
   obtain ⟨⟨h0_133, h1_134⟩, h⟩ := h
   obtain ⟨Ad135, c136, hv137⟩ := sl_form (hC.getP 0 rfl) s118.2.toNat (show s118.2.toNat < a0.images.length by omega)
   refine ae_look belPre 5 (.pointer (some (Ad135.add (s118.2.toNat * 1)))) rfl rfl (by kernel_rfl) (hM131 5 rfl) (fun w_ hB_ => .inl ⟨rfl, by exact r_iaddrS (len := a0.images.length) Try.underlying28 ag59.size (by exact tr rfl hv137) rfl h0_133 h1_134⟩) (l9 := (dbits 12 63)) (by kernel_rfl) ?_
   obtain ⟨cs_, hl139, hc140, hr141⟩ := sl_cells (hC.getP 0 rfl) hv137 s118.2.toNat (show s118.2.toNat < a0.images.length by omega)
   obtain ⟨u138, rfl⟩ := List.length_eq_one_iff.1 hl139
   clear hl139
   rw [getD_eq _ _ (show s118.2.toNat < a0.images.length by omega)] at hr141
   have hp142 := hr141
   replace hC := hC.derive 0 rfl (Ty.item ETerm.ty.sl ((a0.images.getD s118.2.toNat default).terms) [u138] fp0) (fun _ => (form_parts hp142)) (fun _ hb_ => hb_)
   refine ae_look belPre 6 (.agg #[u138]) rfl rfl (by kernel_rfl) (hM131 6 rfl) (fun w_ hB_ => .inl ⟨rfl, by exact r_loadCA [u138] (cellsAt_bel hB_ hc140) ag59 rfl rfl⟩) (l9 := (dbits 12 127)) (by kernel_rfl) ?_
   refine ae_one 7 rfl (by kernel_rfl) ?_
   refine s_call [.agg #[u138], .int .i64 2] _ Try.func47 rfl rfl rfl (c_spec_l02Words (a0.images.getD s118.2.toNat default) 2 h _ (form_mk (hC.getP 0 rfl))) (fun ret144 w146 hR145 => ?_)
   obtain ⟨r147, u148, f149, rfl, h, hr150, hf151, hB152⟩ := hR145
   refine ⟨_, rfl, ?_⟩
   replace hC := hC.push hB152 (Tr.item (TrForm 76) r147 [u148] f149) hr150 hf151
   obtain ⟨ho154, hf155⟩ := form_split (hC.getM 0 rfl)
   subst hf155
   replace hC := hC.recast (c := own 76 9 u148 r147.terms.length (ETerm.encs r147.terms)) (fun _ h_ => h_) (fun _ => ho154)
   refine done ?_
   refine ak_intro (by assumption) (l9 := (dbits 12 255)) (by kernel_rfl) ?_
   refine ae_one 8 rfl (by kernel_rfl) ?_
   refine s_bslice (sz := 1) hC [(0, .agg #[u148])] [u148] rfl (fun _ => bsr28_1_s u148 (own_isSl (hC.getM 0 rfl)) _) rfl (by decide) fun b157 w158 hB_ hC => ?_
   replace hC := hC.pushM0 (forest (TrForm 76) [] [] []) (forest_nil _ _) rfl
   replace hC := hC.sel [2, 0, 1, 3, 4, 5, 6, 7] [0, 1, 2, 3] (M' := [own 76 9 u148 r147.terms.length (ETerm.encs r147.terms), forest (TrForm 76) [] [] [], own 59 1 (.slice (some ⟨b157, 0, none⟩) 1 1) 1 [u148], Tr.item (Tr.sl 59 (TrForm 76)) s118.1 [v119] f121, blk b24 30 [u15, v119], own 2 1 u15 r14.length ((EI .i64).encs r14), blk b8 30 [.slice none 0 0, .slice none 0 0], blk b5 30 [u0_0, u0_1]]) (Ps' := [Ty.item ETerm.ty.sl ((a0.images.getD s118.2.toNat default).terms) [u138] fp0, Ty.item TForm.sl a0.images [u0_1] fp0, Ty.item ((EI .i64).ty.sl) a0.degrees [u0_0] fp0, Ty.item TAlg a0 [u0_0, u0_1] fp0]) (by decide) rfl rfl
   replace hC := hC.gather (c := forest (TrForm 76) [r147] [u148] [(Option.toList (Value.ownBlock u148))]) (fun x_ hx_ => forest_mem hx_) (fun h1_ h2_ hd_ => forest_cons (c := [u148]) (form_join (own_item h1_)) h2_ hd_)
   replace hC := hC.sel [1, 0, 2, 3, 4, 5, 6] [0, 1, 2, 3] (M' := [own 59 1 (.slice (some ⟨b157, 0, none⟩) 1 1) 1 [u148], forest (TrForm 76) [r147] [u148] [(Option.toList (Value.ownBlock u148))], Tr.item (Tr.sl 59 (TrForm 76)) s118.1 [v119] f121, blk b24 30 [u15, v119], own 2 1 u15 r14.length ((EI .i64).encs r14), blk b8 30 [.slice none 0 0, .slice none 0 0], blk b5 30 [u0_0, u0_1]]) (Ps' := [Ty.item ETerm.ty.sl ((a0.images.getD s118.2.toNat default).terms) [u138] fp0, Ty.item TForm.sl a0.images [u0_1] fp0, Ty.item ((EI .i64).ty.sl) a0.degrees [u0_0] fp0, Ty.item TAlg a0 [u0_0, u0_1] fp0]) (by decide) rfl rfl
   replace hC := hC.gather (c := Tr.item (Tr.sl 59 (TrForm 76)) [r147] [.slice (some ⟨b157, 0, none⟩) 1 1] ((Option.toList (Value.ownBlock (.slice (some ⟨b157, 0, none⟩) 1 1))) ++ ([(Option.toList (Value.ownBlock u148))] : List (List Nat)).flatten)) (fun x_ hx_ => List.mem_append.1 hx_) (fun h1_ h2_ hd_ => forest_up h1_ h2_ hd_)
   refine done ?_
   refine ak_intro (by assumption) (l9 := (dbits 12 511)) (by kernel_rfl) ?_
   refine ae_tail 9 (by decide) (by decide) (by kernel_rfl) (by kernel_rfl) rfl ?_
   replace hC := hC.sel [1, 0, 2, 3, 4, 5] [0, 1, 2, 3] (M' := [Tr.item (Tr.sl 59 (TrForm 76)) s118.1 [v119] f121, Tr.item (Tr.sl 59 (TrForm 76)) [r147] [.slice (some ⟨b157, 0, none⟩) 1 1] ((Option.toList (Value.ownBlock (.slice (some ⟨b157, 0, none⟩) 1 1))) ++ ([(Option.toList (Value.ownBlock u148))] : List (List Nat)).flatten), blk b24 30 [u15, v119], own 2 1 u15 r14.length ((EI .i64).encs r14), blk b8 30 [.slice none 0 0, .slice none 0 0], blk b5 30 [u0_0, u0_1]]) (Ps' := [Ty.item ETerm.ty.sl ((a0.images.getD s118.2.toNat default).terms) [u138] fp0, Ty.item TForm.sl a0.images [u0_1] fp0, Ty.item ((EI .i64).ty.sl) a0.degrees [u0_0] fp0, Ty.item TAlg a0 [u0_0, u0_1] fp0]) (by decide) rfl rfl
   obtain ⟨hm165, h⟩ := h
   refine s_appT hC Try.underlying28 el59 rfl (by decide) (by decide) rfl rfl hm165 fun v162 f164 w163 hC => ?_
   refine s_faddrB 1 Try.underlying30 rfl sc28.size (sx hS_ 2 rfl) rfl ?_
   refine s_store (v := v162) hC 1 [v162] [u15, v162] rfl sc28.size rfl rfl (rep_cellsV (Tr.trep _ (hC.getM 0 rfl).1)) rfl (all_c (rep_oneC (Tr.trep _ (hC.getM 0 rfl).1)) rfl) (Nat.le_of_ble_eq_true rfl) rfl fun w166 hC => ?_
   refine done ?_
   refine qn_norm ?_
   refine blk_norm ?_
   refine then_norm ?_
   refine cw_region ?_
   refine s_mv (v := .int .i64 s118.2) (sx hS_ 3 rfl) ?_
   refine s_add rfl rfl ?_
   refine s_as (v := .int .i64 (IntKind.i64.wrap (s118.2 + 1))) rfl ?_
   refine done ?_
   replace hC := hC.sel [0, 1, 2, 3, 4] [1, 2, 3] (M' := [Tr.item (Tr.sl 59 (TrForm 76)) (s118.1 ++ [r147]) [v162] f164, blk b24 30 [u15, v162], own 2 1 u15 r14.length ((EI .i64).encs r14), blk b8 30 [.slice none 0 0, .slice none 0 0], blk b5 30 [u0_0, u0_1]]) (Ps' := [Ty.item TForm.sl a0.images [u0_1] fp0, Ty.item ((EI .i64).ty.sl) a0.degrees [u0_0] fp0, Ty.item TAlg a0 [u0_0, u0_1] fp0]) (by decide) rfl rfl
   exact hK124 (s118.1 ++ [r147], IntKind.i64.wrap (s118.2 + 1)) _ _ ⟨v162, f164, (sk (sx hS_ 0 rfl) (sk (sx hS_ 1 rfl) (sk (sx hS_ 2 rfl) (sk rfl sn)))), hC⟩ h
  ·replace h := iff_ h (cf hb129)
   refine wp_exit (then_exit (then_exit (exit_in ?_)))
   refine then_norm ?_
   refine sr ?_
   refine s_loadA hC 1 [u15, v119] rfl ag30 (sx hS_ 2 rfl) rfl rfl ?_
   refine s_store (v := .agg #[u15, v119]) hC 3 [u15, v119] [u15, v119] rfl ag30.size (sx hS_ 1 rfl) rfl rfl rfl (all_c (own_oneC (hC.getM 2 rfl)) (all_c (rep_oneC (Tr.trep _ (hC.getM 0 rfl).1)) rfl)) (Nat.le_of_ble_eq_true rfl) rfl fun w167 hC => ?_
   refine dn ?_
   refine wp_ret ?_
   refine ret1 (fn := Try.f43) rfl ?_ ⟨(⟨r14, s118.1⟩ : Alg), u15, v119, ((Option.toList (Value.ownBlock u15)) ++ f121), rfl, h, (alg_join (own_item (hC.getM 2 rfl)) (hC.getM 0 rfl) (fun x hx hx' => hC.mm 2 0 rfl rfl (by decide) x hx hx')), (fun b hb => (List.mem_append.1 hb).elim (fun hb => (own_fresh hC 2 rfl) b hb) (fun hb => (tr_fresh hC 0 rfl) b hb)), hC.below⟩ (.inl rfl)
   exact res_cellA hC 3 rfl ag30 (sx hS_ 1 rfl) rfl
 ·skip
  replace hC := hC.pushM0 (Tr.item (Tr.sl 59 (TrForm 76)) [] [.slice none 0 0] []) (nil_item _ _ _) rfl
  exact ⟨.slice none 0 0, [], (sk rfl (sk rfl (sk rfl (sk rfl sn)))), hC⟩
def f_spec_QuadraticAlgebra (a0 : Alg) (K : Alg → Int → Prop) : Prop :=
 f_spec_l10Minimal a0 (fun r14 => (if r14 ≠ 0 then K (⟨[], []⟩ : Alg) r14 else f_spec_l10Quadratic a0 (fun r21 => K r21 0)))
theorem c_spec_QuadraticAlgebra (a0 : Alg) {u0_0 : Value} {u0_1 : Value} {fp0 : List Nat} {K : Alg → Int → Prop} (h : f_spec_QuadraticAlgebra a0 K) (w0 : World) (q0 : TAlg.rep a0 [u0_0, u0_1] fp0 w0) :
  Calls Try.prog 20 #[.agg #[u0_0, u0_1]] w0 fun e w' => ∃ (r0 : Alg) (z0_0 : Value) (z0_1 : Value) (fz0 : List Nat) (r1 : Int), 
   e = .returned (.tuple #[.agg #[z0_0, z0_1], .int .i64 r1]) ∧ K r0 r1 ∧ (Tr.item (TrAlg 2 76 59) r0 [z0_0, z0_1] fz0).holds w' ∧ (∀ b, b ∈ fz0 → w0.heap.size ≤ b) ∧ Bel w0 w' := by
 unfold f_spec_QuadraticAlgebra at h
 refine calls_of (args := [.agg #[u0_0, u0_1]]) Try.func20 rfl 13 Try.ntmps20 (Nat.le_of_ble_eq_true rfl) ?_
 have hC := Ctx.start (X := Nox) w0 [Ty.item TAlg a0 [u0_0, u0_1] fp0] (by simp only [List.mem_cons, List.not_mem_nil, or_false, forall_eq_or_imp, forall_eq]; exact q0)
 have hp2 := (hC.getP 0 rfl)
 replace hC := hC.derive 0 rfl (Ty.item ((EI .i64).ty.sl) a0.degrees [u0_0] fp0) (fun _ => (alg_parts hp2).1) (fun _ hb_ => hb_)
 replace hC := hC.derive 1 rfl (Ty.item TForm.sl a0.images [u0_1] fp0) (fun _ => (alg_parts hp2).2) (fun _ hb_ => hb_)
 refine sr ?_
 refine s_box (v := .agg #[u0_0, u0_1]) hC [u0_0, u0_1] rfl rfl fun b5 w7 hB_ hC => ?_
 refine s_alloc hC [.slice none 0 0, .slice none 0 0] z30 rfl fun b8 w10 hB_ hC => ?_
 refine s_as (v := .int .i64 0) rfl ?_
 refine dn ?_
 refine wp_seq ?_
 refine sr ?_
 refine s_loadA hC 1 [u0_0, u0_1] rfl ag30 rfl rfl rfl ?_
 refine s_call [.agg #[u0_0, u0_1]] _ Try.func42 rfl rfl rfl (c_spec_l10Minimal a0 h _ (alg_mk (hC.getP 1 rfl) (hC.getP 0 rfl))) (fun ret11 w13 hR12 => ?_)
 obtain ⟨r14, rfl, h, hB15⟩ := hR12
 refine ⟨_, rfl, ?_⟩
 replace hC := hC.grow hB15
 refine s_as (v := .int .i64 r14) rfl ?_
 refine dn ?_
 refine sr ?_
 refine s_mv (v := .int .i64 r14) rfl ?_
 refine s_neq rfl rfl ?_
 refine dn ?_
 refine cw_cond rfl (fun hb16 => ?_) (fun hb16 => ?_)
 ·replace h := ift h (ct hb16)
  refine sr ?_
  refine s_build [] rfl (bl30   _) ?_
  refine s_mv (v := .int .i64 r14) rfl ?_
  refine s_store (v := .agg #[.slice none 0 0, .slice none 0 0]) hC 0 [.slice none 0 0, .slice none 0 0] [.slice none 0 0, .slice none 0 0] rfl ag30.size rfl rfl rfl rfl rfl (Nat.le_of_ble_eq_true rfl) rfl fun w17 hC => ?_
  refine s_as (v := .int .i64 r14) rfl ?_
  refine dn ?_
  refine wp_ret (then_ret ?_)
  refine ret2 (fn := Try.f20) rfl ?_ ?_ ⟨(⟨[], []⟩ : Alg), .slice none 0 0, .slice none 0 0, ([] ++ []), r14, rfl, h, (alg_join (nil_item _ _ _) (nil_item _ _ _) (fun x hx => absurd hx (by simp))), (fun b hb => (List.mem_append.1 hb).elim (fun hb => (fun b hb => absurd hb (by simp)) b hb) (fun hb => (fun b hb => absurd hb (by simp)) b hb)), hC.below⟩ (.inl rfl)
  ·exact res_cellA hC 0 rfl ag30 rfl rfl
  ·exact res_tmp rfl
 ·replace h := iff_ h (cf hb16)
  refine wp_skip ?_
  refine then_norm ?_
  refine sr ?_
  refine s_loadA hC 1 [u0_0, u0_1] rfl ag30 rfl rfl rfl ?_
  refine s_call [.agg #[u0_0, u0_1]] _ Try.func43 rfl rfl rfl (c_spec_l10Quadratic a0 h _ (alg_mk (hC.getP 1 rfl) (hC.getP 0 rfl))) (fun ret18 w20 hR19 => ?_)
  obtain ⟨r21, u22, u23, f24, rfl, h, hr25, hf26, hB27⟩ := hR19
  refine ⟨_, rfl, ?_⟩
  replace hC := hC.push hB27 (Tr.item (TrAlg 2 76 59) r21 [u22, u23] f24) hr25 hf26
  obtain ⟨f29, ho30, ho31, hs32, hs33, hd34⟩ := alg_split (hC.getM 0 rfl)
  replace hC := hC.split (a := own 2 1 u22 r21.degrees.length ((EI .i64).encs r21.degrees)) (b := Tr.item (Tr.sl 59 (TrForm 76)) r21.images [u23] f29) hs32 hs33 ⟨ho30, ho31, hd34⟩
  refine s_store (v := .agg #[u22, u23]) hC 2 [u22, u23] [u22, u23] rfl ag30.size rfl rfl rfl rfl (all_c (own_oneC (hC.getM 0 rfl)) (all_c (rep_oneC (Tr.trep _ (hC.getM 1 rfl).1)) rfl)) (Nat.le_of_ble_eq_true rfl) rfl fun w37 hC => ?_
  refine s_as (v := .int .i64 0) rfl ?_
  refine dn ?_
  refine wp_ret ?_
  refine ret2 (fn := Try.f20) rfl ?_ ?_ ⟨r21, u22, u23, ((Option.toList (Value.ownBlock u22)) ++ f29), 0, rfl, h, (alg_join (own_item (hC.getM 0 rfl)) (hC.getM 1 rfl) (fun x hx hx' => hC.mm 0 1 rfl rfl (by decide) x hx hx')), (fun b hb => (List.mem_append.1 hb).elim (fun hb => (own_fresh hC 0 rfl) b hb) (fun hb => (tr_fresh hC 1 rfl) b hb)), hC.below⟩ (.inl rfl)
  ·exact res_cellA hC 2 rfl ag30 rfl rfl
  ·exact res_tmp rfl
def f_slices_IndexFunc_rows_int64_int64 (a0 : List (List Int)) (p1 : (List Int) → (Bool → Prop) → Prop) (K : Int → Prop) : Prop :=
 forN (fun i22 (s23 : Unit) next25 => p1 (a0.getD i22 default) (fun r42 => (if r42 = true then K (i22 : Int) else next25 ()))) (fun (s23 : Unit) => K (-1)) a0.length 0 ()
theorem c_slices_IndexFunc_rows_int64_int64 (a0 : List (List Int)) (p1 : (List Int) → (Bool → Prop) → Prop) {u0_0 : Value} {fp0 : List Nat} {K : Int → Prop} (h : f_slices_IndexFunc_rows_int64_int64 a0 p1 K) (w0 : World) (q0 : (((EI .i64).ty.sl).sl).rep a0 [u0_0] fp0 w0) {g1 : Nat} {cp1 : List Value} {fn1 : Func} (hf1 : Try.prog.funcs[g1]? = some fn1) (hb1 : fn1.body.isNone = false) (hn1 : (fn1.name == "runtime.NumGoroutine") = false) (hp1 : ∀ (y0 : List Int) (yu0_0 : Value) (yf0 : List Nat) (K_ : Bool → Prop) (w_ : World), Bel w0 w_ → ((EI .i64).ty.sl).rep y0 [yu0_0] yf0 w_ → p1 y0 K_ → Calls Try.prog g1 (List.toArray ([yu0_0] ++ cp1)) w_ fun e w' => ∃ (z0 : Bool), e = .returned (.bool z0) ∧ K_ z0 ∧ Bel w_ w') :
  Calls Try.prog 133 #[u0_0, .func (.func g1) #[] (List.toArray cp1)] w0 fun e w' => ∃ (r0 : Int), 
   e = .returned (.int .i64 r0) ∧ K r0 ∧ Bel w0 w' := by
 unfold f_slices_IndexFunc_rows_int64_int64 at h
 refine calls_of (args := [u0_0, .func (.func g1) #[] (List.toArray cp1)]) Try.func133 rfl 19 Try.ntmps133 (Nat.le_of_ble_eq_true rfl) ?_
 have hC := Ctx.start (X := Nox) w0 [Ty.item (((EI .i64).ty.sl).sl) a0 [u0_0] fp0] (by simp only [List.mem_cons, List.not_mem_nil, or_false, forall_eq_or_imp, forall_eq]; exact q0)
 refine sr ?_
 refine s_as (v := .int .i64 0) rfl ?_
 refine dn ?_
 refine wp_seq ?_
 refine sr ?_
 refine s_mv (v := u0_0) rfl ?_
 obtain ⟨Ad2, c3, hv4⟩ := sl_len (hC.getP 0 rfl)
 refine s_len Try.underlying45 (tr rfl hv4) ?_
 refine s_mv (v := .int .i64 0) rfl ?_
 refine dn ?_
 refine wp_block ?_
 have hN24 : a0.length ≤ 9223372036854775807 := sl_max (hC.getP 0 rfl)
 refine loopN (S := Unit) _ _ (fun i22 s23 e_ w_ => Slots e_ [(0, u0_0), (1, .func (.func g1) #[] (List.toArray cp1)), (4, .int .i64 0), (7, .int .i64 (a0.length : Int)), (8, .int .i64 (i22 : Int))] ∧ Ctx Nox w0 w_ [] [Ty.item (((EI .i64).ty.sl).sl) a0 [u0_0] fp0]) a0.length ?_ ?_ (s0 := ()) ?_ h
 ·clear hC h
  rintro i22 s23 e_ w29 next25 K26 hi28 ⟨hS_, hC⟩ h hK27
  refine sr ?_
  refine s_lss (sx hS_ 4 rfl) (sx hS_ 3 rfl) ?_
  refine dn ?_
  refine wp_seq ?_
  refine cw_true rfl (decide_eq_true (by omega)) ?_
  refine wp_skip ?_
  refine then_norm ?_
  refine wp_seq ?_
  refine wp_block ?_
  refine sr ?_
  refine s_mv (v := .int .i64 (i22 : Int)) (sx hS_ 4 rfl) ?_
  refine s_as (v := .int .i64 (i22 : Int)) rfl ?_
  refine dn ?_
  refine sr ?_
  refine s_mv (v := .func (.func g1) #[] (List.toArray cp1)) (sx hS_ 1 rfl) ?_
  refine s_mv (v := u0_0) (sx hS_ 0 rfl) ?_
  refine s_mv (v := .int .i64 (i22 : Int)) rfl ?_
  obtain ⟨Ad30, c31, hv32⟩ := sl_form (hC.getP 0 rfl) i22 hi28
  refine s_iaddrS (len := a0.length) Try.underlying45 sc22.size (tr rfl hv32) rfl (Int.natCast_nonneg _) (Int.ofNat_lt.2 hi28) ?_
  obtain ⟨cs_, hl34, hc35, hr36⟩ := sl_cells (hC.getP 0 rfl) hv32 i22 hi28
  obtain ⟨u33, rfl⟩ := List.length_eq_one_iff.1 hl34
  clear hl34
  rw [getD_eq _ _ hi28] at hr36
  replace hC := hC.derive 0 rfl (Ty.item ((EI .i64).ty.sl) (a0.getD i22 default) [u33] fp0) (fun _ => hr36) (fun _ hb_ => hb_)
  refine s_loadCS (u33) hc35 sc22 rfl ?_
  refine s_callv [u33] _ rfl hf1 hb1 hn1 rfl (hp1 _ _ _ _ _ hC.below (hC.getP 0 rfl) h) (fun ret38 w40 hR39 => ?_)
  obtain ⟨r42, rfl, h, hB41⟩ := hR39
  refine ⟨_, rfl, ?_⟩
  replace hC := hC.grow hB41
  refine dn ?_
  refine cw_cond rfl (fun hb43 => ?_) (fun hb43 => ?_)
  ·replace h := ift h (hb43)
   refine sr ?_
   refine s_mv (v := .int .i64 (i22 : Int)) rfl ?_
   refine s_as (v := .int .i64 (i22 : Int)) rfl ?_
   refine dn ?_
   refine wp_ret (blk_ret (then_ret (then_ret (blk_ret (then_ret ?_)))))
   refine ret1 (fn := Try.f133) rfl ?_ ⟨(i22 : Int), rfl, h, hC.below⟩ (.inl rfl)
   exact res_tmp rfl
  ·replace h := iff_ h (ne_t hb43)
   refine wp_skip ?_
   refine blk_norm ?_
   refine then_norm ?_
   refine cw_region ?_
   refine s_add (sx hS_ 4 rfl) rfl ?_
   refine s_mv (v := .int .i64 (IntKind.i64.wrap ((i22 : Int) + 1))) rfl ?_
   refine done ?_
   replace hC := hC.sel [] [1] (M' := []) (Ps' := [Ty.item (((EI .i64).ty.sl).sl) a0 [u0_0] fp0]) (by decide) rfl rfl
   exact hK27 () _ _ ⟨(sk (sx hS_ 0 rfl) (sk (sx hS_ 1 rfl) (sk (sx hS_ 2 rfl) (sk (sx hS_ 3 rfl) (sk (tr rfl (congrArg _ (wrap64_nat hi28 hN24))) sn))))), hC⟩ h
 ·clear hC h
  rintro s23 e_ w44 K26 ⟨hS_, hC⟩ h
  refine sr ?_
  refine s_lss (sx hS_ 4 rfl) (sx hS_ 3 rfl) ?_
  refine dn ?_
  refine wp_seq ?_
  refine cw_false rfl (decide_eq_false (by omega)) ?_
  refine wp_exit (then_exit (then_exit (exit_in ?_)))
  refine then_norm ?_
  refine sr ?_
  refine s_as (v := .int .i64 (-1)) rfl ?_
  refine dn ?_
  refine wp_ret ?_
  refine ret1 (fn := Try.f133) rfl ?_ ⟨(-1), rfl, h, hC.below⟩ (.inl rfl)
  exact res_tmp rfl
 ·skip
  exact ⟨(sk rfl (sk rfl (sk rfl (sk rfl (sk rfl sn))))), hC⟩
def f_slices_ContainsFunc_rows_int64_int64 (a0 : List (List Int)) (p1 : (List Int) → (Bool → Prop) → Prop) (K : Bool → Prop) : Prop :=
 f_slices_IndexFunc_rows_int64_int64 a0 p1 (fun r5 => K (decide (r5 ≥ 0)))
theorem c_slices_ContainsFunc_rows_int64_int64 (a0 : List (List Int)) (p1 : (List Int) → (Bool → Prop) → Prop) {u0_0 : Value} {fp0 : List Nat} {K : Bool → Prop} (h : f_slices_ContainsFunc_rows_int64_int64 a0 p1 K) (w0 : World) (q0 : (((EI .i64).ty.sl).sl).rep a0 [u0_0] fp0 w0) {g1 : Nat} {cp1 : List Value} {fn1 : Func} (hf1 : Try.prog.funcs[g1]? = some fn1) (hb1 : fn1.body.isNone = false) (hn1 : (fn1.name == "runtime.NumGoroutine") = false) (hp1 : ∀ (y0 : List Int) (yu0_0 : Value) (yf0 : List Nat) (K_ : Bool → Prop) (w_ : World), Bel w0 w_ → ((EI .i64).ty.sl).rep y0 [yu0_0] yf0 w_ → p1 y0 K_ → Calls Try.prog g1 (List.toArray ([yu0_0] ++ cp1)) w_ fun e w' => ∃ (z0 : Bool), e = .returned (.bool z0) ∧ K_ z0 ∧ Bel w_ w') :
  Calls Try.prog 104 #[u0_0, .func (.func g1) #[] (List.toArray cp1)] w0 fun e w' => ∃ (r0 : Bool), 
   e = .returned (.bool r0) ∧ K r0 ∧ Bel w0 w' := by
 unfold f_slices_ContainsFunc_rows_int64_int64 at h
 refine calls_of (args := [u0_0, .func (.func g1) #[] (List.toArray cp1)]) Try.func104 rfl 9 Try.ntmps104 (Nat.le_of_ble_eq_true rfl) ?_
 have hC := Ctx.start (X := Nox) w0 [Ty.item (((EI .i64).ty.sl).sl) a0 [u0_0] fp0] (by simp only [List.mem_cons, List.not_mem_nil, or_false, forall_eq_or_imp, forall_eq]; exact q0)
 refine sr ?_
 refine s_as (v := .bool false) rfl ?_
 refine dn ?_
 refine sr ?_
 refine s_mv (v := u0_0) rfl ?_
 refine s_mv (v := .func (.func g1) #[] (List.toArray cp1)) rfl ?_
 refine s_call [u0_0, .func (.func g1) #[] (List.toArray cp1)] _ Try.func133 rfl rfl rfl (c_slices_IndexFunc_rows_int64_int64 a0 p1 h _ (hC.getP 0 rfl) hf1 hb1 hn1 (fun x0_ x1_ x2_ K_ w_ hb_ => hp1 x0_ x1_ x2_ K_ w_ (below_on hC.below hb_))) (fun ret2 w4 hR3 => ?_)
 obtain ⟨r5, rfl, h, hB6⟩ := hR3
 refine ⟨_, rfl, ?_⟩
 replace hC := hC.grow hB6
 refine s_geq rfl rfl ?_
 refine s_as (v := .bool (decide (r5 ≥ 0))) rfl ?_
 refine dn ?_
 refine wp_ret ?_
 refine ret1 (fn := Try.f104) rfl ?_ ⟨decide (r5 ≥ 0), rfl, h, hC.below⟩ (.inl rfl)
 exact res_tmp rfl
def f_impl_generator (a0 : Int) (K : A8 → Prop) : Prop :=
 ((0 ≤ a0 ∧ a0 < 8) ∧ K (A8.zero.set a0.toNat 1))
theorem c_impl_generator (a0 : Int)  {K : A8 → Prop} (h : f_impl_generator a0 K) (w0 : World)  :
  Calls Try.prog 145 #[.int .i64 a0] w0 fun e w' => ∃ (r0 : A8), 
   e = .returned (.agg (List.toArray (A8.enc .i64 r0))) ∧ K r0 ∧ Bel w0 w' := by
 unfold f_impl_generator at h
 refine calls_of (args := [.int .i64 a0]) Try.func145 rfl 8 Try.ntmps145 (Nat.le_of_ble_eq_true rfl) ?_
 have hC := Ctx.start (X := Nox) w0 [] (by simp)
 refine sr ?_
 refine s_alloc hC (A8.enc .i64 A8.zero) z78 rfl fun b1 w3 hB_ hC => ?_
 refine dn ?_
 refine sr ?_
 refine s_build [] rfl (bl78   _) ?_
 refine s_alloc hC (A8.enc .i64 A8.zero) z78 rfl fun b4 w6 hB_ hC => ?_
 refine s_store (v := .agg (List.toArray (A8.enc .i64 A8.zero))) hC 0 (A8.enc .i64 A8.zero) (A8.enc .i64 A8.zero) rfl ag78.size rfl rfl rfl rfl rfl (Nat.le_of_ble_eq_true rfl) rfl fun w7 hC => ?_
 refine dn ?_
 refine sr ?_
 refine s_mv (v := .int .i64 a0) rfl ?_
 obtain ⟨⟨h0_8, h1_9⟩, h⟩ := h
 refine s_iaddrB a0.toNat Try.underlying78 sc3.size rfl rfl h0_8 h1_9 (by omega) ?_
 refine s_store (v := .int .i64 1) hC 0 [.int .i64 1] (A8.enc .i64 (A8.zero.set a0.toNat 1)) rfl sc3.size rfl rfl rfl rfl rfl (show a0.toNat < 8 by omega) (A8.enc_set _ _ _ (show a0.toNat < 8 by omega)) fun w10 hC => ?_
 refine dn ?_
 refine sr ?_
 refine s_loadA hC 0 (A8.enc .i64 (A8.zero.set a0.toNat 1)) rfl ag78 rfl rfl rfl ?_
 refine s_store (v := .agg (List.toArray (A8.enc .i64 (A8.zero.set a0.toNat 1)))) hC 1 (A8.enc .i64 (A8.zero.set a0.toNat 1)) (A8.enc .i64 (A8.zero.set a0.toNat 1)) rfl ag78.size rfl rfl rfl rfl rfl (Nat.le_of_ble_eq_true rfl) rfl fun w11 hC => ?_
 refine dn ?_
 refine wp_ret ?_
 refine ret1 (fn := Try.f145) rfl ?_ ⟨A8.zero.set a0.toNat 1, rfl, h, hC.below⟩ (.inl rfl)
 exact res_cellA hC 1 rfl ag78 rfl rfl
def f_impl_linearRow (a0 : List Int) (a1 : Vc.Form) (K : List Int → Prop) : Prop :=
 f_impl_sumOf a1 (fun r11 => forN (fun i52 (s53 : (List Int)) next56 => f_impl_generator (i52 : Int) (fun r64 => (Room (s53.length + 1) 8 ∧ next56 (s53 ++ [(mget r11 r64).getD 0])))) (fun (s53 : (List Int)) => K s53) a0.length 0 [])
theorem c_impl_linearRow (a0 : List Int) (a1 : Vc.Form) {u0_0 : Value} {u1_0 : Value} {fp0 : List Nat} {fp1 : List Nat} {K : List Int → Prop} (h : f_impl_linearRow a0 a1 K) (w0 : World) (q0 : ((EI .i64).ty.sl).rep a0 [u0_0] fp0 w0) (q1 : TForm.rep a1 [u1_0] fp1 w0) :
  Calls Try.prog 134 #[u0_0, .agg #[u1_0]] w0 fun e w' => ∃ (r0 : List Int) (z0_0 : Value) (fz0 : List Nat), 
   e = .returned (z0_0) ∧ K r0 ∧ (Tr.item (Tr.sl 2 ((EI .i64).tr)) r0 [z0_0] fz0).holds w' ∧ (∀ b, b ∈ fz0 → w0.heap.size ≤ b) ∧ Bel w0 w' := by
 unfold f_impl_linearRow at h
 refine calls_of (args := [u0_0, .agg #[u1_0]]) Try.func134 rfl 25 Try.ntmps134 (Nat.le_of_ble_eq_true rfl) ?_
 have hC := Ctx.start (X := Nox) w0 [Ty.item ((EI .i64).ty.sl) a0 [u0_0] fp0, Ty.item TForm a1 [u1_0] fp1] (by simp only [List.mem_cons, List.not_mem_nil, or_false, forall_eq_or_imp, forall_eq]; exact ⟨q0, q1⟩)
 have hp3 := (hC.getP 1 rfl)
 replace hC := hC.derive 1 rfl (Ty.item ETerm.ty.sl a1.terms [u1_0] fp1) (fun _ => (form_parts hp3)) (fun _ hb_ => hb_)
 refine sr ?_
 refine s_box (v := .agg #[u1_0]) hC [u1_0] rfl rfl fun b5 w7 hB_ hC => ?_
 refine s_as (v := .slice none 0 0) rfl ?_
 refine dn ?_
 refine sr ?_
 refine s_loadA hC 0 [u1_0] rfl ag59 rfl rfl rfl ?_
 refine s_call [.agg #[u1_0]] _ Try.func93 rfl rfl rfl (c_impl_sumOf a1 h _ (form_mk (hC.getP 0 rfl))) (fun ret8 w10 hR9 => ?_)
 obtain ⟨r11, b12, rfl, h, hr13, hf14, hB15⟩ := hR9
 refine ⟨_, rfl, ?_⟩
 replace hC := hC.push hB15 (mapI (kvA .i64) (vvI .i64) b12 r11) hr13 (fun b_ hb_ => by obtain rfl := List.mem_singleton.1 hb_; exact hf14)
 refine s_bslice (sz := 1) hC [] ((EI .i64).encs []) rfl (fun _ => bs22_0  _) rfl (by decide) fun b17 w18 hB_ hC => ?_
 refine s_as (v := .map (some b12)) rfl ?_
 refine s_as (v := .slice (some ⟨b17, 0, none⟩) 0 0) rfl ?_
 refine dn ?_
 refine wp_seq ?_
 refine sr ?_
 refine s_mv (v := u0_0) rfl ?_
 obtain ⟨Ad20, c21, hv22⟩ := sl_len (hC.getP 1 rfl)
 refine s_len Try.underlying22 (tr rfl hv22) ?_
 refine s_mv (v := .int .i64 0) rfl ?_
 refine dn ?_
 refine wp_block ?_
 have hN55 : a0.length ≤ 9223372036854775807 := sl_max (hC.getP 1 rfl)
 refine loopN (S := (List Int)) _ _ (fun i52 s53 e_ w_ => ∃ (v54 : Value), Slots e_ [(4, .slice none 0 0), (5, .map (some b12)), (6, v54), (12, .int .i64 (a0.length : Int)), (13, .int .i64 (i52 : Int))] ∧ Ctx Nox w0 w_ [own 2 1 v54 s53.length ((EI .i64).encs s53), mapI (kvA .i64) (vvI .i64) b12 r11] [Ty.item ETerm.ty.sl a1.terms [u1_0] fp1, Ty.item ((EI .i64).ty.sl) a0 [u0_0] fp0, Ty.item TForm a1 [u1_0] fp1]) a0.length ?_ ?_ (s0 := []) ?_ h
 ·clear hC h
  rintro i52 s53 e_ w60 next56 K57 hi59 ⟨v54, hS_, hC⟩ h hK58
  refine sr ?_
  refine s_lss (sx hS_ 4 rfl) (sx hS_ 3 rfl) ?_
  refine dn ?_
  refine wp_seq ?_
  refine cw_true rfl (decide_eq_true (by omega)) ?_
  refine wp_skip ?_
  refine then_norm ?_
  refine wp_seq ?_
  refine wp_block ?_
  refine sr ?_
  refine s_mv (v := .int .i64 (i52 : Int)) (sx hS_ 4 rfl) ?_
  refine s_as (v := .int .i64 (i52 : Int)) rfl ?_
  refine dn ?_
  refine cw_region ?_
  refine s_mv (v := v54) (sx hS_ 2 rfl) ?_
  refine s_mv (v := .map (some b12)) (sx hS_ 1 rfl) ?_
  refine s_mv (v := .int .i64 (i52 : Int)) rfl ?_
  refine s_call [.int .i64 (i52 : Int)] _ Try.func145 rfl rfl rfl (c_impl_generator (i52 : Int) h _) (fun ret61 w63 hR62 => ?_)
  obtain ⟨r64, rfl, h, hB65⟩ := hR62
  refine ⟨_, rfl, ?_⟩
  replace hC := hC.grow hB65
  refine s_lookup r64 0 (hC.getM 1 rfl) kt78 Try.underlying119 z2 rfl rfl ?_
  refine s_bslice (sz := 1) hC [(0, .int .i64 ((mget r11 r64).getD 0))] ((EI .i64).encs [(mget r11 r64).getD 0]) rfl (fun _ => bs22_1 ((mget r11 r64).getD 0) _) rfl (by decide) fun b66 w67 hB_ hC => ?_
  obtain ⟨hm71, h⟩ := h
  refine s_app hC 1 Try.underlying22 el2 rfl (by decide) (by decide) rfl (own_rdr (hC.getM 0 rfl)) (fun q hq => Enc.encs_one' (E := (EI .i64)) _ q hq) rfl rfl hm71 fun v69 w70 hC => ?_
  replace hC := own_re hC 1 ((s53 ++ [(mget r11 r64).getD 0]).length) ((EI .i64).encs (s53 ++ [(mget r11 r64).getD 0])) rfl (by simp) (by first | (simp [Enc.encs_append]; done) | simp [Enc.encs_append, Enc.encs])
  refine s_as (v := v69) rfl ?_
  refine done ?_
  refine blk_norm ?_
  refine then_norm ?_
  refine cw_region ?_
  refine s_add (sx hS_ 4 rfl) rfl ?_
  refine s_mv (v := .int .i64 (IntKind.i64.wrap ((i52 : Int) + 1))) rfl ?_
  refine done ?_
  replace hC := hC.sel [1, 2] [0, 1, 2] (M' := [own 2 1 v69 ((s53 ++ [(mget r11 r64).getD 0]).length) ((EI .i64).encs (s53 ++ [(mget r11 r64).getD 0])), mapI (kvA .i64) (vvI .i64) b12 r11]) (Ps' := [Ty.item ETerm.ty.sl a1.terms [u1_0] fp1, Ty.item ((EI .i64).ty.sl) a0 [u0_0] fp0, Ty.item TForm a1 [u1_0] fp1]) (by decide) rfl rfl
  exact hK58 (s53 ++ [(mget r11 r64).getD 0]) _ _ ⟨v69, (sk (sx hS_ 0 rfl) (sk (sx hS_ 1 rfl) (sk rfl (sk (sx hS_ 3 rfl) (sk (tr rfl (congrArg _ (wrap64_nat hi59 hN55))) sn))))), hC⟩ h
 ·clear hC h
  rintro s53 e_ w72 K57 ⟨v54, hS_, hC⟩ h
  refine sr ?_
  refine s_lss (sx hS_ 4 rfl) (sx hS_ 3 rfl) ?_
  refine dn ?_
  refine wp_seq ?_
  refine cw_false rfl (decide_eq_false (by omega)) ?_
  refine wp_exit (then_exit (then_exit (exit_in ?_)))
  refine then_norm ?_
  refine sr ?_
  refine s_mv (v := v54) (sx hS_ 2 rfl) ?_
  refine s_as (v := v54) rfl ?_
  refine dn ?_
  refine wp_ret ?_
  refine ret1 (fn := Try.f134) rfl ?_ ⟨s53, v54, (Option.toList (Value.ownBlock v54)), rfl, h, (own_item (hC.getM 0 rfl)), (own_fresh hC 0 rfl), hC.below⟩ (.inl rfl)
  exact res_tmp rfl
 ·skip
  replace hC := hC.sel [0, 1] [0, 1, 2] (M' := [own 2 1 (.slice (some ⟨b17, 0, none⟩) 0 0) 0 ((EI .i64).encs []), mapI (kvA .i64) (vvI .i64) b12 r11]) (Ps' := [Ty.item ETerm.ty.sl a1.terms [u1_0] fp1, Ty.item ((EI .i64).ty.sl) a0 [u0_0] fp0, Ty.item TForm a1 [u1_0] fp1]) (by decide) rfl rfl
  exact ⟨.slice (some ⟨b17, 0, none⟩) 0 0, (sk rfl (sk rfl (sk rfl (sk rfl (sk rfl sn))))), hC⟩
def f_impl_Algebra_linearTable (a0 : Alg) (K : List (List Int) → Prop) : Prop :=
 forN (fun i96 (s97 : (List (List Int))) next101 => f_impl_linearRow a0.degrees (a0.images.getD i96 default) (fun r125 => (Room (s97.length + 1) 24 ∧ next101 (s97 ++ [r125])))) (fun (s97 : (List (List Int))) => K s97) a0.images.length 0 []
theorem c_impl_Algebra_linearTable (a0 : Alg) {b0 : Nat} {u0_0 : Value} {u0_1 : Value} {fp0 : List Nat} {K : List (List Int) → Prop} (h : f_impl_Algebra_linearTable a0 K) (w0 : World) (q0 : TAlg.rep a0 [u0_0, u0_1] fp0 w0) (qb0 : (blk b0 30 [u0_0, u0_1]).holds w0) :
  Calls Try.prog 105 #[.pointer (some ⟨b0, 0, none⟩)] w0 fun e w' => ∃ (r0 : List (List Int)) (z0_0 : Value) (fz0 : List Nat), 
   e = .returned (z0_0) ∧ K r0 ∧ (Tr.item (Tr.sl 22 (Tr.sl 2 ((EI .i64).tr))) r0 [z0_0] fz0).holds w' ∧ (∀ b, b ∈ fz0 → w0.heap.size ≤ b) ∧ Bel w0 w' := by
 unfold f_impl_Algebra_linearTable at h
 refine calls_of (args := [.pointer (some ⟨b0, 0, none⟩)]) Try.func105 rfl 27 Try.ntmps105 (Nat.le_of_ble_eq_true rfl) ?_
 have hC := Ctx.start (X := Nox) w0 [Ty.item TAlg a0 [u0_0, u0_1] fp0, blk b0 30 [u0_0, u0_1]] (by simp only [List.mem_cons, List.not_mem_nil, or_false, forall_eq_or_imp, forall_eq]; exact ⟨q0, qb0⟩)
 have hp3 := (hC.getP 0 rfl)
 replace hC := hC.derive 0 rfl (Ty.item ((EI .i64).ty.sl) a0.degrees [u0_0] fp0) (fun _ => (alg_parts hp3).1) (fun _ hb_ => hb_)
 replace hC := hC.derive 1 rfl (Ty.item TForm.sl a0.images [u0_1] fp0) (fun _ => (alg_parts hp3).2) (fun _ hb_ => hb_)
 refine sr ?_
 refine s_as (v := .slice none 0 0) rfl ?_
 refine dn ?_
 refine sr ?_
 refine s_bslice (sz := 1) hC [] [] rfl (fun _ => bs45_0 _) rfl (by decide) fun b6 w7 hB_ hC => ?_
 replace hC := hC.pushM0 (forest (Tr.sl 2 ((EI .i64).tr)) ([] : List (List Int)) [] []) (forest_nil _ _) rfl
 replace hC := hC.gather (c := Tr.item (Tr.sl 22 (Tr.sl 2 ((EI .i64).tr))) [] [.slice (some ⟨b6, 0, none⟩) 0 0] ((Option.toList (Value.ownBlock (.slice (some ⟨b6, 0, none⟩) 0 0))) ++ ([] : List (List Nat)).flatten)) (fun x_ hx_ => (List.mem_append.1 hx_).symm) (fun h1_ h2_ hd_ => forest_up h2_ h1_ (fun b_ hb_ hb2_ => hd_ b_ hb2_ hb_))
 refine s_as (v := .slice (some ⟨b6, 0, none⟩) 0 0) rfl ?_
 refine dn ?_
 refine wp_seq ?_
 refine sr ?_
 refine s_mv (v := .pointer (some ⟨b0, 0, none⟩)) rfl ?_
 refine s_nilchk rfl ?_
 refine s_faddrB 1 Try.underlying30 rfl sc28.size rfl rfl ?_
 refine s_loadSh (u0_1) (hC.getP 3 rfl) sc28 rfl rfl ?_
 obtain ⟨Ad9, c10, hv11⟩ := sl_len (hC.getP 0 rfl)
 refine s_len Try.underlying28 (tr rfl hv11) ?_
 refine s_mv (v := .int .i64 0) rfl ?_
 refine dn ?_
 refine wp_block ?_
 have hN100 : a0.images.length ≤ 9223372036854775807 := sl_max (hC.getP 0 rfl)
 refine loopN (S := (List (List Int))) _ _ (fun i96 s97 e_ w_ => ∃ (v98 : Value), ∃ (f99 : List Nat), Slots e_ [(0, .pointer (some ⟨b0, 0, none⟩)), (2, .slice none 0 0), (3, v98), (10, u0_1), (11, .int .i64 (a0.images.length : Int)), (12, .int .i64 (i96 : Int))] ∧ Ctx Nox w0 w_ [Tr.item (Tr.sl 22 (Tr.sl 2 ((EI .i64).tr))) s97 [v98] f99] [Ty.item TForm.sl a0.images [u0_1] fp0, Ty.item ((EI .i64).ty.sl) a0.degrees [u0_0] fp0, Ty.item TAlg a0 [u0_0, u0_1] fp0, blk b0 30 [u0_0, u0_1]]) a0.images.length ?_ ?_ (s0 := []) ?_ h
 ·clear hC h
  rintro i96 s97 e_ w105 next101 K102 hi104 ⟨v98, f99, hS_, hC⟩ h hK103
  refine sr ?_
  refine s_lss (sx hS_ 5 rfl) (sx hS_ 4 rfl) ?_
  refine dn ?_
  refine wp_seq ?_
  refine cw_true rfl (decide_eq_true (by omega)) ?_
  refine wp_skip ?_
  refine then_norm ?_
  refine wp_seq ?_
  refine wp_block ?_
  refine sr ?_
  obtain ⟨Ad106, c107, hv108⟩ := sl_form (hC.getP 0 rfl) i96 hi104
  refine s_iaddrS (len := a0.images.length) Try.underlying28 ag59.size (tr (sx hS_ 3 rfl) hv108) (sx hS_ 5 rfl) (Int.natCast_nonneg _) (Int.ofNat_lt.2 hi104) ?_
  obtain ⟨cs_, hl110, hc111, hr112⟩ := sl_cells (hC.getP 0 rfl) hv108 i96 hi104
  obtain ⟨u109, rfl⟩ := List.length_eq_one_iff.1 hl110
  clear hl110
  rw [getD_eq _ _ hi104] at hr112
  have hp113 := hr112
  replace hC := hC.derive 0 rfl (Ty.item ETerm.ty.sl ((a0.images.getD i96 default).terms) [u109] fp0) (fun _ => (form_parts hp113)) (fun _ hb_ => hb_)
  refine s_loadCA [u109] hc111 ag59 rfl rfl ?_
  refine s_alloc hC [.slice none 0 0] z59 rfl fun b115 w117 hB_ hC => ?_
  refine s_store (v := .agg #[u109]) hC 0 [u109] [u109] rfl ag59.size rfl rfl rfl rfl (all_c (rep_oneC (hC.getP 0 rfl)) rfl) (Nat.le_of_ble_eq_true rfl) rfl fun w118 hC => ?_
  refine dn ?_
  refine cw_draw 8 mixed [0, 0, 2, 6, 14, 0, 62, 126, 255, 511] [4, 5] [0, 1, 2, 3] (by kernel_rfl) (by kernel_rfl) (by kernel_rfl) (fun hM120 hM121 w119 hB_ => ?_)
  replace hC := hC.grow hB_
  refine ae_lookF belPre 0 (v98) rfl rfl (by kernel_rfl) (hM121 0 rfl) (fun w_ => .inl ⟨rfl, by exact r_mv (v := v98) (sx hS_ 2 rfl)⟩) (l9 := (dbits 10 1)) (by kernel_rfl) ?_
  refine ae_lookF belPre 1 (.pointer (some ⟨b0, 0, none⟩)) rfl rfl (by kernel_rfl) (hM121 1 rfl) (fun w_ => .inl ⟨rfl, by exact r_mv (v := .pointer (some ⟨b0, 0, none⟩)) (sx hS_ 0 rfl)⟩) (l9 := (dbits 10 3)) (by kernel_rfl) ?_
  refine ae_lookF belPre 2 (.pointer (some ⟨b0, 0, none⟩)) rfl rfl (by kernel_rfl) (hM121 2 rfl) (fun w_ => .inl ⟨rfl, by exact r_nilchk rfl⟩) (l9 := (dbits 10 7)) (by kernel_rfl) ?_
  refine ae_lookF belPre 3 (.pointer (some ⟨b0, 0, none⟩)) rfl rfl (by kernel_rfl) (hM121 3 rfl) (fun w_ => .inl ⟨rfl, by exact r_faddrB 0 Try.underlying30 rfl sc22.size rfl rfl⟩) (l9 := (dbits 10 15)) (by kernel_rfl) ?_
  refine ae_look belPre 4 (u0_0) rfl rfl (by kernel_rfl) (hM120 4 rfl) (fun w_ hB_ => .inl ⟨rfl, by exact r_loadSh (u0_0) ((hC.grow hB_).getP 4 rfl) sc22 rfl rfl⟩) (l9 := (dbits 10 31)) (by kernel_rfl) ?_
  refine ae_look belPre 5 (.agg #[u109]) rfl rfl (by kernel_rfl) (hM120 5 rfl) (fun w_ hB_ => .inl ⟨rfl, by exact r_loadA (hC.grow hB_) 0 [u109] rfl ag59 rfl rfl rfl⟩) (l9 := (dbits 10 63)) (by kernel_rfl) ?_
  refine ae_one 6 rfl (by kernel_rfl) ?_
  refine s_call [u0_0, .agg #[u109]] _ Try.func134 rfl rfl rfl (c_impl_linearRow a0.degrees (a0.images.getD i96 default) h _ (hC.getP 2 rfl) (form_mk (hC.getP 0 rfl))) (fun ret122 w124 hR123 => ?_)
  obtain ⟨r125, u126, f127, rfl, h, hr128, hf129, hB130⟩ := hR123
  refine ⟨_, rfl, ?_⟩
  replace hC := hC.push hB130 (Tr.item (Tr.sl 2 ((EI .i64).tr)) r125 [u126] f127) hr128 hf129
  obtain ⟨ho132, hf133⟩ := flat_tr (hC.getM 0 rfl).1
  subst hf133
  replace hC := hC.recast (c := own 2 1 u126 r125.length ((EI .i64).encs r125)) (fun _ h_ => h_) (fun _ => ho132)
  refine done ?_
  refine ak_intro (by assumption) (l9 := (dbits 10 127)) (by kernel_rfl) ?_
  refine ae_one 7 rfl (by kernel_rfl) ?_
  refine s_bslice (sz := 1) hC [(0, u126)] [u126] rfl (fun _ => bsr45_1_s u126 (own_isSl (hC.getM 0 rfl)) _) rfl (by decide) fun b135 w136 hB_ hC => ?_
  replace hC := hC.pushM0 (forest (Tr.sl 2 ((EI .i64).tr)) [] [] []) (forest_nil _ _) rfl
  replace hC := hC.sel [2, 0, 1, 3, 4] [0, 1, 2, 3, 4] (M' := [own 2 1 u126 r125.length ((EI .i64).encs r125), forest (Tr.sl 2 ((EI .i64).tr)) [] [] [], own 22 1 (.slice (some ⟨b135, 0, none⟩) 1 1) 1 [u126], blk b115 59 [u109], Tr.item (Tr.sl 22 (Tr.sl 2 ((EI .i64).tr))) s97 [v98] f99]) (Ps' := [Ty.item ETerm.ty.sl ((a0.images.getD i96 default).terms) [u109] fp0, Ty.item TForm.sl a0.images [u0_1] fp0, Ty.item ((EI .i64).ty.sl) a0.degrees [u0_0] fp0, Ty.item TAlg a0 [u0_0, u0_1] fp0, blk b0 30 [u0_0, u0_1]]) (by decide) rfl rfl
  replace hC := hC.gather (c := forest (Tr.sl 2 ((EI .i64).tr)) [r125] [u126] [(Option.toList (Value.ownBlock u126))]) (fun x_ hx_ => forest_mem hx_) (fun h1_ h2_ hd_ => forest_cons (c := [u126]) (id (own_item h1_)) h2_ hd_)
  replace hC := hC.sel [1, 0, 2, 3] [0, 1, 2, 3, 4] (M' := [own 22 1 (.slice (some ⟨b135, 0, none⟩) 1 1) 1 [u126], forest (Tr.sl 2 ((EI .i64).tr)) [r125] [u126] [(Option.toList (Value.ownBlock u126))], blk b115 59 [u109], Tr.item (Tr.sl 22 (Tr.sl 2 ((EI .i64).tr))) s97 [v98] f99]) (Ps' := [Ty.item ETerm.ty.sl ((a0.images.getD i96 default).terms) [u109] fp0, Ty.item TForm.sl a0.images [u0_1] fp0, Ty.item ((EI .i64).ty.sl) a0.degrees [u0_0] fp0, Ty.item TAlg a0 [u0_0, u0_1] fp0, blk b0 30 [u0_0, u0_1]]) (by decide) rfl rfl
  replace hC := hC.gather (c := Tr.item (Tr.sl 22 (Tr.sl 2 ((EI .i64).tr))) [r125] [.slice (some ⟨b135, 0, none⟩) 1 1] ((Option.toList (Value.ownBlock (.slice (some ⟨b135, 0, none⟩) 1 1))) ++ ([(Option.toList (Value.ownBlock u126))] : List (List Nat)).flatten)) (fun x_ hx_ => List.mem_append.1 hx_) (fun h1_ h2_ hd_ => forest_up h1_ h2_ hd_)
  refine done ?_
  refine ak_intro (by assumption) (l9 := (dbits 10 255)) (by kernel_rfl) ?_
  refine ae_tail 8 (by decide) (by decide) (by kernel_rfl) (by kernel_rfl) rfl ?_
  replace hC := hC.sel [2, 0, 1] [0, 1, 2, 3, 4] (M' := [Tr.item (Tr.sl 22 (Tr.sl 2 ((EI .i64).tr))) s97 [v98] f99, Tr.item (Tr.sl 22 (Tr.sl 2 ((EI .i64).tr))) [r125] [.slice (some ⟨b135, 0, none⟩) 1 1] ((Option.toList (Value.ownBlock (.slice (some ⟨b135, 0, none⟩) 1 1))) ++ ([(Option.toList (Value.ownBlock u126))] : List (List Nat)).flatten), blk b115 59 [u109]]) (Ps' := [Ty.item ETerm.ty.sl ((a0.images.getD i96 default).terms) [u109] fp0, Ty.item TForm.sl a0.images [u0_1] fp0, Ty.item ((EI .i64).ty.sl) a0.degrees [u0_0] fp0, Ty.item TAlg a0 [u0_0, u0_1] fp0, blk b0 30 [u0_0, u0_1]]) (by decide) rfl rfl
  obtain ⟨hm143, h⟩ := h
  refine s_appT hC Try.underlying45 el22 rfl (by decide) (by decide) rfl rfl hm143 fun v140 f142 w141 hC => ?_
  refine s_as (v := v140) rfl ?_
  refine done ?_
  refine qn_norm ?_
  refine blk_norm ?_
  refine then_norm ?_
  refine cw_region ?_
  refine s_add (sx hS_ 5 rfl) rfl ?_
  refine s_mv (v := .int .i64 (IntKind.i64.wrap ((i96 : Int) + 1))) rfl ?_
  refine done ?_
  replace hC := hC.sel [0] [1, 2, 3, 4] (M' := [Tr.item (Tr.sl 22 (Tr.sl 2 ((EI .i64).tr))) (s97 ++ [r125]) [v140] f142]) (Ps' := [Ty.item TForm.sl a0.images [u0_1] fp0, Ty.item ((EI .i64).ty.sl) a0.degrees [u0_0] fp0, Ty.item TAlg a0 [u0_0, u0_1] fp0, blk b0 30 [u0_0, u0_1]]) (by decide) rfl rfl
  exact hK103 (s97 ++ [r125]) _ _ ⟨v140, f142, (sk (sx hS_ 0 rfl) (sk (sx hS_ 1 rfl) (sk rfl (sk (sx hS_ 3 rfl) (sk (sx hS_ 4 rfl) (sk (tr rfl (congrArg _ (wrap64_nat hi104 hN100))) sn)))))), hC⟩ h
 ·clear hC h
  rintro s97 e_ w144 K102 ⟨v98, f99, hS_, hC⟩ h
  refine sr ?_
  refine s_lss (sx hS_ 5 rfl) (sx hS_ 4 rfl) ?_
  refine dn ?_
  refine wp_seq ?_
  refine cw_false rfl (decide_eq_false (by omega)) ?_
  refine wp_exit (then_exit (then_exit (exit_in ?_)))
  refine then_norm ?_
  refine sr ?_
  refine s_mv (v := v98) (sx hS_ 2 rfl) ?_
  refine s_as (v := v98) rfl ?_
  refine dn ?_
  refine wp_ret ?_
  refine ret1 (fn := Try.f105) rfl ?_ ⟨s97, v98, f99, rfl, h, (hC.getM 0 rfl), (tr_fresh hC 0 rfl), hC.below⟩ (.inl rfl)
  exact res_tmp rfl
 ·skip
  exact ⟨.slice (some ⟨b6, 0, none⟩) 0 0, ((Option.toList (Value.ownBlock (.slice (some ⟨b6, 0, none⟩) 0 0))) ++ ([] : List (List Nat)).flatten), (sk rfl (sk rfl (sk rfl (sk rfl (sk rfl (sk rfl sn)))))), hC⟩
def f_impl_Algebra_isMinimal (a0 : Alg) (K : Bool → Prop) : Prop :=
 f_impl_Algebra_linearTable a0 (fun r9 => f_slices_ContainsFunc_rows_int64_int64 r9 (fun y0_ K_ => f_impl_Algebra_isMinimal_1 y0_ K_) (fun r20 => K (!r20)))
theorem c_impl_Algebra_isMinimal (a0 : Alg) {b0 : Nat} {u0_0 : Value} {u0_1 : Value} {fp0 : List Nat} {K : Bool → Prop} (h : f_impl_Algebra_isMinimal a0 K) (w0 : World) (q0 : TAlg.rep a0 [u0_0, u0_1] fp0 w0) (qb0 : (blk b0 30 [u0_0, u0_1]).holds w0) :
  Calls Try.prog 75 #[.pointer (some ⟨b0, 0, none⟩)] w0 fun e w' => ∃ (r0 : Bool), 
   e = .returned (.bool r0) ∧ K r0 ∧ Bel w0 w' := by
 unfold f_impl_Algebra_isMinimal at h
 refine calls_of (args := [.pointer (some ⟨b0, 0, none⟩)]) Try.func75 rfl 7 Try.ntmps75 (Nat.le_of_ble_eq_true rfl) ?_
 have hC := Ctx.start (X := Nox) w0 [Ty.item TAlg a0 [u0_0, u0_1] fp0, blk b0 30 [u0_0, u0_1]] (by simp only [List.mem_cons, List.not_mem_nil, or_false, forall_eq_or_imp, forall_eq]; exact ⟨q0, qb0⟩)
 have hp3 := (hC.getP 0 rfl)
 replace hC := hC.derive 0 rfl (Ty.item ((EI .i64).ty.sl) a0.degrees [u0_0] fp0) (fun _ => (alg_parts hp3).1) (fun _ hb_ => hb_)
 replace hC := hC.derive 1 rfl (Ty.item TForm.sl a0.images [u0_1] fp0) (fun _ => (alg_parts hp3).2) (fun _ hb_ => hb_)
 refine sr ?_
 refine s_as (v := .bool false) rfl ?_
 refine dn ?_
 refine sr ?_
 refine s_mv (v := .pointer (some ⟨b0, 0, none⟩)) rfl ?_
 refine s_call [.pointer (some ⟨b0, 0, none⟩)] _ Try.func105 rfl rfl rfl (c_impl_Algebra_linearTable a0 h _ (alg_mk (hC.getP 1 rfl) (hC.getP 0 rfl)) (hC.getP 3 rfl)) (fun ret6 w8 hR7 => ?_)
 obtain ⟨r9, u10, f11, rfl, h, hr12, hf13, hB14⟩ := hR7
 refine ⟨_, rfl, ?_⟩
 replace hC := hC.push hB14 (Tr.item (Tr.sl 22 (Tr.sl 2 ((EI .i64).tr))) r9 [u10] f11) hr12 hf13
 refine s_call [u10, .func (.func 106) #[] (List.toArray [])] _ Try.func104 rfl rfl rfl (c_slices_ContainsFunc_rows_int64_int64 r9 (fun y0_ K_ => f_impl_Algebra_isMinimal_1 y0_ K_) h _ (Tr.trep _ (hC.getM 0 rfl).1) Try.func106 rfl rfl (fun y0_ yu0_0_ yf0_ K_ w_ hb_ rq0_ hq_ => c_impl_Algebra_isMinimal_1 y0_ hq_ w_ rq0_)) (fun ret17 w19 hR18 => ?_)
 obtain ⟨r20, rfl, h, hB21⟩ := hR18
 refine ⟨_, rfl, ?_⟩
 replace hC := hC.grow hB21
 refine s_not rfl ?_
 refine s_as (v := .bool (!r20)) rfl ?_
 refine dn ?_
 refine wp_ret ?_
 refine ret1 (fn := Try.f75) rfl ?_ ⟨!r20, rfl, h, hC.below⟩ (.inl rfl)
 exact res_tmp rfl
def f_impl_pageCode (a0 : Alg) (a1 : Bool) (K : Int → Prop) : Prop :=
 f_impl_algebraCode a0 [] (fun r9 => (if r9 = 0 then f_impl_Algebra_isMinimal a0 (fun r15 => (if ¬ (r15 = true) then f_impl_when (!a1) 2 (fun r21 => f_impl_first [5, r21] (fun r29 => K r29)) else f_impl_when (!a1) 2 (fun r34 => f_impl_first [r9, r34] (fun r42 => K r42)))) else f_impl_when (!a1) 2 (fun r47 => f_impl_first [r9, r47] (fun r55 => K r55))))
theorem c_impl_pageCode (a0 : Alg) (a1 : Bool) {b0 : Nat} {u0_0 : Value} {u0_1 : Value} {fp0 : List Nat} {K : Int → Prop} (h : f_impl_pageCode a0 a1 K) (w0 : World) (q0 : TAlg.rep a0 [u0_0, u0_1] fp0 w0) (qb0 : (blk b0 30 [u0_0, u0_1]).holds w0) :
  Calls Try.prog 44 #[.pointer (some ⟨b0, 0, none⟩), .bool a1] w0 fun e w' => ∃ (r0 : Int), 
   e = .returned (.int .i64 r0) ∧ K r0 ∧ Bel w0 w' := by
 unfold f_impl_pageCode at h
 refine calls_of (args := [.pointer (some ⟨b0, 0, none⟩), .bool a1]) Try.func44 rfl 21 Try.ntmps44 (Nat.le_of_ble_eq_true rfl) ?_
 have hC := Ctx.start (X := Nox) w0 [Ty.item TAlg a0 [u0_0, u0_1] fp0, blk b0 30 [u0_0, u0_1]] (by simp only [List.mem_cons, List.not_mem_nil, or_false, forall_eq_or_imp, forall_eq]; exact ⟨q0, qb0⟩)
 have hp3 := (hC.getP 0 rfl)
 replace hC := hC.derive 0 rfl (Ty.item ((EI .i64).ty.sl) a0.degrees [u0_0] fp0) (fun _ => (alg_parts hp3).1) (fun _ hb_ => hb_)
 replace hC := hC.derive 1 rfl (Ty.item TForm.sl a0.images [u0_1] fp0) (fun _ => (alg_parts hp3).2) (fun _ hb_ => hb_)
 refine sr ?_
 refine s_as (v := .int .i64 0) rfl ?_
 refine dn ?_
 refine sr ?_
 refine s_mv (v := .pointer (some ⟨b0, 0, none⟩)) rfl ?_
 refine s_call [.pointer (some ⟨b0, 0, none⟩), .slice none 0 0] _ Try.func34 rfl rfl rfl (c_impl_algebraCode a0 [] h _ (alg_mk (hC.getP 1 rfl) (hC.getP 0 rfl)) (hC.getP 3 rfl) (rep_nil _ _)) (fun ret6 w8 hR7 => ?_)
 obtain ⟨r9, rfl, h, hB10⟩ := hR7
 refine ⟨_, rfl, ?_⟩
 replace hC := hC.grow hB10
 refine s_as (v := .int .i64 r9) rfl ?_
 refine dn ?_
 refine wp_seq ?_
 refine sr ?_
 refine s_mv (v := .int .i64 r9) rfl ?_
 refine s_eql rfl rfl ?_
 refine s_mv (v := .bool (decide (r9 = 0))) rfl ?_
 refine bsplit (decide (r9 = 0)) (fun hb11 => ?_) (fun hb11 => ?_)
 ·replace h := ift h (ct hb11)
  refine guardOn 2 10 rfl rfl hb11 ?_
  refine s_mv (v := .pointer (some ⟨b0, 0, none⟩)) rfl ?_
  refine guardOn 2 10 rfl rfl hb11 ?_
  refine s_call [.pointer (some ⟨b0, 0, none⟩)] _ Try.func75 rfl rfl rfl (c_impl_Algebra_isMinimal a0 h _ (alg_mk (hC.getP 1 rfl) (hC.getP 0 rfl)) (hC.getP 3 rfl)) (fun ret12 w14 hR13 => ?_)
  obtain ⟨r15, rfl, h, hB16⟩ := hR13
  refine ⟨_, rfl, ?_⟩
  replace hC := hC.grow hB16
  refine guardOn 2 10 rfl rfl hb11 ?_
  refine s_not rfl ?_
  refine s_pick (v := .bool (!r15)) (b := true) (tr rfl (congrArg _ hb11)) rfl ?_
  refine dn ?_
  refine cw_cond rfl (fun hb17 => ?_) (fun hb17 => ?_)
  ·replace h := ift h (ne_t (not_t hb17))
   refine cw_region ?_
   refine s_as (v := .int .i64 5) rfl ?_
   refine dn ?_
   refine sr ?_
   refine s_mv (v := .int .i64 5) rfl ?_
   refine s_mv (v := .bool a1) rfl ?_
   refine s_not rfl ?_
   refine s_call [.bool (!a1), .int .i64 2] _ Try.func35 rfl rfl rfl (c_impl_when (!a1) 2 h _) (fun ret18 w20 hR19 => ?_)
   obtain ⟨r21, rfl, h, hB22⟩ := hR19
   refine ⟨_, rfl, ?_⟩
   replace hC := hC.grow hB22
   refine s_bslice (sz := 1) hC [(0, .int .i64 5), (1, .int .i64 r21)] ((EI .i64).encs [5, r21]) rfl (fun _ => bs22_2 5 r21 _) rfl (by decide) fun b23 w24 hB_ hC => ?_
   refine s_call [.slice (some ⟨b23, 0, none⟩) 2 2] _ Try.func33 rfl rfl rfl (c_impl_first [5, r21] h _ (own_repE (hC.getM 0 rfl))) (fun ret26 w28 hR27 => ?_)
   obtain ⟨r29, rfl, h, hB30⟩ := hR27
   refine ⟨_, rfl, ?_⟩
   replace hC := hC.grow hB30
   refine s_as (v := .int .i64 r29) rfl ?_
   refine dn ?_
   refine wp_ret ?_
   refine ret1 (fn := Try.f44) rfl ?_ ⟨r29, rfl, h, hC.below⟩ (.inl rfl)
   exact res_tmp rfl
  ·replace h := iff_ h (not_not_intro ((not_f hb17)))
   refine wp_skip ?_
   refine then_norm ?_
   refine sr ?_
   refine s_mv (v := .int .i64 r9) rfl ?_
   refine s_mv (v := .bool a1) rfl ?_
   refine s_not rfl ?_
   refine s_call [.bool (!a1), .int .i64 2] _ Try.func35 rfl rfl rfl (c_impl_when (!a1) 2 h _) (fun ret31 w33 hR32 => ?_)
   obtain ⟨r34, rfl, h, hB35⟩ := hR32
   refine ⟨_, rfl, ?_⟩
   replace hC := hC.grow hB35
   refine s_bslice (sz := 1) hC [(0, .int .i64 r9), (1, .int .i64 r34)] ((EI .i64).encs [r9, r34]) rfl (fun _ => bs22_2 r9 r34 _) rfl (by decide) fun b36 w37 hB_ hC => ?_
   refine s_call [.slice (some ⟨b36, 0, none⟩) 2 2] _ Try.func33 rfl rfl rfl (c_impl_first [r9, r34] h _ (own_repE (hC.getM 0 rfl))) (fun ret39 w41 hR40 => ?_)
   obtain ⟨r42, rfl, h, hB43⟩ := hR40
   refine ⟨_, rfl, ?_⟩
   replace hC := hC.grow hB43
   refine s_as (v := .int .i64 r42) rfl ?_
   refine dn ?_
   refine wp_ret ?_
   refine ret1 (fn := Try.f44) rfl ?_ ⟨r42, rfl, h, hC.below⟩ (.inl rfl)
   exact res_tmp rfl
 ·replace h := iff_ h (cf hb11)
  refine guardOff (b := false) 2 10 rfl (tr rfl (congrArg _ hb11)) (by decide) ?_
  refine guardOff (b := false) 2 10 rfl (tr rfl (congrArg _ hb11)) (by decide) ?_
  refine guardOff (b := false) 2 10 rfl (tr rfl (congrArg _ hb11)) (by decide) ?_
  refine s_pick (v := .bool false) (b := false) (tr rfl (congrArg _ hb11)) rfl ?_
  refine dn ?_
  refine cw_false rfl rfl ?_
  refine wp_skip ?_
  refine then_norm ?_
  refine sr ?_
  refine s_mv (v := .int .i64 r9) rfl ?_
  refine s_mv (v := .bool a1) rfl ?_
  refine s_not rfl ?_
  refine s_call [.bool (!a1), .int .i64 2] _ Try.func35 rfl rfl rfl (c_impl_when (!a1) 2 h _) (fun ret44 w46 hR45 => ?_)
  obtain ⟨r47, rfl, h, hB48⟩ := hR45
  refine ⟨_, rfl, ?_⟩
  replace hC := hC.grow hB48
  refine s_bslice (sz := 1) hC [(0, .int .i64 r9), (1, .int .i64 r47)] ((EI .i64).encs [r9, r47]) rfl (fun _ => bs22_2 r9 r47 _) rfl (by decide) fun b49 w50 hB_ hC => ?_
  refine s_call [.slice (some ⟨b49, 0, none⟩) 2 2] _ Try.func33 rfl rfl rfl (c_impl_first [r9, r47] h _ (own_repE (hC.getM 0 rfl))) (fun ret52 w54 hR53 => ?_)
  obtain ⟨r55, rfl, h, hB56⟩ := hR53
  refine ⟨_, rfl, ?_⟩
  replace hC := hC.grow hB56
  refine s_as (v := .int .i64 r55) rfl ?_
  refine dn ?_
  refine wp_ret ?_
  refine ret1 (fn := Try.f44) rfl ?_ ⟨r55, rfl, h, hC.below⟩ (.inl rfl)
  exact res_tmp rfl
def f_slices_IndexFunc_impl_Term_impl_Term (a0 : List Term) (p1 : Term → (Bool → Prop) → Prop) (K : Int → Prop) : Prop :=
 forN (fun i17 (s18 : Unit) next20 => p1 (a0.getD i17 default) (fun r32 => (if r32 = true then K (i17 : Int) else next20 ()))) (fun (s18 : Unit) => K (-1)) a0.length 0 ()
theorem c_slices_IndexFunc_impl_Term_impl_Term (a0 : List Term) (p1 : Term → (Bool → Prop) → Prop) {u0_0 : Value} {fp0 : List Nat} {K : Int → Prop} (h : f_slices_IndexFunc_impl_Term_impl_Term a0 p1 K) (w0 : World) (q0 : ETerm.ty.sl.rep a0 [u0_0] fp0 w0) {g1 : Nat} {cp1 : List Value} {fn1 : Func} (hf1 : Try.prog.funcs[g1]? = some fn1) (hb1 : fn1.body.isNone = false) (hn1 : (fn1.name == "runtime.NumGoroutine") = false) (hp1 : ∀ (y0 : Term) (K_ : Bool → Prop) (w_ : World), Bel w0 w_ → p1 y0 K_ → Calls Try.prog g1 (List.toArray ([.agg (List.toArray (Term.enc y0))] ++ cp1)) w_ fun e w' => ∃ (z0 : Bool), e = .returned (.bool z0) ∧ K_ z0 ∧ Bel w_ w') :
  Calls Try.prog 136 #[u0_0, .func (.func g1) #[] (List.toArray cp1)] w0 fun e w' => ∃ (r0 : Int), 
   e = .returned (.int .i64 r0) ∧ K r0 ∧ Bel w0 w' := by
 unfold f_slices_IndexFunc_impl_Term_impl_Term at h
 refine calls_of (args := [u0_0, .func (.func g1) #[] (List.toArray cp1)]) Try.func136 rfl 19 Try.ntmps136 (Nat.le_of_ble_eq_true rfl) ?_
 have hC := Ctx.start (X := Nox) w0 [Ty.item ETerm.ty.sl a0 [u0_0] fp0] (by simp only [List.mem_cons, List.not_mem_nil, or_false, forall_eq_or_imp, forall_eq]; exact q0)
 refine sr ?_
 refine s_as (v := .int .i64 0) rfl ?_
 refine dn ?_
 refine wp_seq ?_
 refine sr ?_
 refine s_mv (v := u0_0) rfl ?_
 obtain ⟨Ad2, c3, hv4⟩ := sl_len (hC.getP 0 rfl)
 refine s_len Try.underlying57 (tr rfl hv4) ?_
 refine s_mv (v := .int .i64 0) rfl ?_
 refine dn ?_
 refine wp_block ?_
 have hN19 : a0.length ≤ 9223372036854775807 := sl_max (hC.getP 0 rfl)
 refine loopN (S := Unit) _ _ (fun i17 s18 e_ w_ => Slots e_ [(0, u0_0), (1, .func (.func g1) #[] (List.toArray cp1)), (4, .int .i64 0), (7, .int .i64 (a0.length : Int)), (8, .int .i64 (i17 : Int))] ∧ Ctx Nox w0 w_ [] [Ty.item ETerm.ty.sl a0 [u0_0] fp0]) a0.length ?_ ?_ (s0 := ()) ?_ h
 ·clear hC h
  rintro i17 s18 e_ w24 next20 K21 hi23 ⟨hS_, hC⟩ h hK22
  refine sr ?_
  refine s_lss (sx hS_ 4 rfl) (sx hS_ 3 rfl) ?_
  refine dn ?_
  refine wp_seq ?_
  refine cw_true rfl (decide_eq_true (by omega)) ?_
  refine wp_skip ?_
  refine then_norm ?_
  refine wp_seq ?_
  refine wp_block ?_
  refine sr ?_
  refine s_mv (v := .int .i64 (i17 : Int)) (sx hS_ 4 rfl) ?_
  refine s_as (v := .int .i64 (i17 : Int)) rfl ?_
  refine dn ?_
  refine sr ?_
  refine s_mv (v := .func (.func g1) #[] (List.toArray cp1)) (sx hS_ 1 rfl) ?_
  refine s_mv (v := u0_0) (sx hS_ 0 rfl) ?_
  refine s_mv (v := .int .i64 (i17 : Int)) rfl ?_
  obtain ⟨Ad25, c26, hv27⟩ := sl_form (hC.getP 0 rfl) i17 hi23
  refine s_iaddrS (len := a0.length) Try.underlying57 ag76.size (tr rfl hv27) rfl (Int.natCast_nonneg _) (Int.ofNat_lt.2 hi23) ?_
  refine s_loadCA (Term.enc (a0.getD i17 default)) (sl_cellsE (hC.getP 0 rfl) hv27 i17 hi23) ag76 rfl rfl ?_
  refine s_callv [.agg (List.toArray (Term.enc (a0.getD i17 default)))] _ rfl hf1 hb1 hn1 rfl (hp1 _ _ _ hC.below  h) (fun ret28 w30 hR29 => ?_)
  obtain ⟨r32, rfl, h, hB31⟩ := hR29
  refine ⟨_, rfl, ?_⟩
  replace hC := hC.grow hB31
  refine dn ?_
  refine cw_cond rfl (fun hb33 => ?_) (fun hb33 => ?_)
  ·replace h := ift h (hb33)
   refine sr ?_
   refine s_mv (v := .int .i64 (i17 : Int)) rfl ?_
   refine s_as (v := .int .i64 (i17 : Int)) rfl ?_
   refine dn ?_
   refine wp_ret (blk_ret (then_ret (then_ret (blk_ret (then_ret ?_)))))
   refine ret1 (fn := Try.f136) rfl ?_ ⟨(i17 : Int), rfl, h, hC.below⟩ (.inl rfl)
   exact res_tmp rfl
  ·replace h := iff_ h (ne_t hb33)
   refine wp_skip ?_
   refine blk_norm ?_
   refine then_norm ?_
   refine cw_region ?_
   refine s_add (sx hS_ 4 rfl) rfl ?_
   refine s_mv (v := .int .i64 (IntKind.i64.wrap ((i17 : Int) + 1))) rfl ?_
   refine done ?_
   exact hK22 () _ _ ⟨(sk (sx hS_ 0 rfl) (sk (sx hS_ 1 rfl) (sk (sx hS_ 2 rfl) (sk (sx hS_ 3 rfl) (sk (tr rfl (congrArg _ (wrap64_nat hi23 hN19))) sn))))), hC⟩ h
 ·clear hC h
  rintro s18 e_ w34 K21 ⟨hS_, hC⟩ h
  refine sr ?_
  refine s_lss (sx hS_ 4 rfl) (sx hS_ 3 rfl) ?_
  refine dn ?_
  refine wp_seq ?_
  refine cw_false rfl (decide_eq_false (by omega)) ?_
  refine wp_exit (then_exit (then_exit (exit_in ?_)))
  refine then_norm ?_
  refine sr ?_
  refine s_as (v := .int .i64 (-1)) rfl ?_
  refine dn ?_
  refine wp_ret ?_
  refine ret1 (fn := Try.f136) rfl ?_ ⟨(-1), rfl, h, hC.below⟩ (.inl rfl)
  exact res_tmp rfl
 ·skip
  exact ⟨(sk rfl (sk rfl (sk rfl (sk rfl (sk rfl sn))))), hC⟩
def f_slices_DeleteFunc_impl_Term_impl_Term (a0 : List Term) (p1 : Term → (Bool → Prop) → Prop) (K : List Term → Prop) : Prop :=
 f_slices_IndexFunc_impl_Term_impl_Term a0 p1 (fun r5 => (if r5 = (-1) then K a0 else whileP (fun (s73 : (List Term) × Int × Int) next75 => (if s73.2.2 < (s73.1.length : Int) then ((0 ≤ s73.2.2 ∧ s73.2.2 < (s73.1.length : Int)) ∧ p1 (s73.1.getD s73.2.2.toNat default) (fun r96 => (if ¬ (r96 = true) then ((0 ≤ s73.2.1 ∧ s73.2.1 < (s73.1.length : Int)) ∧ next75 (s73.1.set s73.2.1.toNat (s73.1.getD s73.2.2.toNat default), IntKind.i64.wrap (s73.2.1 + 1), IntKind.i64.wrap (s73.2.2 + 1))) else next75 (s73.1, s73.2.1, IntKind.i64.wrap (s73.2.2 + 1))))) else ((0 ≤ s73.2.1 ∧ s73.2.1 ≤ (s73.1.length : Int)) ∧ ((0 ≤ s73.2.1 ∧ s73.2.1 ≤ ((s73.1.take s73.2.1.toNat ++ List.replicate (s73.1.length - s73.2.1.toNat) ((⟨A8.zero, 0⟩ : Term) : Term)).length : Int)) ∧ K ((s73.1.take s73.2.1.toNat ++ List.replicate (s73.1.length - s73.2.1.toNat) ((⟨A8.zero, 0⟩ : Term) : Term)).take s73.2.1.toNat))))) (a0, r5, IntKind.i64.wrap (r5 + 1))))
theorem c_slices_DeleteFunc_impl_Term_impl_Term (a0 : List Term) (p1 : Term → (Bool → Prop) → Prop) {u0_0 : Value} {K : List Term → Prop} (h : f_slices_DeleteFunc_impl_Term_impl_Term a0 p1 K) (w0 : World) (qo0 : (own 76 9 u0_0 a0.length (ETerm.encs a0)).holds w0) {g1 : Nat} {cp1 : List Value} {fn1 : Func} (hf1 : Try.prog.funcs[g1]? = some fn1) (hb1 : fn1.body.isNone = false) (hn1 : (fn1.name == "runtime.NumGoroutine") = false) (hp1 : ∀ (y0 : Term) (K_ : Bool → Prop) (w_ : World), BelO (Option.toList (Value.ownBlock u0_0)) w0 w_ → p1 y0 K_ → Calls Try.prog g1 (List.toArray ([.agg (List.toArray (Term.enc y0))] ++ cp1)) w_ fun e w' => ∃ (z0 : Bool), e = .returned (.bool z0) ∧ K_ z0 ∧ Bel w_ w') :
  Calls Try.prog 109 #[u0_0, .func (.func g1) #[] (List.toArray cp1)] w0 fun e w' => ∃ (r0 : List Term) (z0_0 : Value), 
   e = .returned (z0_0) ∧ K r0 ∧ (own 76 9 z0_0 r0.length (ETerm.encs r0)).holds w' ∧ (∀ b, b ∈ Option.toList (Value.ownBlock z0_0) → b ∈ Option.toList (Value.ownBlock u0_0) ∨ w0.heap.size ≤ b) ∧ BelO (Option.toList (Value.ownBlock u0_0)) w0 w' := by
 unfold f_slices_DeleteFunc_impl_Term_impl_Term at h
 refine calls_of (args := [u0_0, .func (.func g1) #[] (List.toArray cp1)]) Try.func109 rfl 42 Try.ntmps109 (Nat.le_of_ble_eq_true rfl) ?_
 have hC := Ctx.startL w0 (Option.toList (Value.ownBlock u0_0)) [own 76 9 u0_0 a0.length (ETerm.encs a0)] [] (by simp only [List.mem_cons, List.not_mem_nil, or_false, forall_eq_or_imp, forall_eq]; exact qo0) (by simp) (by simp only [List.mem_cons, List.not_mem_nil, or_false, forall_eq_or_imp, forall_eq]; exact (fun b_ hb_ => hb_)) (List.pairwise_singleton _ _) (by simp)
 refine sr ?_
 refine s_as (v := .slice none 0 0) rfl ?_
 refine dn ?_
 refine sr ?_
 refine s_mv (v := u0_0) rfl ?_
 refine s_mv (v := .func (.func g1) #[] (List.toArray cp1)) rfl ?_
 refine s_call [u0_0, .func (.func g1) #[] (List.toArray cp1)] _ Try.func136 rfl rfl rfl (c_slices_IndexFunc_impl_Term_impl_Term a0 p1 h _ (own_repE (hC.getM 0 rfl)) hf1 hb1 hn1 (fun x0_ K_ w_ hb_ => hp1 x0_ K_ w_ (belO_bel hC.belO hb_))) (fun ret2 w4 hR3 => ?_)
 obtain ⟨r5, rfl, h, hB6⟩ := hR3
 refine ⟨_, rfl, ?_⟩
 replace hC := hC.grow hB6
 refine s_as (v := .int .i64 r5) rfl ?_
 refine dn ?_
 refine wp_seq ?_
 refine sr ?_
 refine s_mv (v := .int .i64 r5) rfl ?_
 refine s_eql rfl rfl ?_
 refine dn ?_
 refine cw_cond rfl (fun hb7 => ?_) (fun hb7 => ?_)
 ·replace h := ift h (ct hb7)
  refine sr ?_
  refine s_mv (v := u0_0) rfl ?_
  refine s_as (v := u0_0) rfl ?_
  refine dn ?_
  refine wp_ret (then_ret ?_)
  refine ret1 (fn := Try.f109) rfl ?_ ⟨a0, u0_0, rfl, h, (hC.getM 0 rfl), (fun b_ hb_ => (hC.mfp _ (List.mem_of_getElem? (i := 0) rfl) b_ hb_).symm), hC.belO⟩ (.inl rfl)
  exact res_tmp rfl
 ·replace h := iff_ h (cf hb7)
  refine wp_skip ?_
  refine then_norm ?_
  refine wp_seq ?_
  refine sr ?_
  refine s_mv (v := .int .i64 r5) rfl ?_
  refine s_add rfl rfl ?_
  refine s_as (v := .int .i64 (IntKind.i64.wrap (r5 + 1))) rfl ?_
  refine dn ?_
  refine wp_block ?_
  refine loopW (S := (List Term) × Int × Int) _ (fun s73 e_ w_ => ∃ (v74 : Value), Slots e_ [(0, v74), (1, .func (.func g1) #[] (List.toArray cp1)), (4, .slice none 0 0), (5, .int .i64 s73.2.1), (6, .int .i64 s73.2.2)] ∧ Ctx (fun c_ => c_ ∈ Option.toList (Value.ownBlock u0_0)) w0 w_ [own 76 9 v74 s73.1.length (ETerm.encs s73.1)] []) ?_ (s0 := (a0, r5, IntKind.i64.wrap (r5 + 1))) ?_ h
  ·clear hC h
   rintro s73 e_ w78 next75 K76 ⟨v74, hS_, hC⟩ h hK77
   refine wp_seq ?_
   refine sr ?_
   refine s_mv (v := .int .i64 s73.2.2) (sx hS_ 4 rfl) ?_
   refine s_mv (v := v74) (sx hS_ 0 rfl) ?_
   obtain ⟨Ad79, c80, hv81⟩ := own_form (hC.getM 0 rfl)
   refine s_len Try.underlying57 (tr rfl hv81) ?_
   refine s_lss rfl rfl ?_
   refine dn ?_
   refine cw_cond rfl (fun hb82 => ?_) (fun hb82 => ?_)
   ·replace h := ift h (ct hb82)
    refine wp_skip ?_
    refine then_norm ?_
    refine wp_seq ?_
    refine wp_block ?_
    refine sr ?_
    refine s_mv (v := v74) (sx hS_ 0 rfl) ?_
    refine s_mv (v := .int .i64 s73.2.2) (sx hS_ 4 rfl) ?_
    obtain ⟨⟨h0_83, h1_84⟩, h⟩ := h
    obtain ⟨Ad85, c86, hv87⟩ := own_formE (hC.getM 0 rfl) (Nat.lt_of_le_of_lt (Nat.zero_le _) (show s73.2.2.toNat < s73.1.length by omega))
    refine s_iaddrO (s73.2.2.toNat * 9) Try.underlying57 ag76.size (tr rfl hv87) rfl h0_83 h1_84 rfl ?_
    refine s_loadCA (Term.enc (s73.1.getD s73.2.2.toNat default)) (own_cellsE (hC.getM 0 rfl) hv87 s73.2.2.toNat (show s73.2.2.toNat < s73.1.length by omega)) ag76 rfl rfl ?_
    refine s_alloc hC (Term.enc (⟨A8.zero, 0⟩ : Term)) z76 rfl fun b88 w90 hB_ hC => ?_
    refine s_store (v := .agg (List.toArray (Term.enc (s73.1.getD s73.2.2.toNat default)))) hC 0 (Term.enc (s73.1.getD s73.2.2.toNat default)) (Term.enc (s73.1.getD s73.2.2.toNat default)) rfl ag76.size rfl rfl rfl rfl rfl (Nat.le_of_ble_eq_true rfl) rfl fun w91 hC => ?_
    refine dn ?_
    refine sr ?_
    refine s_mv (v := .func (.func g1) #[] (List.toArray cp1)) (sx hS_ 1 rfl) ?_
    refine s_loadA hC 0 (Term.enc (s73.1.getD s73.2.2.toNat default)) rfl ag76 rfl rfl rfl ?_
    refine s_callv [.agg (List.toArray (Term.enc (s73.1.getD s73.2.2.toNat default)))] _ rfl hf1 hb1 hn1 rfl (hp1 _ _ _ hC.belO  h) (fun ret92 w94 hR93 => ?_)
    obtain ⟨r96, rfl, h, hB95⟩ := hR93
    refine ⟨_, rfl, ?_⟩
    replace hC := hC.grow hB95
    refine s_not rfl ?_
    refine dn ?_
    refine cw_cond rfl (fun hb97 => ?_) (fun hb97 => ?_)
    ·replace h := ift h (ne_t (not_t hb97))
     refine sr ?_
     refine s_mv (v := v74) (sx hS_ 0 rfl) ?_
     refine s_mv (v := .int .i64 s73.2.1) (sx hS_ 3 rfl) ?_
     refine s_loadA hC 0 (Term.enc (s73.1.getD s73.2.2.toNat default)) rfl ag76 rfl rfl rfl ?_
     obtain ⟨⟨h0_98, h1_99⟩, h⟩ := h
     obtain ⟨Ad100, c101, hv102⟩ := own_formE (hC.getM 1 rfl) (Nat.lt_of_le_of_lt (Nat.zero_le _) (show s73.2.1.toNat < s73.1.length by omega))
     refine s_iaddrO (s73.2.1.toNat * 9) Try.underlying57 ag76.size (tr rfl hv102) rfl h0_98 h1_99 rfl ?_
     refine s_storeO (v := .agg (List.toArray (Term.enc (s73.1.getD s73.2.2.toNat default)))) hC 1 (Term.enc (s73.1.getD s73.2.2.toNat default)) (ETerm.encs (s73.1.set s73.2.1.toNat (s73.1.getD s73.2.2.toNat default))) rfl hv102 ag76.size rfl rfl rfl rfl rfl (by rw [Enc.encs_len]; exact seg_le (sz := 9) (show s73.2.1.toNat < s73.1.length by omega)) (encs_set _ _ _ (show s73.2.1.toNat < s73.1.length by omega)) fun w103 hC => ?_
     replace hC := own_re hC 1 ((s73.1.set s73.2.1.toNat (s73.1.getD s73.2.2.toNat default)).length) (ETerm.encs (s73.1.set s73.2.1.toNat (s73.1.getD s73.2.2.toNat default))) rfl (by simp) rfl
     refine dn ?_
     refine cw_region ?_
     refine s_mv (v := .int .i64 s73.2.1) (sx hS_ 3 rfl) ?_
     refine s_add rfl rfl ?_
     refine s_as (v := .int .i64 (IntKind.i64.wrap (s73.2.1 + 1))) rfl ?_
     refine done ?_
     refine blk_norm ?_
     refine then_norm ?_
     refine cw_region ?_
     refine s_mv (v := .int .i64 s73.2.2) (sx hS_ 4 rfl) ?_
     refine s_add rfl rfl ?_
     refine s_as (v := .int .i64 (IntKind.i64.wrap (s73.2.2 + 1))) rfl ?_
     refine done ?_
     replace hC := hC.sel [1] [] (M' := [own 76 9 v74 ((s73.1.set s73.2.1.toNat (s73.1.getD s73.2.2.toNat default)).length) (ETerm.encs (s73.1.set s73.2.1.toNat (s73.1.getD s73.2.2.toNat default)))]) (Ps' := []) (by decide) rfl rfl
     exact hK77 (s73.1.set s73.2.1.toNat (s73.1.getD s73.2.2.toNat default), IntKind.i64.wrap (s73.2.1 + 1), IntKind.i64.wrap (s73.2.2 + 1)) _ _ ⟨v74, (sk (sx hS_ 0 rfl) (sk (sx hS_ 1 rfl) (sk (sx hS_ 2 rfl) (sk rfl (sk rfl sn))))), hC⟩ h
    ·replace h := iff_ h (not_not_intro ((not_f hb97)))
     refine wp_skip ?_
     refine blk_norm ?_
     refine then_norm ?_
     refine cw_region ?_
     refine s_mv (v := .int .i64 s73.2.2) (sx hS_ 4 rfl) ?_
     refine s_add rfl rfl ?_
     refine s_as (v := .int .i64 (IntKind.i64.wrap (s73.2.2 + 1))) rfl ?_
     refine done ?_
     replace hC := hC.sel [1] [] (M' := [own 76 9 v74 s73.1.length (ETerm.encs s73.1)]) (Ps' := []) (by decide) rfl rfl
     exact hK77 (s73.1, s73.2.1, IntKind.i64.wrap (s73.2.2 + 1)) _ _ ⟨v74, (sk (sx hS_ 0 rfl) (sk (sx hS_ 1 rfl) (sk (sx hS_ 2 rfl) (sk (sx hS_ 3 rfl) (sk rfl sn))))), hC⟩ h
   ·replace h := iff_ h (cf hb82)
    refine wp_exit (then_exit (then_exit (exit_in ?_)))
    refine then_norm ?_
    refine sr ?_
    refine s_mv (v := v74) (sx hS_ 0 rfl) ?_
    refine s_mv (v := .int .i64 s73.2.1) (sx hS_ 3 rfl) ?_
    obtain ⟨h0_104, h⟩ := h
    refine s_sliceL hC 0 rfl Try.underlying57 ag76.size rfl rfl h0_104.1 h0_104.2 fun v105 ht106 => ?_
    refine s_clearT hC 0 rfl Try.underlying57 el76 rfl ht106 (by omega) (zero_encs (E := ETerm) (⟨A8.zero, 0⟩ : Term) _) (by rw [Enc.encs_len, List.length_replicate]; rfl) (fun q hq => Enc.encs_one' (E := ETerm) _ q hq) fun w107 hC => ?_
    replace hC := own_re hC 0 ((s73.1.take s73.2.1.toNat ++ List.replicate (s73.1.length - s73.2.1.toNat) ((⟨A8.zero, 0⟩ : Term) : Term)).length) (ETerm.encs (s73.1.take s73.2.1.toNat ++ List.replicate (s73.1.length - s73.2.1.toNat) ((⟨A8.zero, 0⟩ : Term) : Term))) rfl (clear_len (by omega)) (clear_encs (E := ETerm) _ _ _)
    refine dn ?_
    refine sr ?_
    refine s_mv (v := v74) (sx hS_ 0 rfl) ?_
    refine s_mv (v := .int .i64 s73.2.1) (sx hS_ 3 rfl) ?_
    obtain ⟨h0_108, h⟩ := h
    refine s_sliceH hC 0 rfl Try.underlying57 ag76.size rfl rfl h0_108.1 h0_108.2 fun v109 hC => ?_
    replace hC := own_re hC 0 (((s73.1.take s73.2.1.toNat ++ List.replicate (s73.1.length - s73.2.1.toNat) ((⟨A8.zero, 0⟩ : Term) : Term)).take s73.2.1.toNat).length) (ETerm.encs ((s73.1.take s73.2.1.toNat ++ List.replicate (s73.1.length - s73.2.1.toNat) ((⟨A8.zero, 0⟩ : Term) : Term)).take s73.2.1.toNat)) rfl (List.length_take_of_le (by omega)).symm (Enc.encs_take ETerm _ _)
    refine s_as (v := v109) rfl ?_
    refine dn ?_
    refine wp_ret ?_
    refine ret1 (fn := Try.f109) rfl ?_ ⟨(s73.1.take s73.2.1.toNat ++ List.replicate (s73.1.length - s73.2.1.toNat) ((⟨A8.zero, 0⟩ : Term) : Term)).take s73.2.1.toNat, v109, rfl, h, (hC.getM 0 rfl), (fun b_ hb_ => (hC.mfp _ (List.mem_of_getElem? (i := 0) rfl) b_ hb_).symm), hC.belO⟩ (.inl rfl)
    exact res_tmp rfl
  ·skip
   exact ⟨u0_0, (sk rfl (sk rfl (sk rfl (sk rfl (sk rfl sn))))), hC⟩
def f_slices_Clone_impl_Term_impl_Term (a0 : List Term) (K : List Term → Prop) : Prop :=
 ((a0 = [] → K []) ∧ (Room (0 + a0.length) 16 ∧ K a0))
theorem c_slices_Clone_impl_Term_impl_Term (a0 : List Term) {u0_0 : Value} {fp0 : List Nat} {K : List Term → Prop} (h : f_slices_Clone_impl_Term_impl_Term a0 K) (w0 : World) (q0 : ETerm.ty.sl.rep a0 [u0_0] fp0 w0) :
  Calls Try.prog 110 #[u0_0] w0 fun e w' => ∃ (r0 : List Term) (z0_0 : Value) (fz0 : List Nat), 
   e = .returned (z0_0) ∧ K r0 ∧ (Tr.item (Tr.sl 76 ETerm.tr) r0 [z0_0] fz0).holds w' ∧ (∀ b, b ∈ fz0 → w0.heap.size ≤ b) ∧ Bel w0 w' := by
 unfold f_slices_Clone_impl_Term_impl_Term at h
 refine calls_of (args := [u0_0]) Try.func110 rfl 8 Try.ntmps110 (Nat.le_of_ble_eq_true rfl) ?_
 have hC := Ctx.start (X := Nox) w0 [Ty.item ETerm.ty.sl a0 [u0_0] fp0] (by simp only [List.mem_cons, List.not_mem_nil, or_false, forall_eq_or_imp, forall_eq]; exact q0)
 refine sr ?_
 refine s_as (v := .slice none 0 0) rfl ?_
 refine dn ?_
 refine wp_seq ?_
 refine sr ?_
 refine s_mv (v := u0_0) rfl ?_
 rcases nil_or (hC.getP 0 rfl) with ⟨z4, z5, he2, ha3⟩ | ⟨z6, z7, z8, he2⟩
 ·replace h := h.1 ha3
  refine s_eqnil true Try.underlying57 (tr rfl he2) rfl rfl ?_
  refine dn ?_
  refine cw_true rfl rfl ?_
  refine sr ?_
  refine s_as (v := .slice none 0 0) rfl ?_
  refine dn ?_
  refine wp_ret (then_ret ?_)
  refine ret1 (fn := Try.f110) rfl ?_ ⟨[], .slice none 0 0, [], rfl, h, (nil_item _ _ _), (fun b hb => absurd hb (by simp)), hC.below⟩ (.inl rfl)
  exact res_tmp rfl
 ·replace h := h.2
  refine s_eqnil false Try.underlying57 (tr rfl he2) rfl rfl ?_
  refine dn ?_
  refine cw_false rfl rfl ?_
  refine wp_skip ?_
  refine then_norm ?_
  refine sr ?_
  refine s_bslice (sz := 9) hC [] (ETerm.encs []) rfl (fun _ => bs57_0  _) rfl (by decide) fun b9 w10 hB_ hC => ?_
  refine s_mv (v := u0_0) rfl ?_
  obtain ⟨hm14, h⟩ := h
  refine s_app hC 0 Try.underlying57 el76 rfl (by decide) (by decide) rfl (sl_rdr (hC.getP 0 rfl)) (fun q hq => Enc.encs_one' (E := ETerm) _ q hq) rfl rfl hm14 fun v12 w13 hC => ?_
  replace hC := own_re hC 0 (a0.length) (ETerm.encs a0) rfl (by simp) (by first | (simp [Enc.encs_append]; done) | simp [Enc.encs_append, Enc.encs])
  refine s_as (v := v12) rfl ?_
  refine dn ?_
  refine wp_ret ?_
  refine ret1 (fn := Try.f110) rfl ?_ ⟨a0, v12, (Option.toList (Value.ownBlock v12)), rfl, h, (own_item (hC.getM 0 rfl)), (own_fresh hC 0 rfl), hC.below⟩ (.inl rfl)
  exact res_tmp rfl
def f_impl_part (a0 : Vc.Form) (p1 : A8 → (Bool → Prop) → Prop) (K : Vc.Form → Prop) : Prop :=
 f_slices_Clone_impl_Term_impl_Term a0.terms (fun r16 => f_slices_DeleteFunc_impl_Term_impl_Term r16 (fun y0_ K_ => f_impl_part_1 y0_ p1 K_) (fun r29 => K (⟨r29⟩ : Vc.Form)))
theorem c_impl_part (a0 : Vc.Form) (p1 : A8 → (Bool → Prop) → Prop) {u0_0 : Value} {fp0 : List Nat} {K : Vc.Form → Prop} (h : f_impl_part a0 p1 K) (w0 : World) (q0 : TForm.rep a0 [u0_0] fp0 w0) {g1 : Nat} {cp1 : List Value} {fn1 : Func} (hf1 : Try.prog.funcs[g1]? = some fn1) (hb1 : fn1.body.isNone = false) (hn1 : (fn1.name == "runtime.NumGoroutine") = false) (hp1 : ∀ (y0 : A8) (K_ : Bool → Prop) (w_ : World), Bel w0 w_ → p1 y0 K_ → Calls Try.prog g1 (List.toArray ([.agg (List.toArray (A8.enc .i64 y0))] ++ cp1)) w_ fun e w' => ∃ (z0 : Bool), e = .returned (.bool z0) ∧ K_ z0 ∧ Bel w_ w') :
  Calls Try.prog 76 #[.agg #[u0_0], .func (.func g1) #[] (List.toArray cp1)] w0 fun e w' => ∃ (r0 : Vc.Form) (z0_0 : Value) (fz0 : List Nat), 
   e = .returned (.agg #[z0_0]) ∧ K r0 ∧ (Tr.item (TrForm 76) r0 [z0_0] fz0).holds w' ∧ (∀ b, b ∈ fz0 → w0.heap.size ≤ b) ∧ Bel w0 w' := by
 unfold f_impl_part at h
 refine calls_of (args := [.agg #[u0_0], .func (.func g1) #[] (List.toArray cp1)]) Try.func76 rfl 11 Try.ntmps76 (Nat.le_of_ble_eq_true rfl) ?_
 have hC := Ctx.start (X := Nox) w0 [Ty.item TForm a0 [u0_0] fp0] (by simp only [List.mem_cons, List.not_mem_nil, or_false, forall_eq_or_imp, forall_eq]; exact q0)
 have hp2 := (hC.getP 0 rfl)
 replace hC := hC.derive 0 rfl (Ty.item ETerm.ty.sl a0.terms [u0_0] fp0) (fun _ => (form_parts hp2)) (fun _ hb_ => hb_)
 refine sr ?_
 refine s_box (v := .agg #[u0_0]) hC [u0_0] rfl rfl fun b4 w6 hB_ hC => ?_
 refine s_box (v := .func (.func g1) #[] (List.toArray cp1)) hC [.func (.func g1) #[] (List.toArray cp1)] rfl rfl fun b7 w9 hB_ hC => ?_
 refine s_alloc hC [.slice none 0 0] z59 rfl fun b10 w12 hB_ hC => ?_
 refine dn ?_
 refine sr ?_
 refine s_faddrB 0 Try.underlying59 rfl sc57.size rfl rfl ?_
 refine s_loadS hC 2 (u0_0) rfl sc57 rfl rfl ?_
 refine s_call [u0_0] _ Try.func110 rfl rfl rfl (c_slices_Clone_impl_Term_impl_Term a0.terms h _ (hC.getP 0 rfl)) (fun ret13 w15 hR14 => ?_)
 obtain ⟨r16, u17, f18, rfl, h, hr19, hf20, hB21⟩ := hR14
 refine ⟨_, rfl, ?_⟩
 replace hC := hC.push hB21 (Tr.item (Tr.sl 76 ETerm.tr) r16 [u17] f18) hr19 hf20
 obtain ⟨ho23, hf24⟩ := flat_tr (hC.getM 0 rfl).1
 subst hf24
 replace hC := hC.recast (c := own 76 9 u17 r16.length (ETerm.encs r16)) (fun _ h_ => h_) (fun _ => ho23)
 refine s_mkfunc (g := 111) [.pointer (some ⟨b7, 0, none⟩)] (map_c rfl rfl) ?_
 refine s_call [u17, .func (.func 111) #[] (List.toArray [.pointer (some ⟨b7, 0, none⟩)])] _ Try.func109 rfl rfl rfl (c_slices_DeleteFunc_impl_Term_impl_Term r16 (fun y0_ K_ => f_impl_part_1 y0_ p1 K_) h _ (hC.getM 0 rfl) Try.func111 rfl rfl (fun y0_ K_ w_ hb_  hq_ => c_impl_part_1 y0_ p1 hq_ w_ hf1 hb1 hn1 (fun x0_ K_ w2_ hb2_ => hp1 x0_ K_ w2_ (Bel.trans (hC.belowO 0 rfl hb_) hb2_)) (hC.stayM 2 0 rfl rfl (by decide) hb_))) (fun ret26 w28 hR27 => ?_)
 obtain ⟨r29, v30, rfl, h, hr31, hf32, hB33⟩ := hR27
 refine ⟨_, rfl, ?_⟩
 replace hC := hC.turnO 0 rfl hB33 hr31 hf32
 refine s_build [(0, v30)] rfl (bl59_0sl v30 (own_isSl (hC.getM 0 rfl)) _) ?_
 refine s_store (v := .agg #[v30]) hC 1 [v30] [v30] rfl ag59.size rfl rfl rfl rfl (all_c (own_oneC (hC.getM 0 rfl)) rfl) (Nat.le_of_ble_eq_true rfl) rfl fun w34 hC => ?_
 refine dn ?_
 refine wp_ret ?_
 refine ret1 (fn := Try.f76) rfl ?_ ⟨(⟨r29⟩ : Vc.Form), v30, (Option.toList (Value.ownBlock v30)), rfl, h, (form_join (own_item (hC.getM 0 rfl))), (own_fresh hC 0 rfl), hC.below⟩ (.inl rfl)
 exact res_cellA hC 1 rfl ag59 rfl rfl
def f_impl_QuadraticParts (a0 : Alg) (K : List Vc.Form → Int → Prop) : Prop :=
 f_impl_algebraCode a0 [] (fun r11 => (if r11 ≠ 0 then K [] r11 else forN (fun i98 (s99 : (List Vc.Form)) next103 => f_impl_part (a0.images.getD i98 default) f_impl_QuadraticParts_1 (fun r124 => (Room (s99.length + 1) 24 ∧ next103 (s99 ++ [r124])))) (fun (s99 : (List Vc.Form)) => K s99 0) a0.images.length 0 []))
theorem c_impl_QuadraticParts (a0 : Alg) {u0_0 : Value} {u0_1 : Value} {fp0 : List Nat} {K : List Vc.Form → Int → Prop} (h : f_impl_QuadraticParts a0 K) (w0 : World) (q0 : TAlg.rep a0 [u0_0, u0_1] fp0 w0) :
  Calls Try.prog 45 #[.agg #[u0_0, u0_1]] w0 fun e w' => ∃ (r0 : List Vc.Form) (z0_0 : Value) (fz0 : List Nat) (r1 : Int), 
   e = .returned (.tuple #[z0_0, .int .i64 r1]) ∧ K r0 r1 ∧ (Tr.item (Tr.sl 59 (TrForm 76)) r0 [z0_0] fz0).holds w' ∧ (∀ b, b ∈ fz0 → w0.heap.size ≤ b) ∧ Bel w0 w' := by
 unfold f_impl_QuadraticParts at h
 refine calls_of (args := [.agg #[u0_0, u0_1]]) Try.func45 rfl 27 Try.ntmps45 (Nat.le_of_ble_eq_true rfl) ?_
 have hC := Ctx.start (X := Nox) w0 [Ty.item TAlg a0 [u0_0, u0_1] fp0] (by simp only [List.mem_cons, List.not_mem_nil, or_false, forall_eq_or_imp, forall_eq]; exact q0)
 have hp2 := (hC.getP 0 rfl)
 replace hC := hC.derive 0 rfl (Ty.item ((EI .i64).ty.sl) a0.degrees [u0_0] fp0) (fun _ => (alg_parts hp2).1) (fun _ hb_ => hb_)
 replace hC := hC.derive 1 rfl (Ty.item TForm.sl a0.images [u0_1] fp0) (fun _ => (alg_parts hp2).2) (fun _ hb_ => hb_)
 refine sr ?_
 refine s_box (v := .agg #[u0_0, u0_1]) hC [u0_0, u0_1] rfl rfl fun b5 w7 hB_ hC => ?_
 refine s_as (v := .slice none 0 0) rfl ?_
 refine s_as (v := .int .i64 0) rfl ?_
 refine dn ?_
 refine wp_seq ?_
 refine sr ?_
 refine s_call [.pointer (some ⟨b5, 0, none⟩), .slice none 0 0] _ Try.func34 rfl rfl rfl (c_impl_algebraCode a0 [] h _ (alg_mk (hC.getP 1 rfl) (hC.getP 0 rfl)) (hC.getM 0 rfl) (rep_nil _ _)) (fun ret8 w10 hR9 => ?_)
 obtain ⟨r11, rfl, h, hB12⟩ := hR9
 refine ⟨_, rfl, ?_⟩
 replace hC := hC.grow hB12
 refine s_as (v := .int .i64 r11) rfl ?_
 refine dn ?_
 refine sr ?_
 refine s_mv (v := .int .i64 r11) rfl ?_
 refine s_neq rfl rfl ?_
 refine dn ?_
 refine cw_cond rfl (fun hb13 => ?_) (fun hb13 => ?_)
 ·replace h := ift h (ct hb13)
  refine sr ?_
  refine s_mv (v := .int .i64 r11) rfl ?_
  refine s_as (v := .slice none 0 0) rfl ?_
  refine s_as (v := .int .i64 r11) rfl ?_
  refine dn ?_
  refine wp_ret (then_ret ?_)
  refine ret2 (fn := Try.f45) rfl ?_ ?_ ⟨[], .slice none 0 0, [], r11, rfl, h, (nil_item _ _ _), (fun b hb => absurd hb (by simp)), hC.below⟩ (.inl rfl)
  ·exact res_tmp rfl
  ·exact res_tmp rfl
 ·replace h := iff_ h (cf hb13)
  refine wp_skip ?_
  refine then_norm ?_
  refine sr ?_
  refine s_bslice (sz := 1) hC [] [] rfl (fun _ => bs28_0 _) rfl (by decide) fun b14 w15 hB_ hC => ?_
  replace hC := hC.pushM0 (forest (TrForm 76) ([] : List Vc.Form) [] []) (forest_nil _ _) rfl
  replace hC := hC.gather (c := Tr.item (Tr.sl 59 (TrForm 76)) [] [.slice (some ⟨b14, 0, none⟩) 0 0] ((Option.toList (Value.ownBlock (.slice (some ⟨b14, 0, none⟩) 0 0))) ++ ([] : List (List Nat)).flatten)) (fun x_ hx_ => (List.mem_append.1 hx_).symm) (fun h1_ h2_ hd_ => forest_up h2_ h1_ (fun b_ hb_ hb2_ => hd_ b_ hb2_ hb_))
  refine s_as (v := .slice (some ⟨b14, 0, none⟩) 0 0) rfl ?_
  refine dn ?_
  refine wp_seq ?_
  refine sr ?_
  refine s_faddrB 1 Try.underlying30 rfl sc28.size rfl rfl ?_
  refine s_loadS hC 1 (u0_1) rfl sc28 rfl rfl ?_
  obtain ⟨Ad17, c18, hv19⟩ := sl_len (hC.getP 0 rfl)
  refine s_len Try.underlying28 (tr rfl hv19) ?_
  refine s_mv (v := .int .i64 0) rfl ?_
  refine dn ?_
  refine wp_block ?_
  have hN102 : a0.images.length ≤ 9223372036854775807 := sl_max (hC.getP 0 rfl)
  refine loopN (S := (List Vc.Form)) _ _ (fun i98 s99 e_ w_ => ∃ (v100 : Value), ∃ (f101 : List Nat), Slots e_ [(2, .slice none 0 0), (3, .int .i64 0), (5, v100), (14, u0_1), (15, .int .i64 (a0.images.length : Int)), (16, .int .i64 (i98 : Int))] ∧ Ctx Nox w0 w_ [Tr.item (Tr.sl 59 (TrForm 76)) s99 [v100] f101] [Ty.item TForm.sl a0.images [u0_1] fp0, Ty.item ((EI .i64).ty.sl) a0.degrees [u0_0] fp0, Ty.item TAlg a0 [u0_0, u0_1] fp0]) a0.images.length ?_ ?_ (s0 := []) ?_ h
  ·clear hC h
   rintro i98 s99 e_ w107 next103 K104 hi106 ⟨v100, f101, hS_, hC⟩ h hK105
   refine sr ?_
   refine s_lss (sx hS_ 5 rfl) (sx hS_ 4 rfl) ?_
   refine dn ?_
   refine wp_seq ?_
   refine cw_true rfl (decide_eq_true (by omega)) ?_
   refine wp_skip ?_
   refine then_norm ?_
   refine wp_seq ?_
   refine wp_block ?_
   refine sr ?_
   obtain ⟨Ad108, c109, hv110⟩ := sl_form (hC.getP 0 rfl) i98 hi106
   refine s_iaddrS (len := a0.images.length) Try.underlying28 ag59.size (tr (sx hS_ 3 rfl) hv110) (sx hS_ 5 rfl) (Int.natCast_nonneg _) (Int.ofNat_lt.2 hi106) ?_
   obtain ⟨cs_, hl112, hc113, hr114⟩ := sl_cells (hC.getP 0 rfl) hv110 i98 hi106
   obtain ⟨u111, rfl⟩ := List.length_eq_one_iff.1 hl112
   clear hl112
   rw [getD_eq _ _ hi106] at hr114
   have hp115 := hr114
   replace hC := hC.derive 0 rfl (Ty.item ETerm.ty.sl ((a0.images.getD i98 default).terms) [u111] fp0) (fun _ => (form_parts hp115)) (fun _ hb_ => hb_)
   refine s_loadCA [u111] hc113 ag59 rfl rfl ?_
   refine s_alloc hC [.slice none 0 0] z59 rfl fun b117 w119 hB_ hC => ?_
   refine s_store (v := .agg #[u111]) hC 0 [u111] [u111] rfl ag59.size rfl rfl rfl rfl (all_c (rep_oneC (hC.getP 0 rfl)) rfl) (Nat.le_of_ble_eq_true rfl) rfl fun w120 hC => ?_
   refine dn ?_
   refine cw_region ?_
   refine s_mv (v := v100) (sx hS_ 2 rfl) ?_
   refine s_loadA hC 0 [u111] rfl ag59 rfl rfl rfl ?_
   refine s_call [.agg #[u111], .func (.func 77) #[] (List.toArray [])] _ Try.func76 rfl rfl rfl (c_impl_part (a0.images.getD i98 default) f_impl_QuadraticParts_1 h _ (form_mk (hC.getP 0 rfl)) Try.func77 rfl rfl (fun x0_ K_ w_ _ hq_ => c_impl_QuadraticParts_1 x0_ hq_ w_)) (fun ret121 w123 hR122 => ?_)
   obtain ⟨r124, u125, f126, rfl, h, hr127, hf128, hB129⟩ := hR122
   refine ⟨_, rfl, ?_⟩
   replace hC := hC.push hB129 (Tr.item (TrForm 76) r124 [u125] f126) hr127 hf128
   obtain ⟨ho131, hf132⟩ := form_split (hC.getM 0 rfl)
   subst hf132
   replace hC := hC.recast (c := own 76 9 u125 r124.terms.length (ETerm.encs r124.terms)) (fun _ h_ => h_) (fun _ => ho131)
   refine s_bslice (sz := 1) hC [(0, .agg #[u125])] [u125] rfl (fun _ => bsr28_1_s u125 (own_isSl (hC.getM 0 rfl)) _) rfl (by decide) fun b134 w135 hB_ hC => ?_
   replace hC := hC.pushM0 (forest (TrForm 76) [] [] []) (forest_nil _ _) rfl
   replace hC := hC.sel [2, 0, 1, 3, 4] [0, 1, 2, 3] (M' := [own 76 9 u125 r124.terms.length (ETerm.encs r124.terms), forest (TrForm 76) [] [] [], own 59 1 (.slice (some ⟨b134, 0, none⟩) 1 1) 1 [u125], blk b117 59 [u111], Tr.item (Tr.sl 59 (TrForm 76)) s99 [v100] f101]) (Ps' := [Ty.item ETerm.ty.sl ((a0.images.getD i98 default).terms) [u111] fp0, Ty.item TForm.sl a0.images [u0_1] fp0, Ty.item ((EI .i64).ty.sl) a0.degrees [u0_0] fp0, Ty.item TAlg a0 [u0_0, u0_1] fp0]) (by decide) rfl rfl
   replace hC := hC.gather (c := forest (TrForm 76) [r124] [u125] [(Option.toList (Value.ownBlock u125))]) (fun x_ hx_ => forest_mem hx_) (fun h1_ h2_ hd_ => forest_cons (c := [u125]) (form_join (own_item h1_)) h2_ hd_)
   replace hC := hC.sel [1, 0, 2, 3] [0, 1, 2, 3] (M' := [own 59 1 (.slice (some ⟨b134, 0, none⟩) 1 1) 1 [u125], forest (TrForm 76) [r124] [u125] [(Option.toList (Value.ownBlock u125))], blk b117 59 [u111], Tr.item (Tr.sl 59 (TrForm 76)) s99 [v100] f101]) (Ps' := [Ty.item ETerm.ty.sl ((a0.images.getD i98 default).terms) [u111] fp0, Ty.item TForm.sl a0.images [u0_1] fp0, Ty.item ((EI .i64).ty.sl) a0.degrees [u0_0] fp0, Ty.item TAlg a0 [u0_0, u0_1] fp0]) (by decide) rfl rfl
   replace hC := hC.gather (c := Tr.item (Tr.sl 59 (TrForm 76)) [r124] [.slice (some ⟨b134, 0, none⟩) 1 1] ((Option.toList (Value.ownBlock (.slice (some ⟨b134, 0, none⟩) 1 1))) ++ ([(Option.toList (Value.ownBlock u125))] : List (List Nat)).flatten)) (fun x_ hx_ => List.mem_append.1 hx_) (fun h1_ h2_ hd_ => forest_up h1_ h2_ hd_)
   replace hC := hC.sel [2, 0, 1] [0, 1, 2, 3] (M' := [Tr.item (Tr.sl 59 (TrForm 76)) s99 [v100] f101, Tr.item (Tr.sl 59 (TrForm 76)) [r124] [.slice (some ⟨b134, 0, none⟩) 1 1] ((Option.toList (Value.ownBlock (.slice (some ⟨b134, 0, none⟩) 1 1))) ++ ([(Option.toList (Value.ownBlock u125))] : List (List Nat)).flatten), blk b117 59 [u111]]) (Ps' := [Ty.item ETerm.ty.sl ((a0.images.getD i98 default).terms) [u111] fp0, Ty.item TForm.sl a0.images [u0_1] fp0, Ty.item ((EI .i64).ty.sl) a0.degrees [u0_0] fp0, Ty.item TAlg a0 [u0_0, u0_1] fp0]) (by decide) rfl rfl
   obtain ⟨hm142, h⟩ := h
   refine s_appT hC Try.underlying28 el59 rfl (by decide) (by decide) rfl rfl hm142 fun v139 f141 w140 hC => ?_
   refine s_as (v := v139) rfl ?_
   refine done ?_
   refine blk_norm ?_
   refine then_norm ?_
   refine cw_region ?_
   refine s_add (sx hS_ 5 rfl) rfl ?_
   refine s_mv (v := .int .i64 (IntKind.i64.wrap ((i98 : Int) + 1))) rfl ?_
   refine done ?_
   replace hC := hC.sel [0] [1, 2, 3] (M' := [Tr.item (Tr.sl 59 (TrForm 76)) (s99 ++ [r124]) [v139] f141]) (Ps' := [Ty.item TForm.sl a0.images [u0_1] fp0, Ty.item ((EI .i64).ty.sl) a0.degrees [u0_0] fp0, Ty.item TAlg a0 [u0_0, u0_1] fp0]) (by decide) rfl rfl
   exact hK105 (s99 ++ [r124]) _ _ ⟨v139, f141, (sk (sx hS_ 0 rfl) (sk (sx hS_ 1 rfl) (sk rfl (sk (sx hS_ 3 rfl) (sk (sx hS_ 4 rfl) (sk (tr rfl (congrArg _ (wrap64_nat hi106 hN102))) sn)))))), hC⟩ h
  ·clear hC h
   rintro s99 e_ w143 K104 ⟨v100, f101, hS_, hC⟩ h
   refine sr ?_
   refine s_lss (sx hS_ 5 rfl) (sx hS_ 4 rfl) ?_
   refine dn ?_
   refine wp_seq ?_
   refine cw_false rfl (decide_eq_false (by omega)) ?_
   refine wp_exit (then_exit (then_exit (exit_in ?_)))
   refine then_norm ?_
   refine sr ?_
   refine s_mv (v := v100) (sx hS_ 2 rfl) ?_
   refine s_as (v := v100) rfl ?_
   refine s_as (v := .int .i64 0) rfl ?_
   refine dn ?_
   refine wp_ret ?_
   refine ret2 (fn := Try.f45) rfl ?_ ?_ ⟨s99, v100, f101, 0, rfl, h, (hC.getM 0 rfl), (tr_fresh hC 0 rfl), hC.below⟩ (.inl rfl)
   ·exact res_tmp rfl
   ·exact res_tmp rfl
  ·skip
   replace hC := hC.sel [0] [0, 1, 2] (M' := [Tr.item (Tr.sl 59 (TrForm 76)) [] [.slice (some ⟨b14, 0, none⟩) 0 0] ((Option.toList (Value.ownBlock (.slice (some ⟨b14, 0, none⟩) 0 0))) ++ ([] : List (List Nat)).flatten)]) (Ps' := [Ty.item TForm.sl a0.images [u0_1] fp0, Ty.item ((EI .i64).ty.sl) a0.degrees [u0_0] fp0, Ty.item TAlg a0 [u0_0, u0_1] fp0]) (by decide) rfl rfl
   exact ⟨.slice (some ⟨b14, 0, none⟩) 0 0, ((Option.toList (Value.ownBlock (.slice (some ⟨b14, 0, none⟩) 0 0))) ++ ([] : List (List Nat)).flatten), (sk rfl (sk rfl (sk rfl (sk rfl (sk rfl (sk rfl sn)))))), hC⟩
def f_slices_Clone_int64_int64 (a0 : List Int) (K : List Int → Prop) : Prop :=
 ((a0 = [] → K []) ∧ (Room (0 + a0.length) 8 ∧ K a0))
theorem c_slices_Clone_int64_int64 (a0 : List Int) {u0_0 : Value} {fp0 : List Nat} {K : List Int → Prop} (h : f_slices_Clone_int64_int64 a0 K) (w0 : World) (q0 : ((EI .i64).ty.sl).rep a0 [u0_0] fp0 w0) :
  Calls Try.prog 46 #[u0_0] w0 fun e w' => ∃ (r0 : List Int) (z0_0 : Value) (fz0 : List Nat), 
   e = .returned (z0_0) ∧ K r0 ∧ (Tr.item (Tr.sl 2 ((EI .i64).tr)) r0 [z0_0] fz0).holds w' ∧ (∀ b, b ∈ fz0 → w0.heap.size ≤ b) ∧ Bel w0 w' := by
 unfold f_slices_Clone_int64_int64 at h
 refine calls_of (args := [u0_0]) Try.func46 rfl 8 Try.ntmps46 (Nat.le_of_ble_eq_true rfl) ?_
 have hC := Ctx.start (X := Nox) w0 [Ty.item ((EI .i64).ty.sl) a0 [u0_0] fp0] (by simp only [List.mem_cons, List.not_mem_nil, or_false, forall_eq_or_imp, forall_eq]; exact q0)
 refine sr ?_
 refine s_as (v := .slice none 0 0) rfl ?_
 refine dn ?_
 refine wp_seq ?_
 refine sr ?_
 refine s_mv (v := u0_0) rfl ?_
 rcases nil_or (hC.getP 0 rfl) with ⟨z4, z5, he2, ha3⟩ | ⟨z6, z7, z8, he2⟩
 ·replace h := h.1 ha3
  refine s_eqnil true Try.underlying22 (tr rfl he2) rfl rfl ?_
  refine dn ?_
  refine cw_true rfl rfl ?_
  refine sr ?_
  refine s_as (v := .slice none 0 0) rfl ?_
  refine dn ?_
  refine wp_ret (then_ret ?_)
  refine ret1 (fn := Try.f46) rfl ?_ ⟨[], .slice none 0 0, [], rfl, h, (nil_item _ _ _), (fun b hb => absurd hb (by simp)), hC.below⟩ (.inl rfl)
  exact res_tmp rfl
 ·replace h := h.2
  refine s_eqnil false Try.underlying22 (tr rfl he2) rfl rfl ?_
  refine dn ?_
  refine cw_false rfl rfl ?_
  refine wp_skip ?_
  refine then_norm ?_
  refine sr ?_
  refine s_bslice (sz := 1) hC [] ((EI .i64).encs []) rfl (fun _ => bs22_0  _) rfl (by decide) fun b9 w10 hB_ hC => ?_
  refine s_mv (v := u0_0) rfl ?_
  obtain ⟨hm14, h⟩ := h
  refine s_app hC 0 Try.underlying22 el2 rfl (by decide) (by decide) rfl (sl_rdr (hC.getP 0 rfl)) (fun q hq => Enc.encs_one' (E := (EI .i64)) _ q hq) rfl rfl hm14 fun v12 w13 hC => ?_
  replace hC := own_re hC 0 (a0.length) ((EI .i64).encs a0) rfl (by simp) (by first | (simp [Enc.encs_append]; done) | simp [Enc.encs_append, Enc.encs])
  refine s_as (v := v12) rfl ?_
  refine dn ?_
  refine wp_ret ?_
  refine ret1 (fn := Try.f46) rfl ?_ ⟨a0, v12, (Option.toList (Value.ownBlock v12)), rfl, h, (own_item (hC.getM 0 rfl)), (own_fresh hC 0 rfl), hC.below⟩ (.inl rfl)
  exact res_tmp rfl
def f_impl_QuadraticAlgebra (a0 : Alg) (K : Alg → Int → Prop) : Prop :=
 f_impl_pageCode a0 true (fun r14 => (if r14 ≠ 0 then K (⟨[], []⟩ : Alg) r14 else f_impl_QuadraticParts a0 (fun r21 r26 => f_slices_Clone_int64_int64 a0.degrees (fun r33 => K (⟨r33, r21⟩ : Alg) r26))))
theorem c_impl_QuadraticAlgebra (a0 : Alg) {u0_0 : Value} {u0_1 : Value} {fp0 : List Nat} {K : Alg → Int → Prop} (h : f_impl_QuadraticAlgebra a0 K) (w0 : World) (q0 : TAlg.rep a0 [u0_0, u0_1] fp0 w0) :
  Calls Try.prog 21 #[.agg #[u0_0, u0_1]] w0 fun e w' => ∃ (r0 : Alg) (z0_0 : Value) (z0_1 : Value) (fz0 : List Nat) (r1 : Int), 
   e = .returned (.tuple #[.agg #[z0_0, z0_1], .int .i64 r1]) ∧ K r0 r1 ∧ (Tr.item (TrAlg 2 76 59) r0 [z0_0, z0_1] fz0).holds w' ∧ (∀ b, b ∈ fz0 → w0.heap.size ≤ b) ∧ Bel w0 w' := by
 unfold f_impl_QuadraticAlgebra at h
 refine calls_of (args := [.agg #[u0_0, u0_1]]) Try.func21 rfl 23 Try.ntmps21 (Nat.le_of_ble_eq_true rfl) ?_
 have hC := Ctx.start (X := Nox) w0 [Ty.item TAlg a0 [u0_0, u0_1] fp0] (by simp only [List.mem_cons, List.not_mem_nil, or_false, forall_eq_or_imp, forall_eq]; exact q0)
 have hp2 := (hC.getP 0 rfl)
 replace hC := hC.derive 0 rfl (Ty.item ((EI .i64).ty.sl) a0.degrees [u0_0] fp0) (fun _ => (alg_parts hp2).1) (fun _ hb_ => hb_)
 replace hC := hC.derive 1 rfl (Ty.item TForm.sl a0.images [u0_1] fp0) (fun _ => (alg_parts hp2).2) (fun _ hb_ => hb_)
 refine sr ?_
 refine s_box (v := .agg #[u0_0, u0_1]) hC [u0_0, u0_1] rfl rfl fun b5 w7 hB_ hC => ?_
 refine s_alloc hC [.slice none 0 0, .slice none 0 0] z30 rfl fun b8 w10 hB_ hC => ?_
 refine s_as (v := .int .i64 0) rfl ?_
 refine dn ?_
 refine wp_seq ?_
 refine sr ?_
 refine s_call [.pointer (some ⟨b5, 0, none⟩), .bool true] _ Try.func44 rfl rfl rfl (c_impl_pageCode a0 true h _ (alg_mk (hC.getP 1 rfl) (hC.getP 0 rfl)) (hC.getM 1 rfl)) (fun ret11 w13 hR12 => ?_)
 obtain ⟨r14, rfl, h, hB15⟩ := hR12
 refine ⟨_, rfl, ?_⟩
 replace hC := hC.grow hB15
 refine s_as (v := .int .i64 r14) rfl ?_
 refine dn ?_
 refine sr ?_
 refine s_mv (v := .int .i64 r14) rfl ?_
 refine s_neq rfl rfl ?_
 refine dn ?_
 refine cw_cond rfl (fun hb16 => ?_) (fun hb16 => ?_)
 ·replace h := ift h (ct hb16)
  refine sr ?_
  refine s_build [] rfl (bl30   _) ?_
  refine s_mv (v := .int .i64 r14) rfl ?_
  refine s_store (v := .agg #[.slice none 0 0, .slice none 0 0]) hC 0 [.slice none 0 0, .slice none 0 0] [.slice none 0 0, .slice none 0 0] rfl ag30.size rfl rfl rfl rfl rfl (Nat.le_of_ble_eq_true rfl) rfl fun w17 hC => ?_
  refine s_as (v := .int .i64 r14) rfl ?_
  refine dn ?_
  refine wp_ret (then_ret ?_)
  refine ret2 (fn := Try.f21) rfl ?_ ?_ ⟨(⟨[], []⟩ : Alg), .slice none 0 0, .slice none 0 0, ([] ++ []), r14, rfl, h, (alg_join (nil_item _ _ _) (nil_item _ _ _) (fun x hx => absurd hx (by simp))), (fun b hb => (List.mem_append.1 hb).elim (fun hb => (fun b hb => absurd hb (by simp)) b hb) (fun hb => (fun b hb => absurd hb (by simp)) b hb)), hC.below⟩ (.inl rfl)
  ·exact res_cellA hC 0 rfl ag30 rfl rfl
  ·exact res_tmp rfl
 ·replace h := iff_ h (cf hb16)
  refine wp_skip ?_
  refine then_norm ?_
  refine sr ?_
  refine s_loadA hC 1 [u0_0, u0_1] rfl ag30 rfl rfl rfl ?_
  refine s_call [.agg #[u0_0, u0_1]] _ Try.func45 rfl rfl rfl (c_impl_QuadraticParts a0 h _ (alg_mk (hC.getP 1 rfl) (hC.getP 0 rfl))) (fun ret18 w20 hR19 => ?_)
  obtain ⟨r21, u22, f23, r26, rfl, h, hr24, hf25, hB27⟩ := hR19
  refine ⟨_, rfl, ?_⟩
  replace hC := hC.push hB27 (Tr.item (Tr.sl 59 (TrForm 76)) r21 [u22] f23) hr24 hf25
  refine s_mv (v := .tuple #[u22, .int .i64 r26]) rfl ?_
  refine s_ext (v := u22) rfl rfl ?_
  refine s_ext (v := .int .i64 r26) rfl rfl ?_
  refine s_as (v := u22) rfl ?_
  refine s_as (v := .int .i64 r26) rfl ?_
  refine dn ?_
  refine sr ?_
  refine s_faddrB 0 Try.underlying30 rfl sc22.size rfl rfl ?_
  refine s_loadS hC 2 (u0_0) rfl sc22 rfl rfl ?_
  refine s_call [u0_0] _ Try.func46 rfl rfl rfl (c_slices_Clone_int64_int64 a0.degrees h _ (hC.getP 1 rfl)) (fun ret30 w32 hR31 => ?_)
  obtain ⟨r33, u34, f35, rfl, h, hr36, hf37, hB38⟩ := hR31
  refine ⟨_, rfl, ?_⟩
  replace hC := hC.push hB38 (Tr.item (Tr.sl 2 ((EI .i64).tr)) r33 [u34] f35) hr36 hf37
  obtain ⟨ho40, hf41⟩ := flat_tr (hC.getM 0 rfl).1
  subst hf41
  replace hC := hC.recast (c := own 2 1 u34 r33.length ((EI .i64).encs r33)) (fun _ h_ => h_) (fun _ => ho40)
  refine s_mv (v := u22) rfl ?_
  refine s_build [(0, u34), (1, u22)] rfl (bl30_0sl_1sl u34 u22 (own_isSl (hC.getM 0 rfl)) (rep_isSl (Tr.trep _ (hC.getM 1 rfl).1)) _) ?_
  refine s_mv (v := .int .i64 r26) rfl ?_
  refine s_store (v := .agg #[u34, u22]) hC 2 [u34, u22] [u34, u22] rfl ag30.size rfl rfl rfl rfl (all_c (own_oneC (hC.getM 0 rfl)) (all_c (rep_oneC (Tr.trep _ (hC.getM 1 rfl).1)) rfl)) (Nat.le_of_ble_eq_true rfl) rfl fun w43 hC => ?_
  refine s_as (v := .int .i64 r26) rfl ?_
  refine dn ?_
  refine wp_ret ?_
  refine ret2 (fn := Try.f21) rfl ?_ ?_ ⟨(⟨r33, r21⟩ : Alg), u34, u22, ((Option.toList (Value.ownBlock u34)) ++ f23), r26, rfl, h, (alg_join (own_item (hC.getM 0 rfl)) (hC.getM 1 rfl) (fun x hx hx' => hC.mm 0 1 rfl rfl (by decide) x hx hx')), (fun b hb => (List.mem_append.1 hb).elim (fun hb => (own_fresh hC 0 rfl) b hb) (fun hb => (tr_fresh hC 1 rfl) b hb)), hC.below⟩ (.inl rfl)
  ·exact res_cellA hC 2 rfl ag30 rfl rfl
  ·exact res_tmp rfl
def f_laws_FnExactQuadraticAlgebra (a0 : Alg) (K : Bool → Prop) : Prop :=
 f_laws_szAlgebra a0 1048576 (fun r11 => (if r11 < 0 then K true else f_laws_toAlgebra a0 (fun r17 => f_spec_QuadraticAlgebra r17 (fun r36 r42 => f_laws_toAlgebra a0 (fun r60 => f_impl_QuadraticAlgebra r60 (fun r83 r89 => f_laws_eqAlgebra r83 r36 (fun r107 => (if ¬ (r107 = true) then K false else (if r89 ≠ r42 then K false else f_laws_toAlgebra a0 (fun r117 => f_laws_eqAlgebra r60 r117 (fun r136 => (if ¬ (r136 = true) then K false else f_laws_markAlgebra r60 1 (fun r142 m144 => (if r142 < 0 then K false else f_laws_eqAlgebra (⟨r83.degrees, r83.images⟩ : Alg) (⟨r36.degrees, r36.images⟩ : Alg) (fun r151 => (if ¬ (r151 = true) then K false else f_laws_markAlgebra (⟨r83.degrees, r83.images⟩ : Alg) 1 (fun r157 m159 => f_laws_heldAlgebra (⟨m159.degrees, m159.images⟩ : Alg) 1 (fun r165 => (if r165 < 0 then K false else (if r165 ≠ r157 then K false else f_laws_toAlgebra (⟨a0.degrees, a0.images⟩ : Alg) (fun r172 => f_impl_QuadraticAlgebra r172 (fun r191 r197 => f_laws_eqAlgebra r191 (⟨r36.degrees, r36.images⟩ : Alg) (fun r215 => (if ¬ (r215 = true) then K false else (if r197 ≠ r42 then K false else f_laws_heldAlgebra (⟨m159.degrees, m159.images⟩ : Alg) 1 (fun r222 => (if r222 < 0 then K false else (if r222 ≠ r157 then K false else K true))))))))))))))))))))))))))))
theorem c_laws_FnExactQuadraticAlgebra (a0 : Alg) {u0_0 : Value} {u0_1 : Value} {fp0 : List Nat} {K : Bool → Prop} (h : f_laws_FnExactQuadraticAlgebra a0 K) (w0 : World) (q0 : TAlg.rep a0 [u0_0, u0_1] fp0 w0) :
  Calls Try.prog 4 #[.agg #[u0_0, u0_1]] w0 fun e w' => ∃ (r0 : Bool), 
   e = .returned (.bool r0) ∧ K r0 ∧ Bel w0 w' := by
 unfold f_laws_FnExactQuadraticAlgebra at h
 refine calls_of (args := [.agg #[u0_0, u0_1]]) Try.func4 rfl 96 Try.ntmps4 (Nat.le_of_ble_eq_true rfl) ?_
 have hC := Ctx.start (X := Nox) w0 [Ty.item TAlg a0 [u0_0, u0_1] fp0] (by simp only [List.mem_cons, List.not_mem_nil, or_false, forall_eq_or_imp, forall_eq]; exact q0)
 have hp2 := (hC.getP 0 rfl)
 replace hC := hC.derive 0 rfl (Ty.item ((EI .i64).ty.sl) a0.degrees [u0_0] fp0) (fun _ => (alg_parts hp2).1) (fun _ hb_ => hb_)
 replace hC := hC.derive 1 rfl (Ty.item TForm.sl a0.images [u0_1] fp0) (fun _ => (alg_parts hp2).2) (fun _ hb_ => hb_)
 refine sr ?_
 refine s_box (v := .agg #[u0_0, u0_1]) hC [u0_0, u0_1] rfl rfl fun b5 w7 hB_ hC => ?_
 refine s_as (v := .bool false) rfl ?_
 refine dn ?_
 refine sr ?_
 refine s_as (v := .int .i64 1048576) rfl ?_
 refine dn ?_
 refine sr ?_
 refine s_loadA hC 0 [u0_0, u0_1] rfl ag25 rfl rfl rfl ?_
 refine s_mv (v := .int .i64 1048576) rfl ?_
 refine s_call [.agg #[u0_0, u0_1], .int .i64 1048576] _ Try.func6 rfl rfl rfl (c_laws_szAlgebra a0 1048576 h _ (alg_mk (hC.getP 1 rfl) (hC.getP 0 rfl))) (fun ret8 w10 hR9 => ?_)
 obtain ⟨r11, rfl, h, hB12⟩ := hR9
 refine ⟨_, rfl, ?_⟩
 replace hC := hC.grow hB12
 refine s_as (v := .int .i64 r11) rfl ?_
 refine dn ?_
 refine wp_seq ?_
 refine sr ?_
 refine s_mv (v := .int .i64 r11) rfl ?_
 refine s_lss rfl rfl ?_
 refine dn ?_
 refine cw_cond rfl (fun hb13 => ?_) (fun hb13 => ?_)
 ·replace h := ift h (ct hb13)
  refine sr ?_
  refine s_as (v := .bool true) rfl ?_
  refine dn ?_
  refine wp_ret (then_ret ?_)
  refine ret1 (fn := Try.f4) rfl ?_ ⟨true, rfl, h, hC.below⟩ (.inl rfl)
  exact res_tmp rfl
 ·replace h := iff_ h (cf hb13)
  refine wp_skip ?_
  refine then_norm ?_
  refine sr ?_
  refine s_loadA hC 0 [u0_0, u0_1] rfl ag25 rfl rfl rfl ?_
  refine s_call [.agg #[u0_0, u0_1]] _ Try.func9 rfl rfl rfl (c_laws_toAlgebra a0 h _ (alg_mk (hC.getP 1 rfl) (hC.getP 0 rfl))) (fun ret14 w16 hR15 => ?_)
  obtain ⟨r17, u18, u19, f20, rfl, h, hr21, hf22, hB23⟩ := hR15
  refine ⟨_, rfl, ?_⟩
  replace hC := hC.push hB23 (Tr.item (TrAlg 2 76 59) r17 [u18, u19] f20) hr21 hf22
  obtain ⟨f25, ho26, ho27, hs28, hs29, hd30⟩ := alg_split (hC.getM 0 rfl)
  replace hC := hC.split (a := own 2 1 u18 r17.degrees.length ((EI .i64).encs r17.degrees)) (b := Tr.item (Tr.sl 59 (TrForm 76)) r17.images [u19] f25) hs28 hs29 ⟨ho26, ho27, hd30⟩
  refine s_call [.agg #[u18, u19]] _ Try.func20 rfl rfl rfl (c_spec_QuadraticAlgebra r17 h _ (alg_mk (own_repE (hC.getM 0 rfl)) (Tr.trep _ (hC.getM 1 rfl).1))) (fun ret33 w35 hR34 => ?_)
  obtain ⟨r36, u37, u38, f39, r42, rfl, h, hr40, hf41, hB43⟩ := hR34
  refine ⟨_, rfl, ?_⟩
  replace hC := hC.push hB43 (Tr.item (TrAlg 2 76 59) r36 [u37, u38] f39) hr40 hf41
  obtain ⟨f45, ho46, ho47, hs48, hs49, hd50⟩ := alg_split (hC.getM 0 rfl)
  replace hC := hC.split (a := own 2 1 u37 r36.degrees.length ((EI .i64).encs r36.degrees)) (b := Tr.item (Tr.sl 59 (TrForm 76)) r36.images [u38] f45) hs48 hs49 ⟨ho46, ho47, hd50⟩
  refine s_mv (v := .tuple #[.agg #[u37, u38], .int .i64 r42]) rfl ?_
  refine s_ext (v := .agg #[u37, u38]) rfl rfl ?_
  refine s_ext (v := .int .i64 r42) rfl rfl ?_
  refine s_alloc hC [.slice none 0 0, .slice none 0 0] z30 rfl fun b53 w55 hB_ hC => ?_
  refine s_store (v := .agg #[u37, u38]) hC 0 [u37, u38] [u37, u38] rfl ag30.size rfl rfl rfl rfl (all_c (own_oneC (hC.getM 1 rfl)) (all_c (rep_oneC (Tr.trep _ (hC.getM 2 rfl).1)) rfl)) (Nat.le_of_ble_eq_true rfl) rfl fun w56 hC => ?_
  refine s_as (v := .int .i64 r42) rfl ?_
  refine dn ?_
  refine sr ?_
  refine s_loadA hC 5 [u0_0, u0_1] rfl ag25 rfl rfl rfl ?_
  refine s_call [.agg #[u0_0, u0_1]] _ Try.func9 rfl rfl rfl (c_laws_toAlgebra a0 h _ (alg_mk (hC.getP 1 rfl) (hC.getP 0 rfl))) (fun ret57 w59 hR58 => ?_)
  obtain ⟨r60, u61, u62, f63, rfl, h, hr64, hf65, hB66⟩ := hR58
  refine ⟨_, rfl, ?_⟩
  replace hC := hC.push hB66 (Tr.item (TrAlg 2 76 59) r60 [u61, u62] f63) hr64 hf65
  obtain ⟨f68, ho69, ho70, hs71, hs72, hd73⟩ := alg_split (hC.getM 0 rfl)
  replace hC := hC.split (a := own 2 1 u61 r60.degrees.length ((EI .i64).encs r60.degrees)) (b := Tr.item (Tr.sl 59 (TrForm 76)) r60.images [u62] f68) hs71 hs72 ⟨ho69, ho70, hd73⟩
  refine s_alloc hC [.slice none 0 0, .slice none 0 0] z30 rfl fun b76 w78 hB_ hC => ?_
  refine s_store (v := .agg #[u61, u62]) hC 0 [u61, u62] [u61, u62] rfl ag30.size rfl rfl rfl rfl (all_c (own_oneC (hC.getM 1 rfl)) (all_c (rep_oneC (Tr.trep _ (hC.getM 2 rfl).1)) rfl)) (Nat.le_of_ble_eq_true rfl) rfl fun w79 hC => ?_
  refine dn ?_
  refine sr ?_
  refine s_loadA hC 0 [u61, u62] rfl ag30 rfl rfl rfl ?_
  refine s_call [.agg #[u61, u62]] _ Try.func21 rfl rfl rfl (c_impl_QuadraticAlgebra r60 h _ (alg_mk (own_repE (hC.getM 1 rfl)) (Tr.trep _ (hC.getM 2 rfl).1))) (fun ret80 w82 hR81 => ?_)
  obtain ⟨r83, u84, u85, f86, r89, rfl, h, hr87, hf88, hB90⟩ := hR81
  refine ⟨_, rfl, ?_⟩
  replace hC := hC.push hB90 (Tr.item (TrAlg 2 76 59) r83 [u84, u85] f86) hr87 hf88
  obtain ⟨f92, ho93, ho94, hs95, hs96, hd97⟩ := alg_split (hC.getM 0 rfl)
  replace hC := hC.split (a := own 2 1 u84 r83.degrees.length ((EI .i64).encs r83.degrees)) (b := Tr.item (Tr.sl 59 (TrForm 76)) r83.images [u85] f92) hs95 hs96 ⟨ho93, ho94, hd97⟩
  refine s_mv (v := .tuple #[.agg #[u84, u85], .int .i64 r89]) rfl ?_
  refine s_ext (v := .agg #[u84, u85]) rfl rfl ?_
  refine s_ext (v := .int .i64 r89) rfl rfl ?_
  refine s_alloc hC [.slice none 0 0, .slice none 0 0] z30 rfl fun b100 w102 hB_ hC => ?_
  refine s_store (v := .agg #[u84, u85]) hC 0 [u84, u85] [u84, u85] rfl ag30.size rfl rfl rfl rfl (all_c (own_oneC (hC.getM 1 rfl)) (all_c (rep_oneC (Tr.trep _ (hC.getM 2 rfl).1)) rfl)) (Nat.le_of_ble_eq_true rfl) rfl fun w103 hC => ?_
  refine s_as (v := .int .i64 r89) rfl ?_
  refine dn ?_
  refine wp_seq ?_
  refine sr ?_
  refine s_loadA hC 0 [u84, u85] rfl ag30 rfl rfl rfl ?_
  refine s_loadA hC 6 [u37, u38] rfl ag30 rfl rfl rfl ?_
  refine s_call [.agg #[u84, u85], .agg #[u37, u38]] _ Try.func13 rfl rfl rfl (c_laws_eqAlgebra r83 r36 h _ (alg_mk (own_repE (hC.getM 1 rfl)) (Tr.trep _ (hC.getM 2 rfl).1)) (alg_mk (own_repE (hC.getM 7 rfl)) (Tr.trep _ (hC.getM 8 rfl).1))) (fun ret104 w106 hR105 => ?_)
  obtain ⟨r107, rfl, h, hB108⟩ := hR105
  refine ⟨_, rfl, ?_⟩
  replace hC := hC.grow hB108
  refine s_not rfl ?_
  refine s_mv (v := .bool (!r107)) rfl ?_
  refine bsplit (!r107) (fun hb109 => ?_) (fun hb109 => ?_)
  ·replace h := ift h (ne_t (not_t hb109))
   refine guardOff (b := true) 4 36 rfl (tr rfl (congrArg _ hb109)) (by decide) ?_
   refine guardOff (b := true) 4 36 rfl (tr rfl (congrArg _ hb109)) (by decide) ?_
   refine guardOff (b := true) 4 36 rfl (tr rfl (congrArg _ hb109)) (by decide) ?_
   refine s_pick (v := .bool true) (b := true) (tr rfl (congrArg _ hb109)) rfl ?_
   refine dn ?_
   refine cw_true rfl rfl ?_
   refine sr ?_
   refine s_as (v := .bool false) rfl ?_
   refine dn ?_
   refine wp_ret (then_ret ?_)
   refine ret1 (fn := Try.f4) rfl ?_ ⟨false, rfl, h, hC.below⟩ (.inl rfl)
   exact res_tmp rfl
  ·replace h := iff_ h (not_not_intro ((not_f hb109)))
   refine guardOn 4 36 rfl rfl hb109 ?_
   refine s_mv (v := .int .i64 r89) rfl ?_
   refine guardOn 4 36 rfl rfl hb109 ?_
   refine s_mv (v := .int .i64 r42) rfl ?_
   refine guardOn 4 36 rfl rfl hb109 ?_
   refine s_neq rfl rfl ?_
   refine s_pick (v := .bool (decide (r89 ≠ r42))) (b := false) (tr rfl (congrArg _ hb109)) rfl ?_
   refine dn ?_
   refine cw_cond rfl (fun hb110 => ?_) (fun hb110 => ?_)
   ·replace h := ift h (ct hb110)
    refine sr ?_
    refine s_as (v := .bool false) rfl ?_
    refine dn ?_
    refine wp_ret (then_ret ?_)
    refine ret1 (fn := Try.f4) rfl ?_ ⟨false, rfl, h, hC.below⟩ (.inl rfl)
    exact res_tmp rfl
   ·replace h := iff_ h (cf hb110)
    refine wp_skip ?_
    refine then_norm ?_
    refine wp_seq ?_
    refine wp_seq ?_
    refine cw_draw 3 mixed [0, 0, 2, 7, 15] [0, 1] [] (by kernel_rfl) (by kernel_rfl) (by kernel_rfl) (fun hM112 hM113 w111 hB_ => ?_)
    replace hC := hC.grow hB_
    refine ae_look belPre 0 (.agg #[u61, u62]) rfl rfl (by kernel_rfl) (hM112 0 rfl) (fun w_ hB_ => .inl ⟨rfl, by exact r_loadA (hC.grow hB_) 3 [u61, u62] rfl ag30 rfl rfl rfl⟩) (l9 := (dbits 5 1)) (by kernel_rfl) ?_
    refine ae_look belPre 1 (.agg #[u0_0, u0_1]) rfl rfl (by kernel_rfl) (hM112 1 rfl) (fun w_ hB_ => .inl ⟨rfl, by exact r_loadA (hC.grow hB_) 11 [u0_0, u0_1] rfl ag25 rfl rfl rfl⟩) (l9 := (dbits 5 3)) (by kernel_rfl) ?_
    refine ae_one 2 rfl (by kernel_rfl) ?_
    refine s_call [.agg #[u0_0, u0_1]] _ Try.func9 rfl rfl rfl (c_laws_toAlgebra a0 h _ (alg_mk (hC.getP 1 rfl) (hC.getP 0 rfl))) (fun ret114 w116 hR115 => ?_)
    obtain ⟨r117, u118, u119, f120, rfl, h, hr121, hf122, hB123⟩ := hR115
    refine ⟨_, rfl, ?_⟩
    replace hC := hC.push hB123 (Tr.item (TrAlg 2 76 59) r117 [u118, u119] f120) hr121 hf122
    obtain ⟨f125, ho126, ho127, hs128, hs129, hd130⟩ := alg_split (hC.getM 0 rfl)
    replace hC := hC.split (a := own 2 1 u118 r117.degrees.length ((EI .i64).encs r117.degrees)) (b := Tr.item (Tr.sl 59 (TrForm 76)) r117.images [u119] f125) hs128 hs129 ⟨ho126, ho127, hd130⟩
    refine done ?_
    refine ak_intro (by assumption) (l9 := (dbits 5 7)) (by kernel_rfl) ?_
    refine ae_tail 3 (by decide) (by decide) (by kernel_rfl) (by kernel_rfl) rfl ?_
    refine s_call [.agg #[u61, u62], .agg #[u118, u119]] _ Try.func13 rfl rfl rfl (c_laws_eqAlgebra r60 r117 h _ (alg_mk (own_repE (hC.getM 6 rfl)) (Tr.trep _ (hC.getM 7 rfl).1)) (alg_mk (own_repE (hC.getM 0 rfl)) (Tr.trep _ (hC.getM 1 rfl).1))) (fun ret133 w135 hR134 => ?_)
    obtain ⟨r136, rfl, h, hB137⟩ := hR134
    refine ⟨_, rfl, ?_⟩
    replace hC := hC.grow hB137
    refine s_not rfl ?_
    refine done ?_
    refine qn_norm ?_
    refine then_norm ?_
    refine cw_cond rfl (fun hb138 => ?_) (fun hb138 => ?_)
    ·replace h := ift h (ne_t (not_t hb138))
     refine sr ?_
     refine s_as (v := .bool false) rfl ?_
     refine dn ?_
     refine wp_ret (then_ret ?_)
     refine ret1 (fn := Try.f4) rfl ?_ ⟨false, rfl, h, hC.below⟩ (.inl rfl)
     exact res_tmp rfl
    ·replace h := iff_ h (not_not_intro ((not_f hb138)))
     refine wp_skip ?_
     refine then_norm ?_
     refine sr ?_
     refine s_as (v := .int .i64 1) rfl ?_
     refine dn ?_
     refine sr ?_
     refine s_loadA hC 5 [u61, u62] rfl ag30 rfl rfl rfl ?_
     refine s_mv (v := .int .i64 1) rfl ?_
     refine s_call [.agg #[u61, u62], .int .i64 1] _ Try.func16 rfl rfl rfl (c_laws_markAlgebra r60 1 h _ (hC.getM 6 rfl) (hC.getM 7 rfl) (hC.mm 6 7 rfl rfl (by decide))) (fun ret139 w141 hR140 => ?_)
     obtain ⟨r142, m144, rfl, h, hm145, hm146, hB143⟩ := hR140
     refine ⟨_, rfl, ?_⟩
     replace hC := hC.turnL hB143 (M' := [own 2 1 u118 r117.degrees.length ((EI .i64).encs r117.degrees), Tr.item (Tr.sl 59 (TrForm 76)) r117.images [u119] f125, blk b100 30 [u84, u85], own 2 1 u84 r83.degrees.length ((EI .i64).encs r83.degrees), Tr.item (Tr.sl 59 (TrForm 76)) r83.images [u85] f92, blk b76 30 [u61, u62], own 2 1 u61 m144.degrees.length ((EI .i64).encs m144.degrees), Tr.item (Tr.sl 59 (TrForm 76)) m144.images [u62] f68, blk b53 30 [u37, u38], own 2 1 u37 r36.degrees.length ((EI .i64).encs r36.degrees), Tr.item (Tr.sl 59 (TrForm 76)) r36.images [u38] f45, own 2 1 u18 r17.degrees.length ((EI .i64).encs r17.degrees), Tr.item (Tr.sl 59 (TrForm 76)) r17.images [u19] f25, blk b5 25 [u0_0, u0_1]]) rfl (fun x_ hx_ => (List.mem_append.1 hx_).elim (fun hx_ => ⟨_, List.mem_of_getElem? (i := 6) rfl, hx_⟩) (fun hx_ => ⟨_, List.mem_of_getElem? (i := 7) rfl, hx_⟩)) (by simp only [List.mem_cons, List.not_mem_nil, or_false, forall_eq_or_imp, forall_eq]; exact ⟨(hC.stay 0 rfl hB143 (fun x_ hq_ hx_ => (List.mem_append.1 hx_).elim (fun hx_ => hC.mm 0 6 rfl rfl (by decide) x_ hq_ hx_) (fun hx_ => hC.mm 0 7 rfl rfl (by decide) x_ hq_ hx_))), (hC.stay 1 rfl hB143 (fun x_ hq_ hx_ => (List.mem_append.1 hx_).elim (fun hx_ => hC.mm 1 6 rfl rfl (by decide) x_ hq_ hx_) (fun hx_ => hC.mm 1 7 rfl rfl (by decide) x_ hq_ hx_))), (hC.stay 2 rfl hB143 (fun x_ hq_ hx_ => (List.mem_append.1 hx_).elim (fun hx_ => hC.mm 2 6 rfl rfl (by decide) x_ hq_ hx_) (fun hx_ => hC.mm 2 7 rfl rfl (by decide) x_ hq_ hx_))), (hC.stay 3 rfl hB143 (fun x_ hq_ hx_ => (List.mem_append.1 hx_).elim (fun hx_ => hC.mm 3 6 rfl rfl (by decide) x_ hq_ hx_) (fun hx_ => hC.mm 3 7 rfl rfl (by decide) x_ hq_ hx_))), (hC.stay 4 rfl hB143 (fun x_ hq_ hx_ => (List.mem_append.1 hx_).elim (fun hx_ => hC.mm 4 6 rfl rfl (by decide) x_ hq_ hx_) (fun hx_ => hC.mm 4 7 rfl rfl (by decide) x_ hq_ hx_))), (hC.stay 5 rfl hB143 (fun x_ hq_ hx_ => (List.mem_append.1 hx_).elim (fun hx_ => hC.mm 5 6 rfl rfl (by decide) x_ hq_ hx_) (fun hx_ => hC.mm 5 7 rfl rfl (by decide) x_ hq_ hx_))), hm145, hm146, (hC.stay 8 rfl hB143 (fun x_ hq_ hx_ => (List.mem_append.1 hx_).elim (fun hx_ => hC.mm 8 6 rfl rfl (by decide) x_ hq_ hx_) (fun hx_ => hC.mm 8 7 rfl rfl (by decide) x_ hq_ hx_))), (hC.stay 9 rfl hB143 (fun x_ hq_ hx_ => (List.mem_append.1 hx_).elim (fun hx_ => hC.mm 9 6 rfl rfl (by decide) x_ hq_ hx_) (fun hx_ => hC.mm 9 7 rfl rfl (by decide) x_ hq_ hx_))), (hC.stay 10 rfl hB143 (fun x_ hq_ hx_ => (List.mem_append.1 hx_).elim (fun hx_ => hC.mm 10 6 rfl rfl (by decide) x_ hq_ hx_) (fun hx_ => hC.mm 10 7 rfl rfl (by decide) x_ hq_ hx_))), (hC.stay 11 rfl hB143 (fun x_ hq_ hx_ => (List.mem_append.1 hx_).elim (fun hx_ => hC.mm 11 6 rfl rfl (by decide) x_ hq_ hx_) (fun hx_ => hC.mm 11 7 rfl rfl (by decide) x_ hq_ hx_))), (hC.stay 12 rfl hB143 (fun x_ hq_ hx_ => (List.mem_append.1 hx_).elim (fun hx_ => hC.mm 12 6 rfl rfl (by decide) x_ hq_ hx_) (fun hx_ => hC.mm 12 7 rfl rfl (by decide) x_ hq_ hx_))), (hC.stay 13 rfl hB143 (fun x_ hq_ hx_ => (List.mem_append.1 hx_).elim (fun hx_ => hC.mm 13 6 rfl rfl (by decide) x_ hq_ hx_) (fun hx_ => hC.mm 13 7 rfl rfl (by decide) x_ hq_ hx_)))⟩)
     refine s_as (v := .int .i64 r142) rfl ?_
     refine dn ?_
     refine wp_seq ?_
     refine sr ?_
     refine s_mv (v := .int .i64 r142) rfl ?_
     refine s_lss rfl rfl ?_
     refine s_mv (v := .bool (decide (r142 < 0))) rfl ?_
     refine bsplit (decide (r142 < 0)) (fun hb147 => ?_) (fun hb147 => ?_)
     ·replace h := ift h (ct hb147)
      refine guardOff (b := true) 2 51 rfl (tr rfl (congrArg _ hb147)) (by decide) ?_
      refine guardOff (b := true) 2 51 rfl (tr rfl (congrArg _ hb147)) (by decide) ?_
      refine guardOff (b := true) 2 51 rfl (tr rfl (congrArg _ hb147)) (by decide) ?_
      refine guardOff (b := true) 2 51 rfl (tr rfl (congrArg _ hb147)) (by decide) ?_
      refine s_pick (v := .bool true) (b := true) (tr rfl (congrArg _ hb147)) rfl ?_
      refine s_mv (v := .bool true) rfl ?_
      refine guardOff (b := true) 8 57 rfl (tr rfl (congrArg _ rfl)) (by decide) ?_
      refine guardOff (b := true) 8 57 rfl (tr rfl (congrArg _ rfl)) (by decide) ?_
      refine guardOff (b := true) 8 57 rfl (tr rfl (congrArg _ rfl)) (by decide) ?_
      refine s_pick (v := .bool true) (b := true) rfl rfl ?_
      refine dn ?_
      refine cw_true rfl rfl ?_
      refine sr ?_
      refine s_as (v := .bool false) rfl ?_
      refine dn ?_
      refine wp_ret (then_ret ?_)
      refine ret1 (fn := Try.f4) rfl ?_ ⟨false, rfl, h, hC.below⟩ (.inl rfl)
      exact res_tmp rfl
     ·replace h := iff_ h (cf hb147)
      refine guardOn 2 51 rfl rfl hb147 ?_
      refine s_loadA hC 2 [u84, u85] rfl ag30 rfl rfl rfl ?_
      refine guardOn 2 51 rfl rfl hb147 ?_
      refine s_loadA hC 8 [u37, u38] rfl ag30 rfl rfl rfl ?_
      refine guardOn 2 51 rfl rfl hb147 ?_
      refine s_call [.agg #[u84, u85], .agg #[u37, u38]] _ Try.func13 rfl rfl rfl (c_laws_eqAlgebra (⟨r83.degrees, r83.images⟩ : Alg) (⟨r36.degrees, r36.images⟩ : Alg) h _ (alg_mk (own_repE (hC.getM 3 rfl)) (Tr.trep _ (hC.getM 4 rfl).1)) (alg_mk (own_repE (hC.getM 9 rfl)) (Tr.trep _ (hC.getM 10 rfl).1))) (fun ret148 w150 hR149 => ?_)
      obtain ⟨r151, rfl, h, hB152⟩ := hR149
      refine ⟨_, rfl, ?_⟩
      replace hC := hC.grow hB152
      refine guardOn 2 51 rfl rfl hb147 ?_
      refine s_not rfl ?_
      refine s_pick (v := .bool (!r151)) (b := false) (tr rfl (congrArg _ hb147)) rfl ?_
      refine s_mv (v := .bool (!r151)) rfl ?_
      refine bsplit (!r151) (fun hb153 => ?_) (fun hb153 => ?_)
      ·replace h := ift h (ne_t (not_t hb153))
       refine guardOff (b := true) 8 57 rfl (tr rfl (congrArg _ hb153)) (by decide) ?_
       refine guardOff (b := true) 8 57 rfl (tr rfl (congrArg _ hb153)) (by decide) ?_
       refine guardOff (b := true) 8 57 rfl (tr rfl (congrArg _ hb153)) (by decide) ?_
       refine s_pick (v := .bool true) (b := true) (tr rfl (congrArg _ hb153)) rfl ?_
       refine dn ?_
       refine cw_true rfl rfl ?_
       refine sr ?_
       refine s_as (v := .bool false) rfl ?_
       refine dn ?_
       refine wp_ret (then_ret ?_)
       refine ret1 (fn := Try.f4) rfl ?_ ⟨false, rfl, h, hC.below⟩ (.inl rfl)
       exact res_tmp rfl
      ·replace h := iff_ h (not_not_intro ((not_f hb153)))
       refine guardOn 8 57 rfl rfl hb153 ?_
       refine s_mv (v := .int .i64 r89) rfl ?_
       refine guardOn 8 57 rfl rfl hb153 ?_
       refine s_mv (v := .int .i64 r42) rfl ?_
       refine guardOn 8 57 rfl rfl hb153 ?_
       refine s_neq rfl rfl ?_
       refine s_pick (v := .bool (decide (r89 ≠ r42))) (b := false) (tr rfl (congrArg _ hb153)) rfl ?_
       refine dn ?_
       refine cw_false rfl hb110 ?_
       refine wp_skip ?_
       refine then_norm ?_
       refine sr ?_
       refine s_as (v := .int .i64 1) rfl ?_
       refine dn ?_
       refine sr ?_
       refine s_loadA hC 2 [u84, u85] rfl ag30 rfl rfl rfl ?_
       refine s_mv (v := .int .i64 1) rfl ?_
       refine s_call [.agg #[u84, u85], .int .i64 1] _ Try.func16 rfl rfl rfl (c_laws_markAlgebra (⟨r83.degrees, r83.images⟩ : Alg) 1 h _ (hC.getM 3 rfl) (hC.getM 4 rfl) (hC.mm 3 4 rfl rfl (by decide))) (fun ret154 w156 hR155 => ?_)
       obtain ⟨r157, m159, rfl, h, hm160, hm161, hB158⟩ := hR155
       refine ⟨_, rfl, ?_⟩
       replace hC := hC.turnL hB158 (M' := [own 2 1 u118 r117.degrees.length ((EI .i64).encs r117.degrees), Tr.item (Tr.sl 59 (TrForm 76)) r117.images [u119] f125, blk b100 30 [u84, u85], own 2 1 u84 m159.degrees.length ((EI .i64).encs m159.degrees), Tr.item (Tr.sl 59 (TrForm 76)) m159.images [u85] f92, blk b76 30 [u61, u62], own 2 1 u61 m144.degrees.length ((EI .i64).encs m144.degrees), Tr.item (Tr.sl 59 (TrForm 76)) m144.images [u62] f68, blk b53 30 [u37, u38], own 2 1 u37 r36.degrees.length ((EI .i64).encs r36.degrees), Tr.item (Tr.sl 59 (TrForm 76)) r36.images [u38] f45, own 2 1 u18 r17.degrees.length ((EI .i64).encs r17.degrees), Tr.item (Tr.sl 59 (TrForm 76)) r17.images [u19] f25, blk b5 25 [u0_0, u0_1]]) rfl (fun x_ hx_ => (List.mem_append.1 hx_).elim (fun hx_ => ⟨_, List.mem_of_getElem? (i := 3) rfl, hx_⟩) (fun hx_ => ⟨_, List.mem_of_getElem? (i := 4) rfl, hx_⟩)) (by simp only [List.mem_cons, List.not_mem_nil, or_false, forall_eq_or_imp, forall_eq]; exact ⟨(hC.stay 0 rfl hB158 (fun x_ hq_ hx_ => (List.mem_append.1 hx_).elim (fun hx_ => hC.mm 0 3 rfl rfl (by decide) x_ hq_ hx_) (fun hx_ => hC.mm 0 4 rfl rfl (by decide) x_ hq_ hx_))), (hC.stay 1 rfl hB158 (fun x_ hq_ hx_ => (List.mem_append.1 hx_).elim (fun hx_ => hC.mm 1 3 rfl rfl (by decide) x_ hq_ hx_) (fun hx_ => hC.mm 1 4 rfl rfl (by decide) x_ hq_ hx_))), (hC.stay 2 rfl hB158 (fun x_ hq_ hx_ => (List.mem_append.1 hx_).elim (fun hx_ => hC.mm 2 3 rfl rfl (by decide) x_ hq_ hx_) (fun hx_ => hC.mm 2 4 rfl rfl (by decide) x_ hq_ hx_))), hm160, hm161, (hC.stay 5 rfl hB158 (fun x_ hq_ hx_ => (List.mem_append.1 hx_).elim (fun hx_ => hC.mm 5 3 rfl rfl (by decide) x_ hq_ hx_) (fun hx_ => hC.mm 5 4 rfl rfl (by decide) x_ hq_ hx_))), (hC.stay 6 rfl hB158 (fun x_ hq_ hx_ => (List.mem_append.1 hx_).elim (fun hx_ => hC.mm 6 3 rfl rfl (by decide) x_ hq_ hx_) (fun hx_ => hC.mm 6 4 rfl rfl (by decide) x_ hq_ hx_))), (hC.stay 7 rfl hB158 (fun x_ hq_ hx_ => (List.mem_append.1 hx_).elim (fun hx_ => hC.mm 7 3 rfl rfl (by decide) x_ hq_ hx_) (fun hx_ => hC.mm 7 4 rfl rfl (by decide) x_ hq_ hx_))), (hC.stay 8 rfl hB158 (fun x_ hq_ hx_ => (List.mem_append.1 hx_).elim (fun hx_ => hC.mm 8 3 rfl rfl (by decide) x_ hq_ hx_) (fun hx_ => hC.mm 8 4 rfl rfl (by decide) x_ hq_ hx_))), (hC.stay 9 rfl hB158 (fun x_ hq_ hx_ => (List.mem_append.1 hx_).elim (fun hx_ => hC.mm 9 3 rfl rfl (by decide) x_ hq_ hx_) (fun hx_ => hC.mm 9 4 rfl rfl (by decide) x_ hq_ hx_))), (hC.stay 10 rfl hB158 (fun x_ hq_ hx_ => (List.mem_append.1 hx_).elim (fun hx_ => hC.mm 10 3 rfl rfl (by decide) x_ hq_ hx_) (fun hx_ => hC.mm 10 4 rfl rfl (by decide) x_ hq_ hx_))), (hC.stay 11 rfl hB158 (fun x_ hq_ hx_ => (List.mem_append.1 hx_).elim (fun hx_ => hC.mm 11 3 rfl rfl (by decide) x_ hq_ hx_) (fun hx_ => hC.mm 11 4 rfl rfl (by decide) x_ hq_ hx_))), (hC.stay 12 rfl hB158 (fun x_ hq_ hx_ => (List.mem_append.1 hx_).elim (fun hx_ => hC.mm 12 3 rfl rfl (by decide) x_ hq_ hx_) (fun hx_ => hC.mm 12 4 rfl rfl (by decide) x_ hq_ hx_))), (hC.stay 13 rfl hB158 (fun x_ hq_ hx_ => (List.mem_append.1 hx_).elim (fun hx_ => hC.mm 13 3 rfl rfl (by decide) x_ hq_ hx_) (fun hx_ => hC.mm 13 4 rfl rfl (by decide) x_ hq_ hx_)))⟩)
       refine s_as (v := .int .i64 r157) rfl ?_
       refine dn ?_
       refine sr ?_
       refine s_as (v := .int .i64 1) rfl ?_
       refine dn ?_
       refine sr ?_
       refine s_loadA hC 2 [u84, u85] rfl ag30 rfl rfl rfl ?_
       refine s_mv (v := .int .i64 1) rfl ?_
       refine s_call [.agg #[u84, u85], .int .i64 1] _ Try.func19 rfl rfl rfl (c_laws_heldAlgebra (⟨m159.degrees, m159.images⟩ : Alg) 1 h _ (alg_mk (own_repE (hC.getM 3 rfl)) (Tr.trep _ (hC.getM 4 rfl).1))) (fun ret162 w164 hR163 => ?_)
       obtain ⟨r165, rfl, h, hB166⟩ := hR163
       refine ⟨_, rfl, ?_⟩
       replace hC := hC.grow hB166
       refine s_as (v := .int .i64 r165) rfl ?_
       refine dn ?_
       refine wp_seq ?_
       refine sr ?_
       refine s_mv (v := .int .i64 r165) rfl ?_
       refine s_lss rfl rfl ?_
       refine dn ?_
       refine cw_cond rfl (fun hb167 => ?_) (fun hb167 => ?_)
       ·replace h := ift h (ct hb167)
        refine sr ?_
        refine s_as (v := .bool false) rfl ?_
        refine dn ?_
        refine wp_ret (then_ret ?_)
        refine ret1 (fn := Try.f4) rfl ?_ ⟨false, rfl, h, hC.below⟩ (.inl rfl)
        exact res_tmp rfl
       ·replace h := iff_ h (cf hb167)
        refine wp_skip ?_
        refine then_norm ?_
        refine wp_seq ?_
        refine sr ?_
        refine s_mv (v := .int .i64 r165) rfl ?_
        refine s_mv (v := .int .i64 r157) rfl ?_
        refine s_neq rfl rfl ?_
        refine dn ?_
        refine cw_cond rfl (fun hb168 => ?_) (fun hb168 => ?_)
        ·replace h := ift h (ct hb168)
         refine sr ?_
         refine s_as (v := .bool false) rfl ?_
         refine dn ?_
         refine wp_ret (then_ret ?_)
         refine ret1 (fn := Try.f4) rfl ?_ ⟨false, rfl, h, hC.below⟩ (.inl rfl)
         exact res_tmp rfl
        ·replace h := iff_ h (cf hb168)
         refine wp_skip ?_
         refine then_norm ?_
         refine sr ?_
         refine s_loadA hC 13 [u0_0, u0_1] rfl ag25 rfl rfl rfl ?_
         refine s_call [.agg #[u0_0, u0_1]] _ Try.func9 rfl rfl rfl (c_laws_toAlgebra (⟨a0.degrees, a0.images⟩ : Alg) h _ (alg_mk (hC.getP 1 rfl) (hC.getP 0 rfl))) (fun ret169 w171 hR170 => ?_)
         obtain ⟨r172, u173, u174, f175, rfl, h, hr176, hf177, hB178⟩ := hR170
         refine ⟨_, rfl, ?_⟩
         replace hC := hC.push hB178 (Tr.item (TrAlg 2 76 59) r172 [u173, u174] f175) hr176 hf177
         obtain ⟨f180, ho181, ho182, hs183, hs184, hd185⟩ := alg_split (hC.getM 0 rfl)
         replace hC := hC.split (a := own 2 1 u173 r172.degrees.length ((EI .i64).encs r172.degrees)) (b := Tr.item (Tr.sl 59 (TrForm 76)) r172.images [u174] f180) hs183 hs184 ⟨ho181, ho182, hd185⟩
         refine s_call [.agg #[u173, u174]] _ Try.func21 rfl rfl rfl (c_impl_QuadraticAlgebra r172 h _ (alg_mk (own_repE (hC.getM 0 rfl)) (Tr.trep _ (hC.getM 1 rfl).1))) (fun ret188 w190 hR189 => ?_)
         obtain ⟨r191, u192, u193, f194, r197, rfl, h, hr195, hf196, hB198⟩ := hR189
         refine ⟨_, rfl, ?_⟩
         replace hC := hC.push hB198 (Tr.item (TrAlg 2 76 59) r191 [u192, u193] f194) hr195 hf196
         obtain ⟨f200, ho201, ho202, hs203, hs204, hd205⟩ := alg_split (hC.getM 0 rfl)
         replace hC := hC.split (a := own 2 1 u192 r191.degrees.length ((EI .i64).encs r191.degrees)) (b := Tr.item (Tr.sl 59 (TrForm 76)) r191.images [u193] f200) hs203 hs204 ⟨ho201, ho202, hd205⟩
         refine s_mv (v := .tuple #[.agg #[u192, u193], .int .i64 r197]) rfl ?_
         refine s_ext (v := .agg #[u192, u193]) rfl rfl ?_
         refine s_ext (v := .int .i64 r197) rfl rfl ?_
         refine s_alloc hC [.slice none 0 0, .slice none 0 0] z30 rfl fun b208 w210 hB_ hC => ?_
         refine s_store (v := .agg #[u192, u193]) hC 0 [u192, u193] [u192, u193] rfl ag30.size rfl rfl rfl rfl (all_c (own_oneC (hC.getM 1 rfl)) (all_c (rep_oneC (Tr.trep _ (hC.getM 2 rfl).1)) rfl)) (Nat.le_of_ble_eq_true rfl) rfl fun w211 hC => ?_
         refine s_as (v := .int .i64 r197) rfl ?_
         refine dn ?_
         refine wp_seq ?_
         refine sr ?_
         refine s_loadA hC 0 [u192, u193] rfl ag30 rfl rfl rfl ?_
         refine s_loadA hC 13 [u37, u38] rfl ag30 rfl rfl rfl ?_
         refine s_call [.agg #[u192, u193], .agg #[u37, u38]] _ Try.func13 rfl rfl rfl (c_laws_eqAlgebra r191 (⟨r36.degrees, r36.images⟩ : Alg) h _ (alg_mk (own_repE (hC.getM 1 rfl)) (Tr.trep _ (hC.getM 2 rfl).1)) (alg_mk (own_repE (hC.getM 14 rfl)) (Tr.trep _ (hC.getM 15 rfl).1))) (fun ret212 w214 hR213 => ?_)
         obtain ⟨r215, rfl, h, hB216⟩ := hR213
         refine ⟨_, rfl, ?_⟩
         replace hC := hC.grow hB216
         refine s_not rfl ?_
         refine s_mv (v := .bool (!r215)) rfl ?_
         refine bsplit (!r215) (fun hb217 => ?_) (fun hb217 => ?_)
         ·replace h := ift h (ne_t (not_t hb217))
          refine guardOff (b := true) 4 83 rfl (tr rfl (congrArg _ hb217)) (by decide) ?_
          refine guardOff (b := true) 4 83 rfl (tr rfl (congrArg _ hb217)) (by decide) ?_
          refine guardOff (b := true) 4 83 rfl (tr rfl (congrArg _ hb217)) (by decide) ?_
          refine s_pick (v := .bool true) (b := true) (tr rfl (congrArg _ hb217)) rfl ?_
          refine dn ?_
          refine cw_true rfl rfl ?_
          refine sr ?_
          refine s_as (v := .bool false) rfl ?_
          refine dn ?_
          refine wp_ret (then_ret ?_)
          refine ret1 (fn := Try.f4) rfl ?_ ⟨false, rfl, h, hC.below⟩ (.inl rfl)
          exact res_tmp rfl
         ·replace h := iff_ h (not_not_intro ((not_f hb217)))
          refine guardOn 4 83 rfl rfl hb217 ?_
          refine s_mv (v := .int .i64 r197) rfl ?_
          refine guardOn 4 83 rfl rfl hb217 ?_
          refine s_mv (v := .int .i64 r42) rfl ?_
          refine guardOn 4 83 rfl rfl hb217 ?_
          refine s_neq rfl rfl ?_
          refine s_pick (v := .bool (decide (r197 ≠ r42))) (b := false) (tr rfl (congrArg _ hb217)) rfl ?_
          refine dn ?_
          refine cw_cond rfl (fun hb218 => ?_) (fun hb218 => ?_)
          ·replace h := ift h (ct hb218)
           refine sr ?_
           refine s_as (v := .bool false) rfl ?_
           refine dn ?_
           refine wp_ret (then_ret ?_)
           refine ret1 (fn := Try.f4) rfl ?_ ⟨false, rfl, h, hC.below⟩ (.inl rfl)
           exact res_tmp rfl
          ·replace h := iff_ h (cf hb218)
           refine wp_skip ?_
           refine then_norm ?_
           refine sr ?_
           refine s_as (v := .int .i64 1) rfl ?_
           refine dn ?_
           refine sr ?_
           refine s_loadA hC 7 [u84, u85] rfl ag30 rfl rfl rfl ?_
           refine s_mv (v := .int .i64 1) rfl ?_
           refine s_call [.agg #[u84, u85], .int .i64 1] _ Try.func19 rfl rfl rfl (c_laws_heldAlgebra (⟨m159.degrees, m159.images⟩ : Alg) 1 h _ (alg_mk (own_repE (hC.getM 8 rfl)) (Tr.trep _ (hC.getM 9 rfl).1))) (fun ret219 w221 hR220 => ?_)
           obtain ⟨r222, rfl, h, hB223⟩ := hR220
           refine ⟨_, rfl, ?_⟩
           replace hC := hC.grow hB223
           refine s_as (v := .int .i64 r222) rfl ?_
           refine dn ?_
           refine wp_seq ?_
           refine sr ?_
           refine s_mv (v := .int .i64 r222) rfl ?_
           refine s_lss rfl rfl ?_
           refine dn ?_
           refine cw_cond rfl (fun hb224 => ?_) (fun hb224 => ?_)
           ·replace h := ift h (ct hb224)
            refine sr ?_
            refine s_as (v := .bool false) rfl ?_
            refine dn ?_
            refine wp_ret (then_ret ?_)
            refine ret1 (fn := Try.f4) rfl ?_ ⟨false, rfl, h, hC.below⟩ (.inl rfl)
            exact res_tmp rfl
           ·replace h := iff_ h (cf hb224)
            refine wp_skip ?_
            refine then_norm ?_
            refine wp_seq ?_
            refine sr ?_
            refine s_mv (v := .int .i64 r222) rfl ?_
            refine s_mv (v := .int .i64 r157) rfl ?_
            refine s_neq rfl rfl ?_
            refine dn ?_
            refine cw_cond rfl (fun hb225 => ?_) (fun hb225 => ?_)
            ·replace h := ift h (ct hb225)
             refine sr ?_
             refine s_as (v := .bool false) rfl ?_
             refine dn ?_
             refine wp_ret (then_ret ?_)
             refine ret1 (fn := Try.f4) rfl ?_ ⟨false, rfl, h, hC.below⟩ (.inl rfl)
             exact res_tmp rfl
            ·replace h := iff_ h (cf hb225)
             refine wp_skip ?_
             refine then_norm ?_
             refine sr ?_
             refine s_as (v := .bool true) rfl ?_
             refine dn ?_
             refine wp_ret ?_
             refine ret1 (fn := Try.f4) rfl ?_ ⟨true, rfl, h, hC.below⟩ (.inl rfl)
             exact res_tmp rfl
end Go.Proofs.Ytgmldfmfpodgiaa
