/- Printed by vcgen.py: functions of the program as predicates, and that the machine's calls meet them. -/
import Derived.Test.YtaagfepgbofmlaaGC
import Derived.Test.YtaagfepgbofmlaaVo
import Derived.Test.YtaagfepgbofmlaaVr
import Derived.Test.YtaagfepgbofmlaaVx
import Derived.Test.YtaagfepgbofmlaaVz
import Derived.KernelRfl
set_option linter.unusedVariables false
set_option linter.unusedSimpArgs false
set_option maxRecDepth 4000
set_option maxHeartbeats 4000000
namespace Go.Proofs.Ytaagfepgbofmlaa
open Go Go.RowKit Vc
theorem bs59_1 (x0 : A8) (w : World) : (Instr.buildSlice 59 1 #[(0, .agg (List.toArray (A8.enc .u8 x0)))]).run Try.prog w = .ok (.slice (some ⟨w.heap.size, 0, none⟩) 1 1) (w.alloc (.cells (List.toArray ((EA .u8).encs [x0])) 49)) := by kernel_rfl
theorem el49 : ElemT Try.prog 49 (.agg (List.toArray (A8.enc .u8 A8.zero))) 8 8 := by unfold ElemT; kernel_rfl
theorem bs59_0  (w : World) : (Instr.buildSlice 59 0 #[]).run Try.prog w = .ok (.slice (some ⟨w.heap.size, 0, none⟩) 0 0) (w.alloc (.cells (List.toArray ((EA .u8).encs [])) 49)) := by kernel_rfl
theorem bs22_0  (w : World) : (Instr.buildSlice 22 0 #[]).run Try.prog w = .ok (.slice (some ⟨w.heap.size, 0, none⟩) 0 0) (w.alloc (.cells (List.toArray ((EI .i64).encs [])) 2)) := by kernel_rfl
theorem bs22_1 (x0 : Int) (w : World) : (Instr.buildSlice 22 1 #[(0, .int .i64 x0)]).run Try.prog w = .ok (.slice (some ⟨w.heap.size, 0, none⟩) 1 1) (w.alloc (.cells (List.toArray ((EI .i64).encs [x0])) 2)) := by kernel_rfl
theorem bs27_0 (w : World) : (Instr.buildSlice 27 0 #[]).run Try.prog w = .ok (.slice (some ⟨w.heap.size, 0, none⟩) 0 0) (w.alloc (.cells (List.toArray []) 22)) := by kernel_rfl
theorem bsr27_1_s (x0 : Value) (hx0 : IsSl x0) (w : World) : (Instr.buildSlice 27 1 #[(0, x0)]).run Try.prog w = .ok (.slice (some ⟨w.heap.size, 0, none⟩) 1 1) (w.alloc (.cells (List.toArray [x0]) 22)) := by obtain ⟨_, _, _, rfl⟩ := hx0; kernel_rfl
theorem el22 : ElemT Try.prog 22 (.slice none 0 0) 1 24 := by unfold ElemT; kernel_rfl
theorem bs22_2 (x0 : Int) (x1 : Int) (w : World) : (Instr.buildSlice 22 2 #[(0, .int .i64 x0), (1, .int .i64 x1)]).run Try.prog w = .ok (.slice (some ⟨w.heap.size, 0, none⟩) 2 2) (w.alloc (.cells (List.toArray ((EI .i64).encs [x0, x1])) 2)) := by kernel_rfl
theorem sc121 : ScaT Try.prog 121 := ⟨⟨_, Try.underlying121, rfl⟩, by kernel_rfl⟩
theorem bl175_0sl_1int (x0 : Value) (x1 : Int) (hx0 : IsSl x0) (w : World) : (Instr.build 175 #[(0, x0), (1, .int .i64 x1)]).run Try.prog w = .ok (.agg #[x0, .int .i64 x1, .slice none 0 0]) w := by obtain ⟨_, _, _, rfl⟩ := hx0; kernel_rfl
theorem sc4 : ScaT Try.prog 4 := ⟨⟨_, Try.underlying4, rfl⟩, by kernel_rfl⟩
theorem bl164_0ptr_1map (x0 : Nat) (x1 : Nat) (w : World) : (Instr.build 164 #[(0, .pointer (some ⟨x0, 0, none⟩)), (1, .map (some x1))]).run Try.prog w = .ok (.agg #[.pointer (some ⟨x0, 0, none⟩), .map (some x1)]) w := by kernel_rfl
theorem sc162 : ScaT Try.prog 162 := ⟨⟨_, Try.underlying162, rfl⟩, by kernel_rfl⟩
theorem kt2 : KeyT Try.prog 2 (vvI .i64) := keyI Try.underlying2
theorem z88 : ZeroT Try.prog 88 (.pointer none) := by unfold ZeroT; kernel_rfl
theorem bl158_1map (x0 : Nat) (w : World) : (Instr.build 158 #[(1, .map (some x0))]).run Try.prog w = .ok (.agg #[.slice none 0 0, .map (some x0), .slice none 0 0, .slice none 0 0, .slice none 0 0, .slice none 0 0]) w := by kernel_rfl
theorem sc156 : ScaT Try.prog 156 := ⟨⟨_, Try.underlying156, rfl⟩, by kernel_rfl⟩
theorem bs87_0  (w : World) : (Instr.buildSlice 87 0 #[]).run Try.prog w = .ok (.slice (some ⟨w.heap.size, 0, none⟩) 0 0) (w.alloc (.cells (List.toArray (EB.encs [])) 4)) := by kernel_rfl
theorem bs87_1 (x0 : Bool) (w : World) : (Instr.buildSlice 87 1 #[(0, .bool x0)]).run Try.prog w = .ok (.slice (some ⟨w.heap.size, 0, none⟩) 1 1) (w.alloc (.cells (List.toArray (EB.encs [x0])) 4)) := by kernel_rfl
theorem el4 : ElemT Try.prog 4 (.bool false) 1 1 := by unfold ElemT; kernel_rfl
theorem ag25 : AggT Try.prog 25 2 := ⟨⟨_, Try.underlying25, rfl⟩, by kernel_rfl⟩
def f_impl_Algebra_isMinimal_1_1 (a0 : Int) (K : Bool → Prop) : Prop :=
 K (decide (a0 ≠ 0))
theorem c_impl_Algebra_isMinimal_1_1 (a0 : Int)  {K : Bool → Prop} (h : f_impl_Algebra_isMinimal_1_1 a0 K) (w0 : World)  :
  Calls Try.prog 165 #[.int .i64 a0] w0 fun e w' => ∃ (r0 : Bool), 
   e = .returned (.bool r0) ∧ K r0 ∧ Bel w0 w' := by
 unfold f_impl_Algebra_isMinimal_1_1 at h
 refine calls_of (args := [.int .i64 a0]) Try.func165 rfl 5 Try.ntmps165 (Nat.le_of_ble_eq_true rfl) ?_
 have hC := Ctx.start (X := Nox) w0 [] (by simp)
 refine sr ?_
 refine s_as (v := .bool false) rfl ?_
 refine dn ?_
 refine sr ?_
 refine s_mv (v := .int .i64 a0) rfl ?_
 refine s_neq rfl rfl ?_
 refine s_as (v := .bool (decide (a0 ≠ 0))) rfl ?_
 refine dn ?_
 refine wp_ret ?_
 refine ret1 (fn := Try.f165) rfl ?_ ⟨decide (a0 ≠ 0), rfl, h, hC.below⟩ (.inl rfl)
 exact res_tmp rfl
def f_impl_Algebra_isMinimal_1 (a0 : List Int) (K : Bool → Prop) : Prop :=
 f_slices_ContainsFunc_int64_int64 a0 f_impl_Algebra_isMinimal_1_1 (fun r5 => K r5)
theorem c_impl_Algebra_isMinimal_1 (a0 : List Int) {u0_0 : Value} {fp0 : List Nat} {K : Bool → Prop} (h : f_impl_Algebra_isMinimal_1 a0 K) (w0 : World) (q0 : ((EI .i64).ty.sl).rep a0 [u0_0] fp0 w0) :
  Calls Try.prog 164 #[u0_0] w0 fun e w' => ∃ (r0 : Bool), 
   e = .returned (.bool r0) ∧ K r0 ∧ Bel w0 w' := by
 unfold f_impl_Algebra_isMinimal_1 at h
 refine calls_of (args := [u0_0]) Try.func164 rfl 5 Try.ntmps164 (Nat.le_of_ble_eq_true rfl) ?_
 have hC := Ctx.start (X := Nox) w0 [Ty.item ((EI .i64).ty.sl) a0 [u0_0] fp0] (by simp only [List.mem_cons, List.not_mem_nil, or_false, forall_eq_or_imp, forall_eq]; exact q0)
 refine sr ?_
 refine s_as (v := .bool false) rfl ?_
 refine dn ?_
 refine sr ?_
 refine s_mv (v := u0_0) rfl ?_
 refine s_call [u0_0, .func (.func 165) #[] (List.toArray [])] _ Try.func85 rfl rfl rfl (c_slices_ContainsFunc_int64_int64 a0 f_impl_Algebra_isMinimal_1_1 h _ (hC.getP 0 rfl) Try.func165 rfl rfl (fun x0_ K_ w_ _ hq_ => c_impl_Algebra_isMinimal_1_1 x0_ hq_ w_)) (fun ret2 w4 hR3 => ?_)
 obtain ⟨r5, rfl, h, hB6⟩ := hR3
 refine ⟨_, rfl, ?_⟩
 replace hC := hC.grow hB6
 refine s_as (v := .bool r5) rfl ?_
 refine dn ?_
 refine wp_ret ?_
 refine ret1 (fn := Try.f164) rfl ?_ ⟨r5, rfl, h, hC.below⟩ (.inl rfl)
 exact res_tmp rfl
def f_spec_l02Word (a0 : A8) (K : Int → Prop) : Prop :=
 forN (fun i10 (s11 : Int) next12 => next12 (IntKind.i64.wrap (s11 + (IntKind.i64.wrap (a0.get i10))))) (fun (s11 : Int) => K s11) 8 0 0
theorem c_spec_l02Word (a0 : A8)  {K : Int → Prop} (h : f_spec_l02Word a0 K) (w0 : World)  :
  Calls Try.prog 112 #[.agg (List.toArray (A8.enc .u8 a0))] w0 fun e w' => ∃ (r0 : Int), 
   e = .returned (.int .i64 r0) ∧ K r0 ∧ Bel w0 w' := by
 unfold f_spec_l02Word at h
 refine calls_of (args := [.agg (List.toArray (A8.enc .u8 a0))]) Try.func112 rfl 16 Try.ntmps112 (Nat.le_of_ble_eq_true rfl) ?_
 have hC := Ctx.start (X := Nox) w0 [] (by simp)
 refine sr ?_
 refine s_box (v := .agg (List.toArray (A8.enc .u8 a0))) hC (A8.enc .u8 a0) rfl rfl fun b1 w3 hB_ hC => ?_
 refine s_as (v := .int .i64 0) rfl ?_
 refine dn ?_
 refine sr ?_
 refine s_as (v := .int .i64 0) rfl ?_
 refine dn ?_
 refine wp_seq ?_
 refine sr ?_
 refine s_as (v := .int .i64 0) rfl ?_
 refine dn ?_
 refine wp_block ?_
 refine loopN (S := Int) _ _ (fun i10 s11 e_ w_ => Slots e_ [(1, .pointer (some ⟨b1, 0, none⟩)), (2, .int .i64 0), (3, .int .i64 s11), (4, .int .i64 (i10 : Int))] ∧ Ctx Nox w0 w_ [blk b1 49 (A8.enc .u8 a0)] []) 8 ?_ ?_ (s0 := 0) ?_ h
 ·clear hC h
  rintro i10 s11 e_ w16 next12 K13 hi15 ⟨hS_, hC⟩ h hK14
  refine wp_seq ?_
  refine sr ?_
  refine s_mv (v := .int .i64 (i10 : Int)) (sx hS_ 3 rfl) ?_
  refine s_lss rfl rfl ?_
  refine dn ?_
  refine cw_true rfl (decide_eq_true (by omega)) ?_
  refine wp_skip ?_
  refine then_norm ?_
  refine wp_seq ?_
  refine wp_block ?_
  refine cw_region ?_
  refine s_mv (v := .int .i64 s11) (sx hS_ 2 rfl) ?_
  refine s_mv (v := .int .i64 (i10 : Int)) (sx hS_ 3 rfl) ?_
  refine s_iaddrB i10 Try.underlying49 sc5.size (sx hS_ 0 rfl) rfl (Int.natCast_nonneg _) (by omega) (by omega) ?_
  refine s_loadS hC 0 (.int .u8 (a0.get i10)) rfl sc5 rfl (A8.enc_get _ _ hi15) ?_
  refine s_conv Try.underlying5 Try.underlying2 rfl ?_
  refine s_add rfl rfl ?_
  refine s_as (v := .int .i64 (IntKind.i64.wrap (s11 + (IntKind.i64.wrap (a0.get i10))))) rfl ?_
  refine done ?_
  refine blk_norm ?_
  refine then_norm ?_
  refine cw_region ?_
  refine s_mv (v := .int .i64 (i10 : Int)) (sx hS_ 3 rfl) ?_
  refine s_add rfl rfl ?_
  refine s_as (v := .int .i64 (IntKind.i64.wrap ((i10 : Int) + 1))) rfl ?_
  refine done ?_
  exact hK14 (IntKind.i64.wrap (s11 + (IntKind.i64.wrap (a0.get i10)))) _ _ ⟨(sk (sx hS_ 0 rfl) (sk (sx hS_ 1 rfl) (sk rfl (sk (tr rfl (congrArg _ (wrap64_nat hi15 (by decide)))) sn)))), hC⟩ h
 ·clear hC h
  rintro s11 e_ w17 K13 ⟨hS_, hC⟩ h
  refine wp_seq ?_
  refine sr ?_
  refine s_mv (v := .int .i64 8) (sx hS_ 3 rfl) ?_
  refine s_lss rfl rfl ?_
  refine dn ?_
  refine cw_false rfl (decide_eq_false (by omega)) ?_
  refine wp_exit (then_exit (then_exit (exit_in ?_)))
  refine then_norm ?_
  refine sr ?_
  refine s_mv (v := .int .i64 s11) (sx hS_ 2 rfl) ?_
  refine s_as (v := .int .i64 s11) rfl ?_
  refine dn ?_
  refine wp_ret ?_
  refine ret1 (fn := Try.f112) rfl ?_ ⟨s11, rfl, h, hC.below⟩ (.inl rfl)
  exact res_tmp rfl
 ·skip
  exact ⟨(sk rfl (sk rfl (sk rfl (sk rfl sn)))), hC⟩
def f_spec_l02Least (a0 : Vc.Form) (K : Int → Prop) : Prop :=
 whileP (fun (s41 : Int × Int) next42 => (if s41.2 < (a0.terms.length : Int) then ((0 ≤ s41.2 ∧ s41.2 < (a0.terms.length : Int)) ∧ f_spec_l02Word ((a0.terms.getD s41.2.toNat default).mono) (fun r58 => (if s41.2 = 0 then next42 (r58, IntKind.i64.wrap (s41.2 + 1)) else (if r58 < s41.1 then next42 (r58, IntKind.i64.wrap (s41.2 + 1)) else next42 (s41.1, IntKind.i64.wrap (s41.2 + 1)))))) else K s41.1)) (0, 0)
theorem c_spec_l02Least (a0 : Vc.Form) {u0_0 : Value} {fp0 : List Nat} {K : Int → Prop} (h : f_spec_l02Least a0 K) (w0 : World) (q0 : TForm.rep a0 [u0_0] fp0 w0) :
  Calls Try.prog 149 #[.agg #[u0_0]] w0 fun e w' => ∃ (r0 : Int), 
   e = .returned (.int .i64 r0) ∧ K r0 ∧ Bel w0 w' := by
 unfold f_spec_l02Least at h
 refine calls_of (args := [.agg #[u0_0]]) Try.func149 rfl 29 Try.ntmps149 (Nat.le_of_ble_eq_true rfl) ?_
 have hC := Ctx.start (X := Nox) w0 [Ty.item TForm a0 [u0_0] fp0] (by simp only [List.mem_cons, List.not_mem_nil, or_false, forall_eq_or_imp, forall_eq]; exact q0)
 have hp2 := (hC.getP 0 rfl)
 replace hC := hC.derive 0 rfl (Ty.item ETerm.ty.sl a0.terms [u0_0] fp0) (fun _ => (form_parts hp2)) (fun _ hb_ => hb_)
 refine sr ?_
 refine s_box (v := .agg #[u0_0]) hC [u0_0] rfl rfl fun b4 w6 hB_ hC => ?_
 refine s_as (v := .int .i64 0) rfl ?_
 refine dn ?_
 refine sr ?_
 refine s_as (v := .int .i64 0) rfl ?_
 refine dn ?_
 refine wp_seq ?_
 refine sr ?_
 refine s_as (v := .int .i64 0) rfl ?_
 refine dn ?_
 refine wp_block ?_
 refine loopW (S := Int × Int) _ (fun s41 e_ w_ => Slots e_ [(1, .pointer (some ⟨b4, 0, none⟩)), (2, .int .i64 0), (3, .int .i64 s41.1), (4, .int .i64 s41.2)] ∧ Ctx Nox w0 w_ [blk b4 95 [u0_0]] [Ty.item ETerm.ty.sl a0.terms [u0_0] fp0, Ty.item TForm a0 [u0_0] fp0]) ?_ (s0 := (0, 0)) ?_ h
 ·clear hC h
  rintro s41 e_ w45 next42 K43 ⟨hS_, hC⟩ h hK44
  refine wp_seq ?_
  refine sr ?_
  refine s_mv (v := .int .i64 s41.2) (sx hS_ 3 rfl) ?_
  refine s_faddrB 0 Try.underlying95 rfl sc93.size (sx hS_ 0 rfl) rfl ?_
  refine s_loadS hC 0 (u0_0) rfl sc93 rfl rfl ?_
  obtain ⟨Ad46, c47, hv48⟩ := sl_len (hC.getP 0 rfl)
  refine s_len Try.underlying93 (tr rfl hv48) ?_
  refine s_lss rfl rfl ?_
  refine dn ?_
  refine cw_cond rfl (fun hb49 => ?_) (fun hb49 => ?_)
  ·replace h := ift h (ct hb49)
   refine wp_skip ?_
   refine then_norm ?_
   refine wp_seq ?_
   refine wp_block ?_
   refine sr ?_
   refine s_faddrB 0 Try.underlying95 rfl sc93.size (sx hS_ 0 rfl) rfl ?_
   refine s_loadS hC 0 (u0_0) rfl sc93 rfl rfl ?_
   refine s_mv (v := .int .i64 s41.2) (sx hS_ 3 rfl) ?_
   obtain ⟨⟨h0_50, h1_51⟩, h⟩ := h
   obtain ⟨Ad52, c53, hv54⟩ := sl_form (hC.getP 0 rfl) s41.2.toNat (show s41.2.toNat < a0.terms.length by omega)
   refine s_iaddrS (len := a0.terms.length) Try.underlying93 ag114.size (tr rfl hv54) rfl h0_50 h1_51 ?_
   refine s_faddrS (s41.2.toNat * 9 + 0) Try.underlying114 rfl ag49.size rfl rfl ?_
   refine s_loadCA (A8.enc .u8 ((a0.terms.getD s41.2.toNat default).mono)) (cells_subS (o := 0) (k := 8) (sl_cellsE (hC.getP 0 rfl) hv54 s41.2.toNat (show s41.2.toNat < a0.terms.length by omega)) rfl) ag49 rfl rfl ?_
   refine s_call [.agg (List.toArray (A8.enc .u8 ((a0.terms.getD s41.2.toNat default).mono)))] _ Try.func112 rfl rfl rfl (c_spec_l02Word ((a0.terms.getD s41.2.toNat default).mono) h _) (fun ret55 w57 hR56 => ?_)
   obtain ⟨r58, rfl, h, hB59⟩ := hR56
   refine ⟨_, rfl, ?_⟩
   replace hC := hC.grow hB59
   refine s_as (v := .int .i64 r58) rfl ?_
   refine dn ?_
   refine sr ?_
   refine s_mv (v := .int .i64 s41.2) (sx hS_ 3 rfl) ?_
   refine s_eql rfl rfl ?_
   refine s_mv (v := .bool (decide (s41.2 = 0))) rfl ?_
   refine bsplit (decide (s41.2 = 0)) (fun hb60 => ?_) (fun hb60 => ?_)
   ·replace h := ift h (ct hb60)
    refine guardOff (b := true) 2 22 rfl (tr rfl (congrArg _ hb60)) (by decide) ?_
    refine guardOff (b := true) 2 22 rfl (tr rfl (congrArg _ hb60)) (by decide) ?_
    refine guardOff (b := true) 2 22 rfl (tr rfl (congrArg _ hb60)) (by decide) ?_
    refine s_pick (v := .bool true) (b := true) (tr rfl (congrArg _ hb60)) rfl ?_
    refine dn ?_
    refine cw_true rfl rfl ?_
    refine cw_region ?_
    refine s_mv (v := .int .i64 r58) rfl ?_
    refine s_as (v := .int .i64 r58) rfl ?_
    refine done ?_
    refine blk_norm ?_
    refine then_norm ?_
    refine cw_region ?_
    refine s_mv (v := .int .i64 s41.2) (sx hS_ 3 rfl) ?_
    refine s_add rfl rfl ?_
    refine s_as (v := .int .i64 (IntKind.i64.wrap (s41.2 + 1))) rfl ?_
    refine done ?_
    exact hK44 (r58, IntKind.i64.wrap (s41.2 + 1)) _ _ ⟨(sk (sx hS_ 0 rfl) (sk (sx hS_ 1 rfl) (sk rfl (sk rfl sn)))), hC⟩ h
   ·replace h := iff_ h (cf hb60)
    refine guardOn 2 22 rfl rfl hb60 ?_
    refine s_mv (v := .int .i64 r58) rfl ?_
    refine guardOn 2 22 rfl rfl hb60 ?_
    refine s_mv (v := .int .i64 s41.1) (sx hS_ 2 rfl) ?_
    refine guardOn 2 22 rfl rfl hb60 ?_
    refine s_lss rfl rfl ?_
    refine s_pick (v := .bool (decide (r58 < s41.1))) (b := false) (tr rfl (congrArg _ hb60)) rfl ?_
    refine dn ?_
    refine cw_cond rfl (fun hb61 => ?_) (fun hb61 => ?_)
    ·replace h := ift h (ct hb61)
     refine cw_region ?_
     refine s_mv (v := .int .i64 r58) rfl ?_
     refine s_as (v := .int .i64 r58) rfl ?_
     refine done ?_
     refine blk_norm ?_
     refine then_norm ?_
     refine cw_region ?_
     refine s_mv (v := .int .i64 s41.2) (sx hS_ 3 rfl) ?_
     refine s_add rfl rfl ?_
     refine s_as (v := .int .i64 (IntKind.i64.wrap (s41.2 + 1))) rfl ?_
     refine done ?_
     exact hK44 (r58, IntKind.i64.wrap (s41.2 + 1)) _ _ ⟨(sk (sx hS_ 0 rfl) (sk (sx hS_ 1 rfl) (sk rfl (sk rfl sn)))), hC⟩ h
    ·replace h := iff_ h (cf hb61)
     refine wp_skip ?_
     refine blk_norm ?_
     refine then_norm ?_
     refine cw_region ?_
     refine s_mv (v := .int .i64 s41.2) (sx hS_ 3 rfl) ?_
     refine s_add rfl rfl ?_
     refine s_as (v := .int .i64 (IntKind.i64.wrap (s41.2 + 1))) rfl ?_
     refine done ?_
     exact hK44 (s41.1, IntKind.i64.wrap (s41.2 + 1)) _ _ ⟨(sk (sx hS_ 0 rfl) (sk (sx hS_ 1 rfl) (sk (sx hS_ 2 rfl) (sk rfl sn)))), hC⟩ h
  ·replace h := iff_ h (cf hb49)
   refine wp_exit (then_exit (then_exit (exit_in ?_)))
   refine then_norm ?_
   refine sr ?_
   refine s_mv (v := .int .i64 s41.1) (sx hS_ 2 rfl) ?_
   refine s_as (v := .int .i64 s41.1) rfl ?_
   refine dn ?_
   refine wp_ret ?_
   refine ret1 (fn := Try.f149) rfl ?_ ⟨s41.1, rfl, h, hC.below⟩ (.inl rfl)
   exact res_tmp rfl
 ·skip
  exact ⟨(sk rfl (sk rfl (sk rfl (sk rfl sn)))), hC⟩
def f_spec_l02Minimal (a0 : Alg) (K : Bool → Prop) : Prop :=
 whileP (fun (s52 : Int) next53 => (if s52 < (a0.images.length : Int) then ((0 ≤ s52 ∧ s52 < (a0.images.length : Int)) ∧ f_spec_l02Least (a0.images.getD s52.toNat default) (fun r75 => (if r75 = 1 then K false else next53 (IntKind.i64.wrap (s52 + 1))))) else K true)) 0
theorem c_spec_l02Minimal (a0 : Alg) {u0_0 : Value} {u0_1 : Value} {fp0 : List Nat} {K : Bool → Prop} (h : f_spec_l02Minimal a0 K) (w0 : World) (q0 : TAlg.rep a0 [u0_0, u0_1] fp0 w0) :
  Calls Try.prog 118 #[.agg #[u0_0, u0_1]] w0 fun e w' => ∃ (r0 : Bool), 
   e = .returned (.bool r0) ∧ K r0 ∧ Bel w0 w' := by
 unfold f_spec_l02Minimal at h
 refine calls_of (args := [.agg #[u0_0, u0_1]]) Try.func118 rfl 18 Try.ntmps118 (Nat.le_of_ble_eq_true rfl) ?_
 have hC := Ctx.start (X := Nox) w0 [Ty.item TAlg a0 [u0_0, u0_1] fp0] (by simp only [List.mem_cons, List.not_mem_nil, or_false, forall_eq_or_imp, forall_eq]; exact q0)
 have hp2 := (hC.getP 0 rfl)
 replace hC := hC.derive 0 rfl (Ty.item ((EI .i64).ty.sl) a0.degrees [u0_0] fp0) (fun _ => (alg_parts hp2).1) (fun _ hb_ => hb_)
 replace hC := hC.derive 1 rfl (Ty.item TForm.sl a0.images [u0_1] fp0) (fun _ => (alg_parts hp2).2) (fun _ hb_ => hb_)
 refine sr ?_
 refine s_box (v := .agg #[u0_0, u0_1]) hC [u0_0, u0_1] rfl rfl fun b5 w7 hB_ hC => ?_
 refine s_as (v := .bool false) rfl ?_
 refine dn ?_
 refine wp_seq ?_
 refine sr ?_
 refine s_as (v := .int .i64 0) rfl ?_
 refine dn ?_
 refine wp_block ?_
 refine loopW (S := Int) _ (fun s52 e_ w_ => Slots e_ [(1, .pointer (some ⟨b5, 0, none⟩)), (2, .bool false), (3, .int .i64 s52)] ∧ Ctx Nox w0 w_ [blk b5 32 [u0_0, u0_1]] [Ty.item TForm.sl a0.images [u0_1] fp0, Ty.item ((EI .i64).ty.sl) a0.degrees [u0_0] fp0, Ty.item TAlg a0 [u0_0, u0_1] fp0]) ?_ (s0 := 0) ?_ h
 ·clear hC h
  rintro s52 e_ w56 next53 K54 ⟨hS_, hC⟩ h hK55
  refine wp_seq ?_
  refine sr ?_
  refine s_mv (v := .int .i64 s52) (sx hS_ 2 rfl) ?_
  refine s_faddrB 1 Try.underlying32 rfl sc30.size (sx hS_ 0 rfl) rfl ?_
  refine s_loadS hC 0 (u0_1) rfl sc30 rfl rfl ?_
  obtain ⟨Ad57, c58, hv59⟩ := sl_len (hC.getP 0 rfl)
  refine s_len Try.underlying30 (tr rfl hv59) ?_
  refine s_lss rfl rfl ?_
  refine dn ?_
  refine cw_cond rfl (fun hb60 => ?_) (fun hb60 => ?_)
  ·replace h := ift h (ct hb60)
   refine wp_skip ?_
   refine then_norm ?_
   refine wp_seq ?_
   refine wp_block ?_
   refine sr ?_
   refine s_faddrB 1 Try.underlying32 rfl sc30.size (sx hS_ 0 rfl) rfl ?_
   refine s_loadS hC 0 (u0_1) rfl sc30 rfl rfl ?_
   refine s_mv (v := .int .i64 s52) (sx hS_ 2 rfl) ?_
   obtain ⟨⟨h0_61, h1_62⟩, h⟩ := h
   obtain ⟨Ad63, c64, hv65⟩ := sl_form (hC.getP 0 rfl) s52.toNat (show s52.toNat < a0.images.length by omega)
   refine s_iaddrS (len := a0.images.length) Try.underlying30 ag95.size (tr rfl hv65) rfl h0_61 h1_62 ?_
   obtain ⟨cs_, hl67, hc68, hr69⟩ := sl_cells (hC.getP 0 rfl) hv65 s52.toNat (show s52.toNat < a0.images.length by omega)
   obtain ⟨u66, rfl⟩ := List.length_eq_one_iff.1 hl67
   clear hl67
   rw [getD_eq _ _ (show s52.toNat < a0.images.length by omega)] at hr69
   have hp70 := hr69
   replace hC := hC.derive 0 rfl (Ty.item ETerm.ty.sl ((a0.images.getD s52.toNat default).terms) [u66] fp0) (fun _ => (form_parts hp70)) (fun _ hb_ => hb_)
   refine s_loadCA [u66] hc68 ag95 rfl rfl ?_
   refine s_call [.agg #[u66]] _ Try.func149 rfl rfl rfl (c_spec_l02Least (a0.images.getD s52.toNat default) h _ (form_mk (hC.getP 0 rfl))) (fun ret72 w74 hR73 => ?_)
   obtain ⟨r75, rfl, h, hB76⟩ := hR73
   refine ⟨_, rfl, ?_⟩
   replace hC := hC.grow hB76
   refine s_eql rfl rfl ?_
   refine dn ?_
   refine cw_cond rfl (fun hb77 => ?_) (fun hb77 => ?_)
   ·replace h := ift h (ct hb77)
    refine sr ?_
    refine s_as (v := .bool false) rfl ?_
    refine dn ?_
    refine wp_ret (blk_ret (then_ret (then_ret (blk_ret (then_ret ?_)))))
    refine ret1 (fn := Try.f118) rfl ?_ ⟨false, rfl, h, hC.below⟩ (.inl rfl)
    exact res_tmp rfl
   ·replace h := iff_ h (cf hb77)
    refine wp_skip ?_
    refine blk_norm ?_
    refine then_norm ?_
    refine cw_region ?_
    refine s_mv (v := .int .i64 s52) (sx hS_ 2 rfl) ?_
    refine s_add rfl rfl ?_
    refine s_as (v := .int .i64 (IntKind.i64.wrap (s52 + 1))) rfl ?_
    refine done ?_
    replace hC := hC.sP [1, 2, 3] (Ps' := [Ty.item TForm.sl a0.images [u0_1] fp0, Ty.item ((EI .i64).ty.sl) a0.degrees [u0_0] fp0, Ty.item TAlg a0 [u0_0, u0_1] fp0]) rfl
    exact hK55 (IntKind.i64.wrap (s52 + 1)) _ _ ⟨(sk (sx hS_ 0 rfl) (sk (sx hS_ 1 rfl) (sk rfl sn))), hC⟩ h
  ·replace h := iff_ h (cf hb60)
   refine wp_exit (then_exit (then_exit (exit_in ?_)))
   refine then_norm ?_
   refine sr ?_
   refine s_as (v := .bool true) rfl ?_
   refine dn ?_
   refine wp_ret ?_
   refine ret1 (fn := Try.f118) rfl ?_ ⟨true, rfl, h, hC.below⟩ (.inl rfl)
   exact res_tmp rfl
 ·skip
  exact ⟨(sk rfl (sk rfl (sk rfl sn))), hC⟩
def f_spec_l10Minimal (a0 : Alg) (K : Int → Prop) : Prop :=
 f_spec_l02Is a0 (fun r11 => (if ¬ (r11 = true) then K 1 else f_spec_l02Minimal a0 (fun r17 => (if ¬ (r17 = true) then K 5 else K 0))))
theorem c_spec_l10Minimal (a0 : Alg) {u0_0 : Value} {u0_1 : Value} {fp0 : List Nat} {K : Int → Prop} (h : f_spec_l10Minimal a0 K) (w0 : World) (q0 : TAlg.rep a0 [u0_0, u0_1] fp0 w0) :
  Calls Try.prog 59 #[.agg #[u0_0, u0_1]] w0 fun e w' => ∃ (r0 : Int), 
   e = .returned (.int .i64 r0) ∧ K r0 ∧ Bel w0 w' := by
 unfold f_spec_l10Minimal at h
 refine calls_of (args := [.agg #[u0_0, u0_1]]) Try.func59 rfl 11 Try.ntmps59 (Nat.le_of_ble_eq_true rfl) ?_
 have hC := Ctx.start (X := Nox) w0 [Ty.item TAlg a0 [u0_0, u0_1] fp0] (by simp only [List.mem_cons, List.not_mem_nil, or_false, forall_eq_or_imp, forall_eq]; exact q0)
 have hp2 := (hC.getP 0 rfl)
 replace hC := hC.derive 0 rfl (Ty.item ((EI .i64).ty.sl) a0.degrees [u0_0] fp0) (fun _ => (alg_parts hp2).1) (fun _ hb_ => hb_)
 replace hC := hC.derive 1 rfl (Ty.item TForm.sl a0.images [u0_1] fp0) (fun _ => (alg_parts hp2).2) (fun _ hb_ => hb_)
 refine sr ?_
 refine s_box (v := .agg #[u0_0, u0_1]) hC [u0_0, u0_1] rfl rfl fun b5 w7 hB_ hC => ?_
 refine s_as (v := .int .i64 0) rfl ?_
 refine dn ?_
 refine wp_seq ?_
 refine wp_block ?_
 refine sr ?_
 refine s_loadA hC 0 [u0_0, u0_1] rfl ag32 rfl rfl rfl ?_
 refine s_call [.agg #[u0_0, u0_1]] _ Try.func97 rfl rfl rfl (c_spec_l02Is a0 h _ (alg_mk (hC.getP 1 rfl) (hC.getP 0 rfl))) (fun ret8 w10 hR9 => ?_)
 obtain ⟨r11, rfl, h, hB12⟩ := hR9
 refine ⟨_, rfl, ?_⟩
 replace hC := hC.grow hB12
 refine s_not rfl ?_
 refine s_as (v := .bool (!r11)) rfl ?_
 refine dn ?_
 refine cw_cond rfl (fun hb13 => ?_) (fun hb13 => ?_)
 ·replace h := ift h (ne_t (not_t hb13))
  refine sr ?_
  refine s_as (v := .int .i64 1) rfl ?_
  refine dn ?_
  refine wp_ret (blk_ret (then_ret ?_))
  refine ret1 (fn := Try.f59) rfl ?_ ⟨1, rfl, h, hC.below⟩ (.inl rfl)
  exact res_tmp rfl
 ·replace h := iff_ h (not_not_intro ((not_f hb13)))
  refine sr ?_
  refine s_loadA hC 0 [u0_0, u0_1] rfl ag32 rfl rfl rfl ?_
  refine s_call [.agg #[u0_0, u0_1]] _ Try.func118 rfl rfl rfl (c_spec_l02Minimal a0 h _ (alg_mk (hC.getP 1 rfl) (hC.getP 0 rfl))) (fun ret14 w16 hR15 => ?_)
  obtain ⟨r17, rfl, h, hB18⟩ := hR15
  refine ⟨_, rfl, ?_⟩
  replace hC := hC.grow hB18
  refine s_not rfl ?_
  refine s_as (v := .bool (!r17)) rfl ?_
  refine dn ?_
  refine cw_cond rfl (fun hb19 => ?_) (fun hb19 => ?_)
  ·replace h := ift h (ne_t (not_t hb19))
   refine sr ?_
   refine s_as (v := .int .i64 5) rfl ?_
   refine dn ?_
   refine wp_ret (blk_ret (then_ret ?_))
   refine ret1 (fn := Try.f59) rfl ?_ ⟨5, rfl, h, hC.below⟩ (.inl rfl)
   exact res_tmp rfl
  ·replace h := iff_ h (not_not_intro ((not_f hb19)))
   refine wp_skip ?_
   refine blk_norm ?_
   refine then_norm ?_
   refine sr ?_
   refine s_as (v := .int .i64 0) rfl ?_
   refine dn ?_
   refine wp_ret ?_
   refine ret1 (fn := Try.f59) rfl ?_ ⟨0, rfl, h, hC.below⟩ (.inl rfl)
   exact res_tmp rfl
def f_spec_l01Fill (fu_ : Nat) (a0 : List Int) (a1 : A8) (a2 : Int) (a3 : Int) (a4 : List A8) (K : List A8 → Prop) : Prop :=
 match fu_ with
 | 0 => False
 | fu_ + 1 => (if a2 = (a0.length : Int) then (if a3 = 0 then (Room (a4.length + 1) 8 ∧ K (a4 ++ [a1])) else K a4) else ((0 ≤ a2 ∧ a2 < (a0.length : Int)) ∧ ((a0.getD a2.toNat default) ≠ 0 ∧ ((0 ≤ a2 ∧ a2 < (a0.length : Int)) ∧ (if Int.tmod (a0.getD a2.toNat default) 2 ≠ 0 then whileP (fun (s80 : A8 × (List A8) × Int) next82 => (if s80.2.2 ≥ 0 then (if (s80.2.1.length : Int) ≤ 400 then ((0 ≤ a2 ∧ a2 < 8) ∧ ((0 ≤ a2 ∧ a2 < (a0.length : Int)) ∧ f_spec_l01Fill fu_ a0 (s80.1.set a2.toNat (IntKind.u8.wrap s80.2.2)) (IntKind.i64.wrap (a2 + 1)) (IntKind.i64.wrap (a3 - (IntKind.i64.wrap (s80.2.2 * (a0.getD a2.toNat default))))) s80.2.1 (fun r105 => next82 (s80.1.set a2.toNat (IntKind.u8.wrap s80.2.2), r105, IntKind.i64.wrap (s80.2.2 - 1))))) else K s80.2.1) else K s80.2.1)) (a1, a4, (if 20 < (if 1 < IntKind.i64.wrap (Int.tdiv a3 (a0.getD a2.toNat default)) then 1 else IntKind.i64.wrap (Int.tdiv a3 (a0.getD a2.toNat default))) then 20 else (if 1 < IntKind.i64.wrap (Int.tdiv a3 (a0.getD a2.toNat default)) then 1 else IntKind.i64.wrap (Int.tdiv a3 (a0.getD a2.toNat default))))) else whileP (fun (s161 : A8 × (List A8) × Int) next163 => (if s161.2.2 ≥ 0 then (if (s161.2.1.length : Int) ≤ 400 then ((0 ≤ a2 ∧ a2 < 8) ∧ ((0 ≤ a2 ∧ a2 < (a0.length : Int)) ∧ f_spec_l01Fill fu_ a0 (s161.1.set a2.toNat (IntKind.u8.wrap s161.2.2)) (IntKind.i64.wrap (a2 + 1)) (IntKind.i64.wrap (a3 - (IntKind.i64.wrap (s161.2.2 * (a0.getD a2.toNat default))))) s161.2.1 (fun r186 => next163 (s161.1.set a2.toNat (IntKind.u8.wrap s161.2.2), r186, IntKind.i64.wrap (s161.2.2 - 1))))) else K s161.2.1) else K s161.2.1)) (a1, a4, (if 20 < IntKind.i64.wrap (Int.tdiv a3 (a0.getD a2.toNat default)) then 20 else IntKind.i64.wrap (Int.tdiv a3 (a0.getD a2.toNat default)))))))))
theorem c_spec_l01Fill (fu_ : Nat) : ∀ (a0 : List Int) (a1 : A8) (a2 : Int) (a3 : Int) (a4 : List A8) {u4_0 : Value} {u0_0 : Value} {fp0 : List Nat} {K : List A8 → Prop} (h : f_spec_l01Fill fu_ a0 a1 a2 a3 a4 K) (w0 : World) (q0 : ((EI .i64).ty.sl).rep a0 [u0_0] fp0 w0) (qo4 : (own 49 8 u4_0 a4.length ((EA .u8).encs a4)).holds w0) (do0 : ∀ b, b ∈ fp0 → b ∉ Option.toList (Value.ownBlock u4_0)),
  Calls Try.prog 128 #[u0_0, .agg (List.toArray (A8.enc .u8 a1)), .int .i64 a2, .int .i64 a3, u4_0] w0 fun e w' => ∃ (r0 : List A8) (z0_0 : Value), 
   e = .returned (z0_0) ∧ K r0 ∧ (own 49 8 z0_0 r0.length ((EA .u8).encs r0)).holds w' ∧ (∀ b, b ∈ Option.toList (Value.ownBlock z0_0) → b ∈ Option.toList (Value.ownBlock u4_0) ∨ w0.heap.size ≤ b) ∧ BelO (Option.toList (Value.ownBlock u4_0)) w0 w' := by
 induction fu_ with
 | zero =>
  intro a0 a1 a2 a3 a4 u4_0 u0_0 fp0 K h w0 q0 qo4 do0
  exact False.elim h
 | succ fu_ ih_ =>
  intro a0 a1 a2 a3 a4 u4_0 u0_0 fp0 K h w0 q0 qo4 do0
  rw [f_spec_l01Fill.eq_2] at h
  refine calls_of (args := [u0_0, .agg (List.toArray (A8.enc .u8 a1)), .int .i64 a2, .int .i64 a3, u4_0]) Try.func128 rfl 68 Try.ntmps128 (Nat.le_of_ble_eq_true rfl) ?_
  have hC := Ctx.startL w0 (Option.toList (Value.ownBlock u4_0)) [own 49 8 u4_0 a4.length ((EA .u8).encs a4)] [Ty.item ((EI .i64).ty.sl) a0 [u0_0] fp0] (by simp only [List.mem_cons, List.not_mem_nil, or_false, forall_eq_or_imp, forall_eq]; exact qo4) (by simp only [List.mem_cons, List.not_mem_nil, or_false, forall_eq_or_imp, forall_eq]; exact q0) (by simp only [List.mem_cons, List.not_mem_nil, or_false, forall_eq_or_imp, forall_eq]; exact (fun b_ hb_ => hb_)) (List.pairwise_singleton _ _) (by simp only [List.mem_cons, List.not_mem_nil, or_false, forall_eq_or_imp, forall_eq]; exact do0)
  refine sr ?_
  refine s_box (v := .agg (List.toArray (A8.enc .u8 a1))) hC (A8.enc .u8 a1) rfl rfl fun b3 w5 hB_ hC => ?_
  refine s_as (v := .slice none 0 0) rfl ?_
  refine dn ?_
  refine wp_seq ?_
  refine sr ?_
  refine s_mv (v := .int .i64 a2) rfl ?_
  refine s_mv (v := u0_0) rfl ?_
  obtain ⟨Ad6, c7, hv8⟩ := sl_len (hC.getP 0 rfl)
  refine s_len Try.underlying22 (tr rfl hv8) ?_
  refine s_eql rfl rfl ?_
  refine dn ?_
  refine cw_cond rfl (fun hb9 => ?_) (fun hb9 => ?_)
  ·replace h := ift h (ct hb9)
   refine wp_seq ?_
   refine sr ?_
   refine s_mv (v := .int .i64 a3) rfl ?_
   refine s_eql rfl rfl ?_
   refine dn ?_
   refine cw_cond rfl (fun hb10 => ?_) (fun hb10 => ?_)
   ·replace h := ift h (ct hb10)
    refine sr ?_
    refine s_mv (v := u4_0) rfl ?_
    refine s_loadA hC 0 (A8.enc .u8 a1) rfl ag49 rfl rfl rfl ?_
    refine s_bslice (sz := 8) hC [(0, .agg (List.toArray (A8.enc .u8 a1)))] ((EA .u8).encs [a1]) rfl (fun _ => bs59_1 a1 _) rfl (by decide) fun b11 w12 hB_ hC => ?_
    obtain ⟨hm16, h⟩ := h
    refine s_app hC 2 Try.underlying59 el49 rfl (by decide) (by decide) rfl (own_rdr (hC.getM 0 rfl)) (fun q hq => Enc.encs_one' (E := (EA .u8)) _ q hq) rfl rfl hm16 fun v14 w15 hC => ?_
    replace hC := own_re hC 2 ((a4 ++ [a1]).length) ((EA .u8).encs (a4 ++ [a1])) rfl (by simp) (by first | (simp [Enc.encs_append]; done) | simp [Enc.encs_append, Enc.encs])
    refine s_as (v := v14) rfl ?_
    refine dn ?_
    refine wp_ret (then_ret (then_ret ?_))
    refine ret1 (fn := Try.f128) rfl ?_ ⟨a4 ++ [a1], v14, rfl, h, (hC.getM 2 rfl), (fun b_ hb_ => (hC.mfp _ (List.mem_of_getElem? (i := 2) rfl) b_ hb_).symm), hC.belO⟩ (.inl rfl)
    exact res_tmp rfl
   ·replace h := iff_ h (cf hb10)
    refine wp_skip ?_
    refine then_norm ?_
    refine sr ?_
    refine s_mv (v := u4_0) rfl ?_
    refine s_as (v := u4_0) rfl ?_
    refine dn ?_
    refine wp_ret (then_ret ?_)
    refine ret1 (fn := Try.f128) rfl ?_ ⟨a4, u4_0, rfl, h, (hC.getM 1 rfl), (fun b_ hb_ => (hC.mfp _ (List.mem_of_getElem? (i := 1) rfl) b_ hb_).symm), hC.belO⟩ (.inl rfl)
    exact res_tmp rfl
  ·replace h := iff_ h (cf hb9)
   refine wp_skip ?_
   refine then_norm ?_
   refine sr ?_
   refine s_mv (v := .int .i64 a3) rfl ?_
   refine s_mv (v := u0_0) rfl ?_
   refine s_mv (v := .int .i64 a2) rfl ?_
   obtain ⟨⟨h0_17, h1_18⟩, h⟩ := h
   obtain ⟨Ad19, c20, hv21⟩ := sl_form (hC.getP 0 rfl) a2.toNat (show a2.toNat < a0.length by omega)
   refine s_iaddrS (len := a0.length) Try.underlying22 sc2.size (tr rfl hv21) rfl h0_17 h1_18 ?_
   refine s_loadCS (.int .i64 (a0.getD a2.toNat default)) (sl_cellsE (hC.getP 0 rfl) hv21 a2.toNat (show a2.toNat < a0.length by omega)) sc2 rfl ?_
   obtain ⟨h0_22, h⟩ := h
   refine s_quo rfl rfl h0_22 ?_
   refine s_as (v := .int .i64 (IntKind.i64.wrap (Int.tdiv a3 (a0.getD a2.toNat default)))) rfl ?_
   refine dn ?_
   refine wp_seq ?_
   refine sr ?_
   refine s_mv (v := u0_0) rfl ?_
   refine s_mv (v := .int .i64 a2) rfl ?_
   obtain ⟨⟨h0_23, h1_24⟩, h⟩ := h
   obtain ⟨Ad25, c26, hv27⟩ := sl_form (hC.getP 0 rfl) a2.toNat (show a2.toNat < a0.length by omega)
   refine s_iaddrS (len := a0.length) Try.underlying22 sc2.size (tr rfl hv27) rfl h0_23 h1_24 ?_
   refine s_loadCS (.int .i64 (a0.getD a2.toNat default)) (sl_cellsE (hC.getP 0 rfl) hv27 a2.toNat (show a2.toNat < a0.length by omega)) sc2 rfl ?_
   refine s_rem rfl rfl (by decide) ?_
   refine s_neq rfl rfl ?_
   refine dn ?_
   refine cw_cond rfl (fun hb28 => ?_) (fun hb28 => ?_)
   ·replace h := ift h (ct hb28)
    refine cw_region ?_
    refine s_mv (v := .int .i64 (IntKind.i64.wrap (Int.tdiv a3 (a0.getD a2.toNat default)))) rfl ?_
    refine s_min rfl rfl ?_
    refine s_as (v := .int .i64 (if 1 < IntKind.i64.wrap (Int.tdiv a3 (a0.getD a2.toNat default)) then 1 else IntKind.i64.wrap (Int.tdiv a3 (a0.getD a2.toNat default)))) rfl ?_
    refine dn ?_
    refine wp_seq ?_
    refine sr ?_
    refine s_mv (v := .int .i64 (if 1 < IntKind.i64.wrap (Int.tdiv a3 (a0.getD a2.toNat default)) then 1 else IntKind.i64.wrap (Int.tdiv a3 (a0.getD a2.toNat default)))) rfl ?_
    refine s_min rfl rfl ?_
    refine s_as (v := .int .i64 (if 20 < (if 1 < IntKind.i64.wrap (Int.tdiv a3 (a0.getD a2.toNat default)) then 1 else IntKind.i64.wrap (Int.tdiv a3 (a0.getD a2.toNat default))) then 20 else (if 1 < IntKind.i64.wrap (Int.tdiv a3 (a0.getD a2.toNat default)) then 1 else IntKind.i64.wrap (Int.tdiv a3 (a0.getD a2.toNat default))))) rfl ?_
    refine dn ?_
    refine wp_block ?_
    refine loopW (S := A8 × (List A8) × Int) _ (fun s80 e_ w_ => ∃ (v81 : Value), Slots e_ [(0, u0_0), (2, .int .i64 a2), (3, .int .i64 a3), (4, v81), (6, .pointer (some ⟨b3, 0, none⟩)), (10, .slice none 0 0), (12, .int .i64 s80.2.2)] ∧ Ctx (fun c_ => c_ ∈ Option.toList (Value.ownBlock u4_0)) w0 w_ [blk b3 49 (A8.enc .u8 s80.1), own 49 8 v81 s80.2.1.length ((EA .u8).encs s80.2.1)] [Ty.item ((EI .i64).ty.sl) a0 [u0_0] fp0]) ?_ (s0 := (a1, a4, (if 20 < (if 1 < IntKind.i64.wrap (Int.tdiv a3 (a0.getD a2.toNat default)) then 1 else IntKind.i64.wrap (Int.tdiv a3 (a0.getD a2.toNat default))) then 20 else (if 1 < IntKind.i64.wrap (Int.tdiv a3 (a0.getD a2.toNat default)) then 1 else IntKind.i64.wrap (Int.tdiv a3 (a0.getD a2.toNat default)))))) ?_ h
    ·clear hC h
     rintro s80 e_ w85 next82 K83 ⟨v81, hS_, hC⟩ h hK84
     refine wp_seq ?_
     refine sr ?_
     refine s_mv (v := .int .i64 s80.2.2) (sx hS_ 6 rfl) ?_
     refine s_geq rfl rfl ?_
     refine s_mv (v := .bool (decide (s80.2.2 ≥ 0))) rfl ?_
     refine bsplit (decide (s80.2.2 ≥ 0)) (fun hb86 => ?_) (fun hb86 => ?_)
     ·replace h := ift h (ct hb86)
      refine guardOn 2 42 rfl rfl hb86 ?_
      refine s_mv (v := v81) (sx hS_ 3 rfl) ?_
      refine guardOn 2 42 rfl rfl hb86 ?_
      obtain ⟨Ad87, c88, hv89⟩ := own_form (hC.getM 1 rfl)
      refine s_len Try.underlying59 (tr rfl hv89) ?_
      refine guardOn 2 42 rfl rfl hb86 ?_
      refine s_leq rfl rfl ?_
      refine s_pick (v := .bool (decide ((s80.2.1.length : Int) ≤ 400))) (b := true) (tr rfl (congrArg _ hb86)) rfl ?_
      refine dn ?_
      refine cw_cond rfl (fun hb90 => ?_) (fun hb90 => ?_)
      ·replace h := ift h (ct hb90)
       refine wp_skip ?_
       refine then_norm ?_
       refine wp_seq ?_
       refine wp_block ?_
       refine sr ?_
       refine s_mv (v := .int .i64 a2) (sx hS_ 1 rfl) ?_
       refine s_mv (v := .int .i64 s80.2.2) (sx hS_ 6 rfl) ?_
       refine s_conv Try.underlying2 Try.underlying5 rfl ?_
       obtain ⟨⟨h0_91, h1_92⟩, h⟩ := h
       refine s_iaddrB a2.toNat Try.underlying49 sc5.size (sx hS_ 4 rfl) rfl h0_91 h1_92 (by omega) ?_
       refine s_store (v := .int .u8 (IntKind.u8.wrap s80.2.2)) hC 0 [.int .u8 (IntKind.u8.wrap s80.2.2)] (A8.enc .u8 (s80.1.set a2.toNat (IntKind.u8.wrap s80.2.2))) rfl sc5.size rfl rfl rfl rfl rfl (show a2.toNat < 8 by omega) (A8.enc_set _ _ _ (show a2.toNat < 8 by omega)) fun w93 hC => ?_
       refine dn ?_
       refine cw_draw 13 mixed [0, 0, 0, 4, 0, 0, 0, 0, 192, 448, 992, 2032, 0, 8191, 16383] [1, 8, 9] [0, 2, 3, 4, 5, 6, 7, 10, 11, 12] (by kernel_rfl) (by kernel_rfl) (by kernel_rfl) (fun hM95 hM96 w94 hB_ => ?_)
       replace hC := hC.grow hB_
       refine aF 0 (u0_0) rfl rfl (hM96 0 rfl) (rfl) (fun _ => by exact r_mv (v := u0_0) (sx hS_ 0 rfl)) (dbits 15 1) ?_
       refine aL 1 (.agg (List.toArray (A8.enc .u8 (s80.1.set a2.toNat (IntKind.u8.wrap s80.2.2))))) rfl rfl (hM95 1 rfl) (rfl) (fun _ hB_ => by exact r_loadA (hC.grow hB_) 0 (A8.enc .u8 (s80.1.set a2.toNat (IntKind.u8.wrap s80.2.2))) rfl ag49 (sx hS_ 4 rfl) rfl rfl) (dbits 15 3) ?_
       refine aF 2 (.int .i64 a2) rfl rfl (hM96 2 rfl) (rfl) (fun _ => by exact r_mv (v := .int .i64 a2) (sx hS_ 1 rfl)) (dbits 15 7) ?_
       refine aF 3 (.int .i64 (IntKind.i64.wrap (a2 + 1))) rfl rfl (hM96 3 rfl) (rfl) (fun _ => by exact r_add rfl rfl) (dbits 15 15) ?_
       refine aF 4 (.int .i64 a3) rfl rfl (hM96 4 rfl) (rfl) (fun _ => by exact r_mv (v := .int .i64 a3) (sx hS_ 2 rfl)) (dbits 15 31) ?_
       refine aF 5 (.int .i64 s80.2.2) rfl rfl (hM96 5 rfl) (rfl) (fun _ => by exact r_mv (v := .int .i64 s80.2.2) (sx hS_ 6 rfl)) (dbits 15 63) ?_
       refine aF 6 (u0_0) rfl rfl (hM96 6 rfl) (rfl) (fun _ => by exact r_mv (v := u0_0) (sx hS_ 0 rfl)) (dbits 15 127) ?_
       refine aF 7 (.int .i64 a2) rfl rfl (hM96 7 rfl) (rfl) (fun _ => by exact r_mv (v := .int .i64 a2) (sx hS_ 1 rfl)) (dbits 15 255) ?_
       obtain ⟨⟨h0_97, h1_98⟩, h⟩ := h
       obtain ⟨Ad99, c100, hv101⟩ := sl_form (hC.getP 0 rfl) a2.toNat (show a2.toNat < a0.length by omega)
       refine aL 8 (.pointer (some (Ad99.add (a2.toNat * 1)))) rfl rfl (hM95 8 rfl) (rfl) (fun _ hB_ => by exact r_iaddrS (len := a0.length) Try.underlying22 sc2.size (by exact tr rfl hv101) rfl h0_97 h1_98) (dbits 15 511) ?_
       refine aL 9 (.int .i64 (a0.getD a2.toNat default)) rfl rfl (hM95 9 rfl) (rfl) (fun _ hB_ => by exact r_loadCS (.int .i64 (a0.getD a2.toNat default)) (sl_cellsE ((hC.grow hB_).getP 0 rfl) hv101 a2.toNat (show a2.toNat < a0.length by omega)) sc2 rfl) (dbits 15 1023) ?_
       refine aF 10 (.int .i64 (IntKind.i64.wrap (s80.2.2 * (a0.getD a2.toNat default)))) rfl rfl (hM96 10 rfl) (rfl) (fun _ => by exact r_mul rfl rfl) (dbits 15 2047) ?_
       refine aF 11 (.int .i64 (IntKind.i64.wrap (a3 - (IntKind.i64.wrap (s80.2.2 * (a0.getD a2.toNat default)))))) rfl rfl (hM96 11 rfl) (rfl) (fun _ => by exact r_sub rfl rfl) (dbits 15 4095) ?_
       refine aF 12 (v81) rfl rfl (hM96 12 rfl) (rfl) (fun _ => by exact r_mv (v := v81) (sx hS_ 3 rfl)) (dbits 15 8191) ?_
       refine ae_tail 13 (by decide) (by decide) (by kernel_rfl) (by kernel_rfl) rfl ?_
       refine s_call [u0_0, .agg (List.toArray (A8.enc .u8 (s80.1.set a2.toNat (IntKind.u8.wrap s80.2.2)))), .int .i64 (IntKind.i64.wrap (a2 + 1)), .int .i64 (IntKind.i64.wrap (a3 - (IntKind.i64.wrap (s80.2.2 * (a0.getD a2.toNat default))))), v81] _ Try.func128 rfl rfl rfl (ih_ a0 (s80.1.set a2.toNat (IntKind.u8.wrap s80.2.2)) (IntKind.i64.wrap (a2 + 1)) (IntKind.i64.wrap (a3 - (IntKind.i64.wrap (s80.2.2 * (a0.getD a2.toNat default))))) s80.2.1 h _ (hC.getP 0 rfl) (hC.getM 1 rfl) (fun b_ hb_ hb2_ => hC.pd _ (List.mem_of_getElem? (i := 0) rfl) b_ hb_ _ (List.mem_of_getElem? (i := 1) rfl) hb2_)) (fun ret102 w104 hR103 => ?_)
       obtain ⟨r105, v106, rfl, h, hr107, hf108, hB109⟩ := hR103
       refine ⟨_, rfl, ?_⟩
       replace hC := hC.turnO 1 rfl hB109 hr107 hf108
       refine s_as (v := v106) rfl ?_
       refine done ?_
       refine qn_norm ?_
       refine blk_norm ?_
       refine then_norm ?_
       refine cw_region ?_
       refine s_mv (v := .int .i64 s80.2.2) (sx hS_ 6 rfl) ?_
       refine s_sub rfl rfl ?_
       refine s_as (v := .int .i64 (IntKind.i64.wrap (s80.2.2 - 1))) rfl ?_
       refine done ?_
       exact hK84 (s80.1.set a2.toNat (IntKind.u8.wrap s80.2.2), r105, IntKind.i64.wrap (s80.2.2 - 1)) _ _ ⟨v106, (sk (sx hS_ 0 rfl) (sk (sx hS_ 1 rfl) (sk (sx hS_ 2 rfl) (sk rfl (sk (sx hS_ 4 rfl) (sk (sx hS_ 5 rfl) (sk rfl sn))))))), hC⟩ h
      ·replace h := iff_ h (cf hb90)
       refine wp_exit (then_exit (then_exit (exit_in ?_)))
       refine then_norm ?_
       refine sr ?_
       refine s_mv (v := v81) (sx hS_ 3 rfl) ?_
       refine s_as (v := v81) rfl ?_
       refine dn ?_
       refine wp_ret ?_
       refine ret1 (fn := Try.f128) rfl ?_ ⟨s80.2.1, v81, rfl, h, (hC.getM 1 rfl), (fun b_ hb_ => (hC.mfp _ (List.mem_of_getElem? (i := 1) rfl) b_ hb_).symm), hC.belO⟩ (.inl rfl)
       exact res_tmp rfl
     ·replace h := iff_ h (cf hb86)
      refine guardOff (b := false) 2 42 rfl (tr rfl (congrArg _ hb86)) (by decide) ?_
      refine guardOff (b := false) 2 42 rfl (tr rfl (congrArg _ hb86)) (by decide) ?_
      refine guardOff (b := false) 2 42 rfl (tr rfl (congrArg _ hb86)) (by decide) ?_
      refine s_pick (v := .bool false) (b := false) (tr rfl (congrArg _ hb86)) rfl ?_
      refine dn ?_
      refine cw_false rfl rfl ?_
      refine wp_exit (then_exit (then_exit (exit_in ?_)))
      refine then_norm ?_
      refine sr ?_
      refine s_mv (v := v81) (sx hS_ 3 rfl) ?_
      refine s_as (v := v81) rfl ?_
      refine dn ?_
      refine wp_ret ?_
      refine ret1 (fn := Try.f128) rfl ?_ ⟨s80.2.1, v81, rfl, h, (hC.getM 1 rfl), (fun b_ hb_ => (hC.mfp _ (List.mem_of_getElem? (i := 1) rfl) b_ hb_).symm), hC.belO⟩ (.inl rfl)
      exact res_tmp rfl
    ·skip
     exact ⟨u4_0, (sk rfl (sk rfl (sk rfl (sk rfl (sk rfl (sk rfl (sk rfl sn))))))), hC⟩
   ·replace h := iff_ h (cf hb28)
    refine wp_skip ?_
    refine then_norm ?_
    refine wp_seq ?_
    refine sr ?_
    refine s_mv (v := .int .i64 (IntKind.i64.wrap (Int.tdiv a3 (a0.getD a2.toNat default)))) rfl ?_
    refine s_min rfl rfl ?_
    refine s_as (v := .int .i64 (if 20 < IntKind.i64.wrap (Int.tdiv a3 (a0.getD a2.toNat default)) then 20 else IntKind.i64.wrap (Int.tdiv a3 (a0.getD a2.toNat default)))) rfl ?_
    refine dn ?_
    refine wp_block ?_
    refine loopW (S := A8 × (List A8) × Int) _ (fun s161 e_ w_ => ∃ (v162 : Value), Slots e_ [(0, u0_0), (2, .int .i64 a2), (3, .int .i64 a3), (4, v162), (6, .pointer (some ⟨b3, 0, none⟩)), (10, .slice none 0 0), (12, .int .i64 s161.2.2)] ∧ Ctx (fun c_ => c_ ∈ Option.toList (Value.ownBlock u4_0)) w0 w_ [blk b3 49 (A8.enc .u8 s161.1), own 49 8 v162 s161.2.1.length ((EA .u8).encs s161.2.1)] [Ty.item ((EI .i64).ty.sl) a0 [u0_0] fp0]) ?_ (s0 := (a1, a4, (if 20 < IntKind.i64.wrap (Int.tdiv a3 (a0.getD a2.toNat default)) then 20 else IntKind.i64.wrap (Int.tdiv a3 (a0.getD a2.toNat default))))) ?_ h
    ·clear hC h
     rintro s161 e_ w166 next163 K164 ⟨v162, hS_, hC⟩ h hK165
     refine wp_seq ?_
     refine sr ?_
     refine s_mv (v := .int .i64 s161.2.2) (sx hS_ 6 rfl) ?_
     refine s_geq rfl rfl ?_
     refine s_mv (v := .bool (decide (s161.2.2 ≥ 0))) rfl ?_
     refine bsplit (decide (s161.2.2 ≥ 0)) (fun hb167 => ?_) (fun hb167 => ?_)
     ·replace h := ift h (ct hb167)
      refine guardOn 2 42 rfl rfl hb167 ?_
      refine s_mv (v := v162) (sx hS_ 3 rfl) ?_
      refine guardOn 2 42 rfl rfl hb167 ?_
      obtain ⟨Ad168, c169, hv170⟩ := own_form (hC.getM 1 rfl)
      refine s_len Try.underlying59 (tr rfl hv170) ?_
      refine guardOn 2 42 rfl rfl hb167 ?_
      refine s_leq rfl rfl ?_
      refine s_pick (v := .bool (decide ((s161.2.1.length : Int) ≤ 400))) (b := true) (tr rfl (congrArg _ hb167)) rfl ?_
      refine dn ?_
      refine cw_cond rfl (fun hb171 => ?_) (fun hb171 => ?_)
      ·replace h := ift h (ct hb171)
       refine wp_skip ?_
       refine then_norm ?_
       refine wp_seq ?_
       refine wp_block ?_
       refine sr ?_
       refine s_mv (v := .int .i64 a2) (sx hS_ 1 rfl) ?_
       refine s_mv (v := .int .i64 s161.2.2) (sx hS_ 6 rfl) ?_
       refine s_conv Try.underlying2 Try.underlying5 rfl ?_
       obtain ⟨⟨h0_172, h1_173⟩, h⟩ := h
       refine s_iaddrB a2.toNat Try.underlying49 sc5.size (sx hS_ 4 rfl) rfl h0_172 h1_173 (by omega) ?_
       refine s_store (v := .int .u8 (IntKind.u8.wrap s161.2.2)) hC 0 [.int .u8 (IntKind.u8.wrap s161.2.2)] (A8.enc .u8 (s161.1.set a2.toNat (IntKind.u8.wrap s161.2.2))) rfl sc5.size rfl rfl rfl rfl rfl (show a2.toNat < 8 by omega) (A8.enc_set _ _ _ (show a2.toNat < 8 by omega)) fun w174 hC => ?_
       refine dn ?_
       refine cw_draw 13 mixed [0, 0, 0, 4, 0, 0, 0, 0, 192, 448, 992, 2032, 0, 8191, 16383] [1, 8, 9] [0, 2, 3, 4, 5, 6, 7, 10, 11, 12] (by kernel_rfl) (by kernel_rfl) (by kernel_rfl) (fun hM176 hM177 w175 hB_ => ?_)
       replace hC := hC.grow hB_
       refine aF 0 (u0_0) rfl rfl (hM177 0 rfl) (rfl) (fun _ => by exact r_mv (v := u0_0) (sx hS_ 0 rfl)) (dbits 15 1) ?_
       refine aL 1 (.agg (List.toArray (A8.enc .u8 (s161.1.set a2.toNat (IntKind.u8.wrap s161.2.2))))) rfl rfl (hM176 1 rfl) (rfl) (fun _ hB_ => by exact r_loadA (hC.grow hB_) 0 (A8.enc .u8 (s161.1.set a2.toNat (IntKind.u8.wrap s161.2.2))) rfl ag49 (sx hS_ 4 rfl) rfl rfl) (dbits 15 3) ?_
       refine aF 2 (.int .i64 a2) rfl rfl (hM177 2 rfl) (rfl) (fun _ => by exact r_mv (v := .int .i64 a2) (sx hS_ 1 rfl)) (dbits 15 7) ?_
       refine aF 3 (.int .i64 (IntKind.i64.wrap (a2 + 1))) rfl rfl (hM177 3 rfl) (rfl) (fun _ => by exact r_add rfl rfl) (dbits 15 15) ?_
       refine aF 4 (.int .i64 a3) rfl rfl (hM177 4 rfl) (rfl) (fun _ => by exact r_mv (v := .int .i64 a3) (sx hS_ 2 rfl)) (dbits 15 31) ?_
       refine aF 5 (.int .i64 s161.2.2) rfl rfl (hM177 5 rfl) (rfl) (fun _ => by exact r_mv (v := .int .i64 s161.2.2) (sx hS_ 6 rfl)) (dbits 15 63) ?_
       refine aF 6 (u0_0) rfl rfl (hM177 6 rfl) (rfl) (fun _ => by exact r_mv (v := u0_0) (sx hS_ 0 rfl)) (dbits 15 127) ?_
       refine aF 7 (.int .i64 a2) rfl rfl (hM177 7 rfl) (rfl) (fun _ => by exact r_mv (v := .int .i64 a2) (sx hS_ 1 rfl)) (dbits 15 255) ?_
       obtain ⟨⟨h0_178, h1_179⟩, h⟩ := h
       obtain ⟨Ad180, c181, hv182⟩ := sl_form (hC.getP 0 rfl) a2.toNat (show a2.toNat < a0.length by omega)
       refine aL 8 (.pointer (some (Ad180.add (a2.toNat * 1)))) rfl rfl (hM176 8 rfl) (rfl) (fun _ hB_ => by exact r_iaddrS (len := a0.length) Try.underlying22 sc2.size (by exact tr rfl hv182) rfl h0_178 h1_179) (dbits 15 511) ?_
       refine aL 9 (.int .i64 (a0.getD a2.toNat default)) rfl rfl (hM176 9 rfl) (rfl) (fun _ hB_ => by exact r_loadCS (.int .i64 (a0.getD a2.toNat default)) (sl_cellsE ((hC.grow hB_).getP 0 rfl) hv182 a2.toNat (show a2.toNat < a0.length by omega)) sc2 rfl) (dbits 15 1023) ?_
       refine aF 10 (.int .i64 (IntKind.i64.wrap (s161.2.2 * (a0.getD a2.toNat default)))) rfl rfl (hM177 10 rfl) (rfl) (fun _ => by exact r_mul rfl rfl) (dbits 15 2047) ?_
       refine aF 11 (.int .i64 (IntKind.i64.wrap (a3 - (IntKind.i64.wrap (s161.2.2 * (a0.getD a2.toNat default)))))) rfl rfl (hM177 11 rfl) (rfl) (fun _ => by exact r_sub rfl rfl) (dbits 15 4095) ?_
       refine aF 12 (v162) rfl rfl (hM177 12 rfl) (rfl) (fun _ => by exact r_mv (v := v162) (sx hS_ 3 rfl)) (dbits 15 8191) ?_
       refine ae_tail 13 (by decide) (by decide) (by kernel_rfl) (by kernel_rfl) rfl ?_
       refine s_call [u0_0, .agg (List.toArray (A8.enc .u8 (s161.1.set a2.toNat (IntKind.u8.wrap s161.2.2)))), .int .i64 (IntKind.i64.wrap (a2 + 1)), .int .i64 (IntKind.i64.wrap (a3 - (IntKind.i64.wrap (s161.2.2 * (a0.getD a2.toNat default))))), v162] _ Try.func128 rfl rfl rfl (ih_ a0 (s161.1.set a2.toNat (IntKind.u8.wrap s161.2.2)) (IntKind.i64.wrap (a2 + 1)) (IntKind.i64.wrap (a3 - (IntKind.i64.wrap (s161.2.2 * (a0.getD a2.toNat default))))) s161.2.1 h _ (hC.getP 0 rfl) (hC.getM 1 rfl) (fun b_ hb_ hb2_ => hC.pd _ (List.mem_of_getElem? (i := 0) rfl) b_ hb_ _ (List.mem_of_getElem? (i := 1) rfl) hb2_)) (fun ret183 w185 hR184 => ?_)
       obtain ⟨r186, v187, rfl, h, hr188, hf189, hB190⟩ := hR184
       refine ⟨_, rfl, ?_⟩
       replace hC := hC.turnO 1 rfl hB190 hr188 hf189
       refine s_as (v := v187) rfl ?_
       refine done ?_
       refine qn_norm ?_
       refine blk_norm ?_
       refine then_norm ?_
       refine cw_region ?_
       refine s_mv (v := .int .i64 s161.2.2) (sx hS_ 6 rfl) ?_
       refine s_sub rfl rfl ?_
       refine s_as (v := .int .i64 (IntKind.i64.wrap (s161.2.2 - 1))) rfl ?_
       refine done ?_
       exact hK165 (s161.1.set a2.toNat (IntKind.u8.wrap s161.2.2), r186, IntKind.i64.wrap (s161.2.2 - 1)) _ _ ⟨v187, (sk (sx hS_ 0 rfl) (sk (sx hS_ 1 rfl) (sk (sx hS_ 2 rfl) (sk rfl (sk (sx hS_ 4 rfl) (sk (sx hS_ 5 rfl) (sk rfl sn))))))), hC⟩ h
      ·replace h := iff_ h (cf hb171)
       refine wp_exit (then_exit (then_exit (exit_in ?_)))
       refine then_norm ?_
       refine sr ?_
       refine s_mv (v := v162) (sx hS_ 3 rfl) ?_
       refine s_as (v := v162) rfl ?_
       refine dn ?_
       refine wp_ret ?_
       refine ret1 (fn := Try.f128) rfl ?_ ⟨s161.2.1, v162, rfl, h, (hC.getM 1 rfl), (fun b_ hb_ => (hC.mfp _ (List.mem_of_getElem? (i := 1) rfl) b_ hb_).symm), hC.belO⟩ (.inl rfl)
       exact res_tmp rfl
     ·replace h := iff_ h (cf hb167)
      refine guardOff (b := false) 2 42 rfl (tr rfl (congrArg _ hb167)) (by decide) ?_
      refine guardOff (b := false) 2 42 rfl (tr rfl (congrArg _ hb167)) (by decide) ?_
      refine guardOff (b := false) 2 42 rfl (tr rfl (congrArg _ hb167)) (by decide) ?_
      refine s_pick (v := .bool false) (b := false) (tr rfl (congrArg _ hb167)) rfl ?_
      refine dn ?_
      refine cw_false rfl rfl ?_
      refine wp_exit (then_exit (then_exit (exit_in ?_)))
      refine then_norm ?_
      refine sr ?_
      refine s_mv (v := v162) (sx hS_ 3 rfl) ?_
      refine s_as (v := v162) rfl ?_
      refine dn ?_
      refine wp_ret ?_
      refine ret1 (fn := Try.f128) rfl ?_ ⟨s161.2.1, v162, rfl, h, (hC.getM 1 rfl), (fun b_ hb_ => (hC.mfp _ (List.mem_of_getElem? (i := 1) rfl) b_ hb_).symm), hC.belO⟩ (.inl rfl)
      exact res_tmp rfl
    ·skip
     exact ⟨u4_0, (sk rfl (sk rfl (sk rfl (sk rfl (sk rfl (sk rfl (sk rfl sn))))))), hC⟩
def f_spec_l01Monomials (a0 : List Int) (a1 : Int) (K : List A8 → Prop) : Prop :=
 f_spec_l01Fill 9 a0 A8.zero 0 a1 [] (fun r6 => K r6)
theorem c_spec_l01Monomials (a0 : List Int) (a1 : Int) {u0_0 : Value} {fp0 : List Nat} {K : List A8 → Prop} (h : f_spec_l01Monomials a0 a1 K) (w0 : World) (q0 : ((EI .i64).ty.sl).rep a0 [u0_0] fp0 w0) :
  Calls Try.prog 92 #[u0_0, .int .i64 a1] w0 fun e w' => ∃ (r0 : List A8) (z0_0 : Value) (fz0 : List Nat), 
   e = .returned (z0_0) ∧ K r0 ∧ (Tr.item (Tr.sl 49 ((EA .u8).tr)) r0 [z0_0] fz0).holds w' ∧ (∀ b, b ∈ fz0 → w0.heap.size ≤ b) ∧ Bel w0 w' := by
 unfold f_spec_l01Monomials at h
 refine calls_of (args := [u0_0, .int .i64 a1]) Try.func92 rfl 9 Try.ntmps92 (Nat.le_of_ble_eq_true rfl) ?_
 have hC := Ctx.start (X := Nox) w0 [Ty.item ((EI .i64).ty.sl) a0 [u0_0] fp0] (by simp only [List.mem_cons, List.not_mem_nil, or_false, forall_eq_or_imp, forall_eq]; exact q0)
 refine sr ?_
 refine s_as (v := .slice none 0 0) rfl ?_
 refine dn ?_
 refine sr ?_
 refine s_mv (v := u0_0) rfl ?_
 refine s_build [] rfl (bl49   _) ?_
 refine s_mv (v := .int .i64 a1) rfl ?_
 replace hC := hC.pushNil 49 8
 refine s_call [u0_0, .agg (List.toArray (A8.enc .u8 A8.zero)), .int .i64 0, .int .i64 a1, .slice none 0 0] _ Try.func128 rfl rfl rfl (c_spec_l01Fill 9 a0 A8.zero 0 a1 [] h _ (hC.getP 0 rfl) (hC.getM 0 rfl) (fun b_ hb_ hb2_ => hC.pd _ (List.mem_of_getElem? (i := 0) rfl) b_ hb_ _ (List.mem_of_getElem? (i := 0) rfl) hb2_)) (fun ret3 w5 hR4 => ?_)
 obtain ⟨r6, v7, rfl, h, hr8, hf9, hB10⟩ := hR4
 refine ⟨_, rfl, ?_⟩
 replace hC := hC.turnO 0 rfl hB10 hr8 hf9
 refine s_as (v := v7) rfl ?_
 refine dn ?_
 refine wp_ret ?_
 refine ret1 (fn := Try.f92) rfl ?_ ⟨r6, v7, (Option.toList (Value.ownBlock v7)), rfl, h, (own_item (hC.getM 0 rfl)), (own_fresh hC 0 rfl), hC.below⟩ (.inl rfl)
 exact res_tmp rfl
def f_spec_l03Within (a0 : Alg) (a1 : Int) (a2 : Int) (K : Bool → Prop) : Prop :=
 whileP (fun (s46 : Int) next47 => (if s46 ≤ a2 then f_spec_l01Monomials a0.degrees s46 (fun r55 => (if (r55.length : Int) > 120 then K false else next47 (IntKind.i64.wrap (s46 + 1)))) else K true)) (if a1 < 0 then 0 else a1)
theorem c_spec_l03Within (a0 : Alg) (a1 : Int) (a2 : Int) {u0_0 : Value} {u0_1 : Value} {fp0 : List Nat} {K : Bool → Prop} (h : f_spec_l03Within a0 a1 a2 K) (w0 : World) (q0 : TAlg.rep a0 [u0_0, u0_1] fp0 w0) :
  Calls Try.prog 119 #[.agg #[u0_0, u0_1], .int .i64 a1, .int .i64 a2] w0 fun e w' => ∃ (r0 : Bool), 
   e = .returned (.bool r0) ∧ K r0 ∧ Bel w0 w' := by
 unfold f_spec_l03Within at h
 refine calls_of (args := [.agg #[u0_0, u0_1], .int .i64 a1, .int .i64 a2]) Try.func119 rfl 21 Try.ntmps119 (Nat.le_of_ble_eq_true rfl) ?_
 have hC := Ctx.start (X := Nox) w0 [Ty.item TAlg a0 [u0_0, u0_1] fp0] (by simp only [List.mem_cons, List.not_mem_nil, or_false, forall_eq_or_imp, forall_eq]; exact q0)
 have hp2 := (hC.getP 0 rfl)
 replace hC := hC.derive 0 rfl (Ty.item ((EI .i64).ty.sl) a0.degrees [u0_0] fp0) (fun _ => (alg_parts hp2).1) (fun _ hb_ => hb_)
 replace hC := hC.derive 1 rfl (Ty.item TForm.sl a0.images [u0_1] fp0) (fun _ => (alg_parts hp2).2) (fun _ hb_ => hb_)
 refine sr ?_
 refine s_box (v := .agg #[u0_0, u0_1]) hC [u0_0, u0_1] rfl rfl fun b5 w7 hB_ hC => ?_
 refine s_as (v := .bool false) rfl ?_
 refine dn ?_
 refine wp_seq ?_
 refine sr ?_
 refine s_mv (v := .int .i64 a1) rfl ?_
 refine s_max rfl rfl ?_
 refine s_as (v := .int .i64 (if a1 < 0 then 0 else a1)) rfl ?_
 refine dn ?_
 refine wp_block ?_
 refine loopW (S := Int) _ (fun s46 e_ w_ => Slots e_ [(2, .int .i64 a2), (3, .pointer (some ⟨b5, 0, none⟩)), (6, .bool false), (7, .int .i64 s46)] ∧ Ctx Nox w0 w_ [blk b5 32 [u0_0, u0_1]] [Ty.item TForm.sl a0.images [u0_1] fp0, Ty.item ((EI .i64).ty.sl) a0.degrees [u0_0] fp0, Ty.item TAlg a0 [u0_0, u0_1] fp0]) ?_ (s0 := (if a1 < 0 then 0 else a1)) ?_ h
 ·clear hC h
  rintro s46 e_ w50 next47 K48 ⟨hS_, hC⟩ h hK49
  refine wp_seq ?_
  refine sr ?_
  refine s_mv (v := .int .i64 s46) (sx hS_ 3 rfl) ?_
  refine s_mv (v := .int .i64 a2) (sx hS_ 0 rfl) ?_
  refine s_leq rfl rfl ?_
  refine dn ?_
  refine cw_cond rfl (fun hb51 => ?_) (fun hb51 => ?_)
  ·replace h := ift h (ct hb51)
   refine wp_skip ?_
   refine then_norm ?_
   refine wp_seq ?_
   refine wp_block ?_
   refine sr ?_
   refine s_faddrB 0 Try.underlying32 rfl sc22.size (sx hS_ 1 rfl) rfl ?_
   refine s_loadS hC 0 (u0_0) rfl sc22 rfl rfl ?_
   refine s_mv (v := .int .i64 s46) (sx hS_ 3 rfl) ?_
   refine s_call [u0_0, .int .i64 s46] _ Try.func92 rfl rfl rfl (c_spec_l01Monomials a0.degrees s46 h _ (hC.getP 1 rfl)) (fun ret52 w54 hR53 => ?_)
   obtain ⟨r55, u56, f57, rfl, h, hr58, hf59, hB60⟩ := hR53
   refine ⟨_, rfl, ?_⟩
   replace hC := hC.push hB60 (Tr.item (Tr.sl 49 ((EA .u8).tr)) r55 [u56] f57) hr58 hf59
   obtain ⟨ho62, hf63⟩ := flat_tr (hC.getM 0 rfl).1
   subst hf63
   replace hC := hC.recast (c := own 49 8 u56 r55.length ((EA .u8).encs r55)) (fun _ h_ => h_) (fun _ => ho62)
   obtain ⟨Ad65, c66, hv67⟩ := own_form (hC.getM 0 rfl)
   refine s_len Try.underlying59 (tr rfl hv67) ?_
   refine s_gtr rfl rfl ?_
   refine dn ?_
   refine cw_cond rfl (fun hb68 => ?_) (fun hb68 => ?_)
   ·replace h := ift h (ct hb68)
    refine sr ?_
    refine s_as (v := .bool false) rfl ?_
    refine dn ?_
    refine wp_ret (blk_ret (then_ret (then_ret (blk_ret (then_ret ?_)))))
    refine ret1 (fn := Try.f119) rfl ?_ ⟨false, rfl, h, hC.below⟩ (.inl rfl)
    exact res_tmp rfl
   ·replace h := iff_ h (cf hb68)
    refine wp_skip ?_
    refine blk_norm ?_
    refine then_norm ?_
    refine cw_region ?_
    refine s_mv (v := .int .i64 s46) (sx hS_ 3 rfl) ?_
    refine s_add rfl rfl ?_
    refine s_as (v := .int .i64 (IntKind.i64.wrap (s46 + 1))) rfl ?_
    refine done ?_
    replace hC := hC.sM [1] (M' := [blk b5 32 [u0_0, u0_1]]) (by decide) rfl
    exact hK49 (IntKind.i64.wrap (s46 + 1)) _ _ ⟨(sk (sx hS_ 0 rfl) (sk (sx hS_ 1 rfl) (sk (sx hS_ 2 rfl) (sk rfl sn)))), hC⟩ h
  ·replace h := iff_ h (cf hb51)
   refine wp_exit (then_exit (then_exit (exit_in ?_)))
   refine then_norm ?_
   refine sr ?_
   refine s_as (v := .bool true) rfl ?_
   refine dn ?_
   refine wp_ret ?_
   refine ret1 (fn := Try.f119) rfl ?_ ⟨true, rfl, h, hC.below⟩ (.inl rfl)
   exact res_tmp rfl
 ·skip
  exact ⟨(sk rfl (sk rfl (sk rfl (sk rfl sn)))), hC⟩
def f_spec_l03Code (a0 : Alg) (a1 : Int) (K : Int → Prop) : Prop :=
 f_spec_l02Is a0 (fun r11 => (if ¬ (r11 = true) then K 1 else f_spec_l01In a1 0 20 (fun r17 => (if ¬ (r17 = true) then K 2 else f_spec_l03Within a0 (IntKind.i64.wrap (a1 - 1)) (IntKind.i64.wrap (a1 + 1)) (fun r23 => (if ¬ (r23 = true) then K 3 else K 0))))))
theorem c_spec_l03Code (a0 : Alg) (a1 : Int) {u0_0 : Value} {u0_1 : Value} {fp0 : List Nat} {K : Int → Prop} (h : f_spec_l03Code a0 a1 K) (w0 : World) (q0 : TAlg.rep a0 [u0_0, u0_1] fp0 w0) :
  Calls Try.prog 61 #[.agg #[u0_0, u0_1], .int .i64 a1] w0 fun e w' => ∃ (r0 : Int), 
   e = .returned (.int .i64 r0) ∧ K r0 ∧ Bel w0 w' := by
 unfold f_spec_l03Code at h
 refine calls_of (args := [.agg #[u0_0, u0_1], .int .i64 a1]) Try.func61 rfl 21 Try.ntmps61 (Nat.le_of_ble_eq_true rfl) ?_
 have hC := Ctx.start (X := Nox) w0 [Ty.item TAlg a0 [u0_0, u0_1] fp0] (by simp only [List.mem_cons, List.not_mem_nil, or_false, forall_eq_or_imp, forall_eq]; exact q0)
 have hp2 := (hC.getP 0 rfl)
 replace hC := hC.derive 0 rfl (Ty.item ((EI .i64).ty.sl) a0.degrees [u0_0] fp0) (fun _ => (alg_parts hp2).1) (fun _ hb_ => hb_)
 replace hC := hC.derive 1 rfl (Ty.item TForm.sl a0.images [u0_1] fp0) (fun _ => (alg_parts hp2).2) (fun _ hb_ => hb_)
 refine sr ?_
 refine s_box (v := .agg #[u0_0, u0_1]) hC [u0_0, u0_1] rfl rfl fun b5 w7 hB_ hC => ?_
 refine s_as (v := .int .i64 0) rfl ?_
 refine dn ?_
 refine wp_seq ?_
 refine wp_block ?_
 refine sr ?_
 refine s_loadA hC 0 [u0_0, u0_1] rfl ag32 rfl rfl rfl ?_
 refine s_call [.agg #[u0_0, u0_1]] _ Try.func97 rfl rfl rfl (c_spec_l02Is a0 h _ (alg_mk (hC.getP 1 rfl) (hC.getP 0 rfl))) (fun ret8 w10 hR9 => ?_)
 obtain ⟨r11, rfl, h, hB12⟩ := hR9
 refine ⟨_, rfl, ?_⟩
 replace hC := hC.grow hB12
 refine s_not rfl ?_
 refine s_as (v := .bool (!r11)) rfl ?_
 refine dn ?_
 refine cw_cond rfl (fun hb13 => ?_) (fun hb13 => ?_)
 ·replace h := ift h (ne_t (not_t hb13))
  refine sr ?_
  refine s_as (v := .int .i64 1) rfl ?_
  refine dn ?_
  refine wp_ret (blk_ret (then_ret ?_))
  refine ret1 (fn := Try.f61) rfl ?_ ⟨1, rfl, h, hC.below⟩ (.inl rfl)
  exact res_tmp rfl
 ·replace h := iff_ h (not_not_intro ((not_f hb13)))
  refine sr ?_
  refine s_mv (v := .int .i64 a1) rfl ?_
  refine s_call [.int .i64 a1, .int .i64 0, .int .i64 20] _ Try.func60 rfl rfl rfl (c_spec_l01In a1 0 20 h _) (fun ret14 w16 hR15 => ?_)
  obtain ⟨r17, rfl, h, hB18⟩ := hR15
  refine ⟨_, rfl, ?_⟩
  replace hC := hC.grow hB18
  refine s_not rfl ?_
  refine s_as (v := .bool (!r17)) rfl ?_
  refine dn ?_
  refine cw_cond rfl (fun hb19 => ?_) (fun hb19 => ?_)
  ·replace h := ift h (ne_t (not_t hb19))
   refine sr ?_
   refine s_as (v := .int .i64 2) rfl ?_
   refine dn ?_
   refine wp_ret (blk_ret (then_ret ?_))
   refine ret1 (fn := Try.f61) rfl ?_ ⟨2, rfl, h, hC.below⟩ (.inl rfl)
   exact res_tmp rfl
  ·replace h := iff_ h (not_not_intro ((not_f hb19)))
   refine sr ?_
   refine s_loadA hC 0 [u0_0, u0_1] rfl ag32 rfl rfl rfl ?_
   refine s_mv (v := .int .i64 a1) rfl ?_
   refine s_sub rfl rfl ?_
   refine s_mv (v := .int .i64 a1) rfl ?_
   refine s_add rfl rfl ?_
   refine s_call [.agg #[u0_0, u0_1], .int .i64 (IntKind.i64.wrap (a1 - 1)), .int .i64 (IntKind.i64.wrap (a1 + 1))] _ Try.func119 rfl rfl rfl (c_spec_l03Within a0 (IntKind.i64.wrap (a1 - 1)) (IntKind.i64.wrap (a1 + 1)) h _ (alg_mk (hC.getP 1 rfl) (hC.getP 0 rfl))) (fun ret20 w22 hR21 => ?_)
   obtain ⟨r23, rfl, h, hB24⟩ := hR21
   refine ⟨_, rfl, ?_⟩
   replace hC := hC.grow hB24
   refine s_not rfl ?_
   refine s_as (v := .bool (!r23)) rfl ?_
   refine dn ?_
   refine cw_cond rfl (fun hb25 => ?_) (fun hb25 => ?_)
   ·replace h := ift h (ne_t (not_t hb25))
    refine sr ?_
    refine s_as (v := .int .i64 3) rfl ?_
    refine dn ?_
    refine wp_ret (blk_ret (then_ret ?_))
    refine ret1 (fn := Try.f61) rfl ?_ ⟨3, rfl, h, hC.below⟩ (.inl rfl)
    exact res_tmp rfl
   ·replace h := iff_ h (not_not_intro ((not_f hb25)))
    refine wp_skip ?_
    refine blk_norm ?_
    refine then_norm ?_
    refine sr ?_
    refine s_as (v := .int .i64 0) rfl ?_
    refine dn ?_
    refine wp_ret ?_
    refine ret1 (fn := Try.f61) rfl ?_ ⟨0, rfl, h, hC.below⟩ (.inl rfl)
    exact res_tmp rfl
def f_spec_l10Of (a0 : Alg) (a1 : Int) (a2 : Int) (K : List A8 → Prop) : Prop :=
 (if a2 ≥ 0 then f_spec_l01Monomials a0.degrees a2 (fun r18 => forN (fun i80 (s81 : (List A8)) next84 => f_spec_l02Word (r18.getD i80 default) (fun r98 => (if r98 ≥ a1 then (Room (s81.length + 1) 8 ∧ next84 (s81 ++ [r18.getD i80 default])) else next84 s81))) (fun (s81 : (List A8)) => K s81) r18.length 0 []) else forN (fun i166 (s167 : (List A8)) next170 => f_spec_l02Word ([].getD i166 default) (fun r184 => (if r184 ≥ a1 then (Room (s167.length + 1) 8 ∧ next170 (s167 ++ [[].getD i166 default])) else next170 s167))) (fun (s167 : (List A8)) => K s167) (([] : List A8).length) 0 [])
theorem c_spec_l10Of (a0 : Alg) (a1 : Int) (a2 : Int) {u0_0 : Value} {u0_1 : Value} {fp0 : List Nat} {K : List A8 → Prop} (h : f_spec_l10Of a0 a1 a2 K) (w0 : World) (q0 : TAlg.rep a0 [u0_0, u0_1] fp0 w0) :
  Calls Try.prog 62 #[.agg #[u0_0, u0_1], .int .i64 a1, .int .i64 a2] w0 fun e w' => ∃ (r0 : List A8) (z0_0 : Value) (fz0 : List Nat), 
   e = .returned (z0_0) ∧ K r0 ∧ (Tr.item (Tr.sl 49 ((EA .u8).tr)) r0 [z0_0] fz0).holds w' ∧ (∀ b, b ∈ fz0 → w0.heap.size ≤ b) ∧ Bel w0 w' := by
 unfold f_spec_l10Of at h
 refine calls_of (args := [.agg #[u0_0, u0_1], .int .i64 a1, .int .i64 a2]) Try.func62 rfl 39 Try.ntmps62 (Nat.le_of_ble_eq_true rfl) ?_
 have hC := Ctx.start (X := Nox) w0 [Ty.item TAlg a0 [u0_0, u0_1] fp0] (by simp only [List.mem_cons, List.not_mem_nil, or_false, forall_eq_or_imp, forall_eq]; exact q0)
 have hp2 := (hC.getP 0 rfl)
 replace hC := hC.derive 0 rfl (Ty.item ((EI .i64).ty.sl) a0.degrees [u0_0] fp0) (fun _ => (alg_parts hp2).1) (fun _ hb_ => hb_)
 replace hC := hC.derive 1 rfl (Ty.item TForm.sl a0.images [u0_1] fp0) (fun _ => (alg_parts hp2).2) (fun _ hb_ => hb_)
 refine sr ?_
 refine s_box (v := .agg #[u0_0, u0_1]) hC [u0_0, u0_1] rfl rfl fun b5 w7 hB_ hC => ?_
 refine s_as (v := .slice none 0 0) rfl ?_
 refine dn ?_
 refine sr ?_
 refine s_bslice (sz := 8) hC [] ((EA .u8).encs []) rfl (fun _ => bs59_0  _) rfl (by decide) fun b8 w9 hB_ hC => ?_
 refine s_bslice (sz := 8) hC [] ((EA .u8).encs []) rfl (fun _ => bs59_0  _) rfl (by decide) fun b11 w12 hB_ hC => ?_
 refine s_as (v := .slice (some ⟨b8, 0, none⟩) 0 0) rfl ?_
 refine s_as (v := .slice (some ⟨b11, 0, none⟩) 0 0) rfl ?_
 refine dn ?_
 refine wp_seq ?_
 refine sr ?_
 refine s_mv (v := .int .i64 a2) rfl ?_
 refine s_geq rfl rfl ?_
 refine dn ?_
 refine cw_cond rfl (fun hb14 => ?_) (fun hb14 => ?_)
 ·replace h := ift h (ct hb14)
  refine cw_region ?_
  refine s_faddrB 0 Try.underlying32 rfl sc22.size rfl rfl ?_
  refine s_loadS hC 2 (u0_0) rfl sc22 rfl rfl ?_
  refine s_mv (v := .int .i64 a2) rfl ?_
  refine s_call [u0_0, .int .i64 a2] _ Try.func92 rfl rfl rfl (c_spec_l01Monomials a0.degrees a2 h _ (hC.getP 1 rfl)) (fun ret15 w17 hR16 => ?_)
  obtain ⟨r18, u19, f20, rfl, h, hr21, hf22, hB23⟩ := hR16
  refine ⟨_, rfl, ?_⟩
  replace hC := hC.push hB23 (Tr.item (Tr.sl 49 ((EA .u8).tr)) r18 [u19] f20) hr21 hf22
  obtain ⟨ho25, hf26⟩ := flat_tr (hC.getM 0 rfl).1
  subst hf26
  replace hC := hC.recast (c := own 49 8 u19 r18.length ((EA .u8).encs r18)) (fun _ h_ => h_) (fun _ => ho25)
  refine s_as (v := u19) rfl ?_
  refine dn ?_
  refine wp_seq ?_
  refine sr ?_
  refine s_as (v := .int .i64 0) rfl ?_
  refine dn ?_
  refine wp_block ?_
  have hN83 : r18.length ≤ 9223372036854775807 := own_max (hC.getM 0 rfl)
  refine loopN (S := (List A8)) _ _ (fun i80 s81 e_ w_ => ∃ (v82 : Value), Slots e_ [(1, .int .i64 a1), (6, .slice none 0 0), (7, u19), (8, v82), (9, .int .i64 (i80 : Int))] ∧ Ctx Nox w0 w_ [own 49 8 u19 r18.length ((EA .u8).encs r18), own 49 8 v82 s81.length ((EA .u8).encs s81)] [Ty.item TForm.sl a0.images [u0_1] fp0, Ty.item ((EI .i64).ty.sl) a0.degrees [u0_0] fp0, Ty.item TAlg a0 [u0_0, u0_1] fp0]) r18.length ?_ ?_ (s0 := []) ?_ h
  ·clear hC h
   rintro i80 s81 e_ w88 next84 K85 hi87 ⟨v82, hS_, hC⟩ h hK86
   refine wp_seq ?_
   refine sr ?_
   refine s_mv (v := .int .i64 (i80 : Int)) (sx hS_ 4 rfl) ?_
   refine s_mv (v := u19) (sx hS_ 2 rfl) ?_
   obtain ⟨Ad89, c90, hv91⟩ := own_form (hC.getM 0 rfl)
   refine s_len Try.underlying59 (tr rfl hv91) ?_
   refine s_lss rfl rfl ?_
   refine dn ?_
   refine cw_true rfl (decide_eq_true (by first | omega | (simp only [List.length_nil] at *; omega))) ?_
   refine wp_skip ?_
   refine then_norm ?_
   refine wp_seq ?_
   refine wp_block ?_
   refine sr ?_
   refine s_mv (v := u19) (sx hS_ 2 rfl) ?_
   refine s_mv (v := .int .i64 (i80 : Int)) (sx hS_ 4 rfl) ?_
   obtain ⟨Ad92, c93, hv94⟩ := own_formE (hC.getM 0 rfl) (Nat.lt_of_le_of_lt (Nat.zero_le _) hi87)
   refine s_iaddrO (i80 * 8) Try.underlying59 ag49.size (tr rfl hv94) rfl (Int.natCast_nonneg _) (Int.ofNat_lt.2 hi87) rfl ?_
   refine s_loadCA (A8.enc .u8 (r18.getD i80 default)) (own_cellsE (hC.getM 0 rfl) hv94 i80 hi87) ag49 rfl rfl ?_
   refine s_call [.agg (List.toArray (A8.enc .u8 (r18.getD i80 default)))] _ Try.func112 rfl rfl rfl (c_spec_l02Word (r18.getD i80 default) h _) (fun ret95 w97 hR96 => ?_)
   obtain ⟨r98, rfl, h, hB99⟩ := hR96
   refine ⟨_, rfl, ?_⟩
   replace hC := hC.grow hB99
   refine s_mv (v := .int .i64 a1) (sx hS_ 0 rfl) ?_
   refine s_geq rfl rfl ?_
   refine dn ?_
   refine cw_cond rfl (fun hb100 => ?_) (fun hb100 => ?_)
   ·replace h := ift h (ct hb100)
    refine cw_region ?_
    refine s_mv (v := v82) (sx hS_ 3 rfl) ?_
    refine s_mv (v := u19) (sx hS_ 2 rfl) ?_
    refine s_mv (v := .int .i64 (i80 : Int)) (sx hS_ 4 rfl) ?_
    obtain ⟨Ad101, c102, hv103⟩ := own_formE (hC.getM 0 rfl) (Nat.lt_of_le_of_lt (Nat.zero_le _) hi87)
    refine s_iaddrO (i80 * 8) Try.underlying59 ag49.size (tr rfl hv103) rfl (Int.natCast_nonneg _) (Int.ofNat_lt.2 hi87) rfl ?_
    refine s_loadCA (A8.enc .u8 (r18.getD i80 default)) (own_cellsE (hC.getM 0 rfl) hv103 i80 hi87) ag49 rfl rfl ?_
    refine s_bslice (sz := 8) hC [(0, .agg (List.toArray (A8.enc .u8 (r18.getD i80 default))))] ((EA .u8).encs [r18.getD i80 default]) rfl (fun _ => bs59_1 (r18.getD i80 default) _) rfl (by decide) fun b104 w105 hB_ hC => ?_
    obtain ⟨hm109, h⟩ := h
    refine s_app hC 2 Try.underlying59 el49 rfl (by decide) (by decide) rfl (own_rdr (hC.getM 0 rfl)) (fun q hq => Enc.encs_one' (E := (EA .u8)) _ q hq) rfl rfl hm109 fun v107 w108 hC => ?_
    replace hC := own_re hC 2 ((s81 ++ [r18.getD i80 default]).length) ((EA .u8).encs (s81 ++ [r18.getD i80 default])) rfl (by simp) (by first | (simp [Enc.encs_append]; done) | simp [Enc.encs_append, Enc.encs])
    refine s_as (v := v107) rfl ?_
    refine done ?_
    refine blk_norm ?_
    refine then_norm ?_
    refine cw_region ?_
    refine s_mv (v := .int .i64 (i80 : Int)) (sx hS_ 4 rfl) ?_
    refine s_add rfl rfl ?_
    refine s_as (v := .int .i64 (IntKind.i64.wrap ((i80 : Int) + 1))) rfl ?_
    refine done ?_
    replace hC := hC.sM [1, 2] (M' := [own 49 8 u19 r18.length ((EA .u8).encs r18), own 49 8 v107 ((s81 ++ [r18.getD i80 default]).length) ((EA .u8).encs (s81 ++ [r18.getD i80 default]))]) (by decide) rfl
    exact hK86 (s81 ++ [r18.getD i80 default]) _ _ ⟨v107, (sk (sx hS_ 0 rfl) (sk (sx hS_ 1 rfl) (sk (sx hS_ 2 rfl) (sk rfl (sk (tr rfl (congrArg _ (wrap64_nat hi87 hN83))) sn))))), hC⟩ h
   ·replace h := iff_ h (cf hb100)
    refine wp_skip ?_
    refine blk_norm ?_
    refine then_norm ?_
    refine cw_region ?_
    refine s_mv (v := .int .i64 (i80 : Int)) (sx hS_ 4 rfl) ?_
    refine s_add rfl rfl ?_
    refine s_as (v := .int .i64 (IntKind.i64.wrap ((i80 : Int) + 1))) rfl ?_
    refine done ?_
    exact hK86 s81 _ _ ⟨v82, (sk (sx hS_ 0 rfl) (sk (sx hS_ 1 rfl) (sk (sx hS_ 2 rfl) (sk (sx hS_ 3 rfl) (sk (tr rfl (congrArg _ (wrap64_nat hi87 hN83))) sn))))), hC⟩ h
  ·clear hC h
   rintro s81 e_ w110 K85 ⟨v82, hS_, hC⟩ h
   refine wp_seq ?_
   refine sr ?_
   refine s_mv (v := .int .i64 (r18.length : Int)) (sx hS_ 4 rfl) ?_
   refine s_mv (v := u19) (sx hS_ 2 rfl) ?_
   obtain ⟨Ad111, c112, hv113⟩ := own_form (hC.getM 0 rfl)
   refine s_len Try.underlying59 (tr rfl hv113) ?_
   refine s_lss rfl rfl ?_
   refine dn ?_
   refine cw_false rfl (decide_eq_false (by first | omega | (simp only [List.length_nil] at *; omega))) ?_
   refine wp_exit (then_exit (then_exit (exit_in ?_)))
   refine then_norm ?_
   refine sr ?_
   refine s_mv (v := v82) (sx hS_ 3 rfl) ?_
   refine s_as (v := v82) rfl ?_
   refine dn ?_
   refine wp_ret ?_
   refine ret1 (fn := Try.f62) rfl ?_ ⟨s81, v82, (Option.toList (Value.ownBlock v82)), rfl, h, (own_item (hC.getM 1 rfl)), (own_fresh hC 1 rfl), hC.below⟩ (.inl rfl)
   exact res_tmp rfl
  ·skip
   replace hC := hC.sM [0, 1] (M' := [own 49 8 u19 r18.length ((EA .u8).encs r18), own 49 8 (.slice (some ⟨b11, 0, none⟩) 0 0) 0 ((EA .u8).encs [])]) (by decide) rfl
   exact ⟨.slice (some ⟨b11, 0, none⟩) 0 0, (sk rfl (sk rfl (sk rfl (sk rfl (sk rfl sn))))), hC⟩
 ·replace h := iff_ h (cf hb14)
  refine wp_skip ?_
  refine then_norm ?_
  refine wp_seq ?_
  refine sr ?_
  refine s_as (v := .int .i64 0) rfl ?_
  refine dn ?_
  refine wp_block ?_
  have hN169 : ([] : List A8).length ≤ 9223372036854775807 := own_max (hC.getM 1 rfl)
  refine loopN (S := (List A8)) _ _ (fun i166 s167 e_ w_ => ∃ (v168 : Value), Slots e_ [(1, .int .i64 a1), (6, .slice none 0 0), (7, .slice (some ⟨b8, 0, none⟩) 0 0), (8, v168), (9, .int .i64 (i166 : Int))] ∧ Ctx Nox w0 w_ [own 49 8 v168 s167.length ((EA .u8).encs s167), own 49 8 (.slice (some ⟨b8, 0, none⟩) 0 0) 0 ((EA .u8).encs [])] [Ty.item TForm.sl a0.images [u0_1] fp0, Ty.item ((EI .i64).ty.sl) a0.degrees [u0_0] fp0, Ty.item TAlg a0 [u0_0, u0_1] fp0]) (([] : List A8).length) ?_ ?_ (s0 := []) ?_ h
  ·clear hC h
   rintro i166 s167 e_ w174 next170 K171 hi173 ⟨v168, hS_, hC⟩ h hK172
   refine wp_seq ?_
   refine sr ?_
   refine s_mv (v := .int .i64 (i166 : Int)) (sx hS_ 4 rfl) ?_
   refine s_mv (v := .slice (some ⟨b8, 0, none⟩) 0 0) (sx hS_ 2 rfl) ?_
   obtain ⟨Ad175, c176, hv177⟩ := own_form (hC.getM 1 rfl)
   refine s_len Try.underlying59 (tr rfl hv177) ?_
   refine s_lss rfl rfl ?_
   refine dn ?_
   refine cw_true rfl (decide_eq_true (by first | omega | (simp only [List.length_nil] at *; omega))) ?_
   refine wp_skip ?_
   refine then_norm ?_
   refine wp_seq ?_
   refine wp_block ?_
   refine sr ?_
   refine s_mv (v := .slice (some ⟨b8, 0, none⟩) 0 0) (sx hS_ 2 rfl) ?_
   refine s_mv (v := .int .i64 (i166 : Int)) (sx hS_ 4 rfl) ?_
   obtain ⟨Ad178, c179, hv180⟩ := own_formE (hC.getM 1 rfl) (Nat.lt_of_le_of_lt (Nat.zero_le _) hi173)
   refine s_iaddrO (i166 * 8) Try.underlying59 ag49.size (tr rfl hv180) rfl (Int.natCast_nonneg _) (Int.ofNat_lt.2 hi173) rfl ?_
   refine s_loadCA (A8.enc .u8 ([].getD i166 default)) (own_cellsE (hC.getM 1 rfl) hv180 i166 hi173) ag49 rfl rfl ?_
   refine s_call [.agg (List.toArray (A8.enc .u8 ([].getD i166 default)))] _ Try.func112 rfl rfl rfl (c_spec_l02Word ([].getD i166 default) h _) (fun ret181 w183 hR182 => ?_)
   obtain ⟨r184, rfl, h, hB185⟩ := hR182
   refine ⟨_, rfl, ?_⟩
   replace hC := hC.grow hB185
   refine s_mv (v := .int .i64 a1) (sx hS_ 0 rfl) ?_
   refine s_geq rfl rfl ?_
   refine dn ?_
   refine cw_cond rfl (fun hb186 => ?_) (fun hb186 => ?_)
   ·replace h := ift h (ct hb186)
    refine cw_region ?_
    refine s_mv (v := v168) (sx hS_ 3 rfl) ?_
    refine s_mv (v := .slice (some ⟨b8, 0, none⟩) 0 0) (sx hS_ 2 rfl) ?_
    refine s_mv (v := .int .i64 (i166 : Int)) (sx hS_ 4 rfl) ?_
    obtain ⟨Ad187, c188, hv189⟩ := own_formE (hC.getM 1 rfl) (Nat.lt_of_le_of_lt (Nat.zero_le _) hi173)
    refine s_iaddrO (i166 * 8) Try.underlying59 ag49.size (tr rfl hv189) rfl (Int.natCast_nonneg _) (Int.ofNat_lt.2 hi173) rfl ?_
    refine s_loadCA (A8.enc .u8 ([].getD i166 default)) (own_cellsE (hC.getM 1 rfl) hv189 i166 hi173) ag49 rfl rfl ?_
    refine s_bslice (sz := 8) hC [(0, .agg (List.toArray (A8.enc .u8 ([].getD i166 default))))] ((EA .u8).encs [[].getD i166 default]) rfl (fun _ => bs59_1 ([].getD i166 default) _) rfl (by decide) fun b190 w191 hB_ hC => ?_
    obtain ⟨hm195, h⟩ := h
    refine s_app hC 1 Try.underlying59 el49 rfl (by decide) (by decide) rfl (own_rdr (hC.getM 0 rfl)) (fun q hq => Enc.encs_one' (E := (EA .u8)) _ q hq) rfl rfl hm195 fun v193 w194 hC => ?_
    replace hC := own_re hC 1 ((s167 ++ [[].getD i166 default]).length) ((EA .u8).encs (s167 ++ [[].getD i166 default])) rfl (by simp) (by first | (simp [Enc.encs_append]; done) | simp [Enc.encs_append, Enc.encs])
    refine s_as (v := v193) rfl ?_
    refine done ?_
    refine blk_norm ?_
    refine then_norm ?_
    refine cw_region ?_
    refine s_mv (v := .int .i64 (i166 : Int)) (sx hS_ 4 rfl) ?_
    refine s_add rfl rfl ?_
    refine s_as (v := .int .i64 (IntKind.i64.wrap ((i166 : Int) + 1))) rfl ?_
    refine done ?_
    replace hC := hC.sM [1, 2] (M' := [own 49 8 v193 ((s167 ++ [[].getD i166 default]).length) ((EA .u8).encs (s167 ++ [[].getD i166 default])), own 49 8 (.slice (some ⟨b8, 0, none⟩) 0 0) 0 ((EA .u8).encs [])]) (by decide) rfl
    exact hK172 (s167 ++ [[].getD i166 default]) _ _ ⟨v193, (sk (sx hS_ 0 rfl) (sk (sx hS_ 1 rfl) (sk (sx hS_ 2 rfl) (sk rfl (sk (tr rfl (congrArg _ (wrap64_nat hi173 hN169))) sn))))), hC⟩ h
   ·replace h := iff_ h (cf hb186)
    refine wp_skip ?_
    refine blk_norm ?_
    refine then_norm ?_
    refine cw_region ?_
    refine s_mv (v := .int .i64 (i166 : Int)) (sx hS_ 4 rfl) ?_
    refine s_add rfl rfl ?_
    refine s_as (v := .int .i64 (IntKind.i64.wrap ((i166 : Int) + 1))) rfl ?_
    refine done ?_
    exact hK172 s167 _ _ ⟨v168, (sk (sx hS_ 0 rfl) (sk (sx hS_ 1 rfl) (sk (sx hS_ 2 rfl) (sk (sx hS_ 3 rfl) (sk (tr rfl (congrArg _ (wrap64_nat hi173 hN169))) sn))))), hC⟩ h
  ·clear hC h
   rintro s167 e_ w196 K171 ⟨v168, hS_, hC⟩ h
   refine wp_seq ?_
   refine sr ?_
   refine s_mv (v := .int .i64 (([] : List A8).length : Int)) (sx hS_ 4 rfl) ?_
   refine s_mv (v := .slice (some ⟨b8, 0, none⟩) 0 0) (sx hS_ 2 rfl) ?_
   obtain ⟨Ad197, c198, hv199⟩ := own_form (hC.getM 1 rfl)
   refine s_len Try.underlying59 (tr rfl hv199) ?_
   refine s_lss rfl rfl ?_
   refine dn ?_
   refine cw_false rfl (decide_eq_false (by first | omega | (simp only [List.length_nil] at *; omega))) ?_
   refine wp_exit (then_exit (then_exit (exit_in ?_)))
   refine then_norm ?_
   refine sr ?_
   refine s_mv (v := v168) (sx hS_ 3 rfl) ?_
   refine s_as (v := v168) rfl ?_
   refine dn ?_
   refine wp_ret ?_
   refine ret1 (fn := Try.f62) rfl ?_ ⟨s167, v168, (Option.toList (Value.ownBlock v168)), rfl, h, (own_item (hC.getM 0 rfl)), (own_fresh hC 0 rfl), hC.below⟩ (.inl rfl)
   exact res_tmp rfl
  ·skip
   replace hC := hC.sM [0, 1] (M' := [own 49 8 (.slice (some ⟨b11, 0, none⟩) 0 0) 0 ((EA .u8).encs []), own 49 8 (.slice (some ⟨b8, 0, none⟩) 0 0) 0 ((EA .u8).encs [])]) (by decide) rfl
   exact ⟨.slice (some ⟨b11, 0, none⟩) 0 0, (sk rfl (sk rfl (sk rfl (sk rfl (sk rfl sn))))), hC⟩
def f_spec_DimensionOfF (a0 : Alg) (a1 : Int) (a2 : Int) (K : Int → Int → Prop) : Prop :=
 f_spec_l10Minimal a0 (fun r11 => (if r11 = 0 then f_spec_l01In a1 0 20 (fun r17 => (if ¬ (r17 = true) then (if 2 = 0 then f_spec_l03Code a0 a2 (fun r24 => (if r24 ≠ 0 then K 0 r24 else f_spec_l10Of a0 a1 a2 (fun r30 => K (r30.length : Int) 0))) else (if 2 ≠ 0 then K 0 2 else f_spec_l10Of a0 a1 a2 (fun r47 => K (r47.length : Int) 0))) else f_spec_l03Code a0 a2 (fun r63 => (if r63 ≠ 0 then K 0 r63 else f_spec_l10Of a0 a1 a2 (fun r69 => K (r69.length : Int) 0))))) else (if r11 ≠ 0 then K 0 r11 else f_spec_l10Of a0 a1 a2 (fun r86 => K (r86.length : Int) 0))))
theorem c_spec_DimensionOfF (a0 : Alg) (a1 : Int) (a2 : Int) {u0_0 : Value} {u0_1 : Value} {fp0 : List Nat} {K : Int → Int → Prop} (h : f_spec_DimensionOfF a0 a1 a2 K) (w0 : World) (q0 : TAlg.rep a0 [u0_0, u0_1] fp0 w0) :
  Calls Try.prog 19 #[.agg #[u0_0, u0_1], .int .i64 a1, .int .i64 a2] w0 fun e w' => ∃ (r0 : Int) (r1 : Int), 
   e = .returned (.tuple #[.int .i64 r0, .int .i64 r1]) ∧ K r0 r1 ∧ Bel w0 w' := by
 unfold f_spec_DimensionOfF at h
 refine calls_of (args := [.agg #[u0_0, u0_1], .int .i64 a1, .int .i64 a2]) Try.func19 rfl 31 Try.ntmps19 (Nat.le_of_ble_eq_true rfl) ?_
 have hC := Ctx.start (X := Nox) w0 [Ty.item TAlg a0 [u0_0, u0_1] fp0] (by simp only [List.mem_cons, List.not_mem_nil, or_false, forall_eq_or_imp, forall_eq]; exact q0)
 have hp2 := (hC.getP 0 rfl)
 replace hC := hC.derive 0 rfl (Ty.item ((EI .i64).ty.sl) a0.degrees [u0_0] fp0) (fun _ => (alg_parts hp2).1) (fun _ hb_ => hb_)
 replace hC := hC.derive 1 rfl (Ty.item TForm.sl a0.images [u0_1] fp0) (fun _ => (alg_parts hp2).2) (fun _ hb_ => hb_)
 refine sr ?_
 refine s_box (v := .agg #[u0_0, u0_1]) hC [u0_0, u0_1] rfl rfl fun b5 w7 hB_ hC => ?_
 refine s_as (v := .int .i64 0) rfl ?_
 refine s_as (v := .int .i64 0) rfl ?_
 refine dn ?_
 refine sr ?_
 refine s_loadA hC 0 [u0_0, u0_1] rfl ag32 rfl rfl rfl ?_
 refine s_call [.agg #[u0_0, u0_1]] _ Try.func59 rfl rfl rfl (c_spec_l10Minimal a0 h _ (alg_mk (hC.getP 1 rfl) (hC.getP 0 rfl))) (fun ret8 w10 hR9 => ?_)
 obtain ⟨r11, rfl, h, hB12⟩ := hR9
 refine ⟨_, rfl, ?_⟩
 replace hC := hC.grow hB12
 refine s_as (v := .int .i64 r11) rfl ?_
 refine dn ?_
 refine wp_seq ?_
 refine sr ?_
 refine s_mv (v := .int .i64 r11) rfl ?_
 refine s_eql rfl rfl ?_
 refine s_mv (v := .bool (decide (r11 = 0))) rfl ?_
 refine bsplit (decide (r11 = 0)) (fun hb13 => ?_) (fun hb13 => ?_)
 ·replace h := ift h (ct hb13)
  refine guardOn 2 13 rfl rfl hb13 ?_
  refine s_mv (v := .int .i64 a1) rfl ?_
  refine guardOn 2 13 rfl rfl hb13 ?_
  refine s_call [.int .i64 a1, .int .i64 0, .int .i64 20] _ Try.func60 rfl rfl rfl (c_spec_l01In a1 0 20 h _) (fun ret14 w16 hR15 => ?_)
  obtain ⟨r17, rfl, h, hB18⟩ := hR15
  refine ⟨_, rfl, ?_⟩
  replace hC := hC.grow hB18
  refine guardOn 2 13 rfl rfl hb13 ?_
  refine s_not rfl ?_
  refine s_pick (v := .bool (!r17)) (b := true) (tr rfl (congrArg _ hb13)) rfl ?_
  refine dn ?_
  refine cw_cond rfl (fun hb19 => ?_) (fun hb19 => ?_)
  ·replace h := ift h (ne_t (not_t hb19))
   refine cw_region ?_
   refine s_as (v := .int .i64 2) rfl ?_
   refine dn ?_
   refine wp_seq ?_
   refine sr ?_
   refine s_mv (v := .int .i64 2) rfl ?_
   refine s_eql rfl rfl ?_
   refine dn ?_
   refine cw_cond rfl (fun hb20 => ?_) (fun hb20 => ?_)
   ·replace h := ift h (ct hb20)
    refine cw_region ?_
    refine s_loadA hC 0 [u0_0, u0_1] rfl ag32 rfl rfl rfl ?_
    refine s_mv (v := .int .i64 a2) rfl ?_
    refine s_call [.agg #[u0_0, u0_1], .int .i64 a2] _ Try.func61 rfl rfl rfl (c_spec_l03Code a0 a2 h _ (alg_mk (hC.getP 1 rfl) (hC.getP 0 rfl))) (fun ret21 w23 hR22 => ?_)
    obtain ⟨r24, rfl, h, hB25⟩ := hR22
    refine ⟨_, rfl, ?_⟩
    replace hC := hC.grow hB25
    refine s_as (v := .int .i64 r24) rfl ?_
    refine dn ?_
    refine wp_seq ?_
    refine sr ?_
    refine s_mv (v := .int .i64 r24) rfl ?_
    refine s_neq rfl rfl ?_
    refine dn ?_
    refine cw_cond rfl (fun hb26 => ?_) (fun hb26 => ?_)
    ·replace h := ift h (ct hb26)
     refine sr ?_
     refine s_mv (v := .int .i64 r24) rfl ?_
     refine s_as (v := .int .i64 0) rfl ?_
     refine s_as (v := .int .i64 r24) rfl ?_
     refine dn ?_
     refine wp_ret (then_ret ?_)
     refine ret2 (fn := Try.f19) rfl ?_ ?_ ⟨0, r24, rfl, h, hC.below⟩ (.inl rfl)
     ·exact res_tmp rfl
     ·exact res_tmp rfl
    ·replace h := iff_ h (cf hb26)
     refine wp_skip ?_
     refine then_norm ?_
     refine sr ?_
     refine s_loadA hC 0 [u0_0, u0_1] rfl ag32 rfl rfl rfl ?_
     refine s_mv (v := .int .i64 a1) rfl ?_
     refine s_mv (v := .int .i64 a2) rfl ?_
     refine s_call [.agg #[u0_0, u0_1], .int .i64 a1, .int .i64 a2] _ Try.func62 rfl rfl rfl (c_spec_l10Of a0 a1 a2 h _ (alg_mk (hC.getP 1 rfl) (hC.getP 0 rfl))) (fun ret27 w29 hR28 => ?_)
     obtain ⟨r30, u31, f32, rfl, h, hr33, hf34, hB35⟩ := hR28
     refine ⟨_, rfl, ?_⟩
     replace hC := hC.push hB35 (Tr.item (Tr.sl 49 ((EA .u8).tr)) r30 [u31] f32) hr33 hf34
     obtain ⟨ho37, hf38⟩ := flat_tr (hC.getM 0 rfl).1
     subst hf38
     replace hC := hC.recast (c := own 49 8 u31 r30.length ((EA .u8).encs r30)) (fun _ h_ => h_) (fun _ => ho37)
     obtain ⟨Ad40, c41, hv42⟩ := own_form (hC.getM 0 rfl)
     refine s_len Try.underlying59 (tr rfl hv42) ?_
     refine s_as (v := .int .i64 (r30.length : Int)) rfl ?_
     refine s_as (v := .int .i64 0) rfl ?_
     refine dn ?_
     refine wp_ret ?_
     refine ret2 (fn := Try.f19) rfl ?_ ?_ ⟨(r30.length : Int), 0, rfl, h, hC.below⟩ (.inl rfl)
     ·exact res_tmp rfl
     ·exact res_tmp rfl
   ·replace h := iff_ h (cf hb20)
    refine wp_skip ?_
    refine then_norm ?_
    refine wp_seq ?_
    refine sr ?_
    refine s_mv (v := .int .i64 2) rfl ?_
    refine s_neq rfl rfl ?_
    refine dn ?_
    refine cw_cond rfl (fun hb43 => ?_) (fun hb43 => ?_)
    ·replace h := ift h (ct hb43)
     refine sr ?_
     refine s_mv (v := .int .i64 2) rfl ?_
     refine s_as (v := .int .i64 0) rfl ?_
     refine s_as (v := .int .i64 2) rfl ?_
     refine dn ?_
     refine wp_ret (then_ret ?_)
     refine ret2 (fn := Try.f19) rfl ?_ ?_ ⟨0, 2, rfl, h, hC.below⟩ (.inl rfl)
     ·exact res_tmp rfl
     ·exact res_tmp rfl
    ·replace h := iff_ h (cf hb43)
     refine wp_skip ?_
     refine then_norm ?_
     refine sr ?_
     refine s_loadA hC 0 [u0_0, u0_1] rfl ag32 rfl rfl rfl ?_
     refine s_mv (v := .int .i64 a1) rfl ?_
     refine s_mv (v := .int .i64 a2) rfl ?_
     refine s_call [.agg #[u0_0, u0_1], .int .i64 a1, .int .i64 a2] _ Try.func62 rfl rfl rfl (c_spec_l10Of a0 a1 a2 h _ (alg_mk (hC.getP 1 rfl) (hC.getP 0 rfl))) (fun ret44 w46 hR45 => ?_)
     obtain ⟨r47, u48, f49, rfl, h, hr50, hf51, hB52⟩ := hR45
     refine ⟨_, rfl, ?_⟩
     replace hC := hC.push hB52 (Tr.item (Tr.sl 49 ((EA .u8).tr)) r47 [u48] f49) hr50 hf51
     obtain ⟨ho54, hf55⟩ := flat_tr (hC.getM 0 rfl).1
     subst hf55
     replace hC := hC.recast (c := own 49 8 u48 r47.length ((EA .u8).encs r47)) (fun _ h_ => h_) (fun _ => ho54)
     obtain ⟨Ad57, c58, hv59⟩ := own_form (hC.getM 0 rfl)
     refine s_len Try.underlying59 (tr rfl hv59) ?_
     refine s_as (v := .int .i64 (r47.length : Int)) rfl ?_
     refine s_as (v := .int .i64 0) rfl ?_
     refine dn ?_
     refine wp_ret ?_
     refine ret2 (fn := Try.f19) rfl ?_ ?_ ⟨(r47.length : Int), 0, rfl, h, hC.below⟩ (.inl rfl)
     ·exact res_tmp rfl
     ·exact res_tmp rfl
  ·replace h := iff_ h (not_not_intro ((not_f hb19)))
   refine wp_skip ?_
   refine then_norm ?_
   refine wp_seq ?_
   refine sr ?_
   refine s_mv (v := .int .i64 r11) rfl ?_
   refine s_eql rfl rfl ?_
   refine dn ?_
   refine cw_true rfl hb13 ?_
   refine cw_region ?_
   refine s_loadA hC 0 [u0_0, u0_1] rfl ag32 rfl rfl rfl ?_
   refine s_mv (v := .int .i64 a2) rfl ?_
   refine s_call [.agg #[u0_0, u0_1], .int .i64 a2] _ Try.func61 rfl rfl rfl (c_spec_l03Code a0 a2 h _ (alg_mk (hC.getP 1 rfl) (hC.getP 0 rfl))) (fun ret60 w62 hR61 => ?_)
   obtain ⟨r63, rfl, h, hB64⟩ := hR61
   refine ⟨_, rfl, ?_⟩
   replace hC := hC.grow hB64
   refine s_as (v := .int .i64 r63) rfl ?_
   refine dn ?_
   refine wp_seq ?_
   refine sr ?_
   refine s_mv (v := .int .i64 r63) rfl ?_
   refine s_neq rfl rfl ?_
   refine dn ?_
   refine cw_cond rfl (fun hb65 => ?_) (fun hb65 => ?_)
   ·replace h := ift h (ct hb65)
    refine sr ?_
    refine s_mv (v := .int .i64 r63) rfl ?_
    refine s_as (v := .int .i64 0) rfl ?_
    refine s_as (v := .int .i64 r63) rfl ?_
    refine dn ?_
    refine wp_ret (then_ret ?_)
    refine ret2 (fn := Try.f19) rfl ?_ ?_ ⟨0, r63, rfl, h, hC.below⟩ (.inl rfl)
    ·exact res_tmp rfl
    ·exact res_tmp rfl
   ·replace h := iff_ h (cf hb65)
    refine wp_skip ?_
    refine then_norm ?_
    refine sr ?_
    refine s_loadA hC 0 [u0_0, u0_1] rfl ag32 rfl rfl rfl ?_
    refine s_mv (v := .int .i64 a1) rfl ?_
    refine s_mv (v := .int .i64 a2) rfl ?_
    refine s_call [.agg #[u0_0, u0_1], .int .i64 a1, .int .i64 a2] _ Try.func62 rfl rfl rfl (c_spec_l10Of a0 a1 a2 h _ (alg_mk (hC.getP 1 rfl) (hC.getP 0 rfl))) (fun ret66 w68 hR67 => ?_)
    obtain ⟨r69, u70, f71, rfl, h, hr72, hf73, hB74⟩ := hR67
    refine ⟨_, rfl, ?_⟩
    replace hC := hC.push hB74 (Tr.item (Tr.sl 49 ((EA .u8).tr)) r69 [u70] f71) hr72 hf73
    obtain ⟨ho76, hf77⟩ := flat_tr (hC.getM 0 rfl).1
    subst hf77
    replace hC := hC.recast (c := own 49 8 u70 r69.length ((EA .u8).encs r69)) (fun _ h_ => h_) (fun _ => ho76)
    obtain ⟨Ad79, c80, hv81⟩ := own_form (hC.getM 0 rfl)
    refine s_len Try.underlying59 (tr rfl hv81) ?_
    refine s_as (v := .int .i64 (r69.length : Int)) rfl ?_
    refine s_as (v := .int .i64 0) rfl ?_
    refine dn ?_
    refine wp_ret ?_
    refine ret2 (fn := Try.f19) rfl ?_ ?_ ⟨(r69.length : Int), 0, rfl, h, hC.below⟩ (.inl rfl)
    ·exact res_tmp rfl
    ·exact res_tmp rfl
 ·replace h := iff_ h (cf hb13)
  refine guardOff (b := false) 2 13 rfl (tr rfl (congrArg _ hb13)) (by decide) ?_
  refine guardOff (b := false) 2 13 rfl (tr rfl (congrArg _ hb13)) (by decide) ?_
  refine guardOff (b := false) 2 13 rfl (tr rfl (congrArg _ hb13)) (by decide) ?_
  refine s_pick (v := .bool false) (b := false) (tr rfl (congrArg _ hb13)) rfl ?_
  refine dn ?_
  refine cw_false rfl rfl ?_
  refine wp_skip ?_
  refine then_norm ?_
  refine wp_seq ?_
  refine sr ?_
  refine s_mv (v := .int .i64 r11) rfl ?_
  refine s_eql rfl rfl ?_
  refine dn ?_
  refine cw_false rfl hb13 ?_
  refine wp_skip ?_
  refine then_norm ?_
  refine wp_seq ?_
  refine sr ?_
  refine s_mv (v := .int .i64 r11) rfl ?_
  refine s_neq rfl rfl ?_
  refine dn ?_
  refine cw_cond rfl (fun hb82 => ?_) (fun hb82 => ?_)
  ·replace h := ift h (ct hb82)
   refine sr ?_
   refine s_mv (v := .int .i64 r11) rfl ?_
   refine s_as (v := .int .i64 0) rfl ?_
   refine s_as (v := .int .i64 r11) rfl ?_
   refine dn ?_
   refine wp_ret (then_ret ?_)
   refine ret2 (fn := Try.f19) rfl ?_ ?_ ⟨0, r11, rfl, h, hC.below⟩ (.inl rfl)
   ·exact res_tmp rfl
   ·exact res_tmp rfl
  ·replace h := iff_ h (cf hb82)
   refine wp_skip ?_
   refine then_norm ?_
   refine sr ?_
   refine s_loadA hC 0 [u0_0, u0_1] rfl ag32 rfl rfl rfl ?_
   refine s_mv (v := .int .i64 a1) rfl ?_
   refine s_mv (v := .int .i64 a2) rfl ?_
   refine s_call [.agg #[u0_0, u0_1], .int .i64 a1, .int .i64 a2] _ Try.func62 rfl rfl rfl (c_spec_l10Of a0 a1 a2 h _ (alg_mk (hC.getP 1 rfl) (hC.getP 0 rfl))) (fun ret83 w85 hR84 => ?_)
   obtain ⟨r86, u87, f88, rfl, h, hr89, hf90, hB91⟩ := hR84
   refine ⟨_, rfl, ?_⟩
   replace hC := hC.push hB91 (Tr.item (Tr.sl 49 ((EA .u8).tr)) r86 [u87] f88) hr89 hf90
   obtain ⟨ho93, hf94⟩ := flat_tr (hC.getM 0 rfl).1
   subst hf94
   replace hC := hC.recast (c := own 49 8 u87 r86.length ((EA .u8).encs r86)) (fun _ h_ => h_) (fun _ => ho93)
   obtain ⟨Ad96, c97, hv98⟩ := own_form (hC.getM 0 rfl)
   refine s_len Try.underlying59 (tr rfl hv98) ?_
   refine s_as (v := .int .i64 (r86.length : Int)) rfl ?_
   refine s_as (v := .int .i64 0) rfl ?_
   refine dn ?_
   refine wp_ret ?_
   refine ret2 (fn := Try.f19) rfl ?_ ?_ ⟨(r86.length : Int), 0, rfl, h, hC.below⟩ (.inl rfl)
   ·exact res_tmp rfl
   ·exact res_tmp rfl
def f_slices_IndexFunc_rows_int64_int64 (a0 : List (List Int)) (p1 : (List Int) → (Bool → Prop) → Prop) (K : Int → Prop) : Prop :=
 forN (fun i22 (s23 : Unit) next25 => p1 (a0.getD i22 default) (fun r42 => (if r42 = true then K (i22 : Int) else next25 ()))) (fun (s23 : Unit) => K (-1)) a0.length 0 ()
theorem c_slices_IndexFunc_rows_int64_int64 (a0 : List (List Int)) (p1 : (List Int) → (Bool → Prop) → Prop) {u0_0 : Value} {fp0 : List Nat} {K : Int → Prop} (h : f_slices_IndexFunc_rows_int64_int64 a0 p1 K) (w0 : World) (q0 : (((EI .i64).ty.sl).sl).rep a0 [u0_0] fp0 w0) {g1 : Nat} {cp1 : List Value} {fn1 : Func} (hf1 : Try.prog.funcs[g1]? = some fn1) (hb1 : fn1.body.isNone = false) (hn1 : (fn1.name == "runtime.NumGoroutine") = false) (hp1 : ∀ (y0 : List Int) (yu0_0 : Value) (yf0 : List Nat) (K_ : Bool → Prop) (w_ : World), Bel w0 w_ → ((EI .i64).ty.sl).rep y0 [yu0_0] yf0 w_ → p1 y0 K_ → Calls Try.prog g1 (List.toArray ([yu0_0] ++ cp1)) w_ fun e w' => ∃ (z0 : Bool), e = .returned (.bool z0) ∧ K_ z0 ∧ Bel w_ w') :
  Calls Try.prog 173 #[u0_0, .func (.func g1) #[] (List.toArray cp1)] w0 fun e w' => ∃ (r0 : Int), 
   e = .returned (.int .i64 r0) ∧ K r0 ∧ Bel w0 w' := by
 unfold f_slices_IndexFunc_rows_int64_int64 at h
 refine calls_of (args := [u0_0, .func (.func g1) #[] (List.toArray cp1)]) Try.func173 rfl 19 Try.ntmps173 (Nat.le_of_ble_eq_true rfl) ?_
 have hC := Ctx.start (X := Nox) w0 [Ty.item (((EI .i64).ty.sl).sl) a0 [u0_0] fp0] (by simp only [List.mem_cons, List.not_mem_nil, or_false, forall_eq_or_imp, forall_eq]; exact q0)
 refine sr ?_
 refine s_as (v := .int .i64 0) rfl ?_
 refine dn ?_
 refine wp_seq ?_
 refine sr ?_
 refine s_mv (v := u0_0) rfl ?_
 obtain ⟨Ad2, c3, hv4⟩ := sl_len (hC.getP 0 rfl)
 refine s_len Try.underlying27 (tr rfl hv4) ?_
 refine s_mv (v := .int .i64 0) rfl ?_
 refine dn ?_
 refine wp_block ?_
 have hN24 : a0.length ≤ 9223372036854775807 := sl_max (hC.getP 0 rfl)
 refine loopN (S := Unit) _ _ (fun i22 s23 e_ w_ => Slots e_ [(0, u0_0), (1, .func (.func g1) #[] (List.toArray cp1)), (4, .int .i64 0), (7, .int .i64 (a0.length : Int)), (8, .int .i64 (i22 : Int))] ∧ Ctx Nox w0 w_ [] [Ty.item (((EI .i64).ty.sl).sl) a0 [u0_0] fp0]) a0.length ?_ ?_ (s0 := ()) ?_ h
 ·clear hC h
  rintro i22 s23 e_ w29 next25 K26 hi28 ⟨hS_, hC⟩ h hK27
  refine sr ?_
  refine s_lss (sx hS_ 4 rfl) (sx hS_ 3 rfl) ?_
  refine dn ?_
  refine wp_seq ?_
  refine cw_true rfl (decide_eq_true (by omega)) ?_
  refine wp_skip ?_
  refine then_norm ?_
  refine wp_seq ?_
  refine wp_block ?_
  refine sr ?_
  refine s_mv (v := .int .i64 (i22 : Int)) (sx hS_ 4 rfl) ?_
  refine s_as (v := .int .i64 (i22 : Int)) rfl ?_
  refine dn ?_
  refine sr ?_
  refine s_mv (v := .func (.func g1) #[] (List.toArray cp1)) (sx hS_ 1 rfl) ?_
  refine s_mv (v := u0_0) (sx hS_ 0 rfl) ?_
  refine s_mv (v := .int .i64 (i22 : Int)) rfl ?_
  obtain ⟨Ad30, c31, hv32⟩ := sl_form (hC.getP 0 rfl) i22 hi28
  refine s_iaddrS (len := a0.length) Try.underlying27 sc22.size (tr rfl hv32) rfl (Int.natCast_nonneg _) (Int.ofNat_lt.2 hi28) ?_
  obtain ⟨cs_, hl34, hc35, hr36⟩ := sl_cells (hC.getP 0 rfl) hv32 i22 hi28
  obtain ⟨u33, rfl⟩ := List.length_eq_one_iff.1 hl34
  clear hl34
  rw [getD_eq _ _ hi28] at hr36
  replace hC := hC.derive 0 rfl (Ty.item ((EI .i64).ty.sl) (a0.getD i22 default) [u33] fp0) (fun _ => hr36) (fun _ hb_ => hb_)
  refine s_loadCS (u33) hc35 sc22 rfl ?_
  refine s_callv [u33] _ rfl hf1 hb1 hn1 rfl (hp1 _ _ _ _ _ hC.below (hC.getP 0 rfl) h) (fun ret38 w40 hR39 => ?_)
  obtain ⟨r42, rfl, h, hB41⟩ := hR39
  refine ⟨_, rfl, ?_⟩
  replace hC := hC.grow hB41
  refine dn ?_
  refine cw_cond rfl (fun hb43 => ?_) (fun hb43 => ?_)
  ·replace h := ift h (hb43)
   refine sr ?_
   refine s_mv (v := .int .i64 (i22 : Int)) rfl ?_
   refine s_as (v := .int .i64 (i22 : Int)) rfl ?_
   refine dn ?_
   refine wp_ret (blk_ret (then_ret (then_ret (blk_ret (then_ret ?_)))))
   refine ret1 (fn := Try.f173) rfl ?_ ⟨(i22 : Int), rfl, h, hC.below⟩ (.inl rfl)
   exact res_tmp rfl
  ·replace h := iff_ h (ne_t hb43)
   refine wp_skip ?_
   refine blk_norm ?_
   refine then_norm ?_
   refine cw_region ?_
   refine s_add (sx hS_ 4 rfl) rfl ?_
   refine s_mv (v := .int .i64 (IntKind.i64.wrap ((i22 : Int) + 1))) rfl ?_
   refine done ?_
   replace hC := hC.sP [1] (Ps' := [Ty.item (((EI .i64).ty.sl).sl) a0 [u0_0] fp0]) rfl
   exact hK27 () _ _ ⟨(sk (sx hS_ 0 rfl) (sk (sx hS_ 1 rfl) (sk (sx hS_ 2 rfl) (sk (sx hS_ 3 rfl) (sk (tr rfl (congrArg _ (wrap64_nat hi28 hN24))) sn))))), hC⟩ h
 ·clear hC h
  rintro s23 e_ w44 K26 ⟨hS_, hC⟩ h
  refine sr ?_
  refine s_lss (sx hS_ 4 rfl) (sx hS_ 3 rfl) ?_
  refine dn ?_
  refine wp_seq ?_
  refine cw_false rfl (decide_eq_false (by omega)) ?_
  refine wp_exit (then_exit (then_exit (exit_in ?_)))
  refine then_norm ?_
  refine sr ?_
  refine s_as (v := .int .i64 (-1)) rfl ?_
  refine dn ?_
  refine wp_ret ?_
  refine ret1 (fn := Try.f173) rfl ?_ ⟨(-1), rfl, h, hC.below⟩ (.inl rfl)
  exact res_tmp rfl
 ·skip
  exact ⟨(sk rfl (sk rfl (sk rfl (sk rfl (sk rfl sn))))), hC⟩
def f_slices_ContainsFunc_rows_int64_int64 (a0 : List (List Int)) (p1 : (List Int) → (Bool → Prop) → Prop) (K : Bool → Prop) : Prop :=
 f_slices_IndexFunc_rows_int64_int64 a0 p1 (fun r5 => K (decide (r5 ≥ 0)))
theorem c_slices_ContainsFunc_rows_int64_int64 (a0 : List (List Int)) (p1 : (List Int) → (Bool → Prop) → Prop) {u0_0 : Value} {fp0 : List Nat} {K : Bool → Prop} (h : f_slices_ContainsFunc_rows_int64_int64 a0 p1 K) (w0 : World) (q0 : (((EI .i64).ty.sl).sl).rep a0 [u0_0] fp0 w0) {g1 : Nat} {cp1 : List Value} {fn1 : Func} (hf1 : Try.prog.funcs[g1]? = some fn1) (hb1 : fn1.body.isNone = false) (hn1 : (fn1.name == "runtime.NumGoroutine") = false) (hp1 : ∀ (y0 : List Int) (yu0_0 : Value) (yf0 : List Nat) (K_ : Bool → Prop) (w_ : World), Bel w0 w_ → ((EI .i64).ty.sl).rep y0 [yu0_0] yf0 w_ → p1 y0 K_ → Calls Try.prog g1 (List.toArray ([yu0_0] ++ cp1)) w_ fun e w' => ∃ (z0 : Bool), e = .returned (.bool z0) ∧ K_ z0 ∧ Bel w_ w') :
  Calls Try.prog 162 #[u0_0, .func (.func g1) #[] (List.toArray cp1)] w0 fun e w' => ∃ (r0 : Bool), 
   e = .returned (.bool r0) ∧ K r0 ∧ Bel w0 w' := by
 unfold f_slices_ContainsFunc_rows_int64_int64 at h
 refine calls_of (args := [u0_0, .func (.func g1) #[] (List.toArray cp1)]) Try.func162 rfl 9 Try.ntmps162 (Nat.le_of_ble_eq_true rfl) ?_
 have hC := Ctx.start (X := Nox) w0 [Ty.item (((EI .i64).ty.sl).sl) a0 [u0_0] fp0] (by simp only [List.mem_cons, List.not_mem_nil, or_false, forall_eq_or_imp, forall_eq]; exact q0)
 refine sr ?_
 refine s_as (v := .bool false) rfl ?_
 refine dn ?_
 refine sr ?_
 refine s_mv (v := u0_0) rfl ?_
 refine s_mv (v := .func (.func g1) #[] (List.toArray cp1)) rfl ?_
 refine s_call [u0_0, .func (.func g1) #[] (List.toArray cp1)] _ Try.func173 rfl rfl rfl (c_slices_IndexFunc_rows_int64_int64 a0 p1 h _ (hC.getP 0 rfl) hf1 hb1 hn1 (fun x0_ x1_ x2_ K_ w_ hb_ => hp1 x0_ x1_ x2_ K_ w_ (below_on hC.below hb_))) (fun ret2 w4 hR3 => ?_)
 obtain ⟨r5, rfl, h, hB6⟩ := hR3
 refine ⟨_, rfl, ?_⟩
 replace hC := hC.grow hB6
 refine s_geq rfl rfl ?_
 refine s_as (v := .bool (decide (r5 ≥ 0))) rfl ?_
 refine dn ?_
 refine wp_ret ?_
 refine ret1 (fn := Try.f162) rfl ?_ ⟨decide (r5 ≥ 0), rfl, h, hC.below⟩ (.inl rfl)
 exact res_tmp rfl
def f_impl_generator (a0 : Int) (K : A8 → Prop) : Prop :=
 ((0 ≤ a0 ∧ a0 < 8) ∧ K (A8.zero.set a0.toNat 1))
theorem c_impl_generator (a0 : Int)  {K : A8 → Prop} (h : f_impl_generator a0 K) (w0 : World)  :
  Calls Try.prog 72 #[.int .i64 a0] w0 fun e w' => ∃ (r0 : A8), 
   e = .returned (.agg (List.toArray (A8.enc .i64 r0))) ∧ K r0 ∧ Bel w0 w' := by
 unfold f_impl_generator at h
 refine calls_of (args := [.int .i64 a0]) Try.func72 rfl 8 Try.ntmps72 (Nat.le_of_ble_eq_true rfl) ?_
 have hC := Ctx.start (X := Nox) w0 [] (by simp)
 refine sr ?_
 refine s_alloc hC (A8.enc .i64 A8.zero) z101 rfl fun b1 w3 hB_ hC => ?_
 refine dn ?_
 refine sr ?_
 refine s_build [] rfl (bl101   _) ?_
 refine s_alloc hC (A8.enc .i64 A8.zero) z101 rfl fun b4 w6 hB_ hC => ?_
 refine s_store (v := .agg (List.toArray (A8.enc .i64 A8.zero))) hC 0 (A8.enc .i64 A8.zero) (A8.enc .i64 A8.zero) rfl ag101.size rfl rfl rfl rfl rfl (Nat.le_of_ble_eq_true rfl) rfl fun w7 hC => ?_
 refine dn ?_
 refine sr ?_
 refine s_mv (v := .int .i64 a0) rfl ?_
 obtain ⟨⟨h0_8, h1_9⟩, h⟩ := h
 refine s_iaddrB a0.toNat Try.underlying101 sc3.size rfl rfl h0_8 h1_9 (by omega) ?_
 refine s_store (v := .int .i64 1) hC 0 [.int .i64 1] (A8.enc .i64 (A8.zero.set a0.toNat 1)) rfl sc3.size rfl rfl rfl rfl rfl (show a0.toNat < 8 by omega) (A8.enc_set _ _ _ (show a0.toNat < 8 by omega)) fun w10 hC => ?_
 refine dn ?_
 refine sr ?_
 refine s_loadA hC 0 (A8.enc .i64 (A8.zero.set a0.toNat 1)) rfl ag101 rfl rfl rfl ?_
 refine s_store (v := .agg (List.toArray (A8.enc .i64 (A8.zero.set a0.toNat 1)))) hC 1 (A8.enc .i64 (A8.zero.set a0.toNat 1)) (A8.enc .i64 (A8.zero.set a0.toNat 1)) rfl ag101.size rfl rfl rfl rfl rfl (Nat.le_of_ble_eq_true rfl) rfl fun w11 hC => ?_
 refine dn ?_
 refine wp_ret ?_
 refine ret1 (fn := Try.f72) rfl ?_ ⟨A8.zero.set a0.toNat 1, rfl, h, hC.below⟩ (.inl rfl)
 exact res_cellA hC 1 rfl ag101 rfl rfl
def f_impl_linearRow (a0 : List Int) (a1 : Vc.Form) (K : List Int → Prop) : Prop :=
 f_impl_sumOf a1 (fun r11 => forN (fun i52 (s53 : (List Int)) next56 => f_impl_generator (i52 : Int) (fun r64 => (Room (s53.length + 1) 8 ∧ next56 (s53 ++ [(mget r11 r64).getD 0])))) (fun (s53 : (List Int)) => K s53) a0.length 0 [])
theorem c_impl_linearRow (a0 : List Int) (a1 : Vc.Form) {u0_0 : Value} {u1_0 : Value} {fp0 : List Nat} {fp1 : List Nat} {K : List Int → Prop} (h : f_impl_linearRow a0 a1 K) (w0 : World) (q0 : ((EI .i64).ty.sl).rep a0 [u0_0] fp0 w0) (q1 : TForm.rep a1 [u1_0] fp1 w0) :
  Calls Try.prog 174 #[u0_0, .agg #[u1_0]] w0 fun e w' => ∃ (r0 : List Int) (z0_0 : Value) (fz0 : List Nat), 
   e = .returned (z0_0) ∧ K r0 ∧ (Tr.item (Tr.sl 2 ((EI .i64).tr)) r0 [z0_0] fz0).holds w' ∧ (∀ b, b ∈ fz0 → w0.heap.size ≤ b) ∧ Bel w0 w' := by
 unfold f_impl_linearRow at h
 refine calls_of (args := [u0_0, .agg #[u1_0]]) Try.func174 rfl 25 Try.ntmps174 (Nat.le_of_ble_eq_true rfl) ?_
 have hC := Ctx.start (X := Nox) w0 [Ty.item ((EI .i64).ty.sl) a0 [u0_0] fp0, Ty.item TForm a1 [u1_0] fp1] (by simp only [List.mem_cons, List.not_mem_nil, or_false, forall_eq_or_imp, forall_eq]; exact ⟨q0, q1⟩)
 have hp3 := (hC.getP 1 rfl)
 replace hC := hC.derive 1 rfl (Ty.item ETerm.ty.sl a1.terms [u1_0] fp1) (fun _ => (form_parts hp3)) (fun _ hb_ => hb_)
 refine sr ?_
 refine s_box (v := .agg #[u1_0]) hC [u1_0] rfl rfl fun b5 w7 hB_ hC => ?_
 refine s_as (v := .slice none 0 0) rfl ?_
 refine dn ?_
 refine sr ?_
 refine s_loadA hC 0 [u1_0] rfl ag95 rfl rfl rfl ?_
 refine s_call [.agg #[u1_0]] _ Try.func140 rfl rfl rfl (c_impl_sumOf a1 h _ (form_mk (hC.getP 0 rfl))) (fun ret8 w10 hR9 => ?_)
 obtain ⟨r11, b12, rfl, h, hr13, hf14, hB15⟩ := hR9
 refine ⟨_, rfl, ?_⟩
 replace hC := hC.push hB15 (mapI (kvA .i64) (vvI .i64) b12 r11) hr13 (fun b_ hb_ => by obtain rfl := List.mem_singleton.1 hb_; exact hf14)
 refine s_bslice (sz := 1) hC [] ((EI .i64).encs []) rfl (fun _ => bs22_0  _) rfl (by decide) fun b17 w18 hB_ hC => ?_
 refine s_as (v := .map (some b12)) rfl ?_
 refine s_as (v := .slice (some ⟨b17, 0, none⟩) 0 0) rfl ?_
 refine dn ?_
 refine wp_seq ?_
 refine sr ?_
 refine s_mv (v := u0_0) rfl ?_
 obtain ⟨Ad20, c21, hv22⟩ := sl_len (hC.getP 1 rfl)
 refine s_len Try.underlying22 (tr rfl hv22) ?_
 refine s_mv (v := .int .i64 0) rfl ?_
 refine dn ?_
 refine wp_block ?_
 have hN55 : a0.length ≤ 9223372036854775807 := sl_max (hC.getP 1 rfl)
 refine loopN (S := (List Int)) _ _ (fun i52 s53 e_ w_ => ∃ (v54 : Value), Slots e_ [(4, .slice none 0 0), (5, .map (some b12)), (6, v54), (12, .int .i64 (a0.length : Int)), (13, .int .i64 (i52 : Int))] ∧ Ctx Nox w0 w_ [own 2 1 v54 s53.length ((EI .i64).encs s53), mapI (kvA .i64) (vvI .i64) b12 r11] [Ty.item ETerm.ty.sl a1.terms [u1_0] fp1, Ty.item ((EI .i64).ty.sl) a0 [u0_0] fp0, Ty.item TForm a1 [u1_0] fp1]) a0.length ?_ ?_ (s0 := []) ?_ h
 ·clear hC h
  rintro i52 s53 e_ w60 next56 K57 hi59 ⟨v54, hS_, hC⟩ h hK58
  refine sr ?_
  refine s_lss (sx hS_ 4 rfl) (sx hS_ 3 rfl) ?_
  refine dn ?_
  refine wp_seq ?_
  refine cw_true rfl (decide_eq_true (by omega)) ?_
  refine wp_skip ?_
  refine then_norm ?_
  refine wp_seq ?_
  refine wp_block ?_
  refine sr ?_
  refine s_mv (v := .int .i64 (i52 : Int)) (sx hS_ 4 rfl) ?_
  refine s_as (v := .int .i64 (i52 : Int)) rfl ?_
  refine dn ?_
  refine cw_region ?_
  refine s_mv (v := v54) (sx hS_ 2 rfl) ?_
  refine s_mv (v := .map (some b12)) (sx hS_ 1 rfl) ?_
  refine s_mv (v := .int .i64 (i52 : Int)) rfl ?_
  refine s_call [.int .i64 (i52 : Int)] _ Try.func72 rfl rfl rfl (c_impl_generator (i52 : Int) h _) (fun ret61 w63 hR62 => ?_)
  obtain ⟨r64, rfl, h, hB65⟩ := hR62
  refine ⟨_, rfl, ?_⟩
  replace hC := hC.grow hB65
  refine s_lookup r64 0 (hC.getM 1 rfl) kt101 Try.underlying99 z2 rfl rfl ?_
  refine s_bslice (sz := 1) hC [(0, .int .i64 ((mget r11 r64).getD 0))] ((EI .i64).encs [(mget r11 r64).getD 0]) rfl (fun _ => bs22_1 ((mget r11 r64).getD 0) _) rfl (by decide) fun b66 w67 hB_ hC => ?_
  obtain ⟨hm71, h⟩ := h
  refine s_app hC 1 Try.underlying22 el2 rfl (by decide) (by decide) rfl (own_rdr (hC.getM 0 rfl)) (fun q hq => Enc.encs_one' (E := (EI .i64)) _ q hq) rfl rfl hm71 fun v69 w70 hC => ?_
  replace hC := own_re hC 1 ((s53 ++ [(mget r11 r64).getD 0]).length) ((EI .i64).encs (s53 ++ [(mget r11 r64).getD 0])) rfl (by simp) (by first | (simp [Enc.encs_append]; done) | simp [Enc.encs_append, Enc.encs])
  refine s_as (v := v69) rfl ?_
  refine done ?_
  refine blk_norm ?_
  refine then_norm ?_
  refine cw_region ?_
  refine s_add (sx hS_ 4 rfl) rfl ?_
  refine s_mv (v := .int .i64 (IntKind.i64.wrap ((i52 : Int) + 1))) rfl ?_
  refine done ?_
  replace hC := hC.sM [1, 2] (M' := [own 2 1 v69 ((s53 ++ [(mget r11 r64).getD 0]).length) ((EI .i64).encs (s53 ++ [(mget r11 r64).getD 0])), mapI (kvA .i64) (vvI .i64) b12 r11]) (by decide) rfl
  exact hK58 (s53 ++ [(mget r11 r64).getD 0]) _ _ ⟨v69, (sk (sx hS_ 0 rfl) (sk (sx hS_ 1 rfl) (sk rfl (sk (sx hS_ 3 rfl) (sk (tr rfl (congrArg _ (wrap64_nat hi59 hN55))) sn))))), hC⟩ h
 ·clear hC h
  rintro s53 e_ w72 K57 ⟨v54, hS_, hC⟩ h
  refine sr ?_
  refine s_lss (sx hS_ 4 rfl) (sx hS_ 3 rfl) ?_
  refine dn ?_
  refine wp_seq ?_
  refine cw_false rfl (decide_eq_false (by omega)) ?_
  refine wp_exit (then_exit (then_exit (exit_in ?_)))
  refine then_norm ?_
  refine sr ?_
  refine s_mv (v := v54) (sx hS_ 2 rfl) ?_
  refine s_as (v := v54) rfl ?_
  refine dn ?_
  refine wp_ret ?_
  refine ret1 (fn := Try.f174) rfl ?_ ⟨s53, v54, (Option.toList (Value.ownBlock v54)), rfl, h, (own_item (hC.getM 0 rfl)), (own_fresh hC 0 rfl), hC.below⟩ (.inl rfl)
  exact res_tmp rfl
 ·skip
  replace hC := hC.sM [0, 1] (M' := [own 2 1 (.slice (some ⟨b17, 0, none⟩) 0 0) 0 ((EI .i64).encs []), mapI (kvA .i64) (vvI .i64) b12 r11]) (by decide) rfl
  exact ⟨.slice (some ⟨b17, 0, none⟩) 0 0, (sk rfl (sk rfl (sk rfl (sk rfl (sk rfl sn))))), hC⟩
def f_impl_Algebra_linearTable (a0 : Alg) (K : List (List Int) → Prop) : Prop :=
 forN (fun i96 (s97 : (List (List Int))) next101 => f_impl_linearRow a0.degrees (a0.images.getD i96 default) (fun r125 => (Room (s97.length + 1) 24 ∧ next101 (s97 ++ [r125])))) (fun (s97 : (List (List Int))) => K s97) a0.images.length 0 []
theorem c_impl_Algebra_linearTable (a0 : Alg) {b0 : Nat} {u0_0 : Value} {u0_1 : Value} {fp0 : List Nat} {K : List (List Int) → Prop} (h : f_impl_Algebra_linearTable a0 K) (w0 : World) (q0 : TAlg.rep a0 [u0_0, u0_1] fp0 w0) (qb0 : (blk b0 32 [u0_0, u0_1]).holds w0) :
  Calls Try.prog 163 #[.pointer (some ⟨b0, 0, none⟩)] w0 fun e w' => ∃ (r0 : List (List Int)) (z0_0 : Value) (fz0 : List Nat), 
   e = .returned (z0_0) ∧ K r0 ∧ (Tr.item (Tr.sl 22 (Tr.sl 2 ((EI .i64).tr))) r0 [z0_0] fz0).holds w' ∧ (∀ b, b ∈ fz0 → w0.heap.size ≤ b) ∧ Bel w0 w' := by
 unfold f_impl_Algebra_linearTable at h
 refine calls_of (args := [.pointer (some ⟨b0, 0, none⟩)]) Try.func163 rfl 27 Try.ntmps163 (Nat.le_of_ble_eq_true rfl) ?_
 have hC := Ctx.start (X := Nox) w0 [Ty.item TAlg a0 [u0_0, u0_1] fp0, blk b0 32 [u0_0, u0_1]] (by simp only [List.mem_cons, List.not_mem_nil, or_false, forall_eq_or_imp, forall_eq]; exact ⟨q0, qb0⟩)
 have hp3 := (hC.getP 0 rfl)
 replace hC := hC.derive 0 rfl (Ty.item ((EI .i64).ty.sl) a0.degrees [u0_0] fp0) (fun _ => (alg_parts hp3).1) (fun _ hb_ => hb_)
 replace hC := hC.derive 1 rfl (Ty.item TForm.sl a0.images [u0_1] fp0) (fun _ => (alg_parts hp3).2) (fun _ hb_ => hb_)
 refine sr ?_
 refine s_as (v := .slice none 0 0) rfl ?_
 refine dn ?_
 refine sr ?_
 refine s_bslice (sz := 1) hC [] [] rfl (fun _ => bs27_0 _) rfl (by decide) fun b6 w7 hB_ hC => ?_
 replace hC := hC.pushM0 (forest (Tr.sl 2 ((EI .i64).tr)) ([] : List (List Int)) [] []) (forest_nil _ _) rfl
 replace hC := hC.gather (c := Tr.item (Tr.sl 22 (Tr.sl 2 ((EI .i64).tr))) [] [.slice (some ⟨b6, 0, none⟩) 0 0] ((Option.toList (Value.ownBlock (.slice (some ⟨b6, 0, none⟩) 0 0))) ++ ([] : List (List Nat)).flatten)) (fun x_ hx_ => (List.mem_append.1 hx_).symm) (fun h1_ h2_ hd_ => forest_up h2_ h1_ (fun b_ hb_ hb2_ => hd_ b_ hb2_ hb_))
 refine s_as (v := .slice (some ⟨b6, 0, none⟩) 0 0) rfl ?_
 refine dn ?_
 refine wp_seq ?_
 refine sr ?_
 refine s_mv (v := .pointer (some ⟨b0, 0, none⟩)) rfl ?_
 refine s_nilchk rfl ?_
 refine s_faddrB 1 Try.underlying32 rfl sc30.size rfl rfl ?_
 refine s_loadSh (u0_1) (hC.getP 3 rfl) sc30 rfl rfl ?_
 obtain ⟨Ad9, c10, hv11⟩ := sl_len (hC.getP 0 rfl)
 refine s_len Try.underlying30 (tr rfl hv11) ?_
 refine s_mv (v := .int .i64 0) rfl ?_
 refine dn ?_
 refine wp_block ?_
 have hN100 : a0.images.length ≤ 9223372036854775807 := sl_max (hC.getP 0 rfl)
 refine loopN (S := (List (List Int))) _ _ (fun i96 s97 e_ w_ => ∃ (v98 : Value), ∃ (f99 : List Nat), Slots e_ [(0, .pointer (some ⟨b0, 0, none⟩)), (2, .slice none 0 0), (3, v98), (10, u0_1), (11, .int .i64 (a0.images.length : Int)), (12, .int .i64 (i96 : Int))] ∧ Ctx Nox w0 w_ [Tr.item (Tr.sl 22 (Tr.sl 2 ((EI .i64).tr))) s97 [v98] f99] [Ty.item TForm.sl a0.images [u0_1] fp0, Ty.item ((EI .i64).ty.sl) a0.degrees [u0_0] fp0, Ty.item TAlg a0 [u0_0, u0_1] fp0, blk b0 32 [u0_0, u0_1]]) a0.images.length ?_ ?_ (s0 := []) ?_ h
 ·clear hC h
  rintro i96 s97 e_ w105 next101 K102 hi104 ⟨v98, f99, hS_, hC⟩ h hK103
  refine sr ?_
  refine s_lss (sx hS_ 5 rfl) (sx hS_ 4 rfl) ?_
  refine dn ?_
  refine wp_seq ?_
  refine cw_true rfl (decide_eq_true (by omega)) ?_
  refine wp_skip ?_
  refine then_norm ?_
  refine wp_seq ?_
  refine wp_block ?_
  refine sr ?_
  obtain ⟨Ad106, c107, hv108⟩ := sl_form (hC.getP 0 rfl) i96 hi104
  refine s_iaddrS (len := a0.images.length) Try.underlying30 ag95.size (tr (sx hS_ 3 rfl) hv108) (sx hS_ 5 rfl) (Int.natCast_nonneg _) (Int.ofNat_lt.2 hi104) ?_
  obtain ⟨cs_, hl110, hc111, hr112⟩ := sl_cells (hC.getP 0 rfl) hv108 i96 hi104
  obtain ⟨u109, rfl⟩ := List.length_eq_one_iff.1 hl110
  clear hl110
  rw [getD_eq _ _ hi104] at hr112
  have hp113 := hr112
  replace hC := hC.derive 0 rfl (Ty.item ETerm.ty.sl ((a0.images.getD i96 default).terms) [u109] fp0) (fun _ => (form_parts hp113)) (fun _ hb_ => hb_)
  refine s_loadCA [u109] hc111 ag95 rfl rfl ?_
  refine s_alloc hC [.slice none 0 0] z95 rfl fun b115 w117 hB_ hC => ?_
  refine s_store (v := .agg #[u109]) hC 0 [u109] [u109] rfl ag95.size rfl rfl rfl rfl (all_c (rep_oneC (hC.getP 0 rfl)) rfl) (Nat.le_of_ble_eq_true rfl) rfl fun w118 hC => ?_
  refine dn ?_
  refine cw_draw 8 mixed [0, 0, 2, 6, 14, 0, 62, 126, 255, 511] [4, 5] [0, 1, 2, 3] (by kernel_rfl) (by kernel_rfl) (by kernel_rfl) (fun hM120 hM121 w119 hB_ => ?_)
  replace hC := hC.grow hB_
  refine aF 0 (v98) rfl rfl (hM121 0 rfl) (rfl) (fun _ => by exact r_mv (v := v98) (sx hS_ 2 rfl)) (dbits 10 1) ?_
  refine aF 1 (.pointer (some ⟨b0, 0, none⟩)) rfl rfl (hM121 1 rfl) (rfl) (fun _ => by exact r_mv (v := .pointer (some ⟨b0, 0, none⟩)) (sx hS_ 0 rfl)) (dbits 10 3) ?_
  refine aF 2 (.pointer (some ⟨b0, 0, none⟩)) rfl rfl (hM121 2 rfl) (rfl) (fun _ => by exact r_nilchk rfl) (dbits 10 7) ?_
  refine aF 3 (.pointer (some ⟨b0, 0, none⟩)) rfl rfl (hM121 3 rfl) (rfl) (fun _ => by exact r_faddrB 0 Try.underlying32 rfl sc22.size rfl rfl) (dbits 10 15) ?_
  refine aL 4 (u0_0) rfl rfl (hM120 4 rfl) (rfl) (fun _ hB_ => by exact r_loadSh (u0_0) ((hC.grow hB_).getP 4 rfl) sc22 rfl rfl) (dbits 10 31) ?_
  refine aL 5 (.agg #[u109]) rfl rfl (hM120 5 rfl) (rfl) (fun _ hB_ => by exact r_loadA (hC.grow hB_) 0 [u109] rfl ag95 rfl rfl rfl) (dbits 10 63) ?_
  refine aO 6 rfl ?_
  refine s_call [u0_0, .agg #[u109]] _ Try.func174 rfl rfl rfl (c_impl_linearRow a0.degrees (a0.images.getD i96 default) h _ (hC.getP 2 rfl) (form_mk (hC.getP 0 rfl))) (fun ret122 w124 hR123 => ?_)
  obtain ⟨r125, u126, f127, rfl, h, hr128, hf129, hB130⟩ := hR123
  refine ⟨_, rfl, ?_⟩
  replace hC := hC.push hB130 (Tr.item (Tr.sl 2 ((EI .i64).tr)) r125 [u126] f127) hr128 hf129
  obtain ⟨ho132, hf133⟩ := flat_tr (hC.getM 0 rfl).1
  subst hf133
  replace hC := hC.recast (c := own 2 1 u126 r125.length ((EI .i64).encs r125)) (fun _ h_ => h_) (fun _ => ho132)
  refine done ?_
  refine aK (by assumption) (dbits 10 127) ?_
  refine aO 7 rfl ?_
  refine s_bslice (sz := 1) hC [(0, u126)] [u126] rfl (fun _ => bsr27_1_s u126 (own_isSl (hC.getM 0 rfl)) _) rfl (by decide) fun b135 w136 hB_ hC => ?_
  replace hC := hC.pushM0 (forest (Tr.sl 2 ((EI .i64).tr)) [] [] []) (forest_nil _ _) rfl
  replace hC := hC.sM [2, 0, 1, 3, 4] (M' := [own 2 1 u126 r125.length ((EI .i64).encs r125), forest (Tr.sl 2 ((EI .i64).tr)) [] [] [], own 22 1 (.slice (some ⟨b135, 0, none⟩) 1 1) 1 [u126], blk b115 95 [u109], Tr.item (Tr.sl 22 (Tr.sl 2 ((EI .i64).tr))) s97 [v98] f99]) (by decide) rfl
  replace hC := hC.gather (c := forest (Tr.sl 2 ((EI .i64).tr)) [r125] [u126] [(Option.toList (Value.ownBlock u126))]) (fun x_ hx_ => forest_mem hx_) (fun h1_ h2_ hd_ => forest_cons (c := [u126]) (id (own_item h1_)) h2_ hd_)
  replace hC := hC.sM [1, 0, 2, 3] (M' := [own 22 1 (.slice (some ⟨b135, 0, none⟩) 1 1) 1 [u126], forest (Tr.sl 2 ((EI .i64).tr)) [r125] [u126] [(Option.toList (Value.ownBlock u126))], blk b115 95 [u109], Tr.item (Tr.sl 22 (Tr.sl 2 ((EI .i64).tr))) s97 [v98] f99]) (by decide) rfl
  replace hC := hC.gather (c := Tr.item (Tr.sl 22 (Tr.sl 2 ((EI .i64).tr))) [r125] [.slice (some ⟨b135, 0, none⟩) 1 1] ((Option.toList (Value.ownBlock (.slice (some ⟨b135, 0, none⟩) 1 1))) ++ ([(Option.toList (Value.ownBlock u126))] : List (List Nat)).flatten)) (fun x_ hx_ => List.mem_append.1 hx_) (fun h1_ h2_ hd_ => forest_up h1_ h2_ hd_)
  refine done ?_
  refine aK (by assumption) (dbits 10 255) ?_
  refine ae_tail 8 (by decide) (by decide) (by kernel_rfl) (by kernel_rfl) rfl ?_
  replace hC := hC.sM [2, 0, 1] (M' := [Tr.item (Tr.sl 22 (Tr.sl 2 ((EI .i64).tr))) s97 [v98] f99, Tr.item (Tr.sl 22 (Tr.sl 2 ((EI .i64).tr))) [r125] [.slice (some ⟨b135, 0, none⟩) 1 1] ((Option.toList (Value.ownBlock (.slice (some ⟨b135, 0, none⟩) 1 1))) ++ ([(Option.toList (Value.ownBlock u126))] : List (List Nat)).flatten), blk b115 95 [u109]]) (by decide) rfl
  obtain ⟨hm143, h⟩ := h
  refine s_appT hC Try.underlying27 el22 rfl (by decide) (by decide) rfl rfl hm143 fun v140 f142 w141 hC => ?_
  refine s_as (v := v140) rfl ?_
  refine done ?_
  refine qn_norm ?_
  refine blk_norm ?_
  refine then_norm ?_
  refine cw_region ?_
  refine s_add (sx hS_ 5 rfl) rfl ?_
  refine s_mv (v := .int .i64 (IntKind.i64.wrap ((i96 : Int) + 1))) rfl ?_
  refine done ?_
  replace hC := hC.sM [0] (M' := [Tr.item (Tr.sl 22 (Tr.sl 2 ((EI .i64).tr))) (s97 ++ [r125]) [v140] f142]) (by decide) rfl
  replace hC := hC.sP [1, 2, 3, 4] (Ps' := [Ty.item TForm.sl a0.images [u0_1] fp0, Ty.item ((EI .i64).ty.sl) a0.degrees [u0_0] fp0, Ty.item TAlg a0 [u0_0, u0_1] fp0, blk b0 32 [u0_0, u0_1]]) rfl
  exact hK103 (s97 ++ [r125]) _ _ ⟨v140, f142, (sk (sx hS_ 0 rfl) (sk (sx hS_ 1 rfl) (sk rfl (sk (sx hS_ 3 rfl) (sk (sx hS_ 4 rfl) (sk (tr rfl (congrArg _ (wrap64_nat hi104 hN100))) sn)))))), hC⟩ h
 ·clear hC h
  rintro s97 e_ w144 K102 ⟨v98, f99, hS_, hC⟩ h
  refine sr ?_
  refine s_lss (sx hS_ 5 rfl) (sx hS_ 4 rfl) ?_
  refine dn ?_
  refine wp_seq ?_
  refine cw_false rfl (decide_eq_false (by omega)) ?_
  refine wp_exit (then_exit (then_exit (exit_in ?_)))
  refine then_norm ?_
  refine sr ?_
  refine s_mv (v := v98) (sx hS_ 2 rfl) ?_
  refine s_as (v := v98) rfl ?_
  refine dn ?_
  refine wp_ret ?_
  refine ret1 (fn := Try.f163) rfl ?_ ⟨s97, v98, f99, rfl, h, (hC.getM 0 rfl), (tr_fresh hC 0 rfl), hC.below⟩ (.inl rfl)
  exact res_tmp rfl
 ·skip
  exact ⟨.slice (some ⟨b6, 0, none⟩) 0 0, ((Option.toList (Value.ownBlock (.slice (some ⟨b6, 0, none⟩) 0 0))) ++ ([] : List (List Nat)).flatten), (sk rfl (sk rfl (sk rfl (sk rfl (sk rfl (sk rfl sn)))))), hC⟩
def f_impl_Algebra_isMinimal (a0 : Alg) (K : Bool → Prop) : Prop :=
 f_impl_Algebra_linearTable a0 (fun r9 => f_slices_ContainsFunc_rows_int64_int64 r9 (fun y0_ K_ => f_impl_Algebra_isMinimal_1 y0_ K_) (fun r20 => K (!r20)))
theorem c_impl_Algebra_isMinimal (a0 : Alg) {b0 : Nat} {u0_0 : Value} {u0_1 : Value} {fp0 : List Nat} {K : Bool → Prop} (h : f_impl_Algebra_isMinimal a0 K) (w0 : World) (q0 : TAlg.rep a0 [u0_0, u0_1] fp0 w0) (qb0 : (blk b0 32 [u0_0, u0_1]).holds w0) :
  Calls Try.prog 147 #[.pointer (some ⟨b0, 0, none⟩)] w0 fun e w' => ∃ (r0 : Bool), 
   e = .returned (.bool r0) ∧ K r0 ∧ Bel w0 w' := by
 unfold f_impl_Algebra_isMinimal at h
 refine calls_of (args := [.pointer (some ⟨b0, 0, none⟩)]) Try.func147 rfl 7 Try.ntmps147 (Nat.le_of_ble_eq_true rfl) ?_
 have hC := Ctx.start (X := Nox) w0 [Ty.item TAlg a0 [u0_0, u0_1] fp0, blk b0 32 [u0_0, u0_1]] (by simp only [List.mem_cons, List.not_mem_nil, or_false, forall_eq_or_imp, forall_eq]; exact ⟨q0, qb0⟩)
 have hp3 := (hC.getP 0 rfl)
 replace hC := hC.derive 0 rfl (Ty.item ((EI .i64).ty.sl) a0.degrees [u0_0] fp0) (fun _ => (alg_parts hp3).1) (fun _ hb_ => hb_)
 replace hC := hC.derive 1 rfl (Ty.item TForm.sl a0.images [u0_1] fp0) (fun _ => (alg_parts hp3).2) (fun _ hb_ => hb_)
 refine sr ?_
 refine s_as (v := .bool false) rfl ?_
 refine dn ?_
 refine sr ?_
 refine s_mv (v := .pointer (some ⟨b0, 0, none⟩)) rfl ?_
 refine s_call [.pointer (some ⟨b0, 0, none⟩)] _ Try.func163 rfl rfl rfl (c_impl_Algebra_linearTable a0 h _ (alg_mk (hC.getP 1 rfl) (hC.getP 0 rfl)) (hC.getP 3 rfl)) (fun ret6 w8 hR7 => ?_)
 obtain ⟨r9, u10, f11, rfl, h, hr12, hf13, hB14⟩ := hR7
 refine ⟨_, rfl, ?_⟩
 replace hC := hC.push hB14 (Tr.item (Tr.sl 22 (Tr.sl 2 ((EI .i64).tr))) r9 [u10] f11) hr12 hf13
 refine s_call [u10, .func (.func 164) #[] (List.toArray [])] _ Try.func162 rfl rfl rfl (c_slices_ContainsFunc_rows_int64_int64 r9 (fun y0_ K_ => f_impl_Algebra_isMinimal_1 y0_ K_) h _ (Tr.trep _ (hC.getM 0 rfl).1) Try.func164 rfl rfl (fun y0_ yu0_0_ yf0_ K_ w_ hb_ rq0_ hq_ => c_impl_Algebra_isMinimal_1 y0_ hq_ w_ rq0_)) (fun ret17 w19 hR18 => ?_)
 obtain ⟨r20, rfl, h, hB21⟩ := hR18
 refine ⟨_, rfl, ?_⟩
 replace hC := hC.grow hB21
 refine s_not rfl ?_
 refine s_as (v := .bool (!r20)) rfl ?_
 refine dn ?_
 refine wp_ret ?_
 refine ret1 (fn := Try.f147) rfl ?_ ⟨!r20, rfl, h, hC.below⟩ (.inl rfl)
 exact res_tmp rfl
def f_impl_pageCode (a0 : Alg) (a1 : Bool) (K : Int → Prop) : Prop :=
 f_impl_algebraCode a0 [] (fun r9 => (if r9 = 0 then f_impl_Algebra_isMinimal a0 (fun r15 => (if ¬ (r15 = true) then f_impl_when (!a1) 2 (fun r21 => f_impl_first [5, r21] (fun r29 => K r29)) else f_impl_when (!a1) 2 (fun r34 => f_impl_first [r9, r34] (fun r42 => K r42)))) else f_impl_when (!a1) 2 (fun r47 => f_impl_first [r9, r47] (fun r55 => K r55))))
theorem c_impl_pageCode (a0 : Alg) (a1 : Bool) {b0 : Nat} {u0_0 : Value} {u0_1 : Value} {fp0 : List Nat} {K : Int → Prop} (h : f_impl_pageCode a0 a1 K) (w0 : World) (q0 : TAlg.rep a0 [u0_0, u0_1] fp0 w0) (qb0 : (blk b0 32 [u0_0, u0_1]).holds w0) :
  Calls Try.prog 113 #[.pointer (some ⟨b0, 0, none⟩), .bool a1] w0 fun e w' => ∃ (r0 : Int), 
   e = .returned (.int .i64 r0) ∧ K r0 ∧ Bel w0 w' := by
 unfold f_impl_pageCode at h
 refine calls_of (args := [.pointer (some ⟨b0, 0, none⟩), .bool a1]) Try.func113 rfl 21 Try.ntmps113 (Nat.le_of_ble_eq_true rfl) ?_
 have hC := Ctx.start (X := Nox) w0 [Ty.item TAlg a0 [u0_0, u0_1] fp0, blk b0 32 [u0_0, u0_1]] (by simp only [List.mem_cons, List.not_mem_nil, or_false, forall_eq_or_imp, forall_eq]; exact ⟨q0, qb0⟩)
 have hp3 := (hC.getP 0 rfl)
 replace hC := hC.derive 0 rfl (Ty.item ((EI .i64).ty.sl) a0.degrees [u0_0] fp0) (fun _ => (alg_parts hp3).1) (fun _ hb_ => hb_)
 replace hC := hC.derive 1 rfl (Ty.item TForm.sl a0.images [u0_1] fp0) (fun _ => (alg_parts hp3).2) (fun _ hb_ => hb_)
 refine sr ?_
 refine s_as (v := .int .i64 0) rfl ?_
 refine dn ?_
 refine sr ?_
 refine s_mv (v := .pointer (some ⟨b0, 0, none⟩)) rfl ?_
 refine s_call [.pointer (some ⟨b0, 0, none⟩), .slice none 0 0] _ Try.func46 rfl rfl rfl (c_impl_algebraCode a0 [] h _ (alg_mk (hC.getP 1 rfl) (hC.getP 0 rfl)) (hC.getP 3 rfl) (rep_nil _ _)) (fun ret6 w8 hR7 => ?_)
 obtain ⟨r9, rfl, h, hB10⟩ := hR7
 refine ⟨_, rfl, ?_⟩
 replace hC := hC.grow hB10
 refine s_as (v := .int .i64 r9) rfl ?_
 refine dn ?_
 refine wp_seq ?_
 refine sr ?_
 refine s_mv (v := .int .i64 r9) rfl ?_
 refine s_eql rfl rfl ?_
 refine s_mv (v := .bool (decide (r9 = 0))) rfl ?_
 refine bsplit (decide (r9 = 0)) (fun hb11 => ?_) (fun hb11 => ?_)
 ·replace h := ift h (ct hb11)
  refine guardOn 2 10 rfl rfl hb11 ?_
  refine s_mv (v := .pointer (some ⟨b0, 0, none⟩)) rfl ?_
  refine guardOn 2 10 rfl rfl hb11 ?_
  refine s_call [.pointer (some ⟨b0, 0, none⟩)] _ Try.func147 rfl rfl rfl (c_impl_Algebra_isMinimal a0 h _ (alg_mk (hC.getP 1 rfl) (hC.getP 0 rfl)) (hC.getP 3 rfl)) (fun ret12 w14 hR13 => ?_)
  obtain ⟨r15, rfl, h, hB16⟩ := hR13
  refine ⟨_, rfl, ?_⟩
  replace hC := hC.grow hB16
  refine guardOn 2 10 rfl rfl hb11 ?_
  refine s_not rfl ?_
  refine s_pick (v := .bool (!r15)) (b := true) (tr rfl (congrArg _ hb11)) rfl ?_
  refine dn ?_
  refine cw_cond rfl (fun hb17 => ?_) (fun hb17 => ?_)
  ·replace h := ift h (ne_t (not_t hb17))
   refine cw_region ?_
   refine s_as (v := .int .i64 5) rfl ?_
   refine dn ?_
   refine sr ?_
   refine s_mv (v := .int .i64 5) rfl ?_
   refine s_mv (v := .bool a1) rfl ?_
   refine s_not rfl ?_
   refine s_call [.bool (!a1), .int .i64 2] _ Try.func47 rfl rfl rfl (c_impl_when (!a1) 2 h _) (fun ret18 w20 hR19 => ?_)
   obtain ⟨r21, rfl, h, hB22⟩ := hR19
   refine ⟨_, rfl, ?_⟩
   replace hC := hC.grow hB22
   refine s_bslice (sz := 1) hC [(0, .int .i64 5), (1, .int .i64 r21)] ((EI .i64).encs [5, r21]) rfl (fun _ => bs22_2 5 r21 _) rfl (by decide) fun b23 w24 hB_ hC => ?_
   refine s_call [.slice (some ⟨b23, 0, none⟩) 2 2] _ Try.func45 rfl rfl rfl (c_impl_first [5, r21] h _ (own_repE (hC.getM 0 rfl))) (fun ret26 w28 hR27 => ?_)
   obtain ⟨r29, rfl, h, hB30⟩ := hR27
   refine ⟨_, rfl, ?_⟩
   replace hC := hC.grow hB30
   refine s_as (v := .int .i64 r29) rfl ?_
   refine dn ?_
   refine wp_ret ?_
   refine ret1 (fn := Try.f113) rfl ?_ ⟨r29, rfl, h, hC.below⟩ (.inl rfl)
   exact res_tmp rfl
  ·replace h := iff_ h (not_not_intro ((not_f hb17)))
   refine wp_skip ?_
   refine then_norm ?_
   refine sr ?_
   refine s_mv (v := .int .i64 r9) rfl ?_
   refine s_mv (v := .bool a1) rfl ?_
   refine s_not rfl ?_
   refine s_call [.bool (!a1), .int .i64 2] _ Try.func47 rfl rfl rfl (c_impl_when (!a1) 2 h _) (fun ret31 w33 hR32 => ?_)
   obtain ⟨r34, rfl, h, hB35⟩ := hR32
   refine ⟨_, rfl, ?_⟩
   replace hC := hC.grow hB35
   refine s_bslice (sz := 1) hC [(0, .int .i64 r9), (1, .int .i64 r34)] ((EI .i64).encs [r9, r34]) rfl (fun _ => bs22_2 r9 r34 _) rfl (by decide) fun b36 w37 hB_ hC => ?_
   refine s_call [.slice (some ⟨b36, 0, none⟩) 2 2] _ Try.func45 rfl rfl rfl (c_impl_first [r9, r34] h _ (own_repE (hC.getM 0 rfl))) (fun ret39 w41 hR40 => ?_)
   obtain ⟨r42, rfl, h, hB43⟩ := hR40
   refine ⟨_, rfl, ?_⟩
   replace hC := hC.grow hB43
   refine s_as (v := .int .i64 r42) rfl ?_
   refine dn ?_
   refine wp_ret ?_
   refine ret1 (fn := Try.f113) rfl ?_ ⟨r42, rfl, h, hC.below⟩ (.inl rfl)
   exact res_tmp rfl
 ·replace h := iff_ h (cf hb11)
  refine guardOff (b := false) 2 10 rfl (tr rfl (congrArg _ hb11)) (by decide) ?_
  refine guardOff (b := false) 2 10 rfl (tr rfl (congrArg _ hb11)) (by decide) ?_
  refine guardOff (b := false) 2 10 rfl (tr rfl (congrArg _ hb11)) (by decide) ?_
  refine s_pick (v := .bool false) (b := false) (tr rfl (congrArg _ hb11)) rfl ?_
  refine dn ?_
  refine cw_false rfl rfl ?_
  refine wp_skip ?_
  refine then_norm ?_
  refine sr ?_
  refine s_mv (v := .int .i64 r9) rfl ?_
  refine s_mv (v := .bool a1) rfl ?_
  refine s_not rfl ?_
  refine s_call [.bool (!a1), .int .i64 2] _ Try.func47 rfl rfl rfl (c_impl_when (!a1) 2 h _) (fun ret44 w46 hR45 => ?_)
  obtain ⟨r47, rfl, h, hB48⟩ := hR45
  refine ⟨_, rfl, ?_⟩
  replace hC := hC.grow hB48
  refine s_bslice (sz := 1) hC [(0, .int .i64 r9), (1, .int .i64 r47)] ((EI .i64).encs [r9, r47]) rfl (fun _ => bs22_2 r9 r47 _) rfl (by decide) fun b49 w50 hB_ hC => ?_
  refine s_call [.slice (some ⟨b49, 0, none⟩) 2 2] _ Try.func45 rfl rfl rfl (c_impl_first [r9, r47] h _ (own_repE (hC.getM 0 rfl))) (fun ret52 w54 hR53 => ?_)
  obtain ⟨r55, rfl, h, hB56⟩ := hR53
  refine ⟨_, rfl, ?_⟩
  replace hC := hC.grow hB56
  refine s_as (v := .int .i64 r55) rfl ?_
  refine dn ?_
  refine wp_ret ?_
  refine ret1 (fn := Try.f113) rfl ?_ ⟨r55, rfl, h, hC.below⟩ (.inl rfl)
  exact res_tmp rfl
def f_impl_isAsked (a0 : Int) (K : Bool → Prop) : Prop :=
 f_impl_within a0 0 20 (fun r4 => K r4)
theorem c_impl_isAsked (a0 : Int)  {K : Bool → Prop} (h : f_impl_isAsked a0 K) (w0 : World)  :
  Calls Try.prog 114 #[.int .i64 a0] w0 fun e w' => ∃ (r0 : Bool), 
   e = .returned (.bool r0) ∧ K r0 ∧ Bel w0 w' := by
 unfold f_impl_isAsked at h
 refine calls_of (args := [.int .i64 a0]) Try.func114 rfl 5 Try.ntmps114 (Nat.le_of_ble_eq_true rfl) ?_
 have hC := Ctx.start (X := Nox) w0 [] (by simp)
 refine sr ?_
 refine s_as (v := .bool false) rfl ?_
 refine dn ?_
 refine sr ?_
 refine s_mv (v := .int .i64 a0) rfl ?_
 refine s_call [.int .i64 a0, .int .i64 0, .int .i64 20] _ Try.func48 rfl rfl rfl (c_impl_within a0 0 20 h _) (fun ret1 w3 hR2 => ?_)
 obtain ⟨r4, rfl, h, hB5⟩ := hR2
 refine ⟨_, rfl, ?_⟩
 replace hC := hC.grow hB5
 refine s_as (v := .bool r4) rfl ?_
 refine dn ?_
 refine wp_ret ?_
 refine ret1 (fn := Try.f114) rfl ?_ ⟨r4, rfl, h, hC.below⟩ (.inl rfl)
 exact res_tmp rfl
def f_impl_lister_from (fu_ : Nat) (a0 : List Int × Int × List A8) (a1 : Int) (a2 : A8) (a3 : Int) (K : List A8 → Prop) : Prop :=
 match fu_ with
 | 0 => False
 | fu_ + 1 => (if (a0.2.2.length : Int) > a0.2.1 then K a0.2.2 else (if a1 = (a0.1.length : Int) then (if a3 = 0 then (Room (a0.2.2.length + 1) 64 ∧ K (a0.2.2 ++ [a2])) else K a0.2.2) else ((0 ≤ a1 ∧ a1 < (a0.1.length : Int)) ∧ ((a0.1.getD a1.toNat default) ≠ 0 ∧ (if Int.tmod (a0.1.getD a1.toNat default) 2 = 1 then whileP (fun (s65 : A8 × (List A8) × Int) next67 => (if s65.2.2 ≥ 0 then ((0 ≤ a1 ∧ a1 < 8) ∧ f_impl_lister_from fu_ (⟨a0.1, a0.2.1, s65.2.1⟩ : List Int × Int × List A8) (IntKind.i64.wrap (a1 + 1)) (s65.1.set a1.toNat s65.2.2) (IntKind.i64.wrap (a3 - (IntKind.i64.wrap (s65.2.2 * (a0.1.getD a1.toNat default))))) (fun m79 => next67 (s65.1.set a1.toNat s65.2.2, m79, IntKind.i64.wrap (s65.2.2 - 1)))) else K s65.2.1)) (a2, a0.2.2, (if 1 < (if 20 < IntKind.i64.wrap (Int.tdiv a3 (a0.1.getD a1.toNat default)) then 20 else IntKind.i64.wrap (Int.tdiv a3 (a0.1.getD a1.toNat default))) then 1 else (if 20 < IntKind.i64.wrap (Int.tdiv a3 (a0.1.getD a1.toNat default)) then 20 else IntKind.i64.wrap (Int.tdiv a3 (a0.1.getD a1.toNat default))))) else whileP (fun (s113 : A8 × (List A8) × Int) next115 => (if s113.2.2 ≥ 0 then ((0 ≤ a1 ∧ a1 < 8) ∧ f_impl_lister_from fu_ (⟨a0.1, a0.2.1, s113.2.1⟩ : List Int × Int × List A8) (IntKind.i64.wrap (a1 + 1)) (s113.1.set a1.toNat s113.2.2) (IntKind.i64.wrap (a3 - (IntKind.i64.wrap (s113.2.2 * (a0.1.getD a1.toNat default))))) (fun m127 => next115 (s113.1.set a1.toNat s113.2.2, m127, IntKind.i64.wrap (s113.2.2 - 1)))) else K s113.2.1)) (a2, a0.2.2, (if 20 < IntKind.i64.wrap (Int.tdiv a3 (a0.1.getD a1.toNat default)) then 20 else IntKind.i64.wrap (Int.tdiv a3 (a0.1.getD a1.toNat default)))))))))
theorem c_impl_lister_from (fu_ : Nat) : ∀ (a0 : List Int × Int × List A8) (a1 : Int) (a2 : A8) (a3 : Int) {b0 : Nat} {u0_0 : Value} {u0_2 : Value} {fp0 : List Nat} {K : List A8 → Prop} (h : f_impl_lister_from fu_ a0 a1 a2 a3 K) (w0 : World) (q0 : (Ty.item ((EI .i64).ty.sl) a0.1 [u0_0] fp0).holds w0) (qb0 : (blk b0 175 [u0_0, .int .i64 a0.2.1, u0_2]).holds w0) (qo0 : (own 101 8 u0_2 a0.2.2.length ((EA .i64).encs a0.2.2)).holds w0) (db0 : b0 ∉ Option.toList (Value.ownBlock u0_2)) (dq0 : ∀ b, b ∈ fp0 → b ∉ b0 :: Option.toList (Value.ownBlock u0_2)),
  Calls Try.prog 127 #[.pointer (some ⟨b0, 0, none⟩), .int .i64 a1, .agg (List.toArray (A8.enc .i64 a2)), .int .i64 a3] w0 fun e w' => ∃ (m0 : List A8) (y0 : Value), 
   e = .returned (.tuple #[]) ∧ K m0 ∧ (blk b0 175 [u0_0, .int .i64 a0.2.1, y0]).holds w' ∧ (own 101 8 y0 m0.length ((EA .i64).encs m0)).holds w' ∧ (∀ b, b ∈ Option.toList (Value.ownBlock y0) → b ∈ Option.toList (Value.ownBlock u0_2) ∨ w0.heap.size ≤ b) ∧ BelO (b0 :: Option.toList (Value.ownBlock u0_2)) w0 w' := by
 induction fu_ with
 | zero =>
  intro a0 a1 a2 a3 b0 u0_0 u0_2 fp0 K h w0 q0 qb0 qo0 db0 dq0
  exact False.elim h
 | succ fu_ ih_ =>
  intro a0 a1 a2 a3 b0 u0_0 u0_2 fp0 K h w0 q0 qb0 qo0 db0 dq0
  rw [f_impl_lister_from.eq_2] at h
  refine calls_of (args := [.pointer (some ⟨b0, 0, none⟩), .int .i64 a1, .agg (List.toArray (A8.enc .i64 a2)), .int .i64 a3]) Try.func127 rfl 74 Try.ntmps127 (Nat.le_of_ble_eq_true rfl) ?_
  have hC := Ctx.startL w0 (b0 :: Option.toList (Value.ownBlock u0_2)) [blk b0 175 [u0_0, .int .i64 a0.2.1, u0_2], own 101 8 u0_2 a0.2.2.length ((EA .i64).encs a0.2.2)] [Ty.item ((EI .i64).ty.sl) a0.1 [u0_0] fp0] (by simp only [List.mem_cons, List.not_mem_nil, or_false, forall_eq_or_imp, forall_eq]; exact ⟨qb0, qo0⟩) (by simp only [List.mem_cons, List.not_mem_nil, or_false, forall_eq_or_imp, forall_eq]; exact q0) (fun it_ hi_ b_ hb_ => (List.mem_cons.1 hi_).elim (fun e_ => by subst e_; exact List.mem_cons.2 (.inl (List.mem_singleton.1 hb_))) (fun hi_ => by obtain rfl := List.mem_singleton.1 hi_; exact List.mem_cons_of_mem _ hb_)) (List.pairwise_cons.2 ⟨(fun it_ hi_ b_ hb_ hb2_ => by obtain rfl := List.mem_singleton.1 hi_; exact db0 (List.mem_singleton.1 hb_ ▸ hb2_)), List.pairwise_singleton _ _⟩) (fun it_ hi_ b_ hb_ => by obtain rfl := List.mem_singleton.1 hi_; exact dq0 b_ hb_)
  refine sr ?_
  refine s_box (v := .agg (List.toArray (A8.enc .i64 a2))) hC (A8.enc .i64 a2) rfl rfl fun b4 w6 hB_ hC => ?_
  refine dn ?_
  refine wp_seq ?_
  refine wp_seq ?_
  refine cw_draw 9 mixed [0, 1, 3, 7, 15, 0, 32, 96, 224, 511] [3, 4, 8] [0, 1, 2, 5, 6, 7] (by kernel_rfl) (by kernel_rfl) (by kernel_rfl) (fun hM8 hM9 w7 hB_ => ?_)
  replace hC := hC.grow hB_
  refine aF 0 (.pointer (some ⟨b0, 0, none⟩)) rfl rfl (hM9 0 rfl) (rfl) (fun _ => by exact r_mv (v := .pointer (some ⟨b0, 0, none⟩)) rfl) (dbits 10 1) ?_
  refine aF 1 (.pointer (some ⟨b0, 0, none⟩)) rfl rfl (hM9 1 rfl) (rfl) (fun _ => by exact r_nilchk rfl) (dbits 10 3) ?_
  refine aF 2 (.pointer (some ⟨b0, 2, none⟩)) rfl rfl (hM9 2 rfl) (rfl) (fun _ => by exact r_faddrB 2 Try.underlying175 rfl sc121.size rfl rfl) (dbits 10 7) ?_
  refine aL 3 (u0_2) rfl rfl (hM8 3 rfl) (rfl) (fun _ hB_ => by exact r_loadS (hC.grow hB_) 1 (u0_2) rfl sc121 rfl rfl) (dbits 10 15) ?_
  obtain ⟨Ad10, c11, hv12⟩ := own_form (hC.getM 2 rfl)
  refine aL 4 (.int .i64 (a0.2.2.length : Int)) rfl rfl (hM8 4 rfl) (rfl) (fun _ hB_ => by exact r_len Try.underlying121 (by exact tr rfl hv12)) (dbits 10 31) ?_
  refine aF 5 (.pointer (some ⟨b0, 0, none⟩)) rfl rfl (hM9 5 rfl) (rfl) (fun _ => by exact r_mv (v := .pointer (some ⟨b0, 0, none⟩)) rfl) (dbits 10 63) ?_
  refine aF 6 (.pointer (some ⟨b0, 0, none⟩)) rfl rfl (hM9 6 rfl) (rfl) (fun _ => by exact r_nilchk rfl) (dbits 10 127) ?_
  refine aF 7 (.pointer (some ⟨b0, 1, none⟩)) rfl rfl (hM9 7 rfl) (rfl) (fun _ => by exact r_faddrB 1 Try.underlying175 rfl sc3.size rfl rfl) (dbits 10 255) ?_
  refine aL 8 (.int .i64 a0.2.1) rfl rfl (hM8 8 rfl) (rfl) (fun _ hB_ => by exact r_loadS (hC.grow hB_) 1 (.int .i64 a0.2.1) rfl sc3 rfl rfl) (dbits 10 511) ?_
  refine ae_tail 9 (by decide) (by decide) (by kernel_rfl) (by kernel_rfl) rfl ?_
  refine s_gtr rfl rfl ?_
  refine done ?_
  refine qn_norm ?_
  refine then_norm ?_
  refine cw_cond rfl (fun hb13 => ?_) (fun hb13 => ?_)
  ·replace h := ift h (ct hb13)
   refine wp_ret (then_ret ?_)
   refine ret0 (fn := Try.f127) rfl  ⟨a0.2.2, u0_2, rfl, h, (hC.getM 1 rfl), (hC.getM 2 rfl), (fun b_ hb_ => (hC.mfp _ (List.mem_of_getElem? (i := 2) rfl) b_ hb_).elim .inr (fun q_ => (List.mem_cons.1 q_).elim (fun e_ => absurd hb_ (fun hb_ => hC.mm 1 2 rfl rfl (by decide) b_ (List.mem_singleton.2 e_) hb_)) .inl)), hC.belO⟩ (.inl rfl)
  ·replace h := iff_ h (cf hb13)
   refine wp_skip ?_
   refine then_norm ?_
   refine wp_seq ?_
   refine sr ?_
   refine s_mv (v := .int .i64 a1) rfl ?_
   refine s_mv (v := .pointer (some ⟨b0, 0, none⟩)) rfl ?_
   refine s_nilchk rfl ?_
   refine s_faddrB 0 Try.underlying175 rfl sc22.size rfl rfl ?_
   refine s_loadS hC 1 (u0_0) rfl sc22 rfl rfl ?_
   obtain ⟨Ad14, c15, hv16⟩ := sl_len (hC.getP 0 rfl)
   refine s_len Try.underlying22 (tr rfl hv16) ?_
   refine s_eql rfl rfl ?_
   refine dn ?_
   refine cw_cond rfl (fun hb17 => ?_) (fun hb17 => ?_)
   ·replace h := ift h (ct hb17)
    refine wp_seq ?_
    refine sr ?_
    refine s_mv (v := .int .i64 a3) rfl ?_
    refine s_eql rfl rfl ?_
    refine dn ?_
    refine cw_cond rfl (fun hb18 => ?_) (fun hb18 => ?_)
    ·replace h := ift h (ct hb18)
     refine cw_draw 7 mixed [0, 0, 2, 6, 14, 0, 32, 126, 255, 511, 1023] [4, 5] [0, 1, 2, 3] (by kernel_rfl) (by kernel_rfl) (by kernel_rfl) (fun hM20 hM21 w19 hB_ => ?_)
     replace hC := hC.grow hB_
     refine aF 0 (.pointer (some ⟨b0, 0, none⟩)) rfl rfl (hM21 0 rfl) (rfl) (fun _ => by exact r_mv (v := .pointer (some ⟨b0, 0, none⟩)) rfl) (dbits 11 1) ?_
     refine aF 1 (.pointer (some ⟨b0, 0, none⟩)) rfl rfl (hM21 1 rfl) (rfl) (fun _ => by exact r_mv (v := .pointer (some ⟨b0, 0, none⟩)) rfl) (dbits 11 3) ?_
     refine aF 2 (.pointer (some ⟨b0, 0, none⟩)) rfl rfl (hM21 2 rfl) (rfl) (fun _ => by exact r_nilchk rfl) (dbits 11 7) ?_
     refine aF 3 (.pointer (some ⟨b0, 2, none⟩)) rfl rfl (hM21 3 rfl) (rfl) (fun _ => by exact r_faddrB 2 Try.underlying175 rfl sc121.size rfl rfl) (dbits 11 15) ?_
     refine aL 4 (u0_2) rfl rfl (hM20 4 rfl) (rfl) (fun _ hB_ => by exact r_loadS (hC.grow hB_) 1 (u0_2) rfl sc121 rfl rfl) (dbits 11 31) ?_
     refine aL 5 (.agg (List.toArray (A8.enc .i64 a2))) rfl rfl (hM20 5 rfl) (rfl) (fun _ hB_ => by exact r_loadA (hC.grow hB_) 0 (A8.enc .i64 a2) rfl ag101 rfl rfl rfl) (dbits 11 63) ?_
     refine aO 6 rfl ?_
     refine s_bslice (sz := 8) hC [(0, .agg (List.toArray (A8.enc .i64 a2)))] ((EA .i64).encs [a2]) rfl (fun _ => bs121_1 a2 _) rfl (by decide) fun b22 w23 hB_ hC => ?_
     refine done ?_
     refine aK (by assumption) (dbits 11 127) ?_
     refine aO 7 rfl ?_
     obtain ⟨hm27, h⟩ := h
     refine s_app hC 3 Try.underlying121 el101 rfl (by decide) (by decide) rfl (own_rdr (hC.getM 0 rfl)) (fun q hq => Enc.encs_one' (E := (EA .i64)) _ q hq) rfl rfl hm27 fun v25 w26 hC => ?_
     replace hC := own_re hC 3 ((a0.2.2 ++ [a2]).length) ((EA .i64).encs (a0.2.2 ++ [a2])) rfl (by simp) (by first | (simp [Enc.encs_append]; done) | simp [Enc.encs_append, Enc.encs])
     refine done ?_
     refine ak_introN (by decide) (l9 := (dbits 11 255)) (by kernel_rfl) ?_
     refine ae_tail 8 (by decide) (by decide) (by kernel_rfl) (by kernel_rfl) rfl ?_
     refine s_nilchk rfl ?_
     refine s_faddrB 2 Try.underlying175 rfl sc121.size rfl rfl ?_
     refine s_store (v := v25) hC 2 [v25] [u0_0, .int .i64 a0.2.1, v25] rfl sc121.size rfl rfl (own_cellsV (hC.getM 3 rfl)) rfl (all_c (own_oneC (hC.getM 3 rfl)) rfl) (Nat.le_of_ble_eq_true rfl) rfl fun w28 hC => ?_
     refine done ?_
     refine qn_norm ?_
     refine then_norm ?_
     refine wp_ret (then_ret ?_)
     refine ret0 (fn := Try.f127) rfl  ⟨a0.2.2 ++ [a2], v25, rfl, h, (hC.getM 2 rfl), (hC.getM 3 rfl), (fun b_ hb_ => (hC.mfp _ (List.mem_of_getElem? (i := 3) rfl) b_ hb_).elim .inr (fun q_ => (List.mem_cons.1 q_).elim (fun e_ => absurd hb_ (fun hb_ => hC.mm 2 3 rfl rfl (by decide) b_ (List.mem_singleton.2 e_) hb_)) .inl)), hC.belO⟩ (.inl rfl)
    ·replace h := iff_ h (cf hb18)
     refine wp_skip ?_
     refine then_norm ?_
     refine wp_ret (then_ret ?_)
     refine ret0 (fn := Try.f127) rfl  ⟨a0.2.2, u0_2, rfl, h, (hC.getM 1 rfl), (hC.getM 2 rfl), (fun b_ hb_ => (hC.mfp _ (List.mem_of_getElem? (i := 2) rfl) b_ hb_).elim .inr (fun q_ => (List.mem_cons.1 q_).elim (fun e_ => absurd hb_ (fun hb_ => hC.mm 1 2 rfl rfl (by decide) b_ (List.mem_singleton.2 e_) hb_)) .inl)), hC.belO⟩ (.inl rfl)
   ·replace h := iff_ h (cf hb17)
    refine wp_skip ?_
    refine then_norm ?_
    refine sr ?_
    refine s_mv (v := .pointer (some ⟨b0, 0, none⟩)) rfl ?_
    refine s_nilchk rfl ?_
    refine s_faddrB 0 Try.underlying175 rfl sc22.size rfl rfl ?_
    refine s_loadS hC 1 (u0_0) rfl sc22 rfl rfl ?_
    refine s_mv (v := .int .i64 a1) rfl ?_
    obtain ⟨⟨h0_29, h1_30⟩, h⟩ := h
    obtain ⟨Ad31, c32, hv33⟩ := sl_form (hC.getP 0 rfl) a1.toNat (show a1.toNat < a0.1.length by omega)
    refine s_iaddrS (len := a0.1.length) Try.underlying22 sc2.size (tr rfl hv33) rfl h0_29 h1_30 ?_
    refine s_loadCS (.int .i64 (a0.1.getD a1.toNat default)) (sl_cellsE (hC.getP 0 rfl) hv33 a1.toNat (show a1.toNat < a0.1.length by omega)) sc2 rfl ?_
    refine s_as (v := .int .i64 (a0.1.getD a1.toNat default)) rfl ?_
    refine dn ?_
    refine sr ?_
    refine s_mv (v := .int .i64 a3) rfl ?_
    refine s_mv (v := .int .i64 (a0.1.getD a1.toNat default)) rfl ?_
    obtain ⟨h0_34, h⟩ := h
    refine s_quo rfl rfl h0_34 ?_
    refine s_min rfl rfl ?_
    refine s_as (v := .int .i64 (if 20 < IntKind.i64.wrap (Int.tdiv a3 (a0.1.getD a1.toNat default)) then 20 else IntKind.i64.wrap (Int.tdiv a3 (a0.1.getD a1.toNat default)))) rfl ?_
    refine dn ?_
    refine wp_seq ?_
    refine sr ?_
    refine s_mv (v := .int .i64 (a0.1.getD a1.toNat default)) rfl ?_
    refine s_rem rfl rfl (by decide) ?_
    refine s_eql rfl rfl ?_
    refine dn ?_
    refine cw_cond rfl (fun hb35 => ?_) (fun hb35 => ?_)
    ·replace h := ift h (ct hb35)
     refine cw_region ?_
     refine s_mv (v := .int .i64 (if 20 < IntKind.i64.wrap (Int.tdiv a3 (a0.1.getD a1.toNat default)) then 20 else IntKind.i64.wrap (Int.tdiv a3 (a0.1.getD a1.toNat default)))) rfl ?_
     refine s_min rfl rfl ?_
     refine s_as (v := .int .i64 (if 1 < (if 20 < IntKind.i64.wrap (Int.tdiv a3 (a0.1.getD a1.toNat default)) then 20 else IntKind.i64.wrap (Int.tdiv a3 (a0.1.getD a1.toNat default))) then 1 else (if 20 < IntKind.i64.wrap (Int.tdiv a3 (a0.1.getD a1.toNat default)) then 20 else IntKind.i64.wrap (Int.tdiv a3 (a0.1.getD a1.toNat default))))) rfl ?_
     refine dn ?_
     refine sr ?_
     refine s_mv (v := .int .i64 (if 1 < (if 20 < IntKind.i64.wrap (Int.tdiv a3 (a0.1.getD a1.toNat default)) then 20 else IntKind.i64.wrap (Int.tdiv a3 (a0.1.getD a1.toNat default))) then 1 else (if 20 < IntKind.i64.wrap (Int.tdiv a3 (a0.1.getD a1.toNat default)) then 20 else IntKind.i64.wrap (Int.tdiv a3 (a0.1.getD a1.toNat default))))) rfl ?_
     refine s_as (v := .int .i64 (if 1 < (if 20 < IntKind.i64.wrap (Int.tdiv a3 (a0.1.getD a1.toNat default)) then 20 else IntKind.i64.wrap (Int.tdiv a3 (a0.1.getD a1.toNat default))) then 1 else (if 20 < IntKind.i64.wrap (Int.tdiv a3 (a0.1.getD a1.toNat default)) then 20 else IntKind.i64.wrap (Int.tdiv a3 (a0.1.getD a1.toNat default))))) rfl ?_
     refine dn ?_
     refine wp_block ?_
     refine loopW (S := A8 × (List A8) × Int) _ (fun s65 e_ w_ => ∃ (v66 : Value), Slots e_ [(0, .pointer (some ⟨b0, 0, none⟩)), (1, .int .i64 a1), (3, .int .i64 a3), (6, .pointer (some ⟨b4, 0, none⟩)), (8, .int .i64 (a0.1.getD a1.toNat default)), (10, .int .i64 s65.2.2)] ∧ Ctx (fun c_ => c_ ∈ b0 :: Option.toList (Value.ownBlock u0_2)) w0 w_ [blk b4 101 (A8.enc .i64 s65.1), blk b0 175 [u0_0, .int .i64 a0.2.1, v66], own 101 8 v66 s65.2.1.length ((EA .i64).encs s65.2.1)] [Ty.item ((EI .i64).ty.sl) a0.1 [u0_0] fp0]) ?_ (s0 := (a2, a0.2.2, (if 1 < (if 20 < IntKind.i64.wrap (Int.tdiv a3 (a0.1.getD a1.toNat default)) then 20 else IntKind.i64.wrap (Int.tdiv a3 (a0.1.getD a1.toNat default))) then 1 else (if 20 < IntKind.i64.wrap (Int.tdiv a3 (a0.1.getD a1.toNat default)) then 20 else IntKind.i64.wrap (Int.tdiv a3 (a0.1.getD a1.toNat default)))))) ?_ h
     ·clear hC h
      rintro s65 e_ w70 next67 K68 ⟨v66, hS_, hC⟩ h hK69
      refine wp_seq ?_
      refine sr ?_
      refine s_mv (v := .int .i64 s65.2.2) (sx hS_ 5 rfl) ?_
      refine s_geq rfl rfl ?_
      refine dn ?_
      refine cw_cond rfl (fun hb71 => ?_) (fun hb71 => ?_)
      ·replace h := ift h (ct hb71)
       refine wp_skip ?_
       refine then_norm ?_
       refine wp_seq ?_
       refine wp_block ?_
       refine sr ?_
       refine s_mv (v := .int .i64 a1) (sx hS_ 1 rfl) ?_
       refine s_mv (v := .int .i64 s65.2.2) (sx hS_ 5 rfl) ?_
       obtain ⟨⟨h0_72, h1_73⟩, h⟩ := h
       refine s_iaddrB a1.toNat Try.underlying101 sc3.size (sx hS_ 3 rfl) rfl h0_72 h1_73 (by omega) ?_
       refine s_store (v := .int .i64 s65.2.2) hC 0 [.int .i64 s65.2.2] (A8.enc .i64 (s65.1.set a1.toNat s65.2.2)) rfl sc3.size rfl rfl rfl rfl rfl (show a1.toNat < 8 by omega) (A8.enc_set _ _ _ (show a1.toNat < 8 by omega)) fun w74 hC => ?_
       refine dn ?_
       refine cw_region ?_
       refine s_mv (v := .pointer (some ⟨b0, 0, none⟩)) (sx hS_ 0 rfl) ?_
       refine s_mv (v := .int .i64 a1) (sx hS_ 1 rfl) ?_
       refine s_add rfl rfl ?_
       refine s_loadA hC 0 (A8.enc .i64 (s65.1.set a1.toNat s65.2.2)) rfl ag101 (sx hS_ 3 rfl) rfl rfl ?_
       refine s_mv (v := .int .i64 a3) (sx hS_ 2 rfl) ?_
       refine s_mv (v := .int .i64 s65.2.2) (sx hS_ 5 rfl) ?_
       refine s_mv (v := .int .i64 (a0.1.getD a1.toNat default)) (sx hS_ 4 rfl) ?_
       refine s_mul rfl rfl ?_
       refine s_sub rfl rfl ?_
       replace hC := hC.sM [1, 2, 0] (M' := [blk b0 175 [u0_0, .int .i64 a0.2.1, v66], own 101 8 v66 s65.2.1.length ((EA .i64).encs s65.2.1), blk b4 101 (A8.enc .i64 (s65.1.set a1.toNat s65.2.2))]) (by decide) rfl
       refine s_call [.pointer (some ⟨b0, 0, none⟩), .int .i64 (IntKind.i64.wrap (a1 + 1)), .agg (List.toArray (A8.enc .i64 (s65.1.set a1.toNat s65.2.2))), .int .i64 (IntKind.i64.wrap (a3 - (IntKind.i64.wrap (s65.2.2 * (a0.1.getD a1.toNat default)))))] _ Try.func127 rfl rfl rfl (ih_ (⟨a0.1, a0.2.1, s65.2.1⟩ : List Int × Int × List A8) (IntKind.i64.wrap (a1 + 1)) (s65.1.set a1.toNat s65.2.2) (IntKind.i64.wrap (a3 - (IntKind.i64.wrap (s65.2.2 * (a0.1.getD a1.toNat default))))) h _ (hC.getP 0 rfl) (hC.getM 0 rfl) (hC.getM 1 rfl) (fun hb_ => hC.mm 0 1 rfl rfl (by decide) _ (List.mem_singleton_self _) hb_) (fun b_ hb_ hb2_ => (List.mem_cons.1 hb2_).elim (fun e_ => hC.pd _ (List.mem_of_getElem? (i := 0) rfl) b_ hb_ _ (List.mem_of_getElem? (i := 0) rfl) (List.mem_singleton.2 e_)) (fun hb2_ => hC.pd _ (List.mem_of_getElem? (i := 0) rfl) b_ hb_ _ (List.mem_of_getElem? (i := 1) rfl) hb2_))) (fun ret75 w77 hR76 => ?_)
       obtain ⟨m79, v80, rfl, h, hm81, hm82, hm83, hB78⟩ := hR76
       refine ⟨_, rfl, ?_⟩
       replace hC := hC.turnS hB78 hm81 hm82 hm83
       refine done ?_
       refine blk_norm ?_
       refine then_norm ?_
       refine cw_region ?_
       refine s_mv (v := .int .i64 s65.2.2) (sx hS_ 5 rfl) ?_
       refine s_sub rfl rfl ?_
       refine s_as (v := .int .i64 (IntKind.i64.wrap (s65.2.2 - 1))) rfl ?_
       refine done ?_
       replace hC := hC.sM [2, 0, 1] (M' := [blk b4 101 (A8.enc .i64 (s65.1.set a1.toNat s65.2.2)), blk b0 175 [u0_0, .int .i64 a0.2.1, v80], own 101 8 v80 m79.length ((EA .i64).encs m79)]) (by decide) rfl
       exact hK69 (s65.1.set a1.toNat s65.2.2, m79, IntKind.i64.wrap (s65.2.2 - 1)) _ _ ⟨v80, (sk (sx hS_ 0 rfl) (sk (sx hS_ 1 rfl) (sk (sx hS_ 2 rfl) (sk (sx hS_ 3 rfl) (sk (sx hS_ 4 rfl) (sk rfl sn)))))), hC⟩ h
      ·replace h := iff_ h (cf hb71)
       refine wp_exit (then_exit (then_exit (exit_in ?_)))
       refine ret0 (fn := Try.f127) rfl  ⟨s65.2.1, v66, rfl, h, (hC.getM 1 rfl), (hC.getM 2 rfl), (fun b_ hb_ => (hC.mfp _ (List.mem_of_getElem? (i := 2) rfl) b_ hb_).elim .inr (fun q_ => (List.mem_cons.1 q_).elim (fun e_ => absurd hb_ (fun hb_ => hC.mm 1 2 rfl rfl (by decide) b_ (List.mem_singleton.2 e_) hb_)) .inl)), hC.belO⟩ (.inr rfl)
     ·skip
      exact ⟨u0_2, (sk rfl (sk rfl (sk rfl (sk rfl (sk rfl (sk rfl sn)))))), hC⟩
    ·replace h := iff_ h (cf hb35)
     refine wp_skip ?_
     refine then_norm ?_
     refine sr ?_
     refine s_mv (v := .int .i64 (if 20 < IntKind.i64.wrap (Int.tdiv a3 (a0.1.getD a1.toNat default)) then 20 else IntKind.i64.wrap (Int.tdiv a3 (a0.1.getD a1.toNat default)))) rfl ?_
     refine s_as (v := .int .i64 (if 20 < IntKind.i64.wrap (Int.tdiv a3 (a0.1.getD a1.toNat default)) then 20 else IntKind.i64.wrap (Int.tdiv a3 (a0.1.getD a1.toNat default)))) rfl ?_
     refine dn ?_
     refine wp_block ?_
     refine loopW (S := A8 × (List A8) × Int) _ (fun s113 e_ w_ => ∃ (v114 : Value), Slots e_ [(0, .pointer (some ⟨b0, 0, none⟩)), (1, .int .i64 a1), (3, .int .i64 a3), (6, .pointer (some ⟨b4, 0, none⟩)), (8, .int .i64 (a0.1.getD a1.toNat default)), (10, .int .i64 s113.2.2)] ∧ Ctx (fun c_ => c_ ∈ b0 :: Option.toList (Value.ownBlock u0_2)) w0 w_ [blk b4 101 (A8.enc .i64 s113.1), blk b0 175 [u0_0, .int .i64 a0.2.1, v114], own 101 8 v114 s113.2.1.length ((EA .i64).encs s113.2.1)] [Ty.item ((EI .i64).ty.sl) a0.1 [u0_0] fp0]) ?_ (s0 := (a2, a0.2.2, (if 20 < IntKind.i64.wrap (Int.tdiv a3 (a0.1.getD a1.toNat default)) then 20 else IntKind.i64.wrap (Int.tdiv a3 (a0.1.getD a1.toNat default))))) ?_ h
     ·clear hC h
      rintro s113 e_ w118 next115 K116 ⟨v114, hS_, hC⟩ h hK117
      refine wp_seq ?_
      refine sr ?_
      refine s_mv (v := .int .i64 s113.2.2) (sx hS_ 5 rfl) ?_
      refine s_geq rfl rfl ?_
      refine dn ?_
      refine cw_cond rfl (fun hb119 => ?_) (fun hb119 => ?_)
      ·replace h := ift h (ct hb119)
       refine wp_skip ?_
       refine then_norm ?_
       refine wp_seq ?_
       refine wp_block ?_
       refine sr ?_
       refine s_mv (v := .int .i64 a1) (sx hS_ 1 rfl) ?_
       refine s_mv (v := .int .i64 s113.2.2) (sx hS_ 5 rfl) ?_
       obtain ⟨⟨h0_120, h1_121⟩, h⟩ := h
       refine s_iaddrB a1.toNat Try.underlying101 sc3.size (sx hS_ 3 rfl) rfl h0_120 h1_121 (by omega) ?_
       refine s_store (v := .int .i64 s113.2.2) hC 0 [.int .i64 s113.2.2] (A8.enc .i64 (s113.1.set a1.toNat s113.2.2)) rfl sc3.size rfl rfl rfl rfl rfl (show a1.toNat < 8 by omega) (A8.enc_set _ _ _ (show a1.toNat < 8 by omega)) fun w122 hC => ?_
       refine dn ?_
       refine cw_region ?_
       refine s_mv (v := .pointer (some ⟨b0, 0, none⟩)) (sx hS_ 0 rfl) ?_
       refine s_mv (v := .int .i64 a1) (sx hS_ 1 rfl) ?_
       refine s_add rfl rfl ?_
       refine s_loadA hC 0 (A8.enc .i64 (s113.1.set a1.toNat s113.2.2)) rfl ag101 (sx hS_ 3 rfl) rfl rfl ?_
       refine s_mv (v := .int .i64 a3) (sx hS_ 2 rfl) ?_
       refine s_mv (v := .int .i64 s113.2.2) (sx hS_ 5 rfl) ?_
       refine s_mv (v := .int .i64 (a0.1.getD a1.toNat default)) (sx hS_ 4 rfl) ?_
       refine s_mul rfl rfl ?_
       refine s_sub rfl rfl ?_
       replace hC := hC.sM [1, 2, 0] (M' := [blk b0 175 [u0_0, .int .i64 a0.2.1, v114], own 101 8 v114 s113.2.1.length ((EA .i64).encs s113.2.1), blk b4 101 (A8.enc .i64 (s113.1.set a1.toNat s113.2.2))]) (by decide) rfl
       refine s_call [.pointer (some ⟨b0, 0, none⟩), .int .i64 (IntKind.i64.wrap (a1 + 1)), .agg (List.toArray (A8.enc .i64 (s113.1.set a1.toNat s113.2.2))), .int .i64 (IntKind.i64.wrap (a3 - (IntKind.i64.wrap (s113.2.2 * (a0.1.getD a1.toNat default)))))] _ Try.func127 rfl rfl rfl (ih_ (⟨a0.1, a0.2.1, s113.2.1⟩ : List Int × Int × List A8) (IntKind.i64.wrap (a1 + 1)) (s113.1.set a1.toNat s113.2.2) (IntKind.i64.wrap (a3 - (IntKind.i64.wrap (s113.2.2 * (a0.1.getD a1.toNat default))))) h _ (hC.getP 0 rfl) (hC.getM 0 rfl) (hC.getM 1 rfl) (fun hb_ => hC.mm 0 1 rfl rfl (by decide) _ (List.mem_singleton_self _) hb_) (fun b_ hb_ hb2_ => (List.mem_cons.1 hb2_).elim (fun e_ => hC.pd _ (List.mem_of_getElem? (i := 0) rfl) b_ hb_ _ (List.mem_of_getElem? (i := 0) rfl) (List.mem_singleton.2 e_)) (fun hb2_ => hC.pd _ (List.mem_of_getElem? (i := 0) rfl) b_ hb_ _ (List.mem_of_getElem? (i := 1) rfl) hb2_))) (fun ret123 w125 hR124 => ?_)
       obtain ⟨m127, v128, rfl, h, hm129, hm130, hm131, hB126⟩ := hR124
       refine ⟨_, rfl, ?_⟩
       replace hC := hC.turnS hB126 hm129 hm130 hm131
       refine done ?_
       refine blk_norm ?_
       refine then_norm ?_
       refine cw_region ?_
       refine s_mv (v := .int .i64 s113.2.2) (sx hS_ 5 rfl) ?_
       refine s_sub rfl rfl ?_
       refine s_as (v := .int .i64 (IntKind.i64.wrap (s113.2.2 - 1))) rfl ?_
       refine done ?_
       replace hC := hC.sM [2, 0, 1] (M' := [blk b4 101 (A8.enc .i64 (s113.1.set a1.toNat s113.2.2)), blk b0 175 [u0_0, .int .i64 a0.2.1, v128], own 101 8 v128 m127.length ((EA .i64).encs m127)]) (by decide) rfl
       exact hK117 (s113.1.set a1.toNat s113.2.2, m127, IntKind.i64.wrap (s113.2.2 - 1)) _ _ ⟨v128, (sk (sx hS_ 0 rfl) (sk (sx hS_ 1 rfl) (sk (sx hS_ 2 rfl) (sk (sx hS_ 3 rfl) (sk (sx hS_ 4 rfl) (sk rfl sn)))))), hC⟩ h
      ·replace h := iff_ h (cf hb119)
       refine wp_exit (then_exit (then_exit (exit_in ?_)))
       refine ret0 (fn := Try.f127) rfl  ⟨s113.2.1, v114, rfl, h, (hC.getM 1 rfl), (hC.getM 2 rfl), (fun b_ hb_ => (hC.mfp _ (List.mem_of_getElem? (i := 2) rfl) b_ hb_).elim .inr (fun q_ => (List.mem_cons.1 q_).elim (fun e_ => absurd hb_ (fun hb_ => hC.mm 1 2 rfl rfl (by decide) b_ (List.mem_singleton.2 e_) hb_)) .inl)), hC.belO⟩ (.inr rfl)
     ·skip
      exact ⟨u0_2, (sk rfl (sk rfl (sk rfl (sk rfl (sk rfl (sk rfl sn)))))), hC⟩
def f_impl_monomials (a0 : List Int) (a1 : Int) (a2 : Int) (K : List A8 → Bool → Prop) : Prop :=
 (if a1 ≥ 0 then f_impl_lister_from 9 (⟨a0, a2, []⟩ : List Int × Int × List A8) 0 A8.zero a1 (fun m11 => K m11 (decide ((m11.length : Int) ≤ a2))) else K [] (decide (0 ≤ a2)))
theorem c_impl_monomials (a0 : List Int) (a1 : Int) (a2 : Int) {u0_0 : Value} {fp0 : List Nat} {K : List A8 → Bool → Prop} (h : f_impl_monomials a0 a1 a2 K) (w0 : World) (q0 : ((EI .i64).ty.sl).rep a0 [u0_0] fp0 w0) :
  Calls Try.prog 91 #[u0_0, .int .i64 a1, .int .i64 a2] w0 fun e w' => ∃ (r0 : List A8) (z0_0 : Value) (fz0 : List Nat) (r1 : Bool), 
   e = .returned (.tuple #[z0_0, .bool r1]) ∧ K r0 r1 ∧ (Tr.item (Tr.sl 101 ((EA .i64).tr)) r0 [z0_0] fz0).holds w' ∧ (∀ b, b ∈ fz0 → w0.heap.size ≤ b) ∧ Bel w0 w' := by
 unfold f_impl_monomials at h
 refine calls_of (args := [u0_0, .int .i64 a1, .int .i64 a2]) Try.func91 rfl 30 Try.ntmps91 (Nat.le_of_ble_eq_true rfl) ?_
 have hC := Ctx.start (X := Nox) w0 [Ty.item ((EI .i64).ty.sl) a0 [u0_0] fp0] (by simp only [List.mem_cons, List.not_mem_nil, or_false, forall_eq_or_imp, forall_eq]; exact q0)
 refine sr ?_
 refine s_as (v := .slice none 0 0) rfl ?_
 refine s_as (v := .bool false) rfl ?_
 refine dn ?_
 refine sr ?_
 refine s_mv (v := u0_0) rfl ?_
 refine s_mv (v := .int .i64 a2) rfl ?_
 refine s_build [(0, u0_0), (1, .int .i64 a2)] rfl (bl175_0sl_1int u0_0 a2 (rep_isSl (hC.getP 0 rfl)) _) ?_
 refine s_box (v := .agg #[u0_0, .int .i64 a2, .slice none 0 0]) hC [u0_0, .int .i64 a2, .slice none 0 0] rfl rfl fun b2 w4 hB_ hC => ?_
 refine s_as (v := .pointer (some ⟨b2, 0, none⟩)) rfl ?_
 refine dn ?_
 refine wp_seq ?_
 refine sr ?_
 refine s_mv (v := .int .i64 a1) rfl ?_
 refine s_geq rfl rfl ?_
 refine dn ?_
 refine cw_cond rfl (fun hb5 => ?_) (fun hb5 => ?_)
 ·replace h := ift h (ct hb5)
  refine cw_region ?_
  refine s_mv (v := .pointer (some ⟨b2, 0, none⟩)) rfl ?_
  refine s_build [] rfl (bl101   _) ?_
  refine s_mv (v := .int .i64 a1) rfl ?_
  replace hC := hC.pushNil 101 8
  replace hC := hC.sM [1, 0] (M' := [blk b2 175 [u0_0, .int .i64 a2, .slice none 0 0], own 101 8 (.slice none 0 0) 0 ((EA .i64).encs [])]) (by decide) rfl
  refine s_call [.pointer (some ⟨b2, 0, none⟩), .int .i64 0, .agg (List.toArray (A8.enc .i64 A8.zero)), .int .i64 a1] _ Try.func127 rfl rfl rfl (c_impl_lister_from 9 (⟨a0, a2, []⟩ : List Int × Int × List A8) 0 A8.zero a1 h _ (hC.getP 0 rfl) (hC.getM 0 rfl) (hC.getM 1 rfl) (fun hb_ => hC.mm 0 1 rfl rfl (by decide) _ (List.mem_singleton_self _) hb_) (fun b_ hb_ hb2_ => (List.mem_cons.1 hb2_).elim (fun e_ => hC.pd _ (List.mem_of_getElem? (i := 0) rfl) b_ hb_ _ (List.mem_of_getElem? (i := 0) rfl) (List.mem_singleton.2 e_)) (fun hb2_ => hC.pd _ (List.mem_of_getElem? (i := 0) rfl) b_ hb_ _ (List.mem_of_getElem? (i := 1) rfl) hb2_))) (fun ret7 w9 hR8 => ?_)
  obtain ⟨m11, v12, rfl, h, hm13, hm14, hm15, hB10⟩ := hR8
  refine ⟨_, rfl, ?_⟩
  replace hC := hC.turnS hB10 hm13 hm14 hm15
  refine dn ?_
  refine wp_seq ?_
  refine cw_draw 12 mixed [0, 1, 3, 7, 0, 16, 48, 112, 240, 0, 1008, 15, 4095] [3, 7, 8] [0, 1, 2, 4, 5, 6, 9, 10, 11] (by kernel_rfl) (by kernel_rfl) (by kernel_rfl) (fun hM17 hM18 w16 hB_ => ?_)
  replace hC := hC.grow hB_
  refine aF 0 (.pointer (some ⟨b2, 0, none⟩)) rfl rfl (hM18 0 rfl) (rfl) (fun _ => by exact r_mv (v := .pointer (some ⟨b2, 0, none⟩)) rfl) (dbits 13 1) ?_
  refine aF 1 (.pointer (some ⟨b2, 0, none⟩)) rfl rfl (hM18 1 rfl) (rfl) (fun _ => by exact r_nilchk rfl) (dbits 13 3) ?_
  refine aF 2 (.pointer (some ⟨b2, 2, none⟩)) rfl rfl (hM18 2 rfl) (rfl) (fun _ => by exact r_faddrB 2 Try.underlying175 rfl sc121.size rfl rfl) (dbits 13 7) ?_
  refine aL 3 (v12) rfl rfl (hM17 3 rfl) (rfl) (fun _ hB_ => by exact r_loadS (hC.grow hB_) 0 (v12) rfl sc121 rfl rfl) (dbits 13 15) ?_
  refine aF 4 (.pointer (some ⟨b2, 0, none⟩)) rfl rfl (hM18 4 rfl) (rfl) (fun _ => by exact r_mv (v := .pointer (some ⟨b2, 0, none⟩)) rfl) (dbits 13 31) ?_
  refine aF 5 (.pointer (some ⟨b2, 0, none⟩)) rfl rfl (hM18 5 rfl) (rfl) (fun _ => by exact r_nilchk rfl) (dbits 13 63) ?_
  refine aF 6 (.pointer (some ⟨b2, 2, none⟩)) rfl rfl (hM18 6 rfl) (rfl) (fun _ => by exact r_faddrB 2 Try.underlying175 rfl sc121.size rfl rfl) (dbits 13 127) ?_
  refine aL 7 (v12) rfl rfl (hM17 7 rfl) (rfl) (fun _ hB_ => by exact r_loadS (hC.grow hB_) 0 (v12) rfl sc121 rfl rfl) (dbits 13 255) ?_
  obtain ⟨Ad19, c20, hv21⟩ := own_form (hC.getM 1 rfl)
  refine aL 8 (.int .i64 (m11.length : Int)) rfl rfl (hM17 8 rfl) (rfl) (fun _ hB_ => by exact r_len Try.underlying121 (by exact tr rfl hv21)) (dbits 13 511) ?_
  refine aF 9 (.int .i64 a2) rfl rfl (hM18 9 rfl) (rfl) (fun _ => by exact r_mv (v := .int .i64 a2) rfl) (dbits 13 1023) ?_
  refine aF 10 (.bool (decide ((m11.length : Int) ≤ a2))) rfl rfl (hM18 10 rfl) (rfl) (fun _ => by exact r_leq rfl rfl) (dbits 13 2047) ?_
  refine aF 11 (v12) rfl rfl (hM18 11 rfl) (rfl) (fun _ => by exact r_as (v := v12) rfl) (dbits 13 4095) ?_
  refine ae_tail 12 (by decide) (by decide) (by kernel_rfl) (by kernel_rfl) rfl ?_
  refine s_as (v := .bool (decide ((m11.length : Int) ≤ a2))) rfl ?_
  refine done ?_
  refine qn_norm ?_
  refine then_norm ?_
  refine wp_ret ?_
  refine ret2 (fn := Try.f91) rfl ?_ ?_ ⟨m11, v12, (Option.toList (Value.ownBlock v12)), decide ((m11.length : Int) ≤ a2), rfl, h, (own_item (hC.getM 1 rfl)), (own_fresh hC 1 rfl), hC.below⟩ (.inl rfl)
  ·exact res_tmp rfl
  ·exact res_tmp rfl
 ·replace h := iff_ h (cf hb5)
  refine wp_skip ?_
  refine then_norm ?_
  refine wp_seq ?_
  refine cw_draw 12 mixed [0, 1, 3, 7, 0, 16, 48, 112, 240, 0, 1008, 15, 4095] [3, 7, 8] [0, 1, 2, 4, 5, 6, 9, 10, 11] (by kernel_rfl) (by kernel_rfl) (by kernel_rfl) (fun hM23 hM24 w22 hB_ => ?_)
  replace hC := hC.grow hB_
  refine aF 0 (.pointer (some ⟨b2, 0, none⟩)) rfl rfl (hM24 0 rfl) (rfl) (fun _ => by exact r_mv (v := .pointer (some ⟨b2, 0, none⟩)) rfl) (dbits 13 1) ?_
  refine aF 1 (.pointer (some ⟨b2, 0, none⟩)) rfl rfl (hM24 1 rfl) (rfl) (fun _ => by exact r_nilchk rfl) (dbits 13 3) ?_
  refine aF 2 (.pointer (some ⟨b2, 2, none⟩)) rfl rfl (hM24 2 rfl) (rfl) (fun _ => by exact r_faddrB 2 Try.underlying175 rfl sc121.size rfl rfl) (dbits 13 7) ?_
  refine aL 3 (.slice none 0 0) rfl rfl (hM23 3 rfl) (rfl) (fun _ hB_ => by exact r_loadS (hC.grow hB_) 0 (.slice none 0 0) rfl sc121 rfl rfl) (dbits 13 15) ?_
  refine aF 4 (.pointer (some ⟨b2, 0, none⟩)) rfl rfl (hM24 4 rfl) (rfl) (fun _ => by exact r_mv (v := .pointer (some ⟨b2, 0, none⟩)) rfl) (dbits 13 31) ?_
  refine aF 5 (.pointer (some ⟨b2, 0, none⟩)) rfl rfl (hM24 5 rfl) (rfl) (fun _ => by exact r_nilchk rfl) (dbits 13 63) ?_
  refine aF 6 (.pointer (some ⟨b2, 2, none⟩)) rfl rfl (hM24 6 rfl) (rfl) (fun _ => by exact r_faddrB 2 Try.underlying175 rfl sc121.size rfl rfl) (dbits 13 127) ?_
  refine aL 7 (.slice none 0 0) rfl rfl (hM23 7 rfl) (rfl) (fun _ hB_ => by exact r_loadS (hC.grow hB_) 0 (.slice none 0 0) rfl sc121 rfl rfl) (dbits 13 255) ?_
  refine aL 8 (.int .i64 0) rfl rfl (hM23 8 rfl) (rfl) (fun _ hB_ => by exact r_len Try.underlying121 rfl) (dbits 13 511) ?_
  refine aF 9 (.int .i64 a2) rfl rfl (hM24 9 rfl) (rfl) (fun _ => by exact r_mv (v := .int .i64 a2) rfl) (dbits 13 1023) ?_
  refine aF 10 (.bool (decide (0 ≤ a2))) rfl rfl (hM24 10 rfl) (rfl) (fun _ => by exact r_leq rfl rfl) (dbits 13 2047) ?_
  refine aF 11 (.slice none 0 0) rfl rfl (hM24 11 rfl) (rfl) (fun _ => by exact r_as (v := .slice none 0 0) rfl) (dbits 13 4095) ?_
  refine ae_tail 12 (by decide) (by decide) (by kernel_rfl) (by kernel_rfl) rfl ?_
  refine s_as (v := .bool (decide (0 ≤ a2))) rfl ?_
  refine done ?_
  refine qn_norm ?_
  refine then_norm ?_
  refine wp_ret ?_
  refine ret2 (fn := Try.f91) rfl ?_ ?_ ⟨[], .slice none 0 0, [], decide (0 ≤ a2), rfl, h, (nil_item _ _ _), (fun b hb => absurd hb (by simp)), hC.below⟩ (.inl rfl)
  ·exact res_tmp rfl
  ·exact res_tmp rfl
def f_impl_power_length (a0 : A8) (K : Int → Prop) : Prop :=
 forN (fun i10 (s11 : Int) next12 => next12 (IntKind.i64.wrap (s11 + (a0.get i10)))) (fun (s11 : Int) => K s11) 8 0 0
theorem c_impl_power_length (a0 : A8)  {K : Int → Prop} (h : f_impl_power_length a0 K) (w0 : World)  :
  Calls Try.prog 117 #[.agg (List.toArray (A8.enc .i64 a0))] w0 fun e w' => ∃ (r0 : Int), 
   e = .returned (.int .i64 r0) ∧ K r0 ∧ Bel w0 w' := by
 unfold f_impl_power_length at h
 refine calls_of (args := [.agg (List.toArray (A8.enc .i64 a0))]) Try.func117 rfl 15 Try.ntmps117 (Nat.le_of_ble_eq_true rfl) ?_
 have hC := Ctx.start (X := Nox) w0 [] (by simp)
 refine sr ?_
 refine s_box (v := .agg (List.toArray (A8.enc .i64 a0))) hC (A8.enc .i64 a0) rfl rfl fun b1 w3 hB_ hC => ?_
 refine s_as (v := .int .i64 0) rfl ?_
 refine dn ?_
 refine sr ?_
 refine s_as (v := .int .i64 0) rfl ?_
 refine dn ?_
 refine wp_seq ?_
 refine sr ?_
 refine s_loadA hC 0 (A8.enc .i64 a0) rfl ag101 rfl rfl rfl ?_
 refine s_mv (v := .int .i64 0) rfl ?_
 refine dn ?_
 refine wp_block ?_
 refine loopN (S := Int) _ _ (fun i10 s11 e_ w_ => Slots e_ [(2, .int .i64 0), (3, .int .i64 s11), (6, .agg (List.toArray (A8.enc .i64 a0))), (7, .int .i64 (i10 : Int))] ∧ Ctx Nox w0 w_ [] []) 8 ?_ ?_ (s0 := 0) ?_ h
 ·clear hC h
  rintro i10 s11 e_ w16 next12 K13 hi15 ⟨hS_, hC⟩ h hK14
  refine sr ?_
  refine s_lss (sx hS_ 3 rfl) rfl ?_
  refine dn ?_
  refine wp_seq ?_
  refine cw_true rfl (decide_eq_true (by omega)) ?_
  refine wp_skip ?_
  refine then_norm ?_
  refine wp_seq ?_
  refine wp_block ?_
  refine sr ?_
  refine s_index (.int .i64 (a0.get i10)) Try.underlying101 (sx hS_ 2 rfl) (sx hS_ 3 rfl) (Int.natCast_nonneg _) (by omega) sc3 (A8.enc_get _ _ hi15) ?_
  refine s_as (v := .int .i64 (a0.get i10)) rfl ?_
  refine dn ?_
  refine cw_region ?_
  refine s_mv (v := .int .i64 s11) (sx hS_ 1 rfl) ?_
  refine s_mv (v := .int .i64 (a0.get i10)) rfl ?_
  refine s_add rfl rfl ?_
  refine s_as (v := .int .i64 (IntKind.i64.wrap (s11 + (a0.get i10)))) rfl ?_
  refine done ?_
  refine blk_norm ?_
  refine then_norm ?_
  refine cw_region ?_
  refine s_add (sx hS_ 3 rfl) rfl ?_
  refine s_mv (v := .int .i64 (IntKind.i64.wrap ((i10 : Int) + 1))) rfl ?_
  refine done ?_
  exact hK14 (IntKind.i64.wrap (s11 + (a0.get i10))) _ _ ⟨(sk (sx hS_ 0 rfl) (sk rfl (sk (sx hS_ 2 rfl) (sk (tr rfl (congrArg _ (wrap64_nat hi15 (by decide)))) sn)))), hC⟩ h
 ·clear hC h
  rintro s11 e_ w17 K13 ⟨hS_, hC⟩ h
  refine sr ?_
  refine s_lss (sx hS_ 3 rfl) rfl ?_
  refine dn ?_
  refine wp_seq ?_
  refine cw_false rfl (decide_eq_false (by omega)) ?_
  refine wp_exit (then_exit (then_exit (exit_in ?_)))
  refine then_norm ?_
  refine sr ?_
  refine s_mv (v := .int .i64 s11) (sx hS_ 1 rfl) ?_
  refine s_as (v := .int .i64 s11) rfl ?_
  refine dn ?_
  refine wp_ret ?_
  refine ret1 (fn := Try.f117) rfl ?_ ⟨s11, rfl, h, hC.below⟩ (.inl rfl)
  exact res_tmp rfl
 ·skip
  replace hC := hC.sM [] (M' := []) (by decide) rfl
  exact ⟨(sk rfl (sk rfl (sk rfl (sk rfl sn)))), hC⟩
def f_impl_isPage (a0 : Int) (K : Bool → Prop) : Prop :=
 f_impl_within a0 0 20 (fun r4 => K r4)
theorem c_impl_isPage (a0 : Int)  {K : Bool → Prop} (h : f_impl_isPage a0 K) (w0 : World)  :
  Calls Try.prog 63 #[.int .i64 a0] w0 fun e w' => ∃ (r0 : Bool), 
   e = .returned (.bool r0) ∧ K r0 ∧ Bel w0 w' := by
 unfold f_impl_isPage at h
 refine calls_of (args := [.int .i64 a0]) Try.func63 rfl 5 Try.ntmps63 (Nat.le_of_ble_eq_true rfl) ?_
 have hC := Ctx.start (X := Nox) w0 [] (by simp)
 refine sr ?_
 refine s_as (v := .bool false) rfl ?_
 refine dn ?_
 refine sr ?_
 refine s_mv (v := .int .i64 a0) rfl ?_
 refine s_call [.int .i64 a0, .int .i64 0, .int .i64 20] _ Try.func48 rfl rfl rfl (c_impl_within a0 0 20 h _) (fun ret1 w3 hR2 => ?_)
 obtain ⟨r4, rfl, h, hB5⟩ := hR2
 refine ⟨_, rfl, ?_⟩
 replace hC := hC.grow hB5
 refine s_as (v := .bool r4) rfl ?_
 refine dn ?_
 refine wp_ret ?_
 refine ret1 (fn := Try.f63) rfl ?_ ⟨r4, rfl, h, hC.below⟩ (.inl rfl)
 exact res_tmp rfl
def f_impl_count (a0 : List Bool) (K : Int → Prop) : Prop :=
 forN (fun i19 (s20 : Int) next22 => (if (a0.getD i19 default) = true then next22 (IntKind.i64.wrap (s20 + 1)) else next22 s20)) (fun (s20 : Int) => K s20) a0.length 0 0
theorem c_impl_count (a0 : List Bool) {u0_0 : Value} {fp0 : List Nat} {K : Int → Prop} (h : f_impl_count a0 K) (w0 : World) (q0 : EB.ty.sl.rep a0 [u0_0] fp0 w0) :
  Calls Try.prog 64 #[u0_0] w0 fun e w' => ∃ (r0 : Int), 
   e = .returned (.int .i64 r0) ∧ K r0 ∧ Bel w0 w' := by
 unfold f_impl_count at h
 refine calls_of (args := [u0_0]) Try.func64 rfl 17 Try.ntmps64 (Nat.le_of_ble_eq_true rfl) ?_
 have hC := Ctx.start (X := Nox) w0 [Ty.item EB.ty.sl a0 [u0_0] fp0] (by simp only [List.mem_cons, List.not_mem_nil, or_false, forall_eq_or_imp, forall_eq]; exact q0)
 refine sr ?_
 refine s_as (v := .int .i64 0) rfl ?_
 refine dn ?_
 refine sr ?_
 refine s_as (v := .int .i64 0) rfl ?_
 refine dn ?_
 refine wp_seq ?_
 refine sr ?_
 refine s_mv (v := u0_0) rfl ?_
 obtain ⟨Ad2, c3, hv4⟩ := sl_len (hC.getP 0 rfl)
 refine s_len Try.underlying87 (tr rfl hv4) ?_
 refine s_mv (v := .int .i64 0) rfl ?_
 refine dn ?_
 refine wp_block ?_
 have hN21 : a0.length ≤ 9223372036854775807 := sl_max (hC.getP 0 rfl)
 refine loopN (S := Int) _ _ (fun i19 s20 e_ w_ => Slots e_ [(2, .int .i64 0), (3, .int .i64 s20), (6, u0_0), (7, .int .i64 (a0.length : Int)), (8, .int .i64 (i19 : Int))] ∧ Ctx Nox w0 w_ [] [Ty.item EB.ty.sl a0 [u0_0] fp0]) a0.length ?_ ?_ (s0 := 0) ?_ h
 ·clear hC h
  rintro i19 s20 e_ w26 next22 K23 hi25 ⟨hS_, hC⟩ h hK24
  refine sr ?_
  refine s_lss (sx hS_ 4 rfl) (sx hS_ 3 rfl) ?_
  refine dn ?_
  refine wp_seq ?_
  refine cw_true rfl (decide_eq_true (by omega)) ?_
  refine wp_skip ?_
  refine then_norm ?_
  refine wp_seq ?_
  refine wp_block ?_
  refine sr ?_
  obtain ⟨Ad27, c28, hv29⟩ := sl_form (hC.getP 0 rfl) i19 hi25
  refine s_iaddrS (len := a0.length) Try.underlying87 sc4.size (tr (sx hS_ 2 rfl) hv29) (sx hS_ 4 rfl) (Int.natCast_nonneg _) (Int.ofNat_lt.2 hi25) ?_
  refine s_loadCS (.bool (a0.getD i19 default)) (sl_cellsE (hC.getP 0 rfl) hv29 i19 hi25) sc4 rfl ?_
  refine s_as (v := .bool (a0.getD i19 default)) rfl ?_
  refine dn ?_
  refine sr ?_
  refine s_mv (v := .bool (a0.getD i19 default)) rfl ?_
  refine dn ?_
  refine cw_cond rfl (fun hb30 => ?_) (fun hb30 => ?_)
  ·replace h := ift h (hb30)
   refine cw_region ?_
   refine s_mv (v := .int .i64 s20) (sx hS_ 1 rfl) ?_
   refine s_add rfl rfl ?_
   refine s_as (v := .int .i64 (IntKind.i64.wrap (s20 + 1))) rfl ?_
   refine done ?_
   refine blk_norm ?_
   refine then_norm ?_
   refine cw_region ?_
   refine s_add (sx hS_ 4 rfl) rfl ?_
   refine s_mv (v := .int .i64 (IntKind.i64.wrap ((i19 : Int) + 1))) rfl ?_
   refine done ?_
   exact hK24 (IntKind.i64.wrap (s20 + 1)) _ _ ⟨(sk (sx hS_ 0 rfl) (sk rfl (sk (sx hS_ 2 rfl) (sk (sx hS_ 3 rfl) (sk (tr rfl (congrArg _ (wrap64_nat hi25 hN21))) sn))))), hC⟩ h
  ·replace h := iff_ h (ne_t hb30)
   refine wp_skip ?_
   refine blk_norm ?_
   refine then_norm ?_
   refine cw_region ?_
   refine s_add (sx hS_ 4 rfl) rfl ?_
   refine s_mv (v := .int .i64 (IntKind.i64.wrap ((i19 : Int) + 1))) rfl ?_
   refine done ?_
   exact hK24 s20 _ _ ⟨(sk (sx hS_ 0 rfl) (sk (sx hS_ 1 rfl) (sk (sx hS_ 2 rfl) (sk (sx hS_ 3 rfl) (sk (tr rfl (congrArg _ (wrap64_nat hi25 hN21))) sn))))), hC⟩ h
 ·clear hC h
  rintro s20 e_ w31 K23 ⟨hS_, hC⟩ h
  refine sr ?_
  refine s_lss (sx hS_ 4 rfl) (sx hS_ 3 rfl) ?_
  refine dn ?_
  refine wp_seq ?_
  refine cw_false rfl (decide_eq_false (by omega)) ?_
  refine wp_exit (then_exit (then_exit (exit_in ?_)))
  refine then_norm ?_
  refine sr ?_
  refine s_mv (v := .int .i64 s20) (sx hS_ 1 rfl) ?_
  refine s_as (v := .int .i64 s20) rfl ?_
  refine dn ?_
  refine wp_ret ?_
  refine ret1 (fn := Try.f64) rfl ?_ ⟨s20, rfl, h, hC.below⟩ (.inl rfl)
  exact res_tmp rfl
 ·skip
  exact ⟨(sk rfl (sk rfl (sk rfl (sk rfl (sk rfl sn))))), hC⟩
end Go.Proofs.Ytaagfepgbofmlaa
