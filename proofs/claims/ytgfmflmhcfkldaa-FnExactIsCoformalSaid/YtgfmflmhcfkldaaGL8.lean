/- Printed by vcgen.py: functions of the program as predicates, and that the machine's calls meet them. -/
import Derived.Test.YtgfmflmhcfkldaaGC
import Derived.KernelRfl
set_option linter.unusedVariables false
set_option linter.unusedSimpArgs false
set_option maxRecDepth 4000
set_option maxHeartbeats 4000000
namespace Go.Proofs.Ytgfmflmhcfkldaa
open Go Go.RowKit Vc
theorem bs22_0  (w : World) : (Instr.buildSlice 22 0 #[]).run Try.prog w = .ok (.slice (some ⟨w.heap.size, 0, none⟩) 0 0) (w.alloc (.cells (List.toArray ((EI .i64).encs [])) 2)) := by kernel_rfl
theorem bs22_1 (x0 : Int) (w : World) : (Instr.buildSlice 22 1 #[(0, .int .i64 x0)]).run Try.prog w = .ok (.slice (some ⟨w.heap.size, 0, none⟩) 1 1) (w.alloc (.cells (List.toArray ((EI .i64).encs [x0])) 2)) := by kernel_rfl
theorem bs148_0 (w : World) : (Instr.buildSlice 148 0 #[]).run Try.prog w = .ok (.slice (some ⟨w.heap.size, 0, none⟩) 0 0) (w.alloc (.cells (List.toArray []) 22)) := by kernel_rfl
theorem bsr148_1_s (x0 : Value) (hx0 : IsSl x0) (w : World) : (Instr.buildSlice 148 1 #[(0, x0)]).run Try.prog w = .ok (.slice (some ⟨w.heap.size, 0, none⟩) 1 1) (w.alloc (.cells (List.toArray [x0]) 22)) := by obtain ⟨_, _, _, rfl⟩ := hx0; kernel_rfl
theorem el22 : ElemT Try.prog 22 (.slice none 0 0) 1 24 := by unfold ElemT; kernel_rfl
theorem bs22_2 (x0 : Int) (x1 : Int) (w : World) : (Instr.buildSlice 22 2 #[(0, .int .i64 x0), (1, .int .i64 x1)]).run Try.prog w = .ok (.slice (some ⟨w.heap.size, 0, none⟩) 2 2) (w.alloc (.cells (List.toArray ((EI .i64).encs [x0, x1])) 2)) := by kernel_rfl
theorem ag25 : AggT Try.prog 25 2 := ⟨⟨_, Try.underlying25, rfl⟩, by kernel_rfl⟩
def f_impl_generator (a0 : Int) (K : A8 → Prop) : Prop :=
 ((0 ≤ a0 ∧ a0 < 8) ∧ K (A8.zero.set a0.toNat 1))
theorem c_impl_generator (a0 : Int)  {K : A8 → Prop} (h : f_impl_generator a0 K) (w0 : World)  :
  Calls Try.prog 128 #[.int .i64 a0] w0 fun e w' => ∃ (r0 : A8), 
   e = .returned (.agg (List.toArray (A8.enc .i64 r0))) ∧ K r0 ∧ Bel w0 w' := by
 unfold f_impl_generator at h
 refine calls_of (args := [.int .i64 a0]) Try.func128 rfl 8 Try.ntmps128 (Nat.le_of_ble_eq_true rfl) ?_
 have hC := Ctx.start (X := Nox) w0 [] (by simp)
 refine sr ?_
 refine s_alloc hC (A8.enc .i64 A8.zero) z94 rfl fun b1 w3 hB_ hC => ?_
 refine dn ?_
 refine sr ?_
 refine s_build [] rfl (bl94   _) ?_
 refine s_alloc hC (A8.enc .i64 A8.zero) z94 rfl fun b4 w6 hB_ hC => ?_
 refine s_store (v := .agg (List.toArray (A8.enc .i64 A8.zero))) hC 0 (A8.enc .i64 A8.zero) (A8.enc .i64 A8.zero) rfl ag94.size rfl rfl rfl rfl rfl (Nat.le_of_ble_eq_true rfl) rfl fun w7 hC => ?_
 refine dn ?_
 refine sr ?_
 refine s_mv (v := .int .i64 a0) rfl ?_
 obtain ⟨⟨h0_8, h1_9⟩, h⟩ := h
 refine s_iaddrB a0.toNat Try.underlying94 sc3.size rfl rfl h0_8 h1_9 (by omega) ?_
 refine s_store (v := .int .i64 1) hC 0 [.int .i64 1] (A8.enc .i64 (A8.zero.set a0.toNat 1)) rfl sc3.size rfl rfl rfl rfl rfl (show a0.toNat < 8 by omega) (A8.enc_set _ _ _ (show a0.toNat < 8 by omega)) fun w10 hC => ?_
 refine dn ?_
 refine sr ?_
 refine s_loadA hC 0 (A8.enc .i64 (A8.zero.set a0.toNat 1)) rfl ag94 rfl rfl rfl ?_
 refine s_store (v := .agg (List.toArray (A8.enc .i64 (A8.zero.set a0.toNat 1)))) hC 1 (A8.enc .i64 (A8.zero.set a0.toNat 1)) (A8.enc .i64 (A8.zero.set a0.toNat 1)) rfl ag94.size rfl rfl rfl rfl rfl (Nat.le_of_ble_eq_true rfl) rfl fun w11 hC => ?_
 refine dn ?_
 refine wp_ret ?_
 refine ret1 (fn := Try.f128) rfl ?_ ⟨A8.zero.set a0.toNat 1, rfl, h, hC.below⟩ (.inl rfl)
 exact res_cellA hC 1 rfl ag94 rfl rfl
def f_impl_power_length (a0 : A8) (K : Int → Prop) : Prop :=
 forN (fun i10 (s11 : Int) next12 => next12 (IntKind.i64.wrap (s11 + (a0.get i10)))) (fun (s11 : Int) => K s11) 8 0 0
theorem c_impl_power_length (a0 : A8)  {K : Int → Prop} (h : f_impl_power_length a0 K) (w0 : World)  :
  Calls Try.prog 65 #[.agg (List.toArray (A8.enc .i64 a0))] w0 fun e w' => ∃ (r0 : Int), 
   e = .returned (.int .i64 r0) ∧ K r0 ∧ Bel w0 w' := by
 unfold f_impl_power_length at h
 refine calls_of (args := [.agg (List.toArray (A8.enc .i64 a0))]) Try.func65 rfl 15 Try.ntmps65 (Nat.le_of_ble_eq_true rfl) ?_
 have hC := Ctx.start (X := Nox) w0 [] (by simp)
 refine sr ?_
 refine s_box (v := .agg (List.toArray (A8.enc .i64 a0))) hC (A8.enc .i64 a0) rfl rfl fun b1 w3 hB_ hC => ?_
 refine s_as (v := .int .i64 0) rfl ?_
 refine dn ?_
 refine sr ?_
 refine s_as (v := .int .i64 0) rfl ?_
 refine dn ?_
 refine wp_seq ?_
 refine sr ?_
 refine s_loadA hC 0 (A8.enc .i64 a0) rfl ag94 rfl rfl rfl ?_
 refine s_mv (v := .int .i64 0) rfl ?_
 refine dn ?_
 refine wp_block ?_
 refine loopN (S := Int) _ _ (fun i10 s11 e_ w_ => Slots e_ [(2, .int .i64 0), (3, .int .i64 s11), (6, .agg (List.toArray (A8.enc .i64 a0))), (7, .int .i64 (i10 : Int))] ∧ Ctx Nox w0 w_ [] []) 8 ?_ ?_ (s0 := 0) ?_ h
 ·clear hC h
  rintro i10 s11 e_ w16 next12 K13 hi15 ⟨hS_, hC⟩ h hK14
  refine sr ?_
  refine s_lss (sx hS_ 3 rfl) rfl ?_
  refine dn ?_
  refine wp_seq ?_
  refine cw_true rfl (decide_eq_true (by omega)) ?_
  refine wp_skip ?_
  refine then_norm ?_
  refine wp_seq ?_
  refine wp_block ?_
  refine sr ?_
  refine s_index (.int .i64 (a0.get i10)) Try.underlying94 (sx hS_ 2 rfl) (sx hS_ 3 rfl) (Int.natCast_nonneg _) (by omega) sc3 (A8.enc_get _ _ hi15) ?_
  refine s_as (v := .int .i64 (a0.get i10)) rfl ?_
  refine dn ?_
  refine cw_region ?_
  refine s_mv (v := .int .i64 s11) (sx hS_ 1 rfl) ?_
  refine s_mv (v := .int .i64 (a0.get i10)) rfl ?_
  refine s_add rfl rfl ?_
  refine s_as (v := .int .i64 (IntKind.i64.wrap (s11 + (a0.get i10)))) rfl ?_
  refine done ?_
  refine blk_norm ?_
  refine then_norm ?_
  refine cw_region ?_
  refine s_add (sx hS_ 3 rfl) rfl ?_
  refine s_mv (v := .int .i64 (IntKind.i64.wrap ((i10 : Int) + 1))) rfl ?_
  refine done ?_
  exact hK14 (IntKind.i64.wrap (s11 + (a0.get i10))) _ _ ⟨(sk (sx hS_ 0 rfl) (sk rfl (sk (sx hS_ 2 rfl) (sk (tr rfl (congrArg _ (wrap64_nat hi15 (by decide)))) sn)))), hC⟩ h
 ·clear hC h
  rintro s11 e_ w17 K13 ⟨hS_, hC⟩ h
  refine sr ?_
  refine s_lss (sx hS_ 3 rfl) rfl ?_
  refine dn ?_
  refine wp_seq ?_
  refine cw_false rfl (decide_eq_false (by omega)) ?_
  refine wp_exit (then_exit (then_exit (exit_in ?_)))
  refine then_norm ?_
  refine sr ?_
  refine s_mv (v := .int .i64 s11) (sx hS_ 1 rfl) ?_
  refine s_as (v := .int .i64 s11) rfl ?_
  refine dn ?_
  refine wp_ret ?_
  refine ret1 (fn := Try.f65) rfl ?_ ⟨s11, rfl, h, hC.below⟩ (.inl rfl)
  exact res_tmp rfl
 ·skip
  replace hC := hC.sel [] [] (M' := []) (Ps' := []) (by decide) rfl rfl
  exact ⟨(sk rfl (sk rfl (sk rfl (sk rfl sn)))), hC⟩
def f_spec_l02Word (a0 : A8) (K : Int → Prop) : Prop :=
 forN (fun i10 (s11 : Int) next12 => next12 (IntKind.i64.wrap (s11 + (IntKind.i64.wrap (a0.get i10))))) (fun (s11 : Int) => K s11) 8 0 0
theorem c_spec_l02Word (a0 : A8)  {K : Int → Prop} (h : f_spec_l02Word a0 K) (w0 : World)  :
  Calls Try.prog 96 #[.agg (List.toArray (A8.enc .u8 a0))] w0 fun e w' => ∃ (r0 : Int), 
   e = .returned (.int .i64 r0) ∧ K r0 ∧ Bel w0 w' := by
 unfold f_spec_l02Word at h
 refine calls_of (args := [.agg (List.toArray (A8.enc .u8 a0))]) Try.func96 rfl 16 Try.ntmps96 (Nat.le_of_ble_eq_true rfl) ?_
 have hC := Ctx.start (X := Nox) w0 [] (by simp)
 refine sr ?_
 refine s_box (v := .agg (List.toArray (A8.enc .u8 a0))) hC (A8.enc .u8 a0) rfl rfl fun b1 w3 hB_ hC => ?_
 refine s_as (v := .int .i64 0) rfl ?_
 refine dn ?_
 refine sr ?_
 refine s_as (v := .int .i64 0) rfl ?_
 refine dn ?_
 refine wp_seq ?_
 refine sr ?_
 refine s_as (v := .int .i64 0) rfl ?_
 refine dn ?_
 refine wp_block ?_
 refine loopN (S := Int) _ _ (fun i10 s11 e_ w_ => Slots e_ [(1, .pointer (some ⟨b1, 0, none⟩)), (2, .int .i64 0), (3, .int .i64 s11), (4, .int .i64 (i10 : Int))] ∧ Ctx Nox w0 w_ [blk b1 84 (A8.enc .u8 a0)] []) 8 ?_ ?_ (s0 := 0) ?_ h
 ·clear hC h
  rintro i10 s11 e_ w16 next12 K13 hi15 ⟨hS_, hC⟩ h hK14
  refine wp_seq ?_
  refine sr ?_
  refine s_mv (v := .int .i64 (i10 : Int)) (sx hS_ 3 rfl) ?_
  refine s_lss rfl rfl ?_
  refine dn ?_
  refine cw_true rfl (decide_eq_true (by omega)) ?_
  refine wp_skip ?_
  refine then_norm ?_
  refine wp_seq ?_
  refine wp_block ?_
  refine cw_region ?_
  refine s_mv (v := .int .i64 s11) (sx hS_ 2 rfl) ?_
  refine s_mv (v := .int .i64 (i10 : Int)) (sx hS_ 3 rfl) ?_
  refine s_iaddrB i10 Try.underlying84 sc5.size (sx hS_ 0 rfl) rfl (Int.natCast_nonneg _) (by omega) (by omega) ?_
  refine s_loadS hC 0 (.int .u8 (a0.get i10)) rfl sc5 rfl (A8.enc_get _ _ hi15) ?_
  refine s_conv Try.underlying5 Try.underlying2 rfl ?_
  refine s_add rfl rfl ?_
  refine s_as (v := .int .i64 (IntKind.i64.wrap (s11 + (IntKind.i64.wrap (a0.get i10))))) rfl ?_
  refine done ?_
  refine blk_norm ?_
  refine then_norm ?_
  refine cw_region ?_
  refine s_mv (v := .int .i64 (i10 : Int)) (sx hS_ 3 rfl) ?_
  refine s_add rfl rfl ?_
  refine s_as (v := .int .i64 (IntKind.i64.wrap ((i10 : Int) + 1))) rfl ?_
  refine done ?_
  exact hK14 (IntKind.i64.wrap (s11 + (IntKind.i64.wrap (a0.get i10)))) _ _ ⟨(sk (sx hS_ 0 rfl) (sk (sx hS_ 1 rfl) (sk rfl (sk (tr rfl (congrArg _ (wrap64_nat hi15 (by decide)))) sn)))), hC⟩ h
 ·clear hC h
  rintro s11 e_ w17 K13 ⟨hS_, hC⟩ h
  refine wp_seq ?_
  refine sr ?_
  refine s_mv (v := .int .i64 8) (sx hS_ 3 rfl) ?_
  refine s_lss rfl rfl ?_
  refine dn ?_
  refine cw_false rfl (decide_eq_false (by omega)) ?_
  refine wp_exit (then_exit (then_exit (exit_in ?_)))
  refine then_norm ?_
  refine sr ?_
  refine s_mv (v := .int .i64 s11) (sx hS_ 2 rfl) ?_
  refine s_as (v := .int .i64 s11) rfl ?_
  refine dn ?_
  refine wp_ret ?_
  refine ret1 (fn := Try.f96) rfl ?_ ⟨s11, rfl, h, hC.below⟩ (.inl rfl)
  exact res_tmp rfl
 ·skip
  exact ⟨(sk rfl (sk rfl (sk rfl (sk rfl sn)))), hC⟩
def f_spec_l02Least (a0 : Vc.Form) (K : Int → Prop) : Prop :=
 whileP (fun (s41 : Int × Int) next42 => (if s41.2 < (a0.terms.length : Int) then ((0 ≤ s41.2 ∧ s41.2 < (a0.terms.length : Int)) ∧ f_spec_l02Word ((a0.terms.getD s41.2.toNat default).mono) (fun r58 => (if s41.2 = 0 then next42 (r58, IntKind.i64.wrap (s41.2 + 1)) else (if r58 < s41.1 then next42 (r58, IntKind.i64.wrap (s41.2 + 1)) else next42 (s41.1, IntKind.i64.wrap (s41.2 + 1)))))) else K s41.1)) (0, 0)
theorem c_spec_l02Least (a0 : Vc.Form) {u0_0 : Value} {fp0 : List Nat} {K : Int → Prop} (h : f_spec_l02Least a0 K) (w0 : World) (q0 : TForm.rep a0 [u0_0] fp0 w0) :
  Calls Try.prog 117 #[.agg #[u0_0]] w0 fun e w' => ∃ (r0 : Int), 
   e = .returned (.int .i64 r0) ∧ K r0 ∧ Bel w0 w' := by
 unfold f_spec_l02Least at h
 refine calls_of (args := [.agg #[u0_0]]) Try.func117 rfl 29 Try.ntmps117 (Nat.le_of_ble_eq_true rfl) ?_
 have hC := Ctx.start (X := Nox) w0 [Ty.item TForm a0 [u0_0] fp0] (by simp only [List.mem_cons, List.not_mem_nil, or_false, forall_eq_or_imp, forall_eq]; exact q0)
 have hp2 := (hC.getP 0 rfl)
 replace hC := hC.derive 0 rfl (Ty.item ETerm.ty.sl a0.terms [u0_0] fp0) (fun _ => (form_parts hp2)) (fun _ hb_ => hb_)
 refine sr ?_
 refine s_box (v := .agg #[u0_0]) hC [u0_0] rfl rfl fun b4 w6 hB_ hC => ?_
 refine s_as (v := .int .i64 0) rfl ?_
 refine dn ?_
 refine sr ?_
 refine s_as (v := .int .i64 0) rfl ?_
 refine dn ?_
 refine wp_seq ?_
 refine sr ?_
 refine s_as (v := .int .i64 0) rfl ?_
 refine dn ?_
 refine wp_block ?_
 refine loopW (S := Int × Int) _ (fun s41 e_ w_ => Slots e_ [(1, .pointer (some ⟨b4, 0, none⟩)), (2, .int .i64 0), (3, .int .i64 s41.1), (4, .int .i64 s41.2)] ∧ Ctx Nox w0 w_ [blk b4 46 [u0_0]] [Ty.item ETerm.ty.sl a0.terms [u0_0] fp0, Ty.item TForm a0 [u0_0] fp0]) ?_ (s0 := (0, 0)) ?_ h
 ·clear hC h
  rintro s41 e_ w45 next42 K43 ⟨hS_, hC⟩ h hK44
  refine wp_seq ?_
  refine sr ?_
  refine s_mv (v := .int .i64 s41.2) (sx hS_ 3 rfl) ?_
  refine s_faddrB 0 Try.underlying46 rfl sc44.size (sx hS_ 0 rfl) rfl ?_
  refine s_loadS hC 0 (u0_0) rfl sc44 rfl rfl ?_
  obtain ⟨Ad46, c47, hv48⟩ := sl_len (hC.getP 0 rfl)
  refine s_len Try.underlying44 (tr rfl hv48) ?_
  refine s_lss rfl rfl ?_
  refine dn ?_
  refine cw_cond rfl (fun hb49 => ?_) (fun hb49 => ?_)
  ·replace h := ift h (ct hb49)
   refine wp_skip ?_
   refine then_norm ?_
   refine wp_seq ?_
   refine wp_block ?_
   refine sr ?_
   refine s_faddrB 0 Try.underlying46 rfl sc44.size (sx hS_ 0 rfl) rfl ?_
   refine s_loadS hC 0 (u0_0) rfl sc44 rfl rfl ?_
   refine s_mv (v := .int .i64 s41.2) (sx hS_ 3 rfl) ?_
   obtain ⟨⟨h0_50, h1_51⟩, h⟩ := h
   obtain ⟨Ad52, c53, hv54⟩ := sl_form (hC.getP 0 rfl) s41.2.toNat (show s41.2.toNat < a0.terms.length by omega)
   refine s_iaddrS (len := a0.terms.length) Try.underlying44 ag86.size (tr rfl hv54) rfl h0_50 h1_51 ?_
   refine s_faddrS (s41.2.toNat * 9 + 0) Try.underlying86 rfl ag84.size rfl rfl ?_
   refine s_loadCA (A8.enc .u8 ((a0.terms.getD s41.2.toNat default).mono)) (cells_subS (o := 0) (k := 8) (sl_cellsE (hC.getP 0 rfl) hv54 s41.2.toNat (show s41.2.toNat < a0.terms.length by omega)) rfl) ag84 rfl rfl ?_
   refine s_call [.agg (List.toArray (A8.enc .u8 ((a0.terms.getD s41.2.toNat default).mono)))] _ Try.func96 rfl rfl rfl (c_spec_l02Word ((a0.terms.getD s41.2.toNat default).mono) h _) (fun ret55 w57 hR56 => ?_)
   obtain ⟨r58, rfl, h, hB59⟩ := hR56
   refine ⟨_, rfl, ?_⟩
   replace hC := hC.grow hB59
   refine s_as (v := .int .i64 r58) rfl ?_
   refine dn ?_
   refine sr ?_
   refine s_mv (v := .int .i64 s41.2) (sx hS_ 3 rfl) ?_
   refine s_eql rfl rfl ?_
   refine s_mv (v := .bool (decide (s41.2 = 0))) rfl ?_
   refine bsplit (decide (s41.2 = 0)) (fun hb60 => ?_) (fun hb60 => ?_)
   ·replace h := ift h (ct hb60)
    refine guardOff (b := true) 2 22 rfl (tr rfl (congrArg _ hb60)) (by decide) ?_
    refine guardOff (b := true) 2 22 rfl (tr rfl (congrArg _ hb60)) (by decide) ?_
    refine guardOff (b := true) 2 22 rfl (tr rfl (congrArg _ hb60)) (by decide) ?_
    refine s_pick (v := .bool true) (b := true) (tr rfl (congrArg _ hb60)) rfl ?_
    refine dn ?_
    refine cw_true rfl rfl ?_
    refine cw_region ?_
    refine s_mv (v := .int .i64 r58) rfl ?_
    refine s_as (v := .int .i64 r58) rfl ?_
    refine done ?_
    refine blk_norm ?_
    refine then_norm ?_
    refine cw_region ?_
    refine s_mv (v := .int .i64 s41.2) (sx hS_ 3 rfl) ?_
    refine s_add rfl rfl ?_
    refine s_as (v := .int .i64 (IntKind.i64.wrap (s41.2 + 1))) rfl ?_
    refine done ?_
    exact hK44 (r58, IntKind.i64.wrap (s41.2 + 1)) _ _ ⟨(sk (sx hS_ 0 rfl) (sk (sx hS_ 1 rfl) (sk rfl (sk rfl sn)))), hC⟩ h
   ·replace h := iff_ h (cf hb60)
    refine guardOn 2 22 rfl rfl hb60 ?_
    refine s_mv (v := .int .i64 r58) rfl ?_
    refine guardOn 2 22 rfl rfl hb60 ?_
    refine s_mv (v := .int .i64 s41.1) (sx hS_ 2 rfl) ?_
    refine guardOn 2 22 rfl rfl hb60 ?_
    refine s_lss rfl rfl ?_
    refine s_pick (v := .bool (decide (r58 < s41.1))) (b := false) (tr rfl (congrArg _ hb60)) rfl ?_
    refine dn ?_
    refine cw_cond rfl (fun hb61 => ?_) (fun hb61 => ?_)
    ·replace h := ift h (ct hb61)
     refine cw_region ?_
     refine s_mv (v := .int .i64 r58) rfl ?_
     refine s_as (v := .int .i64 r58) rfl ?_
     refine done ?_
     refine blk_norm ?_
     refine then_norm ?_
     refine cw_region ?_
     refine s_mv (v := .int .i64 s41.2) (sx hS_ 3 rfl) ?_
     refine s_add rfl rfl ?_
     refine s_as (v := .int .i64 (IntKind.i64.wrap (s41.2 + 1))) rfl ?_
     refine done ?_
     exact hK44 (r58, IntKind.i64.wrap (s41.2 + 1)) _ _ ⟨(sk (sx hS_ 0 rfl) (sk (sx hS_ 1 rfl) (sk rfl (sk rfl sn)))), hC⟩ h
    ·replace h := iff_ h (cf hb61)
     refine wp_skip ?_
     refine blk_norm ?_
     refine then_norm ?_
     refine cw_region ?_
     refine s_mv (v := .int .i64 s41.2) (sx hS_ 3 rfl) ?_
     refine s_add rfl rfl ?_
     refine s_as (v := .int .i64 (IntKind.i64.wrap (s41.2 + 1))) rfl ?_
     refine done ?_
     exact hK44 (s41.1, IntKind.i64.wrap (s41.2 + 1)) _ _ ⟨(sk (sx hS_ 0 rfl) (sk (sx hS_ 1 rfl) (sk (sx hS_ 2 rfl) (sk rfl sn)))), hC⟩ h
  ·replace h := iff_ h (cf hb49)
   refine wp_exit (then_exit (then_exit (exit_in ?_)))
   refine then_norm ?_
   refine sr ?_
   refine s_mv (v := .int .i64 s41.1) (sx hS_ 2 rfl) ?_
   refine s_as (v := .int .i64 s41.1) rfl ?_
   refine dn ?_
   refine wp_ret ?_
   refine ret1 (fn := Try.f117) rfl ?_ ⟨s41.1, rfl, h, hC.below⟩ (.inl rfl)
   exact res_tmp rfl
 ·skip
  exact ⟨(sk rfl (sk rfl (sk rfl (sk rfl sn)))), hC⟩
def f_slices_IndexFunc_impl_Term_impl_Term (a0 : List Term) (p1 : Term → (Bool → Prop) → Prop) (K : Int → Prop) : Prop :=
 forN (fun i17 (s18 : Unit) next20 => p1 (a0.getD i17 default) (fun r32 => (if r32 = true then K (i17 : Int) else next20 ()))) (fun (s18 : Unit) => K (-1)) a0.length 0 ()
theorem c_slices_IndexFunc_impl_Term_impl_Term (a0 : List Term) (p1 : Term → (Bool → Prop) → Prop) {u0_0 : Value} {fp0 : List Nat} {K : Int → Prop} (h : f_slices_IndexFunc_impl_Term_impl_Term a0 p1 K) (w0 : World) (q0 : ETerm.ty.sl.rep a0 [u0_0] fp0 w0) {g1 : Nat} {cp1 : List Value} {fn1 : Func} (hf1 : Try.prog.funcs[g1]? = some fn1) (hb1 : fn1.body.isNone = false) (hn1 : (fn1.name == "runtime.NumGoroutine") = false) (hp1 : ∀ (y0 : Term) (K_ : Bool → Prop) (w_ : World), Bel w0 w_ → p1 y0 K_ → Calls Try.prog g1 (List.toArray ([.agg (List.toArray (Term.enc y0))] ++ cp1)) w_ fun e w' => ∃ (z0 : Bool), e = .returned (.bool z0) ∧ K_ z0 ∧ Bel w_ w') :
  Calls Try.prog 99 #[u0_0, .func (.func g1) #[] (List.toArray cp1)] w0 fun e w' => ∃ (r0 : Int), 
   e = .returned (.int .i64 r0) ∧ K r0 ∧ Bel w0 w' := by
 unfold f_slices_IndexFunc_impl_Term_impl_Term at h
 refine calls_of (args := [u0_0, .func (.func g1) #[] (List.toArray cp1)]) Try.func99 rfl 19 Try.ntmps99 (Nat.le_of_ble_eq_true rfl) ?_
 have hC := Ctx.start (X := Nox) w0 [Ty.item ETerm.ty.sl a0 [u0_0] fp0] (by simp only [List.mem_cons, List.not_mem_nil, or_false, forall_eq_or_imp, forall_eq]; exact q0)
 refine sr ?_
 refine s_as (v := .int .i64 0) rfl ?_
 refine dn ?_
 refine wp_seq ?_
 refine sr ?_
 refine s_mv (v := u0_0) rfl ?_
 obtain ⟨Ad2, c3, hv4⟩ := sl_len (hC.getP 0 rfl)
 refine s_len Try.underlying44 (tr rfl hv4) ?_
 refine s_mv (v := .int .i64 0) rfl ?_
 refine dn ?_
 refine wp_block ?_
 have hN19 : a0.length ≤ 9223372036854775807 := sl_max (hC.getP 0 rfl)
 refine loopN (S := Unit) _ _ (fun i17 s18 e_ w_ => Slots e_ [(0, u0_0), (1, .func (.func g1) #[] (List.toArray cp1)), (4, .int .i64 0), (7, .int .i64 (a0.length : Int)), (8, .int .i64 (i17 : Int))] ∧ Ctx Nox w0 w_ [] [Ty.item ETerm.ty.sl a0 [u0_0] fp0]) a0.length ?_ ?_ (s0 := ()) ?_ h
 ·clear hC h
  rintro i17 s18 e_ w24 next20 K21 hi23 ⟨hS_, hC⟩ h hK22
  refine sr ?_
  refine s_lss (sx hS_ 4 rfl) (sx hS_ 3 rfl) ?_
  refine dn ?_
  refine wp_seq ?_
  refine cw_true rfl (decide_eq_true (by omega)) ?_
  refine wp_skip ?_
  refine then_norm ?_
  refine wp_seq ?_
  refine wp_block ?_
  refine sr ?_
  refine s_mv (v := .int .i64 (i17 : Int)) (sx hS_ 4 rfl) ?_
  refine s_as (v := .int .i64 (i17 : Int)) rfl ?_
  refine dn ?_
  refine sr ?_
  refine s_mv (v := .func (.func g1) #[] (List.toArray cp1)) (sx hS_ 1 rfl) ?_
  refine s_mv (v := u0_0) (sx hS_ 0 rfl) ?_
  refine s_mv (v := .int .i64 (i17 : Int)) rfl ?_
  obtain ⟨Ad25, c26, hv27⟩ := sl_form (hC.getP 0 rfl) i17 hi23
  refine s_iaddrS (len := a0.length) Try.underlying44 ag86.size (tr rfl hv27) rfl (Int.natCast_nonneg _) (Int.ofNat_lt.2 hi23) ?_
  refine s_loadCA (Term.enc (a0.getD i17 default)) (sl_cellsE (hC.getP 0 rfl) hv27 i17 hi23) ag86 rfl rfl ?_
  refine s_callv [.agg (List.toArray (Term.enc (a0.getD i17 default)))] _ rfl hf1 hb1 hn1 rfl (hp1 _ _ _ hC.below  h) (fun ret28 w30 hR29 => ?_)
  obtain ⟨r32, rfl, h, hB31⟩ := hR29
  refine ⟨_, rfl, ?_⟩
  replace hC := hC.grow hB31
  refine dn ?_
  refine cw_cond rfl (fun hb33 => ?_) (fun hb33 => ?_)
  ·replace h := ift h (hb33)
   refine sr ?_
   refine s_mv (v := .int .i64 (i17 : Int)) rfl ?_
   refine s_as (v := .int .i64 (i17 : Int)) rfl ?_
   refine dn ?_
   refine wp_ret (blk_ret (then_ret (then_ret (blk_ret (then_ret ?_)))))
   refine ret1 (fn := Try.f99) rfl ?_ ⟨(i17 : Int), rfl, h, hC.below⟩ (.inl rfl)
   exact res_tmp rfl
  ·replace h := iff_ h (ne_t hb33)
   refine wp_skip ?_
   refine blk_norm ?_
   refine then_norm ?_
   refine cw_region ?_
   refine s_add (sx hS_ 4 rfl) rfl ?_
   refine s_mv (v := .int .i64 (IntKind.i64.wrap ((i17 : Int) + 1))) rfl ?_
   refine done ?_
   exact hK22 () _ _ ⟨(sk (sx hS_ 0 rfl) (sk (sx hS_ 1 rfl) (sk (sx hS_ 2 rfl) (sk (sx hS_ 3 rfl) (sk (tr rfl (congrArg _ (wrap64_nat hi23 hN19))) sn))))), hC⟩ h
 ·clear hC h
  rintro s18 e_ w34 K21 ⟨hS_, hC⟩ h
  refine sr ?_
  refine s_lss (sx hS_ 4 rfl) (sx hS_ 3 rfl) ?_
  refine dn ?_
  refine wp_seq ?_
  refine cw_false rfl (decide_eq_false (by omega)) ?_
  refine wp_exit (then_exit (then_exit (exit_in ?_)))
  refine then_norm ?_
  refine sr ?_
  refine s_as (v := .int .i64 (-1)) rfl ?_
  refine dn ?_
  refine wp_ret ?_
  refine ret1 (fn := Try.f99) rfl ?_ ⟨(-1), rfl, h, hC.below⟩ (.inl rfl)
  exact res_tmp rfl
 ·skip
  exact ⟨(sk rfl (sk rfl (sk rfl (sk rfl (sk rfl sn))))), hC⟩
def f_slices_ContainsFunc_impl_Term_impl_Term (a0 : List Term) (p1 : Term → (Bool → Prop) → Prop) (K : Bool → Prop) : Prop :=
 f_slices_IndexFunc_impl_Term_impl_Term a0 p1 (fun r5 => K (decide (r5 ≥ 0)))
theorem c_slices_ContainsFunc_impl_Term_impl_Term (a0 : List Term) (p1 : Term → (Bool → Prop) → Prop) {u0_0 : Value} {fp0 : List Nat} {K : Bool → Prop} (h : f_slices_ContainsFunc_impl_Term_impl_Term a0 p1 K) (w0 : World) (q0 : ETerm.ty.sl.rep a0 [u0_0] fp0 w0) {g1 : Nat} {cp1 : List Value} {fn1 : Func} (hf1 : Try.prog.funcs[g1]? = some fn1) (hb1 : fn1.body.isNone = false) (hn1 : (fn1.name == "runtime.NumGoroutine") = false) (hp1 : ∀ (y0 : Term) (K_ : Bool → Prop) (w_ : World), Bel w0 w_ → p1 y0 K_ → Calls Try.prog g1 (List.toArray ([.agg (List.toArray (Term.enc y0))] ++ cp1)) w_ fun e w' => ∃ (z0 : Bool), e = .returned (.bool z0) ∧ K_ z0 ∧ Bel w_ w') :
  Calls Try.prog 62 #[u0_0, .func (.func g1) #[] (List.toArray cp1)] w0 fun e w' => ∃ (r0 : Bool), 
   e = .returned (.bool r0) ∧ K r0 ∧ Bel w0 w' := by
 unfold f_slices_ContainsFunc_impl_Term_impl_Term at h
 refine calls_of (args := [u0_0, .func (.func g1) #[] (List.toArray cp1)]) Try.func62 rfl 9 Try.ntmps62 (Nat.le_of_ble_eq_true rfl) ?_
 have hC := Ctx.start (X := Nox) w0 [Ty.item ETerm.ty.sl a0 [u0_0] fp0] (by simp only [List.mem_cons, List.not_mem_nil, or_false, forall_eq_or_imp, forall_eq]; exact q0)
 refine sr ?_
 refine s_as (v := .bool false) rfl ?_
 refine dn ?_
 refine sr ?_
 refine s_mv (v := u0_0) rfl ?_
 refine s_mv (v := .func (.func g1) #[] (List.toArray cp1)) rfl ?_
 refine s_call [u0_0, .func (.func g1) #[] (List.toArray cp1)] _ Try.func99 rfl rfl rfl (c_slices_IndexFunc_impl_Term_impl_Term a0 p1 h _ (hC.getP 0 rfl) hf1 hb1 hn1 (fun x0_ K_ w_ hb_ => hp1 x0_ K_ w_ (below_on hC.below hb_))) (fun ret2 w4 hR3 => ?_)
 obtain ⟨r5, rfl, h, hB6⟩ := hR3
 refine ⟨_, rfl, ?_⟩
 replace hC := hC.grow hB6
 refine s_geq rfl rfl ?_
 refine s_as (v := .bool (decide (r5 ≥ 0))) rfl ?_
 refine dn ?_
 refine wp_ret ?_
 refine ret1 (fn := Try.f62) rfl ?_ ⟨decide (r5 ≥ 0), rfl, h, hC.below⟩ (.inl rfl)
 exact res_tmp rfl
def f_spec_l02Words (a0 : Vc.Form) (a1 : Int) (K : Vc.Form → Prop) : Prop :=
 whileP (fun (s81 : (List Term) × Int) next84 => (if s81.2 < (a0.terms.length : Int) then ((0 ≤ s81.2 ∧ s81.2 < (a0.terms.length : Int)) ∧ f_spec_l02Word ((a0.terms.getD s81.2.toNat default).mono) (fun r100 => (if r100 = a1 then ((0 ≤ s81.2 ∧ s81.2 < (a0.terms.length : Int)) ∧ (Room (s81.1.length + 1) 16 ∧ next84 (s81.1 ++ [a0.terms.getD s81.2.toNat default], IntKind.i64.wrap (s81.2 + 1)))) else next84 (s81.1, IntKind.i64.wrap (s81.2 + 1))))) else K (⟨s81.1⟩ : Vc.Form))) ([], 0)
theorem c_spec_l02Words (a0 : Vc.Form) (a1 : Int) {u0_0 : Value} {fp0 : List Nat} {K : Vc.Form → Prop} (h : f_spec_l02Words a0 a1 K) (w0 : World) (q0 : TForm.rep a0 [u0_0] fp0 w0) :
  Calls Try.prog 60 #[.agg #[u0_0], .int .i64 a1] w0 fun e w' => ∃ (r0 : Vc.Form) (z0_0 : Value) (fz0 : List Nat), 
   e = .returned (.agg #[z0_0]) ∧ K r0 ∧ (Tr.item (TrForm 86) r0 [z0_0] fz0).holds w' ∧ (∀ b, b ∈ fz0 → w0.heap.size ≤ b) ∧ Bel w0 w' := by
 unfold f_spec_l02Words at h
 refine calls_of (args := [.agg #[u0_0], .int .i64 a1]) Try.func60 rfl 35 Try.ntmps60 (Nat.le_of_ble_eq_true rfl) ?_
 have hC := Ctx.start (X := Nox) w0 [Ty.item TForm a0 [u0_0] fp0] (by simp only [List.mem_cons, List.not_mem_nil, or_false, forall_eq_or_imp, forall_eq]; exact q0)
 have hp2 := (hC.getP 0 rfl)
 replace hC := hC.derive 0 rfl (Ty.item ETerm.ty.sl a0.terms [u0_0] fp0) (fun _ => (form_parts hp2)) (fun _ hb_ => hb_)
 refine sr ?_
 refine s_box (v := .agg #[u0_0]) hC [u0_0] rfl rfl fun b4 w6 hB_ hC => ?_
 refine s_alloc hC [.slice none 0 0] z46 rfl fun b7 w9 hB_ hC => ?_
 refine dn ?_
 refine sr ?_
 refine s_build [] rfl (bl46   _) ?_
 refine s_alloc hC [.slice none 0 0] z46 rfl fun b10 w12 hB_ hC => ?_
 refine s_store (v := .agg #[.slice none 0 0]) hC 0 [.slice none 0 0] [.slice none 0 0] rfl ag46.size rfl rfl rfl rfl rfl (Nat.le_of_ble_eq_true rfl) rfl fun w13 hC => ?_
 refine dn ?_
 refine wp_seq ?_
 refine sr ?_
 refine s_as (v := .int .i64 0) rfl ?_
 refine dn ?_
 refine wp_block ?_
 refine loopW (S := (List Term) × Int) _ (fun s81 e_ w_ => ∃ (v82 : Value), Slots e_ [(1, .int .i64 a1), (2, .pointer (some ⟨b4, 0, none⟩)), (4, .pointer (some ⟨b7, 0, none⟩)), (5, .pointer (some ⟨b10, 0, none⟩)), (6, .int .i64 s81.2)] ∧ Ctx Nox w0 w_ [own 86 9 v82 s81.1.length (ETerm.encs s81.1), blk b10 46 [v82], blk b7 46 [.slice none 0 0], blk b4 46 [u0_0]] [Ty.item ETerm.ty.sl a0.terms [u0_0] fp0, Ty.item TForm a0 [u0_0] fp0]) ?_ (s0 := ([], 0)) ?_ h
 ·clear hC h
  rintro s81 e_ w87 next84 K85 ⟨v82, hS_, hC⟩ h hK86
  refine wp_seq ?_
  refine sr ?_
  refine s_mv (v := .int .i64 s81.2) (sx hS_ 4 rfl) ?_
  refine s_faddrB 0 Try.underlying46 rfl sc44.size (sx hS_ 1 rfl) rfl ?_
  refine s_loadS hC 3 (u0_0) rfl sc44 rfl rfl ?_
  obtain ⟨Ad88, c89, hv90⟩ := sl_len (hC.getP 0 rfl)
  refine s_len Try.underlying44 (tr rfl hv90) ?_
  refine s_lss rfl rfl ?_
  refine dn ?_
  refine cw_cond rfl (fun hb91 => ?_) (fun hb91 => ?_)
  ·replace h := ift h (ct hb91)
   refine wp_skip ?_
   refine then_norm ?_
   refine wp_seq ?_
   refine wp_block ?_
   refine sr ?_
   refine s_faddrB 0 Try.underlying46 rfl sc44.size (sx hS_ 1 rfl) rfl ?_
   refine s_loadS hC 3 (u0_0) rfl sc44 rfl rfl ?_
   refine s_mv (v := .int .i64 s81.2) (sx hS_ 4 rfl) ?_
   obtain ⟨⟨h0_92, h1_93⟩, h⟩ := h
   obtain ⟨Ad94, c95, hv96⟩ := sl_form (hC.getP 0 rfl) s81.2.toNat (show s81.2.toNat < a0.terms.length by omega)
   refine s_iaddrS (len := a0.terms.length) Try.underlying44 ag86.size (tr rfl hv96) rfl h0_92 h1_93 ?_
   refine s_faddrS (s81.2.toNat * 9 + 0) Try.underlying86 rfl ag84.size rfl rfl ?_
   refine s_loadCA (A8.enc .u8 ((a0.terms.getD s81.2.toNat default).mono)) (cells_subS (o := 0) (k := 8) (sl_cellsE (hC.getP 0 rfl) hv96 s81.2.toNat (show s81.2.toNat < a0.terms.length by omega)) rfl) ag84 rfl rfl ?_
   refine s_call [.agg (List.toArray (A8.enc .u8 ((a0.terms.getD s81.2.toNat default).mono)))] _ Try.func96 rfl rfl rfl (c_spec_l02Word ((a0.terms.getD s81.2.toNat default).mono) h _) (fun ret97 w99 hR98 => ?_)
   obtain ⟨r100, rfl, h, hB101⟩ := hR98
   refine ⟨_, rfl, ?_⟩
   replace hC := hC.grow hB101
   refine s_mv (v := .int .i64 a1) (sx hS_ 0 rfl) ?_
   refine s_eql rfl rfl ?_
   refine dn ?_
   refine cw_cond rfl (fun hb102 => ?_) (fun hb102 => ?_)
   ·replace h := ift h (ct hb102)
    refine cw_draw 8 mixed [0, 1, 0, 4, 0, 28, 60, 124, 255, 511, 1023] [1, 3, 5, 6] [0, 2, 4] (by kernel_rfl) (by kernel_rfl) (by kernel_rfl) (fun hM104 hM105 w103 hB_ => ?_)
    replace hC := hC.grow hB_
    refine ae_lookF belPre 0 (.pointer (some ⟨b10, 0, none⟩)) rfl rfl (by kernel_rfl) (hM105 0 rfl) (fun w_ => .inl ⟨rfl, by exact r_faddrB 0 Try.underlying46 rfl sc44.size (sx hS_ 3 rfl) rfl⟩) (listed' := (dbits 11 1)) (by kernel_rfl) ?_
    refine ae_look belPre 1 (v82) rfl rfl (by kernel_rfl) (hM104 1 rfl) (fun w_ hB_ => .inl ⟨rfl, by exact r_loadS (hC.grow hB_) 1 (v82) rfl sc44 rfl rfl⟩) (listed' := (dbits 11 3)) (by kernel_rfl) ?_
    refine ae_lookF belPre 2 (.pointer (some ⟨b4, 0, none⟩)) rfl rfl (by kernel_rfl) (hM105 2 rfl) (fun w_ => .inl ⟨rfl, by exact r_faddrB 0 Try.underlying46 rfl sc44.size (sx hS_ 1 rfl) rfl⟩) (listed' := (dbits 11 7)) (by kernel_rfl) ?_
    refine ae_look belPre 3 (u0_0) rfl rfl (by kernel_rfl) (hM104 3 rfl) (fun w_ hB_ => .inl ⟨rfl, by exact r_loadS (hC.grow hB_) 3 (u0_0) rfl sc44 rfl rfl⟩) (listed' := (dbits 11 15)) (by kernel_rfl) ?_
    refine ae_lookF belPre 4 (.int .i64 s81.2) rfl rfl (by kernel_rfl) (hM105 4 rfl) (fun w_ => .inl ⟨rfl, by exact r_mv (v := .int .i64 s81.2) (sx hS_ 4 rfl)⟩) (listed' := (dbits 11 31)) (by kernel_rfl) ?_
    obtain ⟨⟨h0_106, h1_107⟩, h⟩ := h
    obtain ⟨Ad108, c109, hv110⟩ := sl_form (hC.getP 0 rfl) s81.2.toNat (show s81.2.toNat < a0.terms.length by omega)
    refine ae_look belPre 5 (.pointer (some (Ad108.add (s81.2.toNat * 9)))) rfl rfl (by kernel_rfl) (hM104 5 rfl) (fun w_ hB_ => .inl ⟨rfl, by exact r_iaddrS (len := a0.terms.length) Try.underlying44 ag86.size (by exact tr rfl hv110) rfl h0_106 h1_107⟩) (listed' := (dbits 11 63)) (by kernel_rfl) ?_
    refine ae_look belPre 6 (.agg (List.toArray (Term.enc (a0.terms.getD s81.2.toNat default)))) rfl rfl (by kernel_rfl) (hM104 6 rfl) (fun w_ hB_ => .inl ⟨rfl, by exact r_loadCA (Term.enc (a0.terms.getD s81.2.toNat default)) (sl_cellsE ((hC.grow hB_).getP 0 rfl) hv110 s81.2.toNat (show s81.2.toNat < a0.terms.length by omega)) ag86 rfl rfl⟩) (listed' := (dbits 11 127)) (by kernel_rfl) ?_
    refine ae_one 7 rfl (by kernel_rfl) ?_
    refine s_bslice (sz := 9) hC [(0, .agg (List.toArray (Term.enc (a0.terms.getD s81.2.toNat default))))] (ETerm.encs [a0.terms.getD s81.2.toNat default]) rfl (fun _ => bs44_1 (a0.terms.getD s81.2.toNat default) _) rfl (by decide) fun b111 w112 hB_ hC => ?_
    refine done ?_
    refine ak_intro (by assumption) (listed' := (dbits 11 255)) (by kernel_rfl) ?_
    refine ae_tail 8 (by decide) (by decide) (by kernel_rfl) (by kernel_rfl) rfl ?_
    obtain ⟨hm116, h⟩ := h
    refine s_app hC 1 Try.underlying44 el86 rfl (by decide) (by decide) rfl (own_rdr (hC.getM 0 rfl)) (fun q hq => Enc.encs_one' (E := ETerm) _ q hq) rfl rfl hm116 fun v114 w115 hC => ?_
    replace hC := own_re hC 1 ((s81.1 ++ [a0.terms.getD s81.2.toNat default]).length) (ETerm.encs (s81.1 ++ [a0.terms.getD s81.2.toNat default])) rfl (by simp) (by first | (simp [Enc.encs_append]; done) | simp [Enc.encs_append, Enc.encs])
    refine s_faddrB 0 Try.underlying46 rfl sc44.size (sx hS_ 3 rfl) rfl ?_
    refine s_store (v := v114) hC 2 [v114] [v114] rfl sc44.size rfl rfl (own_cellsV (hC.getM 1 rfl)) rfl (all_c (own_oneC (hC.getM 1 rfl)) rfl) (Nat.le_of_ble_eq_true rfl) rfl fun w117 hC => ?_
    refine done ?_
    refine qn_norm ?_
    refine blk_norm ?_
    refine then_norm ?_
    refine cw_region ?_
    refine s_mv (v := .int .i64 s81.2) (sx hS_ 4 rfl) ?_
    refine s_add rfl rfl ?_
    refine s_as (v := .int .i64 (IntKind.i64.wrap (s81.2 + 1))) rfl ?_
    refine done ?_
    replace hC := hC.sel [1, 2, 3, 4] [0, 1] (M' := [own 86 9 v114 ((s81.1 ++ [a0.terms.getD s81.2.toNat default]).length) (ETerm.encs (s81.1 ++ [a0.terms.getD s81.2.toNat default])), blk b10 46 [v114], blk b7 46 [.slice none 0 0], blk b4 46 [u0_0]]) (Ps' := [Ty.item ETerm.ty.sl a0.terms [u0_0] fp0, Ty.item TForm a0 [u0_0] fp0]) (by decide) rfl rfl
    exact hK86 (s81.1 ++ [a0.terms.getD s81.2.toNat default], IntKind.i64.wrap (s81.2 + 1)) _ _ ⟨v114, (sk (sx hS_ 0 rfl) (sk (sx hS_ 1 rfl) (sk (sx hS_ 2 rfl) (sk (sx hS_ 3 rfl) (sk rfl sn))))), hC⟩ h
   ·replace h := iff_ h (cf hb102)
    refine wp_skip ?_
    refine blk_norm ?_
    refine then_norm ?_
    refine cw_region ?_
    refine s_mv (v := .int .i64 s81.2) (sx hS_ 4 rfl) ?_
    refine s_add rfl rfl ?_
    refine s_as (v := .int .i64 (IntKind.i64.wrap (s81.2 + 1))) rfl ?_
    refine done ?_
    exact hK86 (s81.1, IntKind.i64.wrap (s81.2 + 1)) _ _ ⟨v82, (sk (sx hS_ 0 rfl) (sk (sx hS_ 1 rfl) (sk (sx hS_ 2 rfl) (sk (sx hS_ 3 rfl) (sk rfl sn))))), hC⟩ h
  ·replace h := iff_ h (cf hb91)
   refine wp_exit (then_exit (then_exit (exit_in ?_)))
   refine then_norm ?_
   refine sr ?_
   refine s_loadA hC 1 [v82] rfl ag46 (sx hS_ 3 rfl) rfl rfl ?_
   refine s_store (v := .agg #[v82]) hC 2 [v82] [v82] rfl ag46.size (sx hS_ 2 rfl) rfl rfl rfl (all_c (own_oneC (hC.getM 0 rfl)) rfl) (Nat.le_of_ble_eq_true rfl) rfl fun w118 hC => ?_
   refine dn ?_
   refine wp_ret ?_
   refine ret1 (fn := Try.f60) rfl ?_ ⟨(⟨s81.1⟩ : Vc.Form), v82, (Option.toList (Value.ownBlock v82)), rfl, h, (form_join (own_item (hC.getM 0 rfl))), (own_fresh hC 0 rfl), hC.below⟩ (.inl rfl)
   exact res_cellA hC 2 rfl ag46 (sx hS_ 2 rfl) rfl
 ·skip
  replace hC := hC.pushNil 86 9
  exact ⟨.slice none 0 0, (sk rfl (sk rfl (sk rfl (sk rfl (sk rfl sn))))), hC⟩
def f_spec_l02Minimal (a0 : Alg) (K : Bool → Prop) : Prop :=
 whileP (fun (s52 : Int) next53 => (if s52 < (a0.images.length : Int) then ((0 ≤ s52 ∧ s52 < (a0.images.length : Int)) ∧ f_spec_l02Least (a0.images.getD s52.toNat default) (fun r75 => (if r75 = 1 then K false else next53 (IntKind.i64.wrap (s52 + 1))))) else K true)) 0
theorem c_spec_l02Minimal (a0 : Alg) {u0_0 : Value} {u0_1 : Value} {fp0 : List Nat} {K : Bool → Prop} (h : f_spec_l02Minimal a0 K) (w0 : World) (q0 : TAlg.rep a0 [u0_0, u0_1] fp0 w0) :
  Calls Try.prog 95 #[.agg #[u0_0, u0_1]] w0 fun e w' => ∃ (r0 : Bool), 
   e = .returned (.bool r0) ∧ K r0 ∧ Bel w0 w' := by
 unfold f_spec_l02Minimal at h
 refine calls_of (args := [.agg #[u0_0, u0_1]]) Try.func95 rfl 18 Try.ntmps95 (Nat.le_of_ble_eq_true rfl) ?_
 have hC := Ctx.start (X := Nox) w0 [Ty.item TAlg a0 [u0_0, u0_1] fp0] (by simp only [List.mem_cons, List.not_mem_nil, or_false, forall_eq_or_imp, forall_eq]; exact q0)
 have hp2 := (hC.getP 0 rfl)
 replace hC := hC.derive 0 rfl (Ty.item ((EI .i64).ty.sl) a0.degrees [u0_0] fp0) (fun _ => (alg_parts hp2).1) (fun _ hb_ => hb_)
 replace hC := hC.derive 1 rfl (Ty.item TForm.sl a0.images [u0_1] fp0) (fun _ => (alg_parts hp2).2) (fun _ hb_ => hb_)
 refine sr ?_
 refine s_box (v := .agg #[u0_0, u0_1]) hC [u0_0, u0_1] rfl rfl fun b5 w7 hB_ hC => ?_
 refine s_as (v := .bool false) rfl ?_
 refine dn ?_
 refine wp_seq ?_
 refine sr ?_
 refine s_as (v := .int .i64 0) rfl ?_
 refine dn ?_
 refine wp_block ?_
 refine loopW (S := Int) _ (fun s52 e_ w_ => Slots e_ [(1, .pointer (some ⟨b5, 0, none⟩)), (2, .bool false), (3, .int .i64 s52)] ∧ Ctx Nox w0 w_ [blk b5 31 [u0_0, u0_1]] [Ty.item TForm.sl a0.images [u0_1] fp0, Ty.item ((EI .i64).ty.sl) a0.degrees [u0_0] fp0, Ty.item TAlg a0 [u0_0, u0_1] fp0]) ?_ (s0 := 0) ?_ h
 ·clear hC h
  rintro s52 e_ w56 next53 K54 ⟨hS_, hC⟩ h hK55
  refine wp_seq ?_
  refine sr ?_
  refine s_mv (v := .int .i64 s52) (sx hS_ 2 rfl) ?_
  refine s_faddrB 1 Try.underlying31 rfl sc29.size (sx hS_ 0 rfl) rfl ?_
  refine s_loadS hC 0 (u0_1) rfl sc29 rfl rfl ?_
  obtain ⟨Ad57, c58, hv59⟩ := sl_len (hC.getP 0 rfl)
  refine s_len Try.underlying29 (tr rfl hv59) ?_
  refine s_lss rfl rfl ?_
  refine dn ?_
  refine cw_cond rfl (fun hb60 => ?_) (fun hb60 => ?_)
  ·replace h := ift h (ct hb60)
   refine wp_skip ?_
   refine then_norm ?_
   refine wp_seq ?_
   refine wp_block ?_
   refine sr ?_
   refine s_faddrB 1 Try.underlying31 rfl sc29.size (sx hS_ 0 rfl) rfl ?_
   refine s_loadS hC 0 (u0_1) rfl sc29 rfl rfl ?_
   refine s_mv (v := .int .i64 s52) (sx hS_ 2 rfl) ?_
   obtain ⟨⟨h0_61, h1_62⟩, h⟩ := h
   obtain ⟨Ad63, c64, hv65⟩ := sl_form (hC.getP 0 rfl) s52.toNat (show s52.toNat < a0.images.length by omega)
   refine s_iaddrS (len := a0.images.length) Try.underlying29 ag46.size (tr rfl hv65) rfl h0_61 h1_62 ?_
   obtain ⟨cs_, hl67, hc68, hr69⟩ := sl_cells (hC.getP 0 rfl) hv65 s52.toNat (show s52.toNat < a0.images.length by omega)
   obtain ⟨u66, rfl⟩ := List.length_eq_one_iff.1 hl67
   clear hl67
   rw [getD_eq _ _ (show s52.toNat < a0.images.length by omega)] at hr69
   have hp70 := hr69
   replace hC := hC.derive 0 rfl (Ty.item ETerm.ty.sl ((a0.images.getD s52.toNat default).terms) [u66] fp0) (fun _ => (form_parts hp70)) (fun _ hb_ => hb_)
   refine s_loadCA [u66] hc68 ag46 rfl rfl ?_
   refine s_call [.agg #[u66]] _ Try.func117 rfl rfl rfl (c_spec_l02Least (a0.images.getD s52.toNat default) h _ (form_mk (hC.getP 0 rfl))) (fun ret72 w74 hR73 => ?_)
   obtain ⟨r75, rfl, h, hB76⟩ := hR73
   refine ⟨_, rfl, ?_⟩
   replace hC := hC.grow hB76
   refine s_eql rfl rfl ?_
   refine dn ?_
   refine cw_cond rfl (fun hb77 => ?_) (fun hb77 => ?_)
   ·replace h := ift h (ct hb77)
    refine sr ?_
    refine s_as (v := .bool false) rfl ?_
    refine dn ?_
    refine wp_ret (blk_ret (then_ret (then_ret (blk_ret (then_ret ?_)))))
    refine ret1 (fn := Try.f95) rfl ?_ ⟨false, rfl, h, hC.below⟩ (.inl rfl)
    exact res_tmp rfl
   ·replace h := iff_ h (cf hb77)
    refine wp_skip ?_
    refine blk_norm ?_
    refine then_norm ?_
    refine cw_region ?_
    refine s_mv (v := .int .i64 s52) (sx hS_ 2 rfl) ?_
    refine s_add rfl rfl ?_
    refine s_as (v := .int .i64 (IntKind.i64.wrap (s52 + 1))) rfl ?_
    refine done ?_
    replace hC := hC.sel [0] [1, 2, 3] (M' := [blk b5 31 [u0_0, u0_1]]) (Ps' := [Ty.item TForm.sl a0.images [u0_1] fp0, Ty.item ((EI .i64).ty.sl) a0.degrees [u0_0] fp0, Ty.item TAlg a0 [u0_0, u0_1] fp0]) (by decide) rfl rfl
    exact hK55 (IntKind.i64.wrap (s52 + 1)) _ _ ⟨(sk (sx hS_ 0 rfl) (sk (sx hS_ 1 rfl) (sk rfl sn))), hC⟩ h
  ·replace h := iff_ h (cf hb60)
   refine wp_exit (then_exit (then_exit (exit_in ?_)))
   refine then_norm ?_
   refine sr ?_
   refine s_as (v := .bool true) rfl ?_
   refine dn ?_
   refine wp_ret ?_
   refine ret1 (fn := Try.f95) rfl ?_ ⟨true, rfl, h, hC.below⟩ (.inl rfl)
   exact res_tmp rfl
 ·skip
  exact ⟨(sk rfl (sk rfl (sk rfl sn))), hC⟩
def f_spec_l10Minimal (a0 : Alg) (K : Int → Prop) : Prop :=
 f_spec_l02Is a0 (fun r11 => (if ¬ (r11 = true) then K 1 else f_spec_l02Minimal a0 (fun r17 => (if ¬ (r17 = true) then K 5 else K 0))))
theorem c_spec_l10Minimal (a0 : Alg) {u0_0 : Value} {u0_1 : Value} {fp0 : List Nat} {K : Int → Prop} (h : f_spec_l10Minimal a0 K) (w0 : World) (q0 : TAlg.rep a0 [u0_0, u0_1] fp0 w0) :
  Calls Try.prog 59 #[.agg #[u0_0, u0_1]] w0 fun e w' => ∃ (r0 : Int), 
   e = .returned (.int .i64 r0) ∧ K r0 ∧ Bel w0 w' := by
 unfold f_spec_l10Minimal at h
 refine calls_of (args := [.agg #[u0_0, u0_1]]) Try.func59 rfl 11 Try.ntmps59 (Nat.le_of_ble_eq_true rfl) ?_
 have hC := Ctx.start (X := Nox) w0 [Ty.item TAlg a0 [u0_0, u0_1] fp0] (by simp only [List.mem_cons, List.not_mem_nil, or_false, forall_eq_or_imp, forall_eq]; exact q0)
 have hp2 := (hC.getP 0 rfl)
 replace hC := hC.derive 0 rfl (Ty.item ((EI .i64).ty.sl) a0.degrees [u0_0] fp0) (fun _ => (alg_parts hp2).1) (fun _ hb_ => hb_)
 replace hC := hC.derive 1 rfl (Ty.item TForm.sl a0.images [u0_1] fp0) (fun _ => (alg_parts hp2).2) (fun _ hb_ => hb_)
 refine sr ?_
 refine s_box (v := .agg #[u0_0, u0_1]) hC [u0_0, u0_1] rfl rfl fun b5 w7 hB_ hC => ?_
 refine s_as (v := .int .i64 0) rfl ?_
 refine dn ?_
 refine wp_seq ?_
 refine wp_block ?_
 refine sr ?_
 refine s_loadA hC 0 [u0_0, u0_1] rfl ag31 rfl rfl rfl ?_
 refine s_call [.agg #[u0_0, u0_1]] _ Try.func47 rfl rfl rfl (c_spec_l02Is a0 h _ (alg_mk (hC.getP 1 rfl) (hC.getP 0 rfl))) (fun ret8 w10 hR9 => ?_)
 obtain ⟨r11, rfl, h, hB12⟩ := hR9
 refine ⟨_, rfl, ?_⟩
 replace hC := hC.grow hB12
 refine s_not rfl ?_
 refine s_as (v := .bool (!r11)) rfl ?_
 refine dn ?_
 refine cw_cond rfl (fun hb13 => ?_) (fun hb13 => ?_)
 ·replace h := ift h (ne_t (not_t hb13))
  refine sr ?_
  refine s_as (v := .int .i64 1) rfl ?_
  refine dn ?_
  refine wp_ret (blk_ret (then_ret ?_))
  refine ret1 (fn := Try.f59) rfl ?_ ⟨1, rfl, h, hC.below⟩ (.inl rfl)
  exact res_tmp rfl
 ·replace h := iff_ h (not_not_intro ((not_f hb13)))
  refine sr ?_
  refine s_loadA hC 0 [u0_0, u0_1] rfl ag31 rfl rfl rfl ?_
  refine s_call [.agg #[u0_0, u0_1]] _ Try.func95 rfl rfl rfl (c_spec_l02Minimal a0 h _ (alg_mk (hC.getP 1 rfl) (hC.getP 0 rfl))) (fun ret14 w16 hR15 => ?_)
  obtain ⟨r17, rfl, h, hB18⟩ := hR15
  refine ⟨_, rfl, ?_⟩
  replace hC := hC.grow hB18
  refine s_not rfl ?_
  refine s_as (v := .bool (!r17)) rfl ?_
  refine dn ?_
  refine cw_cond rfl (fun hb19 => ?_) (fun hb19 => ?_)
  ·replace h := ift h (ne_t (not_t hb19))
   refine sr ?_
   refine s_as (v := .int .i64 5) rfl ?_
   refine dn ?_
   refine wp_ret (blk_ret (then_ret ?_))
   refine ret1 (fn := Try.f59) rfl ?_ ⟨5, rfl, h, hC.below⟩ (.inl rfl)
   exact res_tmp rfl
  ·replace h := iff_ h (not_not_intro ((not_f hb19)))
   refine wp_skip ?_
   refine blk_norm ?_
   refine then_norm ?_
   refine sr ?_
   refine s_as (v := .int .i64 0) rfl ?_
   refine dn ?_
   refine wp_ret ?_
   refine ret1 (fn := Try.f59) rfl ?_ ⟨0, rfl, h, hC.below⟩ (.inl rfl)
   exact res_tmp rfl
def f_impl_linearRow (a0 : List Int) (a1 : Vc.Form) (K : List Int → Prop) : Prop :=
 f_impl_sumOf a1 (fun r11 => forN (fun i52 (s53 : (List Int)) next56 => f_impl_generator (i52 : Int) (fun r64 => (Room (s53.length + 1) 8 ∧ next56 (s53 ++ [(mget r11 r64).getD 0])))) (fun (s53 : (List Int)) => K s53) a0.length 0 [])
theorem c_impl_linearRow (a0 : List Int) (a1 : Vc.Form) {u0_0 : Value} {u1_0 : Value} {fp0 : List Nat} {fp1 : List Nat} {K : List Int → Prop} (h : f_impl_linearRow a0 a1 K) (w0 : World) (q0 : ((EI .i64).ty.sl).rep a0 [u0_0] fp0 w0) (q1 : TForm.rep a1 [u1_0] fp1 w0) :
  Calls Try.prog 132 #[u0_0, .agg #[u1_0]] w0 fun e w' => ∃ (r0 : List Int) (z0_0 : Value) (fz0 : List Nat), 
   e = .returned (z0_0) ∧ K r0 ∧ (Tr.item (Tr.sl 2 ((EI .i64).tr)) r0 [z0_0] fz0).holds w' ∧ (∀ b, b ∈ fz0 → w0.heap.size ≤ b) ∧ Bel w0 w' := by
 unfold f_impl_linearRow at h
 refine calls_of (args := [u0_0, .agg #[u1_0]]) Try.func132 rfl 25 Try.ntmps132 (Nat.le_of_ble_eq_true rfl) ?_
 have hC := Ctx.start (X := Nox) w0 [Ty.item ((EI .i64).ty.sl) a0 [u0_0] fp0, Ty.item TForm a1 [u1_0] fp1] (by simp only [List.mem_cons, List.not_mem_nil, or_false, forall_eq_or_imp, forall_eq]; exact ⟨q0, q1⟩)
 have hp3 := (hC.getP 1 rfl)
 replace hC := hC.derive 1 rfl (Ty.item ETerm.ty.sl a1.terms [u1_0] fp1) (fun _ => (form_parts hp3)) (fun _ hb_ => hb_)
 refine sr ?_
 refine s_box (v := .agg #[u1_0]) hC [u1_0] rfl rfl fun b5 w7 hB_ hC => ?_
 refine s_as (v := .slice none 0 0) rfl ?_
 refine dn ?_
 refine sr ?_
 refine s_loadA hC 0 [u1_0] rfl ag46 rfl rfl rfl ?_
 refine s_call [.agg #[u1_0]] _ Try.func72 rfl rfl rfl (c_impl_sumOf a1 h _ (form_mk (hC.getP 0 rfl))) (fun ret8 w10 hR9 => ?_)
 obtain ⟨r11, b12, rfl, h, hr13, hf14, hB15⟩ := hR9
 refine ⟨_, rfl, ?_⟩
 replace hC := hC.push hB15 (mapI (kvA .i64) (vvI .i64) b12 r11) hr13 (fun b_ hb_ => by obtain rfl := List.mem_singleton.1 hb_; exact hf14)
 refine s_bslice (sz := 1) hC [] ((EI .i64).encs []) rfl (fun _ => bs22_0  _) rfl (by decide) fun b17 w18 hB_ hC => ?_
 refine s_as (v := .map (some b12)) rfl ?_
 refine s_as (v := .slice (some ⟨b17, 0, none⟩) 0 0) rfl ?_
 refine dn ?_
 refine wp_seq ?_
 refine sr ?_
 refine s_mv (v := u0_0) rfl ?_
 obtain ⟨Ad20, c21, hv22⟩ := sl_len (hC.getP 1 rfl)
 refine s_len Try.underlying22 (tr rfl hv22) ?_
 refine s_mv (v := .int .i64 0) rfl ?_
 refine dn ?_
 refine wp_block ?_
 have hN55 : a0.length ≤ 9223372036854775807 := sl_max (hC.getP 1 rfl)
 refine loopN (S := (List Int)) _ _ (fun i52 s53 e_ w_ => ∃ (v54 : Value), Slots e_ [(4, .slice none 0 0), (5, .map (some b12)), (6, v54), (12, .int .i64 (a0.length : Int)), (13, .int .i64 (i52 : Int))] ∧ Ctx Nox w0 w_ [own 2 1 v54 s53.length ((EI .i64).encs s53), mapI (kvA .i64) (vvI .i64) b12 r11] [Ty.item ETerm.ty.sl a1.terms [u1_0] fp1, Ty.item ((EI .i64).ty.sl) a0 [u0_0] fp0, Ty.item TForm a1 [u1_0] fp1]) a0.length ?_ ?_ (s0 := []) ?_ h
 ·clear hC h
  rintro i52 s53 e_ w60 next56 K57 hi59 ⟨v54, hS_, hC⟩ h hK58
  refine sr ?_
  refine s_lss (sx hS_ 4 rfl) (sx hS_ 3 rfl) ?_
  refine dn ?_
  refine wp_seq ?_
  refine cw_true rfl (decide_eq_true (by omega)) ?_
  refine wp_skip ?_
  refine then_norm ?_
  refine wp_seq ?_
  refine wp_block ?_
  refine sr ?_
  refine s_mv (v := .int .i64 (i52 : Int)) (sx hS_ 4 rfl) ?_
  refine s_as (v := .int .i64 (i52 : Int)) rfl ?_
  refine dn ?_
  refine cw_region ?_
  refine s_mv (v := v54) (sx hS_ 2 rfl) ?_
  refine s_mv (v := .map (some b12)) (sx hS_ 1 rfl) ?_
  refine s_mv (v := .int .i64 (i52 : Int)) rfl ?_
  refine s_call [.int .i64 (i52 : Int)] _ Try.func128 rfl rfl rfl (c_impl_generator (i52 : Int) h _) (fun ret61 w63 hR62 => ?_)
  obtain ⟨r64, rfl, h, hB65⟩ := hR62
  refine ⟨_, rfl, ?_⟩
  replace hC := hC.grow hB65
  refine s_lookup r64 0 (hC.getM 1 rfl) kt94 Try.underlying104 z2 rfl rfl ?_
  refine s_bslice (sz := 1) hC [(0, .int .i64 ((mget r11 r64).getD 0))] ((EI .i64).encs [(mget r11 r64).getD 0]) rfl (fun _ => bs22_1 ((mget r11 r64).getD 0) _) rfl (by decide) fun b66 w67 hB_ hC => ?_
  obtain ⟨hm71, h⟩ := h
  refine s_app hC 1 Try.underlying22 el2 rfl (by decide) (by decide) rfl (own_rdr (hC.getM 0 rfl)) (fun q hq => Enc.encs_one' (E := (EI .i64)) _ q hq) rfl rfl hm71 fun v69 w70 hC => ?_
  replace hC := own_re hC 1 ((s53 ++ [(mget r11 r64).getD 0]).length) ((EI .i64).encs (s53 ++ [(mget r11 r64).getD 0])) rfl (by simp) (by first | (simp [Enc.encs_append]; done) | simp [Enc.encs_append, Enc.encs])
  refine s_as (v := v69) rfl ?_
  refine done ?_
  refine blk_norm ?_
  refine then_norm ?_
  refine cw_region ?_
  refine s_add (sx hS_ 4 rfl) rfl ?_
  refine s_mv (v := .int .i64 (IntKind.i64.wrap ((i52 : Int) + 1))) rfl ?_
  refine done ?_
  replace hC := hC.sel [1, 2] [0, 1, 2] (M' := [own 2 1 v69 ((s53 ++ [(mget r11 r64).getD 0]).length) ((EI .i64).encs (s53 ++ [(mget r11 r64).getD 0])), mapI (kvA .i64) (vvI .i64) b12 r11]) (Ps' := [Ty.item ETerm.ty.sl a1.terms [u1_0] fp1, Ty.item ((EI .i64).ty.sl) a0 [u0_0] fp0, Ty.item TForm a1 [u1_0] fp1]) (by decide) rfl rfl
  exact hK58 (s53 ++ [(mget r11 r64).getD 0]) _ _ ⟨v69, (sk (sx hS_ 0 rfl) (sk (sx hS_ 1 rfl) (sk rfl (sk (sx hS_ 3 rfl) (sk (tr rfl (congrArg _ (wrap64_nat hi59 hN55))) sn))))), hC⟩ h
 ·clear hC h
  rintro s53 e_ w72 K57 ⟨v54, hS_, hC⟩ h
  refine sr ?_
  refine s_lss (sx hS_ 4 rfl) (sx hS_ 3 rfl) ?_
  refine dn ?_
  refine wp_seq ?_
  refine cw_false rfl (decide_eq_false (by omega)) ?_
  refine wp_exit (then_exit (then_exit (exit_in ?_)))
  refine then_norm ?_
  refine sr ?_
  refine s_mv (v := v54) (sx hS_ 2 rfl) ?_
  refine s_as (v := v54) rfl ?_
  refine dn ?_
  refine wp_ret ?_
  refine ret1 (fn := Try.f132) rfl ?_ ⟨s53, v54, (Option.toList (Value.ownBlock v54)), rfl, h, (own_item (hC.getM 0 rfl)), (own_fresh hC 0 rfl), hC.below⟩ (.inl rfl)
  exact res_tmp rfl
 ·skip
  replace hC := hC.sel [0, 1] [0, 1, 2] (M' := [own 2 1 (.slice (some ⟨b17, 0, none⟩) 0 0) 0 ((EI .i64).encs []), mapI (kvA .i64) (vvI .i64) b12 r11]) (Ps' := [Ty.item ETerm.ty.sl a1.terms [u1_0] fp1, Ty.item ((EI .i64).ty.sl) a0 [u0_0] fp0, Ty.item TForm a1 [u1_0] fp1]) (by decide) rfl rfl
  exact ⟨.slice (some ⟨b17, 0, none⟩) 0 0, (sk rfl (sk rfl (sk rfl (sk rfl (sk rfl sn))))), hC⟩
def f_impl_Algebra_linearTable (a0 : Alg) (K : List (List Int) → Prop) : Prop :=
 forN (fun i96 (s97 : (List (List Int))) next101 => f_impl_linearRow a0.degrees (a0.images.getD i96 default) (fun r125 => (Room (s97.length + 1) 24 ∧ next101 (s97 ++ [r125])))) (fun (s97 : (List (List Int))) => K s97) a0.images.length 0 []
theorem c_impl_Algebra_linearTable (a0 : Alg) {b0 : Nat} {u0_0 : Value} {u0_1 : Value} {fp0 : List Nat} {K : List (List Int) → Prop} (h : f_impl_Algebra_linearTable a0 K) (w0 : World) (q0 : TAlg.rep a0 [u0_0, u0_1] fp0 w0) (qb0 : (blk b0 31 [u0_0, u0_1]).holds w0) :
  Calls Try.prog 119 #[.pointer (some ⟨b0, 0, none⟩)] w0 fun e w' => ∃ (r0 : List (List Int)) (z0_0 : Value) (fz0 : List Nat), 
   e = .returned (z0_0) ∧ K r0 ∧ (Tr.item (Tr.sl 22 (Tr.sl 2 ((EI .i64).tr))) r0 [z0_0] fz0).holds w' ∧ (∀ b, b ∈ fz0 → w0.heap.size ≤ b) ∧ Bel w0 w' := by
 unfold f_impl_Algebra_linearTable at h
 refine calls_of (args := [.pointer (some ⟨b0, 0, none⟩)]) Try.func119 rfl 27 Try.ntmps119 (Nat.le_of_ble_eq_true rfl) ?_
 have hC := Ctx.start (X := Nox) w0 [Ty.item TAlg a0 [u0_0, u0_1] fp0, blk b0 31 [u0_0, u0_1]] (by simp only [List.mem_cons, List.not_mem_nil, or_false, forall_eq_or_imp, forall_eq]; exact ⟨q0, qb0⟩)
 have hp3 := (hC.getP 0 rfl)
 replace hC := hC.derive 0 rfl (Ty.item ((EI .i64).ty.sl) a0.degrees [u0_0] fp0) (fun _ => (alg_parts hp3).1) (fun _ hb_ => hb_)
 replace hC := hC.derive 1 rfl (Ty.item TForm.sl a0.images [u0_1] fp0) (fun _ => (alg_parts hp3).2) (fun _ hb_ => hb_)
 refine sr ?_
 refine s_as (v := .slice none 0 0) rfl ?_
 refine dn ?_
 refine sr ?_
 refine s_bslice (sz := 1) hC [] [] rfl (fun _ => bs148_0 _) rfl (by decide) fun b6 w7 hB_ hC => ?_
 replace hC := hC.pushM0 (forest (Tr.sl 2 ((EI .i64).tr)) ([] : List (List Int)) [] []) (forest_nil _ _) rfl
 replace hC := hC.gather (c := Tr.item (Tr.sl 22 (Tr.sl 2 ((EI .i64).tr))) [] [.slice (some ⟨b6, 0, none⟩) 0 0] ((Option.toList (Value.ownBlock (.slice (some ⟨b6, 0, none⟩) 0 0))) ++ ([] : List (List Nat)).flatten)) (fun x_ hx_ => (List.mem_append.1 hx_).symm) (fun h1_ h2_ hd_ => forest_up h2_ h1_ (fun b_ hb_ hb2_ => hd_ b_ hb2_ hb_))
 refine s_as (v := .slice (some ⟨b6, 0, none⟩) 0 0) rfl ?_
 refine dn ?_
 refine wp_seq ?_
 refine sr ?_
 refine s_mv (v := .pointer (some ⟨b0, 0, none⟩)) rfl ?_
 refine s_nilchk rfl ?_
 refine s_faddrB 1 Try.underlying31 rfl sc29.size rfl rfl ?_
 refine s_loadSh (u0_1) (hC.getP 3 rfl) sc29 rfl rfl ?_
 obtain ⟨Ad9, c10, hv11⟩ := sl_len (hC.getP 0 rfl)
 refine s_len Try.underlying29 (tr rfl hv11) ?_
 refine s_mv (v := .int .i64 0) rfl ?_
 refine dn ?_
 refine wp_block ?_
 have hN100 : a0.images.length ≤ 9223372036854775807 := sl_max (hC.getP 0 rfl)
 refine loopN (S := (List (List Int))) _ _ (fun i96 s97 e_ w_ => ∃ (v98 : Value), ∃ (f99 : List Nat), Slots e_ [(0, .pointer (some ⟨b0, 0, none⟩)), (2, .slice none 0 0), (3, v98), (10, u0_1), (11, .int .i64 (a0.images.length : Int)), (12, .int .i64 (i96 : Int))] ∧ Ctx Nox w0 w_ [Tr.item (Tr.sl 22 (Tr.sl 2 ((EI .i64).tr))) s97 [v98] f99] [Ty.item TForm.sl a0.images [u0_1] fp0, Ty.item ((EI .i64).ty.sl) a0.degrees [u0_0] fp0, Ty.item TAlg a0 [u0_0, u0_1] fp0, blk b0 31 [u0_0, u0_1]]) a0.images.length ?_ ?_ (s0 := []) ?_ h
 ·clear hC h
  rintro i96 s97 e_ w105 next101 K102 hi104 ⟨v98, f99, hS_, hC⟩ h hK103
  refine sr ?_
  refine s_lss (sx hS_ 5 rfl) (sx hS_ 4 rfl) ?_
  refine dn ?_
  refine wp_seq ?_
  refine cw_true rfl (decide_eq_true (by omega)) ?_
  refine wp_skip ?_
  refine then_norm ?_
  refine wp_seq ?_
  refine wp_block ?_
  refine sr ?_
  obtain ⟨Ad106, c107, hv108⟩ := sl_form (hC.getP 0 rfl) i96 hi104
  refine s_iaddrS (len := a0.images.length) Try.underlying29 ag46.size (tr (sx hS_ 3 rfl) hv108) (sx hS_ 5 rfl) (Int.natCast_nonneg _) (Int.ofNat_lt.2 hi104) ?_
  obtain ⟨cs_, hl110, hc111, hr112⟩ := sl_cells (hC.getP 0 rfl) hv108 i96 hi104
  obtain ⟨u109, rfl⟩ := List.length_eq_one_iff.1 hl110
  clear hl110
  rw [getD_eq _ _ hi104] at hr112
  have hp113 := hr112
  replace hC := hC.derive 0 rfl (Ty.item ETerm.ty.sl ((a0.images.getD i96 default).terms) [u109] fp0) (fun _ => (form_parts hp113)) (fun _ hb_ => hb_)
  refine s_loadCA [u109] hc111 ag46 rfl rfl ?_
  refine s_alloc hC [.slice none 0 0] z46 rfl fun b115 w117 hB_ hC => ?_
  refine s_store (v := .agg #[u109]) hC 0 [u109] [u109] rfl ag46.size rfl rfl rfl rfl (all_c (rep_oneC (hC.getP 0 rfl)) rfl) (Nat.le_of_ble_eq_true rfl) rfl fun w118 hC => ?_
  refine dn ?_
  refine cw_draw 8 mixed [0, 0, 2, 6, 14, 0, 62, 126, 255, 511] [4, 5] [0, 1, 2, 3] (by kernel_rfl) (by kernel_rfl) (by kernel_rfl) (fun hM120 hM121 w119 hB_ => ?_)
  replace hC := hC.grow hB_
  refine ae_lookF belPre 0 (v98) rfl rfl (by kernel_rfl) (hM121 0 rfl) (fun w_ => .inl ⟨rfl, by exact r_mv (v := v98) (sx hS_ 2 rfl)⟩) (listed' := (dbits 10 1)) (by kernel_rfl) ?_
  refine ae_lookF belPre 1 (.pointer (some ⟨b0, 0, none⟩)) rfl rfl (by kernel_rfl) (hM121 1 rfl) (fun w_ => .inl ⟨rfl, by exact r_mv (v := .pointer (some ⟨b0, 0, none⟩)) (sx hS_ 0 rfl)⟩) (listed' := (dbits 10 3)) (by kernel_rfl) ?_
  refine ae_lookF belPre 2 (.pointer (some ⟨b0, 0, none⟩)) rfl rfl (by kernel_rfl) (hM121 2 rfl) (fun w_ => .inl ⟨rfl, by exact r_nilchk rfl⟩) (listed' := (dbits 10 7)) (by kernel_rfl) ?_
  refine ae_lookF belPre 3 (.pointer (some ⟨b0, 0, none⟩)) rfl rfl (by kernel_rfl) (hM121 3 rfl) (fun w_ => .inl ⟨rfl, by exact r_faddrB 0 Try.underlying31 rfl sc22.size rfl rfl⟩) (listed' := (dbits 10 15)) (by kernel_rfl) ?_
  refine ae_look belPre 4 (u0_0) rfl rfl (by kernel_rfl) (hM120 4 rfl) (fun w_ hB_ => .inl ⟨rfl, by exact r_loadSh (u0_0) ((hC.grow hB_).getP 4 rfl) sc22 rfl rfl⟩) (listed' := (dbits 10 31)) (by kernel_rfl) ?_
  refine ae_look belPre 5 (.agg #[u109]) rfl rfl (by kernel_rfl) (hM120 5 rfl) (fun w_ hB_ => .inl ⟨rfl, by exact r_loadA (hC.grow hB_) 0 [u109] rfl ag46 rfl rfl rfl⟩) (listed' := (dbits 10 63)) (by kernel_rfl) ?_
  refine ae_one 6 rfl (by kernel_rfl) ?_
  refine s_call [u0_0, .agg #[u109]] _ Try.func132 rfl rfl rfl (c_impl_linearRow a0.degrees (a0.images.getD i96 default) h _ (hC.getP 2 rfl) (form_mk (hC.getP 0 rfl))) (fun ret122 w124 hR123 => ?_)
  obtain ⟨r125, u126, f127, rfl, h, hr128, hf129, hB130⟩ := hR123
  refine ⟨_, rfl, ?_⟩
  replace hC := hC.push hB130 (Tr.item (Tr.sl 2 ((EI .i64).tr)) r125 [u126] f127) hr128 hf129
  obtain ⟨ho132, hf133⟩ := flat_tr (hC.getM 0 rfl).1
  subst hf133
  replace hC := hC.recast (c := own 2 1 u126 r125.length ((EI .i64).encs r125)) (fun _ h_ => h_) (fun _ => ho132)
  refine done ?_
  refine ak_intro (by assumption) (listed' := (dbits 10 127)) (by kernel_rfl) ?_
  refine ae_one 7 rfl (by kernel_rfl) ?_
  refine s_bslice (sz := 1) hC [(0, u126)] [u126] rfl (fun _ => bsr148_1_s u126 (own_isSl (hC.getM 0 rfl)) _) rfl (by decide) fun b135 w136 hB_ hC => ?_
  replace hC := hC.pushM0 (forest (Tr.sl 2 ((EI .i64).tr)) [] [] []) (forest_nil _ _) rfl
  replace hC := hC.sel [2, 0, 1, 3, 4] [0, 1, 2, 3, 4] (M' := [own 2 1 u126 r125.length ((EI .i64).encs r125), forest (Tr.sl 2 ((EI .i64).tr)) [] [] [], own 22 1 (.slice (some ⟨b135, 0, none⟩) 1 1) 1 [u126], blk b115 46 [u109], Tr.item (Tr.sl 22 (Tr.sl 2 ((EI .i64).tr))) s97 [v98] f99]) (Ps' := [Ty.item ETerm.ty.sl ((a0.images.getD i96 default).terms) [u109] fp0, Ty.item TForm.sl a0.images [u0_1] fp0, Ty.item ((EI .i64).ty.sl) a0.degrees [u0_0] fp0, Ty.item TAlg a0 [u0_0, u0_1] fp0, blk b0 31 [u0_0, u0_1]]) (by decide) rfl rfl
  replace hC := hC.gather (c := forest (Tr.sl 2 ((EI .i64).tr)) [r125] [u126] [(Option.toList (Value.ownBlock u126))]) (fun x_ hx_ => forest_mem hx_) (fun h1_ h2_ hd_ => forest_cons (c := [u126]) (id (own_item h1_)) h2_ hd_)
  replace hC := hC.sel [1, 0, 2, 3] [0, 1, 2, 3, 4] (M' := [own 22 1 (.slice (some ⟨b135, 0, none⟩) 1 1) 1 [u126], forest (Tr.sl 2 ((EI .i64).tr)) [r125] [u126] [(Option.toList (Value.ownBlock u126))], blk b115 46 [u109], Tr.item (Tr.sl 22 (Tr.sl 2 ((EI .i64).tr))) s97 [v98] f99]) (Ps' := [Ty.item ETerm.ty.sl ((a0.images.getD i96 default).terms) [u109] fp0, Ty.item TForm.sl a0.images [u0_1] fp0, Ty.item ((EI .i64).ty.sl) a0.degrees [u0_0] fp0, Ty.item TAlg a0 [u0_0, u0_1] fp0, blk b0 31 [u0_0, u0_1]]) (by decide) rfl rfl
  replace hC := hC.gather (c := Tr.item (Tr.sl 22 (Tr.sl 2 ((EI .i64).tr))) [r125] [.slice (some ⟨b135, 0, none⟩) 1 1] ((Option.toList (Value.ownBlock (.slice (some ⟨b135, 0, none⟩) 1 1))) ++ ([(Option.toList (Value.ownBlock u126))] : List (List Nat)).flatten)) (fun x_ hx_ => List.mem_append.1 hx_) (fun h1_ h2_ hd_ => forest_up h1_ h2_ hd_)
  refine done ?_
  refine ak_intro (by assumption) (listed' := (dbits 10 255)) (by kernel_rfl) ?_
  refine ae_tail 8 (by decide) (by decide) (by kernel_rfl) (by kernel_rfl) rfl ?_
  replace hC := hC.sel [2, 0, 1] [0, 1, 2, 3, 4] (M' := [Tr.item (Tr.sl 22 (Tr.sl 2 ((EI .i64).tr))) s97 [v98] f99, Tr.item (Tr.sl 22 (Tr.sl 2 ((EI .i64).tr))) [r125] [.slice (some ⟨b135, 0, none⟩) 1 1] ((Option.toList (Value.ownBlock (.slice (some ⟨b135, 0, none⟩) 1 1))) ++ ([(Option.toList (Value.ownBlock u126))] : List (List Nat)).flatten), blk b115 46 [u109]]) (Ps' := [Ty.item ETerm.ty.sl ((a0.images.getD i96 default).terms) [u109] fp0, Ty.item TForm.sl a0.images [u0_1] fp0, Ty.item ((EI .i64).ty.sl) a0.degrees [u0_0] fp0, Ty.item TAlg a0 [u0_0, u0_1] fp0, blk b0 31 [u0_0, u0_1]]) (by decide) rfl rfl
  obtain ⟨hm143, h⟩ := h
  refine s_appT hC Try.underlying148 el22 rfl (by decide) (by decide) rfl rfl hm143 fun v140 f142 w141 hC => ?_
  refine s_as (v := v140) rfl ?_
  refine done ?_
  refine qn_norm ?_
  refine blk_norm ?_
  refine then_norm ?_
  refine cw_region ?_
  refine s_add (sx hS_ 5 rfl) rfl ?_
  refine s_mv (v := .int .i64 (IntKind.i64.wrap ((i96 : Int) + 1))) rfl ?_
  refine done ?_
  replace hC := hC.sel [0] [1, 2, 3, 4] (M' := [Tr.item (Tr.sl 22 (Tr.sl 2 ((EI .i64).tr))) (s97 ++ [r125]) [v140] f142]) (Ps' := [Ty.item TForm.sl a0.images [u0_1] fp0, Ty.item ((EI .i64).ty.sl) a0.degrees [u0_0] fp0, Ty.item TAlg a0 [u0_0, u0_1] fp0, blk b0 31 [u0_0, u0_1]]) (by decide) rfl rfl
  exact hK103 (s97 ++ [r125]) _ _ ⟨v140, f142, (sk (sx hS_ 0 rfl) (sk (sx hS_ 1 rfl) (sk rfl (sk (sx hS_ 3 rfl) (sk (sx hS_ 4 rfl) (sk (tr rfl (congrArg _ (wrap64_nat hi104 hN100))) sn)))))), hC⟩ h
 ·clear hC h
  rintro s97 e_ w144 K102 ⟨v98, f99, hS_, hC⟩ h
  refine sr ?_
  refine s_lss (sx hS_ 5 rfl) (sx hS_ 4 rfl) ?_
  refine dn ?_
  refine wp_seq ?_
  refine cw_false rfl (decide_eq_false (by omega)) ?_
  refine wp_exit (then_exit (then_exit (exit_in ?_)))
  refine then_norm ?_
  refine sr ?_
  refine s_mv (v := v98) (sx hS_ 2 rfl) ?_
  refine s_as (v := v98) rfl ?_
  refine dn ?_
  refine wp_ret ?_
  refine ret1 (fn := Try.f119) rfl ?_ ⟨s97, v98, f99, rfl, h, (hC.getM 0 rfl), (tr_fresh hC 0 rfl), hC.below⟩ (.inl rfl)
  exact res_tmp rfl
 ·skip
  exact ⟨.slice (some ⟨b6, 0, none⟩) 0 0, ((Option.toList (Value.ownBlock (.slice (some ⟨b6, 0, none⟩) 0 0))) ++ ([] : List (List Nat)).flatten), (sk rfl (sk rfl (sk rfl (sk rfl (sk rfl (sk rfl sn)))))), hC⟩
def f_slices_IndexFunc_rows_int64_int64 (a0 : List (List Int)) (p1 : (List Int) → (Bool → Prop) → Prop) (K : Int → Prop) : Prop :=
 forN (fun i22 (s23 : Unit) next25 => p1 (a0.getD i22 default) (fun r42 => (if r42 = true then K (i22 : Int) else next25 ()))) (fun (s23 : Unit) => K (-1)) a0.length 0 ()
theorem c_slices_IndexFunc_rows_int64_int64 (a0 : List (List Int)) (p1 : (List Int) → (Bool → Prop) → Prop) {u0_0 : Value} {fp0 : List Nat} {K : Int → Prop} (h : f_slices_IndexFunc_rows_int64_int64 a0 p1 K) (w0 : World) (q0 : (((EI .i64).ty.sl).sl).rep a0 [u0_0] fp0 w0) {g1 : Nat} {cp1 : List Value} {fn1 : Func} (hf1 : Try.prog.funcs[g1]? = some fn1) (hb1 : fn1.body.isNone = false) (hn1 : (fn1.name == "runtime.NumGoroutine") = false) (hp1 : ∀ (y0 : List Int) (yu0_0 : Value) (yf0 : List Nat) (K_ : Bool → Prop) (w_ : World), Bel w0 w_ → ((EI .i64).ty.sl).rep y0 [yu0_0] yf0 w_ → p1 y0 K_ → Calls Try.prog g1 (List.toArray ([yu0_0] ++ cp1)) w_ fun e w' => ∃ (z0 : Bool), e = .returned (.bool z0) ∧ K_ z0 ∧ Bel w_ w') :
  Calls Try.prog 131 #[u0_0, .func (.func g1) #[] (List.toArray cp1)] w0 fun e w' => ∃ (r0 : Int), 
   e = .returned (.int .i64 r0) ∧ K r0 ∧ Bel w0 w' := by
 unfold f_slices_IndexFunc_rows_int64_int64 at h
 refine calls_of (args := [u0_0, .func (.func g1) #[] (List.toArray cp1)]) Try.func131 rfl 19 Try.ntmps131 (Nat.le_of_ble_eq_true rfl) ?_
 have hC := Ctx.start (X := Nox) w0 [Ty.item (((EI .i64).ty.sl).sl) a0 [u0_0] fp0] (by simp only [List.mem_cons, List.not_mem_nil, or_false, forall_eq_or_imp, forall_eq]; exact q0)
 refine sr ?_
 refine s_as (v := .int .i64 0) rfl ?_
 refine dn ?_
 refine wp_seq ?_
 refine sr ?_
 refine s_mv (v := u0_0) rfl ?_
 obtain ⟨Ad2, c3, hv4⟩ := sl_len (hC.getP 0 rfl)
 refine s_len Try.underlying148 (tr rfl hv4) ?_
 refine s_mv (v := .int .i64 0) rfl ?_
 refine dn ?_
 refine wp_block ?_
 have hN24 : a0.length ≤ 9223372036854775807 := sl_max (hC.getP 0 rfl)
 refine loopN (S := Unit) _ _ (fun i22 s23 e_ w_ => Slots e_ [(0, u0_0), (1, .func (.func g1) #[] (List.toArray cp1)), (4, .int .i64 0), (7, .int .i64 (a0.length : Int)), (8, .int .i64 (i22 : Int))] ∧ Ctx Nox w0 w_ [] [Ty.item (((EI .i64).ty.sl).sl) a0 [u0_0] fp0]) a0.length ?_ ?_ (s0 := ()) ?_ h
 ·clear hC h
  rintro i22 s23 e_ w29 next25 K26 hi28 ⟨hS_, hC⟩ h hK27
  refine sr ?_
  refine s_lss (sx hS_ 4 rfl) (sx hS_ 3 rfl) ?_
  refine dn ?_
  refine wp_seq ?_
  refine cw_true rfl (decide_eq_true (by omega)) ?_
  refine wp_skip ?_
  refine then_norm ?_
  refine wp_seq ?_
  refine wp_block ?_
  refine sr ?_
  refine s_mv (v := .int .i64 (i22 : Int)) (sx hS_ 4 rfl) ?_
  refine s_as (v := .int .i64 (i22 : Int)) rfl ?_
  refine dn ?_
  refine sr ?_
  refine s_mv (v := .func (.func g1) #[] (List.toArray cp1)) (sx hS_ 1 rfl) ?_
  refine s_mv (v := u0_0) (sx hS_ 0 rfl) ?_
  refine s_mv (v := .int .i64 (i22 : Int)) rfl ?_
  obtain ⟨Ad30, c31, hv32⟩ := sl_form (hC.getP 0 rfl) i22 hi28
  refine s_iaddrS (len := a0.length) Try.underlying148 sc22.size (tr rfl hv32) rfl (Int.natCast_nonneg _) (Int.ofNat_lt.2 hi28) ?_
  obtain ⟨cs_, hl34, hc35, hr36⟩ := sl_cells (hC.getP 0 rfl) hv32 i22 hi28
  obtain ⟨u33, rfl⟩ := List.length_eq_one_iff.1 hl34
  clear hl34
  rw [getD_eq _ _ hi28] at hr36
  replace hC := hC.derive 0 rfl (Ty.item ((EI .i64).ty.sl) (a0.getD i22 default) [u33] fp0) (fun _ => hr36) (fun _ hb_ => hb_)
  refine s_loadCS (u33) hc35 sc22 rfl ?_
  refine s_callv [u33] _ rfl hf1 hb1 hn1 rfl (hp1 _ _ _ _ _ hC.below (hC.getP 0 rfl) h) (fun ret38 w40 hR39 => ?_)
  obtain ⟨r42, rfl, h, hB41⟩ := hR39
  refine ⟨_, rfl, ?_⟩
  replace hC := hC.grow hB41
  refine dn ?_
  refine cw_cond rfl (fun hb43 => ?_) (fun hb43 => ?_)
  ·replace h := ift h (hb43)
   refine sr ?_
   refine s_mv (v := .int .i64 (i22 : Int)) rfl ?_
   refine s_as (v := .int .i64 (i22 : Int)) rfl ?_
   refine dn ?_
   refine wp_ret (blk_ret (then_ret (then_ret (blk_ret (then_ret ?_)))))
   refine ret1 (fn := Try.f131) rfl ?_ ⟨(i22 : Int), rfl, h, hC.below⟩ (.inl rfl)
   exact res_tmp rfl
  ·replace h := iff_ h (ne_t hb43)
   refine wp_skip ?_
   refine blk_norm ?_
   refine then_norm ?_
   refine cw_region ?_
   refine s_add (sx hS_ 4 rfl) rfl ?_
   refine s_mv (v := .int .i64 (IntKind.i64.wrap ((i22 : Int) + 1))) rfl ?_
   refine done ?_
   replace hC := hC.sel [] [1] (M' := []) (Ps' := [Ty.item (((EI .i64).ty.sl).sl) a0 [u0_0] fp0]) (by decide) rfl rfl
   exact hK27 () _ _ ⟨(sk (sx hS_ 0 rfl) (sk (sx hS_ 1 rfl) (sk (sx hS_ 2 rfl) (sk (sx hS_ 3 rfl) (sk (tr rfl (congrArg _ (wrap64_nat hi28 hN24))) sn))))), hC⟩ h
 ·clear hC h
  rintro s23 e_ w44 K26 ⟨hS_, hC⟩ h
  refine sr ?_
  refine s_lss (sx hS_ 4 rfl) (sx hS_ 3 rfl) ?_
  refine dn ?_
  refine wp_seq ?_
  refine cw_false rfl (decide_eq_false (by omega)) ?_
  refine wp_exit (then_exit (then_exit (exit_in ?_)))
  refine then_norm ?_
  refine sr ?_
  refine s_as (v := .int .i64 (-1)) rfl ?_
  refine dn ?_
  refine wp_ret ?_
  refine ret1 (fn := Try.f131) rfl ?_ ⟨(-1), rfl, h, hC.below⟩ (.inl rfl)
  exact res_tmp rfl
 ·skip
  exact ⟨(sk rfl (sk rfl (sk rfl (sk rfl (sk rfl sn))))), hC⟩
def f_slices_ContainsFunc_rows_int64_int64 (a0 : List (List Int)) (p1 : (List Int) → (Bool → Prop) → Prop) (K : Bool → Prop) : Prop :=
 f_slices_IndexFunc_rows_int64_int64 a0 p1 (fun r5 => K (decide (r5 ≥ 0)))
theorem c_slices_ContainsFunc_rows_int64_int64 (a0 : List (List Int)) (p1 : (List Int) → (Bool → Prop) → Prop) {u0_0 : Value} {fp0 : List Nat} {K : Bool → Prop} (h : f_slices_ContainsFunc_rows_int64_int64 a0 p1 K) (w0 : World) (q0 : (((EI .i64).ty.sl).sl).rep a0 [u0_0] fp0 w0) {g1 : Nat} {cp1 : List Value} {fn1 : Func} (hf1 : Try.prog.funcs[g1]? = some fn1) (hb1 : fn1.body.isNone = false) (hn1 : (fn1.name == "runtime.NumGoroutine") = false) (hp1 : ∀ (y0 : List Int) (yu0_0 : Value) (yf0 : List Nat) (K_ : Bool → Prop) (w_ : World), Bel w0 w_ → ((EI .i64).ty.sl).rep y0 [yu0_0] yf0 w_ → p1 y0 K_ → Calls Try.prog g1 (List.toArray ([yu0_0] ++ cp1)) w_ fun e w' => ∃ (z0 : Bool), e = .returned (.bool z0) ∧ K_ z0 ∧ Bel w_ w') :
  Calls Try.prog 118 #[u0_0, .func (.func g1) #[] (List.toArray cp1)] w0 fun e w' => ∃ (r0 : Bool), 
   e = .returned (.bool r0) ∧ K r0 ∧ Bel w0 w' := by
 unfold f_slices_ContainsFunc_rows_int64_int64 at h
 refine calls_of (args := [u0_0, .func (.func g1) #[] (List.toArray cp1)]) Try.func118 rfl 9 Try.ntmps118 (Nat.le_of_ble_eq_true rfl) ?_
 have hC := Ctx.start (X := Nox) w0 [Ty.item (((EI .i64).ty.sl).sl) a0 [u0_0] fp0] (by simp only [List.mem_cons, List.not_mem_nil, or_false, forall_eq_or_imp, forall_eq]; exact q0)
 refine sr ?_
 refine s_as (v := .bool false) rfl ?_
 refine dn ?_
 refine sr ?_
 refine s_mv (v := u0_0) rfl ?_
 refine s_mv (v := .func (.func g1) #[] (List.toArray cp1)) rfl ?_
 refine s_call [u0_0, .func (.func g1) #[] (List.toArray cp1)] _ Try.func131 rfl rfl rfl (c_slices_IndexFunc_rows_int64_int64 a0 p1 h _ (hC.getP 0 rfl) hf1 hb1 hn1 (fun x0_ x1_ x2_ K_ w_ hb_ => hp1 x0_ x1_ x2_ K_ w_ (below_on hC.below hb_))) (fun ret2 w4 hR3 => ?_)
 obtain ⟨r5, rfl, h, hB6⟩ := hR3
 refine ⟨_, rfl, ?_⟩
 replace hC := hC.grow hB6
 refine s_geq rfl rfl ?_
 refine s_as (v := .bool (decide (r5 ≥ 0))) rfl ?_
 refine dn ?_
 refine wp_ret ?_
 refine ret1 (fn := Try.f118) rfl ?_ ⟨decide (r5 ≥ 0), rfl, h, hC.below⟩ (.inl rfl)
 exact res_tmp rfl
def f_impl_Algebra_isMinimal_1_1 (a0 : Int) (K : Bool → Prop) : Prop :=
 K (decide (a0 ≠ 0))
theorem c_impl_Algebra_isMinimal_1_1 (a0 : Int)  {K : Bool → Prop} (h : f_impl_Algebra_isMinimal_1_1 a0 K) (w0 : World)  :
  Calls Try.prog 121 #[.int .i64 a0] w0 fun e w' => ∃ (r0 : Bool), 
   e = .returned (.bool r0) ∧ K r0 ∧ Bel w0 w' := by
 unfold f_impl_Algebra_isMinimal_1_1 at h
 refine calls_of (args := [.int .i64 a0]) Try.func121 rfl 5 Try.ntmps121 (Nat.le_of_ble_eq_true rfl) ?_
 have hC := Ctx.start (X := Nox) w0 [] (by simp)
 refine sr ?_
 refine s_as (v := .bool false) rfl ?_
 refine dn ?_
 refine sr ?_
 refine s_mv (v := .int .i64 a0) rfl ?_
 refine s_neq rfl rfl ?_
 refine s_as (v := .bool (decide (a0 ≠ 0))) rfl ?_
 refine dn ?_
 refine wp_ret ?_
 refine ret1 (fn := Try.f121) rfl ?_ ⟨decide (a0 ≠ 0), rfl, h, hC.below⟩ (.inl rfl)
 exact res_tmp rfl
def f_impl_Algebra_isMinimal_1 (a0 : List Int) (K : Bool → Prop) : Prop :=
 f_slices_ContainsFunc_int64_int64 a0 f_impl_Algebra_isMinimal_1_1 (fun r5 => K r5)
theorem c_impl_Algebra_isMinimal_1 (a0 : List Int) {u0_0 : Value} {fp0 : List Nat} {K : Bool → Prop} (h : f_impl_Algebra_isMinimal_1 a0 K) (w0 : World) (q0 : ((EI .i64).ty.sl).rep a0 [u0_0] fp0 w0) :
  Calls Try.prog 120 #[u0_0] w0 fun e w' => ∃ (r0 : Bool), 
   e = .returned (.bool r0) ∧ K r0 ∧ Bel w0 w' := by
 unfold f_impl_Algebra_isMinimal_1 at h
 refine calls_of (args := [u0_0]) Try.func120 rfl 5 Try.ntmps120 (Nat.le_of_ble_eq_true rfl) ?_
 have hC := Ctx.start (X := Nox) w0 [Ty.item ((EI .i64).ty.sl) a0 [u0_0] fp0] (by simp only [List.mem_cons, List.not_mem_nil, or_false, forall_eq_or_imp, forall_eq]; exact q0)
 refine sr ?_
 refine s_as (v := .bool false) rfl ?_
 refine dn ?_
 refine sr ?_
 refine s_mv (v := u0_0) rfl ?_
 refine s_call [u0_0, .func (.func 121) #[] (List.toArray [])] _ Try.func114 rfl rfl rfl (c_slices_ContainsFunc_int64_int64 a0 f_impl_Algebra_isMinimal_1_1 h _ (hC.getP 0 rfl) Try.func121 rfl rfl (fun x0_ K_ w_ _ hq_ => c_impl_Algebra_isMinimal_1_1 x0_ hq_ w_)) (fun ret2 w4 hR3 => ?_)
 obtain ⟨r5, rfl, h, hB6⟩ := hR3
 refine ⟨_, rfl, ?_⟩
 replace hC := hC.grow hB6
 refine s_as (v := .bool r5) rfl ?_
 refine dn ?_
 refine wp_ret ?_
 refine ret1 (fn := Try.f120) rfl ?_ ⟨r5, rfl, h, hC.below⟩ (.inl rfl)
 exact res_tmp rfl
def f_impl_Algebra_isMinimal (a0 : Alg) (K : Bool → Prop) : Prop :=
 f_impl_Algebra_linearTable a0 (fun r9 => f_slices_ContainsFunc_rows_int64_int64 r9 (fun y0_ K_ => f_impl_Algebra_isMinimal_1 y0_ K_) (fun r20 => K (!r20)))
theorem c_impl_Algebra_isMinimal (a0 : Alg) {b0 : Nat} {u0_0 : Value} {u0_1 : Value} {fp0 : List Nat} {K : Bool → Prop} (h : f_impl_Algebra_isMinimal a0 K) (w0 : World) (q0 : TAlg.rep a0 [u0_0, u0_1] fp0 w0) (qb0 : (blk b0 31 [u0_0, u0_1]).holds w0) :
  Calls Try.prog 97 #[.pointer (some ⟨b0, 0, none⟩)] w0 fun e w' => ∃ (r0 : Bool), 
   e = .returned (.bool r0) ∧ K r0 ∧ Bel w0 w' := by
 unfold f_impl_Algebra_isMinimal at h
 refine calls_of (args := [.pointer (some ⟨b0, 0, none⟩)]) Try.func97 rfl 7 Try.ntmps97 (Nat.le_of_ble_eq_true rfl) ?_
 have hC := Ctx.start (X := Nox) w0 [Ty.item TAlg a0 [u0_0, u0_1] fp0, blk b0 31 [u0_0, u0_1]] (by simp only [List.mem_cons, List.not_mem_nil, or_false, forall_eq_or_imp, forall_eq]; exact ⟨q0, qb0⟩)
 have hp3 := (hC.getP 0 rfl)
 replace hC := hC.derive 0 rfl (Ty.item ((EI .i64).ty.sl) a0.degrees [u0_0] fp0) (fun _ => (alg_parts hp3).1) (fun _ hb_ => hb_)
 replace hC := hC.derive 1 rfl (Ty.item TForm.sl a0.images [u0_1] fp0) (fun _ => (alg_parts hp3).2) (fun _ hb_ => hb_)
 refine sr ?_
 refine s_as (v := .bool false) rfl ?_
 refine dn ?_
 refine sr ?_
 refine s_mv (v := .pointer (some ⟨b0, 0, none⟩)) rfl ?_
 refine s_call [.pointer (some ⟨b0, 0, none⟩)] _ Try.func119 rfl rfl rfl (c_impl_Algebra_linearTable a0 h _ (alg_mk (hC.getP 1 rfl) (hC.getP 0 rfl)) (hC.getP 3 rfl)) (fun ret6 w8 hR7 => ?_)
 obtain ⟨r9, u10, f11, rfl, h, hr12, hf13, hB14⟩ := hR7
 refine ⟨_, rfl, ?_⟩
 replace hC := hC.push hB14 (Tr.item (Tr.sl 22 (Tr.sl 2 ((EI .i64).tr))) r9 [u10] f11) hr12 hf13
 refine s_call [u10, .func (.func 120) #[] (List.toArray [])] _ Try.func118 rfl rfl rfl (c_slices_ContainsFunc_rows_int64_int64 r9 (fun y0_ K_ => f_impl_Algebra_isMinimal_1 y0_ K_) h _ (Tr.trep _ (hC.getM 0 rfl).1) Try.func120 rfl rfl (fun y0_ yu0_0_ yf0_ K_ w_ hb_ rq0_ hq_ => c_impl_Algebra_isMinimal_1 y0_ hq_ w_ rq0_)) (fun ret17 w19 hR18 => ?_)
 obtain ⟨r20, rfl, h, hB21⟩ := hR18
 refine ⟨_, rfl, ?_⟩
 replace hC := hC.grow hB21
 refine s_not rfl ?_
 refine s_as (v := .bool (!r20)) rfl ?_
 refine dn ?_
 refine wp_ret ?_
 refine ret1 (fn := Try.f97) rfl ?_ ⟨!r20, rfl, h, hC.below⟩ (.inl rfl)
 exact res_tmp rfl
def f_impl_pageCode (a0 : Alg) (a1 : Bool) (K : Int → Prop) : Prop :=
 f_impl_algebraCode a0 [] (fun r9 => (if r9 = 0 then f_impl_Algebra_isMinimal a0 (fun r15 => (if ¬ (r15 = true) then f_impl_when (!a1) 2 (fun r21 => f_impl_first [5, r21] (fun r29 => K r29)) else f_impl_when (!a1) 2 (fun r34 => f_impl_first [r9, r34] (fun r42 => K r42)))) else f_impl_when (!a1) 2 (fun r47 => f_impl_first [r9, r47] (fun r55 => K r55))))
theorem c_impl_pageCode (a0 : Alg) (a1 : Bool) {b0 : Nat} {u0_0 : Value} {u0_1 : Value} {fp0 : List Nat} {K : Int → Prop} (h : f_impl_pageCode a0 a1 K) (w0 : World) (q0 : TAlg.rep a0 [u0_0, u0_1] fp0 w0) (qb0 : (blk b0 31 [u0_0, u0_1]).holds w0) :
  Calls Try.prog 61 #[.pointer (some ⟨b0, 0, none⟩), .bool a1] w0 fun e w' => ∃ (r0 : Int), 
   e = .returned (.int .i64 r0) ∧ K r0 ∧ Bel w0 w' := by
 unfold f_impl_pageCode at h
 refine calls_of (args := [.pointer (some ⟨b0, 0, none⟩), .bool a1]) Try.func61 rfl 21 Try.ntmps61 (Nat.le_of_ble_eq_true rfl) ?_
 have hC := Ctx.start (X := Nox) w0 [Ty.item TAlg a0 [u0_0, u0_1] fp0, blk b0 31 [u0_0, u0_1]] (by simp only [List.mem_cons, List.not_mem_nil, or_false, forall_eq_or_imp, forall_eq]; exact ⟨q0, qb0⟩)
 have hp3 := (hC.getP 0 rfl)
 replace hC := hC.derive 0 rfl (Ty.item ((EI .i64).ty.sl) a0.degrees [u0_0] fp0) (fun _ => (alg_parts hp3).1) (fun _ hb_ => hb_)
 replace hC := hC.derive 1 rfl (Ty.item TForm.sl a0.images [u0_1] fp0) (fun _ => (alg_parts hp3).2) (fun _ hb_ => hb_)
 refine sr ?_
 refine s_as (v := .int .i64 0) rfl ?_
 refine dn ?_
 refine sr ?_
 refine s_mv (v := .pointer (some ⟨b0, 0, none⟩)) rfl ?_
 refine s_call [.pointer (some ⟨b0, 0, none⟩), .slice none 0 0] _ Try.func50 rfl rfl rfl (c_impl_algebraCode a0 [] h _ (alg_mk (hC.getP 1 rfl) (hC.getP 0 rfl)) (hC.getP 3 rfl) (rep_nil _ _)) (fun ret6 w8 hR7 => ?_)
 obtain ⟨r9, rfl, h, hB10⟩ := hR7
 refine ⟨_, rfl, ?_⟩
 replace hC := hC.grow hB10
 refine s_as (v := .int .i64 r9) rfl ?_
 refine dn ?_
 refine wp_seq ?_
 refine sr ?_
 refine s_mv (v := .int .i64 r9) rfl ?_
 refine s_eql rfl rfl ?_
 refine s_mv (v := .bool (decide (r9 = 0))) rfl ?_
 refine bsplit (decide (r9 = 0)) (fun hb11 => ?_) (fun hb11 => ?_)
 ·replace h := ift h (ct hb11)
  refine guardOn 2 10 rfl rfl hb11 ?_
  refine s_mv (v := .pointer (some ⟨b0, 0, none⟩)) rfl ?_
  refine guardOn 2 10 rfl rfl hb11 ?_
  refine s_call [.pointer (some ⟨b0, 0, none⟩)] _ Try.func97 rfl rfl rfl (c_impl_Algebra_isMinimal a0 h _ (alg_mk (hC.getP 1 rfl) (hC.getP 0 rfl)) (hC.getP 3 rfl)) (fun ret12 w14 hR13 => ?_)
  obtain ⟨r15, rfl, h, hB16⟩ := hR13
  refine ⟨_, rfl, ?_⟩
  replace hC := hC.grow hB16
  refine guardOn 2 10 rfl rfl hb11 ?_
  refine s_not rfl ?_
  refine s_pick (v := .bool (!r15)) (b := true) (tr rfl (congrArg _ hb11)) rfl ?_
  refine dn ?_
  refine cw_cond rfl (fun hb17 => ?_) (fun hb17 => ?_)
  ·replace h := ift h (ne_t (not_t hb17))
   refine cw_region ?_
   refine s_as (v := .int .i64 5) rfl ?_
   refine dn ?_
   refine sr ?_
   refine s_mv (v := .int .i64 5) rfl ?_
   refine s_mv (v := .bool a1) rfl ?_
   refine s_not rfl ?_
   refine s_call [.bool (!a1), .int .i64 2] _ Try.func84 rfl rfl rfl (c_impl_when (!a1) 2 h _) (fun ret18 w20 hR19 => ?_)
   obtain ⟨r21, rfl, h, hB22⟩ := hR19
   refine ⟨_, rfl, ?_⟩
   replace hC := hC.grow hB22
   refine s_bslice (sz := 1) hC [(0, .int .i64 5), (1, .int .i64 r21)] ((EI .i64).encs [5, r21]) rfl (fun _ => bs22_2 5 r21 _) rfl (by decide) fun b23 w24 hB_ hC => ?_
   refine s_call [.slice (some ⟨b23, 0, none⟩) 2 2] _ Try.func98 rfl rfl rfl (c_impl_first [5, r21] h _ (own_repE (hC.getM 0 rfl))) (fun ret26 w28 hR27 => ?_)
   obtain ⟨r29, rfl, h, hB30⟩ := hR27
   refine ⟨_, rfl, ?_⟩
   replace hC := hC.grow hB30
   refine s_as (v := .int .i64 r29) rfl ?_
   refine dn ?_
   refine wp_ret ?_
   refine ret1 (fn := Try.f61) rfl ?_ ⟨r29, rfl, h, hC.below⟩ (.inl rfl)
   exact res_tmp rfl
  ·replace h := iff_ h (not_not_intro ((not_f hb17)))
   refine wp_skip ?_
   refine then_norm ?_
   refine sr ?_
   refine s_mv (v := .int .i64 r9) rfl ?_
   refine s_mv (v := .bool a1) rfl ?_
   refine s_not rfl ?_
   refine s_call [.bool (!a1), .int .i64 2] _ Try.func84 rfl rfl rfl (c_impl_when (!a1) 2 h _) (fun ret31 w33 hR32 => ?_)
   obtain ⟨r34, rfl, h, hB35⟩ := hR32
   refine ⟨_, rfl, ?_⟩
   replace hC := hC.grow hB35
   refine s_bslice (sz := 1) hC [(0, .int .i64 r9), (1, .int .i64 r34)] ((EI .i64).encs [r9, r34]) rfl (fun _ => bs22_2 r9 r34 _) rfl (by decide) fun b36 w37 hB_ hC => ?_
   refine s_call [.slice (some ⟨b36, 0, none⟩) 2 2] _ Try.func98 rfl rfl rfl (c_impl_first [r9, r34] h _ (own_repE (hC.getM 0 rfl))) (fun ret39 w41 hR40 => ?_)
   obtain ⟨r42, rfl, h, hB43⟩ := hR40
   refine ⟨_, rfl, ?_⟩
   replace hC := hC.grow hB43
   refine s_as (v := .int .i64 r42) rfl ?_
   refine dn ?_
   refine wp_ret ?_
   refine ret1 (fn := Try.f61) rfl ?_ ⟨r42, rfl, h, hC.below⟩ (.inl rfl)
   exact res_tmp rfl
 ·replace h := iff_ h (cf hb11)
  refine guardOff (b := false) 2 10 rfl (tr rfl (congrArg _ hb11)) (by decide) ?_
  refine guardOff (b := false) 2 10 rfl (tr rfl (congrArg _ hb11)) (by decide) ?_
  refine guardOff (b := false) 2 10 rfl (tr rfl (congrArg _ hb11)) (by decide) ?_
  refine s_pick (v := .bool false) (b := false) (tr rfl (congrArg _ hb11)) rfl ?_
  refine dn ?_
  refine cw_false rfl rfl ?_
  refine wp_skip ?_
  refine then_norm ?_
  refine sr ?_
  refine s_mv (v := .int .i64 r9) rfl ?_
  refine s_mv (v := .bool a1) rfl ?_
  refine s_not rfl ?_
  refine s_call [.bool (!a1), .int .i64 2] _ Try.func84 rfl rfl rfl (c_impl_when (!a1) 2 h _) (fun ret44 w46 hR45 => ?_)
  obtain ⟨r47, rfl, h, hB48⟩ := hR45
  refine ⟨_, rfl, ?_⟩
  replace hC := hC.grow hB48
  refine s_bslice (sz := 1) hC [(0, .int .i64 r9), (1, .int .i64 r47)] ((EI .i64).encs [r9, r47]) rfl (fun _ => bs22_2 r9 r47 _) rfl (by decide) fun b49 w50 hB_ hC => ?_
  refine s_call [.slice (some ⟨b49, 0, none⟩) 2 2] _ Try.func98 rfl rfl rfl (c_impl_first [r9, r47] h _ (own_repE (hC.getM 0 rfl))) (fun ret52 w54 hR53 => ?_)
  obtain ⟨r55, rfl, h, hB56⟩ := hR53
  refine ⟨_, rfl, ?_⟩
  replace hC := hC.grow hB56
  refine s_as (v := .int .i64 r55) rfl ?_
  refine dn ?_
  refine wp_ret ?_
  refine ret1 (fn := Try.f61) rfl ?_ ⟨r55, rfl, h, hC.below⟩ (.inl rfl)
  exact res_tmp rfl
def f_impl_IsCoformal_1 (a0 : Term) (K : Bool → Prop) : Prop :=
 f_impl_powerOf a0.mono (fun r7 => f_impl_power_length r7 (fun r12 => K (decide (r12 ≠ 2))))
theorem c_impl_IsCoformal_1 (a0 : Term)  {K : Bool → Prop} (h : f_impl_IsCoformal_1 a0 K) (w0 : World)  :
  Calls Try.prog 63 #[.agg (List.toArray (Term.enc a0))] w0 fun e w' => ∃ (r0 : Bool), 
   e = .returned (.bool r0) ∧ K r0 ∧ Bel w0 w' := by
 unfold f_impl_IsCoformal_1 at h
 refine calls_of (args := [.agg (List.toArray (Term.enc a0))]) Try.func63 rfl 8 Try.ntmps63 (Nat.le_of_ble_eq_true rfl) ?_
 have hC := Ctx.start (X := Nox) w0 [] (by simp)
 refine sr ?_
 refine s_box (v := .agg (List.toArray (Term.enc a0))) hC (Term.enc a0) rfl rfl fun b1 w3 hB_ hC => ?_
 refine s_as (v := .bool false) rfl ?_
 refine dn ?_
 refine sr ?_
 refine s_faddrB 0 Try.underlying86 rfl ag84.size rfl rfl ?_
 refine s_loadA hC 0 (A8.enc .u8 a0.mono) rfl ag84 rfl rfl rfl ?_
 refine s_call [.agg (List.toArray (A8.enc .u8 a0.mono))] _ Try.func64 rfl rfl rfl (c_impl_powerOf a0.mono h _) (fun ret4 w6 hR5 => ?_)
 obtain ⟨r7, rfl, h, hB8⟩ := hR5
 refine ⟨_, rfl, ?_⟩
 replace hC := hC.grow hB8
 refine s_call [.agg (List.toArray (A8.enc .i64 r7))] _ Try.func65 rfl rfl rfl (c_impl_power_length r7 h _) (fun ret9 w11 hR10 => ?_)
 obtain ⟨r12, rfl, h, hB13⟩ := hR10
 refine ⟨_, rfl, ?_⟩
 replace hC := hC.grow hB13
 refine s_neq rfl rfl ?_
 refine s_as (v := .bool (decide (r12 ≠ 2))) rfl ?_
 refine dn ?_
 refine wp_ret ?_
 refine ret1 (fn := Try.f63) rfl ?_ ⟨decide (r12 ≠ 2), rfl, h, hC.below⟩ (.inl rfl)
 exact res_tmp rfl
def f_spec_IsCoformal (a0 : Alg) (K : Bool → Int → Prop) : Prop :=
 f_spec_l10Minimal a0 (fun r11 => (if r11 ≠ 0 then K false r11 else whileP (fun (s114 : Int) next115 => (if s114 < (a0.images.length : Int) then ((0 ≤ s114 ∧ s114 < (a0.images.length : Int)) ∧ ((0 ≤ s114 ∧ s114 < (a0.images.length : Int)) ∧ f_spec_l02Words (a0.images.getD s114.toNat default) 2 (fun r154 => (if (r154.terms.length : Int) ≠ (((a0.images.getD s114.toNat default).terms).length : Int) then K false 0 else next115 (IntKind.i64.wrap (s114 + 1)))))) else K true 0)) 0))
theorem c_spec_IsCoformal (a0 : Alg) {u0_0 : Value} {u0_1 : Value} {fp0 : List Nat} {K : Bool → Int → Prop} (h : f_spec_IsCoformal a0 K) (w0 : World) (q0 : TAlg.rep a0 [u0_0, u0_1] fp0 w0) :
  Calls Try.prog 30 #[.agg #[u0_0, u0_1]] w0 fun e w' => ∃ (r0 : Bool) (r1 : Int), 
   e = .returned (.tuple #[.bool r0, .int .i64 r1]) ∧ K r0 r1 ∧ Bel w0 w' := by
 unfold f_spec_IsCoformal at h
 refine calls_of (args := [.agg #[u0_0, u0_1]]) Try.func30 rfl 34 Try.ntmps30 (Nat.le_of_ble_eq_true rfl) ?_
 have hC := Ctx.start (X := Nox) w0 [Ty.item TAlg a0 [u0_0, u0_1] fp0] (by simp only [List.mem_cons, List.not_mem_nil, or_false, forall_eq_or_imp, forall_eq]; exact q0)
 have hp2 := (hC.getP 0 rfl)
 replace hC := hC.derive 0 rfl (Ty.item ((EI .i64).ty.sl) a0.degrees [u0_0] fp0) (fun _ => (alg_parts hp2).1) (fun _ hb_ => hb_)
 replace hC := hC.derive 1 rfl (Ty.item TForm.sl a0.images [u0_1] fp0) (fun _ => (alg_parts hp2).2) (fun _ hb_ => hb_)
 refine sr ?_
 refine s_box (v := .agg #[u0_0, u0_1]) hC [u0_0, u0_1] rfl rfl fun b5 w7 hB_ hC => ?_
 refine s_as (v := .bool false) rfl ?_
 refine s_as (v := .int .i64 0) rfl ?_
 refine dn ?_
 refine wp_seq ?_
 refine sr ?_
 refine s_loadA hC 0 [u0_0, u0_1] rfl ag31 rfl rfl rfl ?_
 refine s_call [.agg #[u0_0, u0_1]] _ Try.func59 rfl rfl rfl (c_spec_l10Minimal a0 h _ (alg_mk (hC.getP 1 rfl) (hC.getP 0 rfl))) (fun ret8 w10 hR9 => ?_)
 obtain ⟨r11, rfl, h, hB12⟩ := hR9
 refine ⟨_, rfl, ?_⟩
 replace hC := hC.grow hB12
 refine s_as (v := .int .i64 r11) rfl ?_
 refine dn ?_
 refine sr ?_
 refine s_mv (v := .int .i64 r11) rfl ?_
 refine s_neq rfl rfl ?_
 refine dn ?_
 refine cw_cond rfl (fun hb13 => ?_) (fun hb13 => ?_)
 ·replace h := ift h (ct hb13)
  refine sr ?_
  refine s_mv (v := .int .i64 r11) rfl ?_
  refine s_as (v := .bool false) rfl ?_
  refine s_as (v := .int .i64 r11) rfl ?_
  refine dn ?_
  refine wp_ret (then_ret ?_)
  refine ret2 (fn := Try.f30) rfl ?_ ?_ ⟨false, r11, rfl, h, hC.below⟩ (.inl rfl)
  ·exact res_tmp rfl
  ·exact res_tmp rfl
 ·replace h := iff_ h (cf hb13)
  refine wp_skip ?_
  refine then_norm ?_
  refine wp_seq ?_
  refine sr ?_
  refine s_as (v := .int .i64 0) rfl ?_
  refine dn ?_
  refine wp_block ?_
  refine loopW (S := Int) _ (fun s114 e_ w_ => Slots e_ [(1, .pointer (some ⟨b5, 0, none⟩)), (2, .bool false), (3, .int .i64 0), (5, .int .i64 s114)] ∧ Ctx Nox w0 w_ [blk b5 31 [u0_0, u0_1]] [Ty.item TForm.sl a0.images [u0_1] fp0, Ty.item ((EI .i64).ty.sl) a0.degrees [u0_0] fp0, Ty.item TAlg a0 [u0_0, u0_1] fp0]) ?_ (s0 := 0) ?_ h
  ·clear hC h
   rintro s114 e_ w118 next115 K116 ⟨hS_, hC⟩ h hK117
   refine wp_seq ?_
   refine sr ?_
   refine s_mv (v := .int .i64 s114) (sx hS_ 3 rfl) ?_
   refine s_faddrB 1 Try.underlying31 rfl sc29.size (sx hS_ 0 rfl) rfl ?_
   refine s_loadS hC 0 (u0_1) rfl sc29 rfl rfl ?_
   obtain ⟨Ad119, c120, hv121⟩ := sl_len (hC.getP 0 rfl)
   refine s_len Try.underlying29 (tr rfl hv121) ?_
   refine s_lss rfl rfl ?_
   refine dn ?_
   refine cw_cond rfl (fun hb122 => ?_) (fun hb122 => ?_)
   ·replace h := ift h (ct hb122)
    refine wp_skip ?_
    refine then_norm ?_
    refine wp_seq ?_
    refine wp_block ?_
    refine wp_seq ?_
    refine cw_draw 15 mixed [0, 1, 0, 7, 15, 31, 63, 127, 0, 256, 0, 1792, 3840, 7936, 16128, 32767] [1, 3, 4, 6, 7, 9, 11, 13, 14] [0, 2, 8, 10, 12] (by kernel_rfl) (by kernel_rfl) (by kernel_rfl) (fun hM124 hM125 w123 hB_ => ?_)
    replace hC := hC.grow hB_
    refine ae_lookF belPre 0 (.pointer (some ⟨b5, 1, none⟩)) rfl rfl (by kernel_rfl) (hM125 0 rfl) (fun w_ => .inl ⟨rfl, by exact r_faddrB 1 Try.underlying31 rfl sc29.size (sx hS_ 0 rfl) rfl⟩) (listed' := (dbits 16 1)) (by kernel_rfl) ?_
    refine ae_look belPre 1 (u0_1) rfl rfl (by kernel_rfl) (hM124 1 rfl) (fun w_ hB_ => .inl ⟨rfl, by exact r_loadS (hC.grow hB_) 0 (u0_1) rfl sc29 rfl rfl⟩) (listed' := (dbits 16 3)) (by kernel_rfl) ?_
    refine ae_lookF belPre 2 (.int .i64 s114) rfl rfl (by kernel_rfl) (hM125 2 rfl) (fun w_ => .inl ⟨rfl, by exact r_mv (v := .int .i64 s114) (sx hS_ 3 rfl)⟩) (listed' := (dbits 16 7)) (by kernel_rfl) ?_
    obtain ⟨⟨h0_126, h1_127⟩, h⟩ := h
    obtain ⟨Ad128, c129, hv130⟩ := sl_form (hC.getP 0 rfl) s114.toNat (show s114.toNat < a0.images.length by omega)
    refine ae_look belPre 3 (.pointer (some (Ad128.add (s114.toNat * 1)))) rfl rfl (by kernel_rfl) (hM124 3 rfl) (fun w_ hB_ => .inl ⟨rfl, by exact r_iaddrS (len := a0.images.length) Try.underlying29 ag46.size (by exact tr rfl hv130) rfl h0_126 h1_127⟩) (listed' := (dbits 16 15)) (by kernel_rfl) ?_
    obtain ⟨cs_, hl132, hc133, hr134⟩ := sl_cells (hC.getP 0 rfl) hv130 s114.toNat (show s114.toNat < a0.images.length by omega)
    obtain ⟨u131, rfl⟩ := List.length_eq_one_iff.1 hl132
    clear hl132
    rw [getD_eq _ _ (show s114.toNat < a0.images.length by omega)] at hr134
    have hp135 := hr134
    replace hC := hC.derive 0 rfl (Ty.item ETerm.ty.sl ((a0.images.getD s114.toNat default).terms) [u131] fp0) (fun _ => (form_parts hp135)) (fun _ hb_ => hb_)
    refine ae_look belPre 4 (.agg #[u131]) rfl rfl (by kernel_rfl) (hM124 4 rfl) (fun w_ hB_ => .inl ⟨rfl, by exact r_loadCA [u131] (cellsAt_bel hB_ hc133) ag46 rfl rfl⟩) (listed' := (dbits 16 31)) (by kernel_rfl) ?_
    refine ae_lookF belPre 8 (.pointer (some ⟨b5, 1, none⟩)) rfl rfl (by kernel_rfl) (hM125 8 rfl) (fun w_ => .inl ⟨rfl, by exact r_faddrB 1 Try.underlying31 rfl sc29.size (sx hS_ 0 rfl) rfl⟩) (listed' := (dbits 16 287)) (by kernel_rfl) ?_
    refine ae_look belPre 9 (u0_1) rfl rfl (by kernel_rfl) (hM124 9 rfl) (fun w_ hB_ => .inl ⟨rfl, by exact r_loadS (hC.grow hB_) 0 (u0_1) rfl sc29 rfl rfl⟩) (listed' := (dbits 16 799)) (by kernel_rfl) ?_
    refine ae_lookF belPre 10 (.int .i64 s114) rfl rfl (by kernel_rfl) (hM125 10 rfl) (fun w_ => .inl ⟨rfl, by exact r_mv (v := .int .i64 s114) (sx hS_ 3 rfl)⟩) (listed' := (dbits 16 1823)) (by kernel_rfl) ?_
    obtain ⟨⟨h0_137, h1_138⟩, h⟩ := h
    obtain ⟨Ad139, c140, hv141⟩ := sl_form (hC.getP 1 rfl) s114.toNat (show s114.toNat < a0.images.length by omega)
    refine ae_look belPre 11 (.pointer (some (Ad139.add (s114.toNat * 1)))) rfl rfl (by kernel_rfl) (hM124 11 rfl) (fun w_ hB_ => .inl ⟨rfl, by exact r_iaddrS (len := a0.images.length) Try.underlying29 ag46.size (by exact tr rfl hv141) rfl h0_137 h1_138⟩) (listed' := (dbits 16 3871)) (by kernel_rfl) ?_
    refine ae_lookF belPre 12 (.pointer (some (Ad139.add (s114.toNat * 1 + 0)))) rfl rfl (by kernel_rfl) (hM125 12 rfl) (fun w_ => .inl ⟨rfl, by exact r_faddrS (s114.toNat * 1 + 0) Try.underlying46 rfl sc44.size rfl rfl⟩) (listed' := (dbits 16 7967)) (by kernel_rfl) ?_
    obtain ⟨cs_, hl143, hc144, hr145⟩ := sl_cells (hC.getP 1 rfl) hv141 s114.toNat (show s114.toNat < a0.images.length by omega)
    obtain ⟨u142, rfl⟩ := List.length_eq_one_iff.1 hl143
    clear hl143
    rw [getD_eq _ _ (show s114.toNat < a0.images.length by omega)] at hr145
    have hp146 := hr145
    replace hC := hC.derive 1 rfl (Ty.item ETerm.ty.sl ((a0.images.getD s114.toNat default).terms) [u142] fp0) (fun _ => (form_parts hp146)) (fun _ hb_ => hb_)
    refine ae_look belPre 13 (u142) rfl rfl (by kernel_rfl) (hM124 13 rfl) (fun w_ hB_ => .inl ⟨rfl, by exact r_loadCS (u142) (cells_subS (o := 0) (k := 1) (cellsAt_bel hB_ hc144) rfl) sc44 rfl⟩) (listed' := (dbits 16 16159)) (by kernel_rfl) ?_
    obtain ⟨Ad148, c149, hv150⟩ := sl_len (hC.getP 0 rfl)
    refine ae_look belPre 14 (.int .i64 (((a0.images.getD s114.toNat default).terms).length : Int)) rfl rfl (by kernel_rfl) (hM124 14 rfl) (fun w_ hB_ => .inl ⟨rfl, by exact r_len Try.underlying44 (by exact tr rfl hv150)⟩) (listed' := (dbits 16 32543)) (by kernel_rfl) ?_
    refine ae_one 5 rfl (by kernel_rfl) ?_
    refine s_call [.agg #[u131], .int .i64 2] _ Try.func60 rfl rfl rfl (c_spec_l02Words (a0.images.getD s114.toNat default) 2 h _ (form_mk (hC.getP 1 rfl))) (fun ret151 w153 hR152 => ?_)
    obtain ⟨r154, u155, f156, rfl, h, hr157, hf158, hB159⟩ := hR152
    refine ⟨_, rfl, ?_⟩
    replace hC := hC.push hB159 (Tr.item (TrForm 86) r154 [u155] f156) hr157 hf158
    obtain ⟨ho161, hf162⟩ := form_split (hC.getM 0 rfl)
    subst hf162
    replace hC := hC.recast (c := own 86 9 u155 r154.terms.length (ETerm.encs r154.terms)) (fun _ h_ => h_) (fun _ => ho161)
    refine done ?_
    refine ak_intro (by assumption) (listed' := (dbits 16 32575)) (by kernel_rfl) ?_
    refine ae_look belPre 6 (u155) rfl rfl (by kernel_rfl) (hM124 6 rfl) (fun w_ hB_ => .inl ⟨rfl, by exact r_fieldS (u155) Try.underlying46 rfl sc44 rfl rfl⟩) (listed' := (dbits 16 32639)) (by kernel_rfl) ?_
    obtain ⟨Ad164, c165, hv166⟩ := own_form (hC.getM 0 rfl)
    refine ae_look belPre 7 (.int .i64 (r154.terms.length : Int)) rfl rfl (by kernel_rfl) (hM124 7 rfl) (fun w_ hB_ => .inl ⟨rfl, by exact r_len Try.underlying44 (by exact tr rfl hv166)⟩) (listed' := (dbits 16 32767)) (by kernel_rfl) ?_
    refine ae_tail 15 (by decide) (by decide) (by kernel_rfl) (by kernel_rfl) rfl ?_
    refine s_neq rfl rfl ?_
    refine done ?_
    refine qn_norm ?_
    refine then_norm ?_
    refine cw_cond rfl (fun hb167 => ?_) (fun hb167 => ?_)
    ·replace h := ift h (ct hb167)
     refine sr ?_
     refine s_as (v := .bool false) rfl ?_
     refine s_as (v := .int .i64 0) rfl ?_
     refine dn ?_
     refine wp_ret (blk_ret (then_ret (then_ret (blk_ret (then_ret ?_)))))
     refine ret2 (fn := Try.f30) rfl ?_ ?_ ⟨false, 0, rfl, h, hC.below⟩ (.inl rfl)
     ·exact res_tmp rfl
     ·exact res_tmp rfl
    ·replace h := iff_ h (cf hb167)
     refine wp_skip ?_
     refine blk_norm ?_
     refine then_norm ?_
     refine cw_region ?_
     refine s_mv (v := .int .i64 s114) (sx hS_ 3 rfl) ?_
     refine s_add rfl rfl ?_
     refine s_as (v := .int .i64 (IntKind.i64.wrap (s114 + 1))) rfl ?_
     refine done ?_
     replace hC := hC.sel [1] [2, 3, 4] (M' := [blk b5 31 [u0_0, u0_1]]) (Ps' := [Ty.item TForm.sl a0.images [u0_1] fp0, Ty.item ((EI .i64).ty.sl) a0.degrees [u0_0] fp0, Ty.item TAlg a0 [u0_0, u0_1] fp0]) (by decide) rfl rfl
     exact hK117 (IntKind.i64.wrap (s114 + 1)) _ _ ⟨(sk (sx hS_ 0 rfl) (sk (sx hS_ 1 rfl) (sk (sx hS_ 2 rfl) (sk rfl sn)))), hC⟩ h
   ·replace h := iff_ h (cf hb122)
    refine wp_exit (then_exit (then_exit (exit_in ?_)))
    refine then_norm ?_
    refine sr ?_
    refine s_as (v := .bool true) rfl ?_
    refine s_as (v := .int .i64 0) rfl ?_
    refine dn ?_
    refine wp_ret ?_
    refine ret2 (fn := Try.f30) rfl ?_ ?_ ⟨true, 0, rfl, h, hC.below⟩ (.inl rfl)
    ·exact res_tmp rfl
    ·exact res_tmp rfl
  ·skip
   exact ⟨(sk rfl (sk rfl (sk rfl (sk rfl sn)))), hC⟩
def f_impl_IsCoformal (a0 : Alg) (K : Bool → Int → Prop) : Prop :=
 f_impl_pageCode a0 true (fun r11 => (if r11 ≠ 0 then K false r11 else forN (fun i39 (s40 : Unit) next42 => f_slices_ContainsFunc_impl_Term_impl_Term ((a0.images.getD i39 default).terms) f_impl_IsCoformal_1 (fun r63 => (if r63 = true then K false 0 else next42 ()))) (fun (s40 : Unit) => K true 0) a0.images.length 0 ()))
theorem c_impl_IsCoformal (a0 : Alg) {u0_0 : Value} {u0_1 : Value} {fp0 : List Nat} {K : Bool → Int → Prop} (h : f_impl_IsCoformal a0 K) (w0 : World) (q0 : TAlg.rep a0 [u0_0, u0_1] fp0 w0) :
  Calls Try.prog 31 #[.agg #[u0_0, u0_1]] w0 fun e w' => ∃ (r0 : Bool) (r1 : Int), 
   e = .returned (.tuple #[.bool r0, .int .i64 r1]) ∧ K r0 r1 ∧ Bel w0 w' := by
 unfold f_impl_IsCoformal at h
 refine calls_of (args := [.agg #[u0_0, u0_1]]) Try.func31 rfl 22 Try.ntmps31 (Nat.le_of_ble_eq_true rfl) ?_
 have hC := Ctx.start (X := Nox) w0 [Ty.item TAlg a0 [u0_0, u0_1] fp0] (by simp only [List.mem_cons, List.not_mem_nil, or_false, forall_eq_or_imp, forall_eq]; exact q0)
 have hp2 := (hC.getP 0 rfl)
 replace hC := hC.derive 0 rfl (Ty.item ((EI .i64).ty.sl) a0.degrees [u0_0] fp0) (fun _ => (alg_parts hp2).1) (fun _ hb_ => hb_)
 replace hC := hC.derive 1 rfl (Ty.item TForm.sl a0.images [u0_1] fp0) (fun _ => (alg_parts hp2).2) (fun _ hb_ => hb_)
 refine sr ?_
 refine s_box (v := .agg #[u0_0, u0_1]) hC [u0_0, u0_1] rfl rfl fun b5 w7 hB_ hC => ?_
 refine s_as (v := .bool false) rfl ?_
 refine s_as (v := .int .i64 0) rfl ?_
 refine dn ?_
 refine wp_seq ?_
 refine sr ?_
 refine s_call [.pointer (some ⟨b5, 0, none⟩), .bool true] _ Try.func61 rfl rfl rfl (c_impl_pageCode a0 true h _ (alg_mk (hC.getP 1 rfl) (hC.getP 0 rfl)) (hC.getM 0 rfl)) (fun ret8 w10 hR9 => ?_)
 obtain ⟨r11, rfl, h, hB12⟩ := hR9
 refine ⟨_, rfl, ?_⟩
 replace hC := hC.grow hB12
 refine s_as (v := .int .i64 r11) rfl ?_
 refine dn ?_
 refine sr ?_
 refine s_mv (v := .int .i64 r11) rfl ?_
 refine s_neq rfl rfl ?_
 refine dn ?_
 refine cw_cond rfl (fun hb13 => ?_) (fun hb13 => ?_)
 ·replace h := ift h (ct hb13)
  refine sr ?_
  refine s_mv (v := .int .i64 r11) rfl ?_
  refine s_as (v := .bool false) rfl ?_
  refine s_as (v := .int .i64 r11) rfl ?_
  refine dn ?_
  refine wp_ret (then_ret ?_)
  refine ret2 (fn := Try.f31) rfl ?_ ?_ ⟨false, r11, rfl, h, hC.below⟩ (.inl rfl)
  ·exact res_tmp rfl
  ·exact res_tmp rfl
 ·replace h := iff_ h (cf hb13)
  refine wp_skip ?_
  refine then_norm ?_
  refine wp_seq ?_
  refine sr ?_
  refine s_faddrB 1 Try.underlying31 rfl sc29.size rfl rfl ?_
  refine s_loadS hC 0 (u0_1) rfl sc29 rfl rfl ?_
  obtain ⟨Ad14, c15, hv16⟩ := sl_len (hC.getP 0 rfl)
  refine s_len Try.underlying29 (tr rfl hv16) ?_
  refine s_mv (v := .int .i64 0) rfl ?_
  refine dn ?_
  refine wp_block ?_
  have hN41 : a0.images.length ≤ 9223372036854775807 := sl_max (hC.getP 0 rfl)
  refine loopN (S := Unit) _ _ (fun i39 s40 e_ w_ => Slots e_ [(2, .bool false), (3, .int .i64 0), (12, u0_1), (13, .int .i64 (a0.images.length : Int)), (14, .int .i64 (i39 : Int))] ∧ Ctx Nox w0 w_ [] [Ty.item TForm.sl a0.images [u0_1] fp0, Ty.item ((EI .i64).ty.sl) a0.degrees [u0_0] fp0, Ty.item TAlg a0 [u0_0, u0_1] fp0]) a0.images.length ?_ ?_ (s0 := ()) ?_ h
  ·clear hC h
   rintro i39 s40 e_ w46 next42 K43 hi45 ⟨hS_, hC⟩ h hK44
   refine sr ?_
   refine s_lss (sx hS_ 4 rfl) (sx hS_ 3 rfl) ?_
   refine dn ?_
   refine wp_seq ?_
   refine cw_true rfl (decide_eq_true (by omega)) ?_
   refine wp_skip ?_
   refine then_norm ?_
   refine wp_seq ?_
   refine wp_block ?_
   refine sr ?_
   obtain ⟨Ad47, c48, hv49⟩ := sl_form (hC.getP 0 rfl) i39 hi45
   refine s_iaddrS (len := a0.images.length) Try.underlying29 ag46.size (tr (sx hS_ 2 rfl) hv49) (sx hS_ 4 rfl) (Int.natCast_nonneg _) (Int.ofNat_lt.2 hi45) ?_
   obtain ⟨cs_, hl51, hc52, hr53⟩ := sl_cells (hC.getP 0 rfl) hv49 i39 hi45
   obtain ⟨u50, rfl⟩ := List.length_eq_one_iff.1 hl51
   clear hl51
   rw [getD_eq _ _ hi45] at hr53
   have hp54 := hr53
   replace hC := hC.derive 0 rfl (Ty.item ETerm.ty.sl ((a0.images.getD i39 default).terms) [u50] fp0) (fun _ => (form_parts hp54)) (fun _ hb_ => hb_)
   refine s_loadCA [u50] hc52 ag46 rfl rfl ?_
   refine s_alloc hC [.slice none 0 0] z46 rfl fun b56 w58 hB_ hC => ?_
   refine s_store (v := .agg #[u50]) hC 0 [u50] [u50] rfl ag46.size rfl rfl rfl rfl (all_c (rep_oneC (hC.getP 0 rfl)) rfl) (Nat.le_of_ble_eq_true rfl) rfl fun w59 hC => ?_
   refine dn ?_
   refine sr ?_
   refine s_faddrB 0 Try.underlying46 rfl sc44.size rfl rfl ?_
   refine s_loadS hC 0 (u50) rfl sc44 rfl rfl ?_
   refine s_call [u50, .func (.func 63) #[] (List.toArray [])] _ Try.func62 rfl rfl rfl (c_slices_ContainsFunc_impl_Term_impl_Term ((a0.images.getD i39 default).terms) f_impl_IsCoformal_1 h _ (hC.getP 0 rfl) Try.func63 rfl rfl (fun x0_ K_ w_ _ hq_ => c_impl_IsCoformal_1 x0_ hq_ w_)) (fun ret60 w62 hR61 => ?_)
   obtain ⟨r63, rfl, h, hB64⟩ := hR61
   refine ⟨_, rfl, ?_⟩
   replace hC := hC.grow hB64
   refine dn ?_
   refine cw_cond rfl (fun hb65 => ?_) (fun hb65 => ?_)
   ·replace h := ift h (hb65)
    refine sr ?_
    refine s_as (v := .bool false) rfl ?_
    refine s_as (v := .int .i64 0) rfl ?_
    refine dn ?_
    refine wp_ret (blk_ret (then_ret (then_ret (blk_ret (then_ret ?_)))))
    refine ret2 (fn := Try.f31) rfl ?_ ?_ ⟨false, 0, rfl, h, hC.below⟩ (.inl rfl)
    ·exact res_tmp rfl
    ·exact res_tmp rfl
   ·replace h := iff_ h (ne_t hb65)
    refine wp_skip ?_
    refine blk_norm ?_
    refine then_norm ?_
    refine cw_region ?_
    refine s_add (sx hS_ 4 rfl) rfl ?_
    refine s_mv (v := .int .i64 (IntKind.i64.wrap ((i39 : Int) + 1))) rfl ?_
    refine done ?_
    replace hC := hC.sel [] [1, 2, 3] (M' := []) (Ps' := [Ty.item TForm.sl a0.images [u0_1] fp0, Ty.item ((EI .i64).ty.sl) a0.degrees [u0_0] fp0, Ty.item TAlg a0 [u0_0, u0_1] fp0]) (by decide) rfl rfl
    exact hK44 () _ _ ⟨(sk (sx hS_ 0 rfl) (sk (sx hS_ 1 rfl) (sk (sx hS_ 2 rfl) (sk (sx hS_ 3 rfl) (sk (tr rfl (congrArg _ (wrap64_nat hi45 hN41))) sn))))), hC⟩ h
  ·clear hC h
   rintro s40 e_ w66 K43 ⟨hS_, hC⟩ h
   refine sr ?_
   refine s_lss (sx hS_ 4 rfl) (sx hS_ 3 rfl) ?_
   refine dn ?_
   refine wp_seq ?_
   refine cw_false rfl (decide_eq_false (by omega)) ?_
   refine wp_exit (then_exit (then_exit (exit_in ?_)))
   refine then_norm ?_
   refine sr ?_
   refine s_as (v := .bool true) rfl ?_
   refine s_as (v := .int .i64 0) rfl ?_
   refine dn ?_
   refine wp_ret ?_
   refine ret2 (fn := Try.f31) rfl ?_ ?_ ⟨true, 0, rfl, h, hC.below⟩ (.inl rfl)
   ·exact res_tmp rfl
   ·exact res_tmp rfl
  ·skip
   replace hC := hC.sel [] [0, 1, 2] (M' := []) (Ps' := [Ty.item TForm.sl a0.images [u0_1] fp0, Ty.item ((EI .i64).ty.sl) a0.degrees [u0_0] fp0, Ty.item TAlg a0 [u0_0, u0_1] fp0]) (by decide) rfl rfl
   exact ⟨(sk rfl (sk rfl (sk rfl (sk rfl (sk rfl sn))))), hC⟩
def f_laws_FnExactIsCoformal (a0 : Alg) (K : Bool → Prop) : Prop :=
 f_laws_szAlgebra a0 1048576 (fun r11 => (if r11 < 0 then K true else f_laws_toAlgebra a0 (fun r17 => f_spec_IsCoformal r17 (fun r36 r37 => f_laws_toAlgebra a0 (fun r42 => f_impl_IsCoformal r42 (fun r65 r66 => (if r65 ≠ r36 then K false else (if r66 ≠ r37 then K false else f_laws_toAlgebra a0 (fun r76 => f_laws_eqAlgebra r42 r76 (fun r95 => (if ¬ (r95 = true) then K false else K true)))))))))))
theorem c_laws_FnExactIsCoformal (a0 : Alg) {u0_0 : Value} {u0_1 : Value} {fp0 : List Nat} {K : Bool → Prop} (h : f_laws_FnExactIsCoformal a0 K) (w0 : World) (q0 : TAlg.rep a0 [u0_0, u0_1] fp0 w0) :
  Calls Try.prog 8 #[.agg #[u0_0, u0_1]] w0 fun e w' => ∃ (r0 : Bool), 
   e = .returned (.bool r0) ∧ K r0 ∧ Bel w0 w' := by
 unfold f_laws_FnExactIsCoformal at h
 refine calls_of (args := [.agg #[u0_0, u0_1]]) Try.func8 rfl 40 Try.ntmps8 (Nat.le_of_ble_eq_true rfl) ?_
 have hC := Ctx.start (X := Nox) w0 [Ty.item TAlg a0 [u0_0, u0_1] fp0] (by simp only [List.mem_cons, List.not_mem_nil, or_false, forall_eq_or_imp, forall_eq]; exact q0)
 have hp2 := (hC.getP 0 rfl)
 replace hC := hC.derive 0 rfl (Ty.item ((EI .i64).ty.sl) a0.degrees [u0_0] fp0) (fun _ => (alg_parts hp2).1) (fun _ hb_ => hb_)
 replace hC := hC.derive 1 rfl (Ty.item TForm.sl a0.images [u0_1] fp0) (fun _ => (alg_parts hp2).2) (fun _ hb_ => hb_)
 refine sr ?_
 refine s_box (v := .agg #[u0_0, u0_1]) hC [u0_0, u0_1] rfl rfl fun b5 w7 hB_ hC => ?_
 refine s_as (v := .bool false) rfl ?_
 refine dn ?_
 refine sr ?_
 refine s_as (v := .int .i64 1048576) rfl ?_
 refine dn ?_
 refine sr ?_
 refine s_loadA hC 0 [u0_0, u0_1] rfl ag25 rfl rfl rfl ?_
 refine s_mv (v := .int .i64 1048576) rfl ?_
 refine s_call [.agg #[u0_0, u0_1], .int .i64 1048576] _ Try.func11 rfl rfl rfl (c_laws_szAlgebra a0 1048576 h _ (alg_mk (hC.getP 1 rfl) (hC.getP 0 rfl))) (fun ret8 w10 hR9 => ?_)
 obtain ⟨r11, rfl, h, hB12⟩ := hR9
 refine ⟨_, rfl, ?_⟩
 replace hC := hC.grow hB12
 refine s_as (v := .int .i64 r11) rfl ?_
 refine dn ?_
 refine wp_seq ?_
 refine sr ?_
 refine s_mv (v := .int .i64 r11) rfl ?_
 refine s_lss rfl rfl ?_
 refine dn ?_
 refine cw_cond rfl (fun hb13 => ?_) (fun hb13 => ?_)
 ·replace h := ift h (ct hb13)
  refine sr ?_
  refine s_as (v := .bool true) rfl ?_
  refine dn ?_
  refine wp_ret (then_ret ?_)
  refine ret1 (fn := Try.f8) rfl ?_ ⟨true, rfl, h, hC.below⟩ (.inl rfl)
  exact res_tmp rfl
 ·replace h := iff_ h (cf hb13)
  refine wp_skip ?_
  refine then_norm ?_
  refine sr ?_
  refine s_loadA hC 0 [u0_0, u0_1] rfl ag25 rfl rfl rfl ?_
  refine s_call [.agg #[u0_0, u0_1]] _ Try.func13 rfl rfl rfl (c_laws_toAlgebra a0 h _ (alg_mk (hC.getP 1 rfl) (hC.getP 0 rfl))) (fun ret14 w16 hR15 => ?_)
  obtain ⟨r17, u18, u19, f20, rfl, h, hr21, hf22, hB23⟩ := hR15
  refine ⟨_, rfl, ?_⟩
  replace hC := hC.push hB23 (Tr.item (TrAlg 2 86 46) r17 [u18, u19] f20) hr21 hf22
  obtain ⟨f25, ho26, ho27, hs28, hs29, hd30⟩ := alg_split (hC.getM 0 rfl)
  replace hC := hC.split (a := own 2 1 u18 r17.degrees.length ((EI .i64).encs r17.degrees)) (b := Tr.item (Tr.sl 46 (TrForm 86)) r17.images [u19] f25) hs28 hs29 ⟨ho26, ho27, hd30⟩
  refine s_call [.agg #[u18, u19]] _ Try.func30 rfl rfl rfl (c_spec_IsCoformal r17 h _ (alg_mk (own_repE (hC.getM 0 rfl)) (Tr.trep _ (hC.getM 1 rfl).1))) (fun ret33 w35 hR34 => ?_)
  obtain ⟨r36, r37, rfl, h, hB38⟩ := hR34
  refine ⟨_, rfl, ?_⟩
  replace hC := hC.grow hB38
  refine s_mv (v := .tuple #[.bool r36, .int .i64 r37]) rfl ?_
  refine s_ext (v := .bool r36) rfl rfl ?_
  refine s_ext (v := .int .i64 r37) rfl rfl ?_
  refine s_as (v := .bool r36) rfl ?_
  refine s_as (v := .int .i64 r37) rfl ?_
  refine dn ?_
  refine sr ?_
  refine s_loadA hC 2 [u0_0, u0_1] rfl ag25 rfl rfl rfl ?_
  refine s_call [.agg #[u0_0, u0_1]] _ Try.func13 rfl rfl rfl (c_laws_toAlgebra a0 h _ (alg_mk (hC.getP 1 rfl) (hC.getP 0 rfl))) (fun ret39 w41 hR40 => ?_)
  obtain ⟨r42, u43, u44, f45, rfl, h, hr46, hf47, hB48⟩ := hR40
  refine ⟨_, rfl, ?_⟩
  replace hC := hC.push hB48 (Tr.item (TrAlg 2 86 46) r42 [u43, u44] f45) hr46 hf47
  obtain ⟨f50, ho51, ho52, hs53, hs54, hd55⟩ := alg_split (hC.getM 0 rfl)
  replace hC := hC.split (a := own 2 1 u43 r42.degrees.length ((EI .i64).encs r42.degrees)) (b := Tr.item (Tr.sl 46 (TrForm 86)) r42.images [u44] f50) hs53 hs54 ⟨ho51, ho52, hd55⟩
  refine s_alloc hC [.slice none 0 0, .slice none 0 0] z31 rfl fun b58 w60 hB_ hC => ?_
  refine s_store (v := .agg #[u43, u44]) hC 0 [u43, u44] [u43, u44] rfl ag31.size rfl rfl rfl rfl (all_c (own_oneC (hC.getM 1 rfl)) (all_c (rep_oneC (Tr.trep _ (hC.getM 2 rfl).1)) rfl)) (Nat.le_of_ble_eq_true rfl) rfl fun w61 hC => ?_
  refine dn ?_
  refine sr ?_
  refine s_loadA hC 0 [u43, u44] rfl ag31 rfl rfl rfl ?_
  refine s_call [.agg #[u43, u44]] _ Try.func31 rfl rfl rfl (c_impl_IsCoformal r42 h _ (alg_mk (own_repE (hC.getM 1 rfl)) (Tr.trep _ (hC.getM 2 rfl).1))) (fun ret62 w64 hR63 => ?_)
  obtain ⟨r65, r66, rfl, h, hB67⟩ := hR63
  refine ⟨_, rfl, ?_⟩
  replace hC := hC.grow hB67
  refine s_mv (v := .tuple #[.bool r65, .int .i64 r66]) rfl ?_
  refine s_ext (v := .bool r65) rfl rfl ?_
  refine s_ext (v := .int .i64 r66) rfl rfl ?_
  refine s_as (v := .bool r65) rfl ?_
  refine s_as (v := .int .i64 r66) rfl ?_
  refine dn ?_
  refine wp_seq ?_
  refine sr ?_
  refine s_mv (v := .bool r65) rfl ?_
  refine s_mv (v := .bool r36) rfl ?_
  refine s_neqB Try.underlying4 rfl rfl ?_
  refine s_mv (v := .bool (!(r65 == r36))) rfl ?_
  refine bsplit (!(r65 == r36)) (fun hb68 => ?_) (fun hb68 => ?_)
  ·replace h := ift h (bne_t hb68)
   refine guardOff (b := true) 3 30 rfl (tr rfl (congrArg _ hb68)) (by decide) ?_
   refine guardOff (b := true) 3 30 rfl (tr rfl (congrArg _ hb68)) (by decide) ?_
   refine guardOff (b := true) 3 30 rfl (tr rfl (congrArg _ hb68)) (by decide) ?_
   refine s_pick (v := .bool true) (b := true) (tr rfl (congrArg _ hb68)) rfl ?_
   refine dn ?_
   refine cw_true rfl rfl ?_
   refine sr ?_
   refine s_as (v := .bool false) rfl ?_
   refine dn ?_
   refine wp_ret (then_ret ?_)
   refine ret1 (fn := Try.f8) rfl ?_ ⟨false, rfl, h, hC.below⟩ (.inl rfl)
   exact res_tmp rfl
  ·replace h := iff_ h (bne_f hb68)
   refine guardOn 3 30 rfl rfl hb68 ?_
   refine s_mv (v := .int .i64 r66) rfl ?_
   refine guardOn 3 30 rfl rfl hb68 ?_
   refine s_mv (v := .int .i64 r37) rfl ?_
   refine guardOn 3 30 rfl rfl hb68 ?_
   refine s_neq rfl rfl ?_
   refine s_pick (v := .bool (decide (r66 ≠ r37))) (b := false) (tr rfl (congrArg _ hb68)) rfl ?_
   refine dn ?_
   refine cw_cond rfl (fun hb69 => ?_) (fun hb69 => ?_)
   ·replace h := ift h (ct hb69)
    refine sr ?_
    refine s_as (v := .bool false) rfl ?_
    refine dn ?_
    refine wp_ret (then_ret ?_)
    refine ret1 (fn := Try.f8) rfl ?_ ⟨false, rfl, h, hC.below⟩ (.inl rfl)
    exact res_tmp rfl
   ·replace h := iff_ h (cf hb69)
    refine wp_skip ?_
    refine then_norm ?_
    refine wp_seq ?_
    refine wp_seq ?_
    refine cw_draw 3 mixed [0, 0, 2, 7, 15] [0, 1] [] (by kernel_rfl) (by kernel_rfl) (by kernel_rfl) (fun hM71 hM72 w70 hB_ => ?_)
    replace hC := hC.grow hB_
    refine ae_look belPre 0 (.agg #[u43, u44]) rfl rfl (by kernel_rfl) (hM71 0 rfl) (fun w_ hB_ => .inl ⟨rfl, by exact r_loadA (hC.grow hB_) 0 [u43, u44] rfl ag31 rfl rfl rfl⟩) (listed' := (dbits 5 1)) (by kernel_rfl) ?_
    refine ae_look belPre 1 (.agg #[u0_0, u0_1]) rfl rfl (by kernel_rfl) (hM71 1 rfl) (fun w_ hB_ => .inl ⟨rfl, by exact r_loadA (hC.grow hB_) 5 [u0_0, u0_1] rfl ag25 rfl rfl rfl⟩) (listed' := (dbits 5 3)) (by kernel_rfl) ?_
    refine ae_one 2 rfl (by kernel_rfl) ?_
    refine s_call [.agg #[u0_0, u0_1]] _ Try.func13 rfl rfl rfl (c_laws_toAlgebra a0 h _ (alg_mk (hC.getP 1 rfl) (hC.getP 0 rfl))) (fun ret73 w75 hR74 => ?_)
    obtain ⟨r76, u77, u78, f79, rfl, h, hr80, hf81, hB82⟩ := hR74
    refine ⟨_, rfl, ?_⟩
    replace hC := hC.push hB82 (Tr.item (TrAlg 2 86 46) r76 [u77, u78] f79) hr80 hf81
    obtain ⟨f84, ho85, ho86, hs87, hs88, hd89⟩ := alg_split (hC.getM 0 rfl)
    replace hC := hC.split (a := own 2 1 u77 r76.degrees.length ((EI .i64).encs r76.degrees)) (b := Tr.item (Tr.sl 46 (TrForm 86)) r76.images [u78] f84) hs87 hs88 ⟨ho85, ho86, hd89⟩
    refine done ?_
    refine ak_intro (by assumption) (listed' := (dbits 5 7)) (by kernel_rfl) ?_
    refine ae_tail 3 (by decide) (by decide) (by kernel_rfl) (by kernel_rfl) rfl ?_
    refine s_call [.agg #[u43, u44], .agg #[u77, u78]] _ Try.func15 rfl rfl rfl (c_laws_eqAlgebra r42 r76 h _ (alg_mk (own_repE (hC.getM 3 rfl)) (Tr.trep _ (hC.getM 4 rfl).1)) (alg_mk (own_repE (hC.getM 0 rfl)) (Tr.trep _ (hC.getM 1 rfl).1))) (fun ret92 w94 hR93 => ?_)
    obtain ⟨r95, rfl, h, hB96⟩ := hR93
    refine ⟨_, rfl, ?_⟩
    replace hC := hC.grow hB96
    refine s_not rfl ?_
    refine done ?_
    refine qn_norm ?_
    refine then_norm ?_
    refine cw_cond rfl (fun hb97 => ?_) (fun hb97 => ?_)
    ·replace h := ift h (ne_t (not_t hb97))
     refine sr ?_
     refine s_as (v := .bool false) rfl ?_
     refine dn ?_
     refine wp_ret (then_ret ?_)
     refine ret1 (fn := Try.f8) rfl ?_ ⟨false, rfl, h, hC.below⟩ (.inl rfl)
     exact res_tmp rfl
    ·replace h := iff_ h (not_not_intro ((not_f hb97)))
     refine wp_skip ?_
     refine then_norm ?_
     refine sr ?_
     refine s_as (v := .bool true) rfl ?_
     refine dn ?_
     refine wp_ret ?_
     refine ret1 (fn := Try.f8) rfl ?_ ⟨true, rfl, h, hC.below⟩ (.inl rfl)
     exact res_tmp rfl
end Go.Proofs.Ytgfmflmhcfkldaa
