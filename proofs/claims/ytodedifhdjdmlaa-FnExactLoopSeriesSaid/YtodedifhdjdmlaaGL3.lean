/- Printed by vcgen.py: functions of the program as predicates, and that the machine's calls meet them. -/
import Derived.Test.YtodedifhdjdmlaaGC
import Derived.KernelRfl
set_option linter.unusedVariables false
set_option linter.unusedSimpArgs false
set_option maxRecDepth 4000
set_option maxHeartbeats 4000000
namespace Go.Proofs.Ytodedifhdjdmlaa
open Go Go.RowKit Vc
theorem bs22_0  (w : World) : (Instr.buildSlice 22 0 #[]).run Try.prog w = .ok (.slice (some ⟨w.heap.size, 0, none⟩) 0 0) (w.alloc (.cells (List.toArray ((EI .i64).encs [])) 2)) := by kernel_rfl
theorem bs22_1 (x0 : Int) (w : World) : (Instr.buildSlice 22 1 #[(0, .int .i64 x0)]).run Try.prog w = .ok (.slice (some ⟨w.heap.size, 0, none⟩) 1 1) (w.alloc (.cells (List.toArray ((EI .i64).encs [x0])) 2)) := by kernel_rfl
theorem ag25 : AggT Try.prog 25 2 := ⟨⟨_, Try.underlying25, rfl⟩, by kernel_rfl⟩
def f_spec_l08Series (a0 : List Int) (a1 : Int) (K : List Int → Prop) : Prop :=
 ((0 ≤ IntKind.i64.wrap (a1 + 1) ∧ (IntKind.i64.wrap (a1 + 1)) * 8 ≤ 281474976710656) ∧ ((0 ≤ (0 : Int) ∧ (0 : Int) < ((List.replicate ((IntKind.i64.wrap (a1 + 1)).toNat) (0 : Int)).length : Int)) ∧ forN (fun i312 (s313 : (List Int)) next316 => (if Int.tmod (a0.getD i312 default) 2 = 0 then whileP (fun (s371 : (List Int) × Int) next373 => (if s371.2 ≤ a1 then ((0 ≤ s371.2 ∧ s371.2 < (s371.1.length : Int)) ∧ ((0 ≤ IntKind.i64.wrap (s371.2 - (a0.getD i312 default)) ∧ IntKind.i64.wrap (s371.2 - (a0.getD i312 default)) < (s371.1.length : Int)) ∧ ((0 ≤ s371.2 ∧ s371.2 < (s371.1.length : Int)) ∧ next373 (s371.1.set s371.2.toNat (IntKind.i64.wrap ((s371.1.getD s371.2.toNat default) + (s371.1.getD ((IntKind.i64.wrap (s371.2 - (a0.getD i312 default))).toNat) default))), IntKind.i64.wrap (s371.2 + 1))))) else next316 s371.1)) (s313, a0.getD i312 default) else whileP (fun (s440 : (List Int) × Int) next442 => (if s440.2 ≥ a0.getD i312 default then ((0 ≤ s440.2 ∧ s440.2 < (s440.1.length : Int)) ∧ ((0 ≤ IntKind.i64.wrap (s440.2 - (a0.getD i312 default)) ∧ IntKind.i64.wrap (s440.2 - (a0.getD i312 default)) < (s440.1.length : Int)) ∧ ((0 ≤ s440.2 ∧ s440.2 < (s440.1.length : Int)) ∧ next442 (s440.1.set s440.2.toNat (IntKind.i64.wrap ((s440.1.getD s440.2.toNat default) + (s440.1.getD ((IntKind.i64.wrap (s440.2 - (a0.getD i312 default))).toNat) default))), IntKind.i64.wrap (s440.2 - 1))))) else next316 s440.1)) (s313, a1))) (fun (s313 : (List Int)) => K s313) a0.length 0 ((List.replicate ((IntKind.i64.wrap (a1 + 1)).toNat) (0 : Int)).set 0 1)))
theorem c_spec_l08Series (a0 : List Int) (a1 : Int) {u0_0 : Value} {fp0 : List Nat} {K : List Int → Prop} (h : f_spec_l08Series a0 a1 K) (w0 : World) (q0 : ((EI .i64).ty.sl).rep a0 [u0_0] fp0 w0) :
  Calls Try.prog 26 #[u0_0, .int .i64 a1] w0 fun e w' => ∃ (r0 : List Int) (z0_0 : Value) (fz0 : List Nat), 
   e = .returned (z0_0) ∧ K r0 ∧ (Tr.item (Tr.sl 2 ((EI .i64).tr)) r0 [z0_0] fz0).holds w' ∧ (∀ b, b ∈ fz0 → w0.heap.size ≤ b) ∧ Bel w0 w' := by
 unfold f_spec_l08Series at h
 refine calls_of (args := [u0_0, .int .i64 a1]) Try.func26 rfl 69 Try.ntmps26 (Nat.le_of_ble_eq_true rfl) ?_
 have hC := Ctx.start (X := Nox) w0 [Ty.item ((EI .i64).ty.sl) a0 [u0_0] fp0] (by simp only [List.mem_cons, List.not_mem_nil, or_false, forall_eq_or_imp, forall_eq]; exact q0)
 refine sr ?_
 refine s_as (v := .slice none 0 0) rfl ?_
 refine dn ?_
 refine sr ?_
 refine s_mv (v := .int .i64 a1) rfl ?_
 refine s_add rfl rfl ?_
 obtain ⟨hm4, h⟩ := h
 refine s_make (sz := 1) hC ((EI .i64).encs (List.replicate ((IntKind.i64.wrap (a1 + 1)).toNat) (0 : Int))) Try.underlying22 el2 (tr rfl (congrArg (Value.int .i64) (Int.toNat_of_nonneg hm4.1).symm)) (tr rfl (congrArg (Value.int .i64) (Int.toNat_of_nonneg hm4.1).symm)) (by omega) (by omega) (made_encs (E := (EI .i64)) _ _) fun v2 w3 hB_ hC => ?_
 replace hC := own_re hC 0 ((List.replicate ((IntKind.i64.wrap (a1 + 1)).toNat) (0 : Int)).length) ((EI .i64).encs (List.replicate ((IntKind.i64.wrap (a1 + 1)).toNat) (0 : Int))) rfl (by simp) rfl
 refine s_as (v := v2) rfl ?_
 refine dn ?_
 refine sr ?_
 refine s_mv (v := v2) rfl ?_
 obtain ⟨⟨h0_6, h1_7⟩, h⟩ := h
 obtain ⟨Ad8, c9, hv10⟩ := own_formE (hC.getM 0 rfl) (Nat.lt_of_le_of_lt (Nat.zero_le _) (show 0 < (List.replicate ((IntKind.i64.wrap (a1 + 1)).toNat) (0 : Int)).length by omega))
 refine s_iaddrO (0 * 1) Try.underlying22 sc2.size (tr rfl hv10) rfl h0_6 h1_7 rfl ?_
 refine s_storeO (v := .int .i64 1) hC 0 [.int .i64 1] ((EI .i64).encs ((List.replicate ((IntKind.i64.wrap (a1 + 1)).toNat) (0 : Int)).set 0 1)) rfl hv10 sc2.size rfl rfl rfl rfl rfl (by rw [Enc.encs_len]; exact seg_le (sz := 1) (show 0 < (List.replicate ((IntKind.i64.wrap (a1 + 1)).toNat) (0 : Int)).length by omega)) (encs_set _ _ _ (show 0 < (List.replicate ((IntKind.i64.wrap (a1 + 1)).toNat) (0 : Int)).length by omega)) fun w11 hC => ?_
 replace hC := own_re hC 0 (((List.replicate ((IntKind.i64.wrap (a1 + 1)).toNat) (0 : Int)).set 0 1).length) ((EI .i64).encs ((List.replicate ((IntKind.i64.wrap (a1 + 1)).toNat) (0 : Int)).set 0 1)) rfl (by simp) rfl
 refine dn ?_
 refine wp_seq ?_
 refine sr ?_
 refine s_as (v := .int .i64 0) rfl ?_
 refine dn ?_
 refine wp_block ?_
 have hN315 : a0.length ≤ 9223372036854775807 := sl_max (hC.getP 0 rfl)
 refine loopN (S := (List Int)) _ _ (fun i312 s313 e_ w_ => ∃ (v314 : Value), Slots e_ [(0, u0_0), (1, .int .i64 a1), (4, .slice none 0 0), (5, v314), (6, .int .i64 (i312 : Int))] ∧ Ctx Nox w0 w_ [own 2 1 v314 s313.length ((EI .i64).encs s313)] [Ty.item ((EI .i64).ty.sl) a0 [u0_0] fp0]) a0.length ?_ ?_ (s0 := ((List.replicate ((IntKind.i64.wrap (a1 + 1)).toNat) (0 : Int)).set 0 1)) ?_ h
 ·clear hC h
  rintro i312 s313 e_ w320 next316 K317 hi319 ⟨v314, hS_, hC⟩ h hK318
  refine wp_seq ?_
  refine sr ?_
  refine s_mv (v := .int .i64 (i312 : Int)) (sx hS_ 4 rfl) ?_
  refine s_mv (v := u0_0) (sx hS_ 0 rfl) ?_
  obtain ⟨Ad321, c322, hv323⟩ := sl_len (hC.getP 0 rfl)
  refine s_len Try.underlying22 (tr rfl hv323) ?_
  refine s_lss rfl rfl ?_
  refine dn ?_
  refine cw_true rfl (decide_eq_true (by omega)) ?_
  refine wp_skip ?_
  refine then_norm ?_
  refine wp_seq ?_
  refine wp_block ?_
  refine sr ?_
  refine s_mv (v := u0_0) (sx hS_ 0 rfl) ?_
  refine s_mv (v := .int .i64 (i312 : Int)) (sx hS_ 4 rfl) ?_
  obtain ⟨Ad324, c325, hv326⟩ := sl_form (hC.getP 0 rfl) i312 hi319
  refine s_iaddrS (len := a0.length) Try.underlying22 sc2.size (tr rfl hv326) rfl (Int.natCast_nonneg _) (Int.ofNat_lt.2 hi319) ?_
  refine s_loadCS (.int .i64 (a0.getD i312 default)) (sl_cellsE (hC.getP 0 rfl) hv326 i312 hi319) sc2 rfl ?_
  refine s_as (v := .int .i64 (a0.getD i312 default)) rfl ?_
  refine dn ?_
  refine sr ?_
  refine s_mv (v := .int .i64 (a0.getD i312 default)) rfl ?_
  refine s_rem rfl rfl (by decide) ?_
  refine s_eql rfl rfl ?_
  refine dn ?_
  refine cw_cond rfl (fun hb327 => ?_) (fun hb327 => ?_)
  ·replace h := ift h (ct hb327)
   refine sr ?_
   refine s_mv (v := .int .i64 (a0.getD i312 default)) rfl ?_
   refine s_as (v := .int .i64 (a0.getD i312 default)) rfl ?_
   refine dn ?_
   refine wp_block ?_
   refine loopW (S := (List Int) × Int) _ (fun s371 e_ w_ => ∃ (v372 : Value), Slots e_ [(0, u0_0), (1, .int .i64 a1), (4, .slice none 0 0), (5, v372), (6, .int .i64 (i312 : Int)), (7, .int .i64 (a0.getD i312 default)), (8, .int .i64 s371.2), (15, .int .i64 (i312 : Int)), (16, u0_0), (17, .int .i64 (a0.length : Int)), (18, .bool (decide ((i312 : Int) < (a0.length : Int)))), (21, u0_0), (22, .int .i64 (i312 : Int)), (23, .pointer (some (Ad324.add (i312 * 1)))), (24, .int .i64 (a0.getD i312 default)), (25, .int .i64 (a0.getD i312 default)), (26, .int .i64 (Int.tmod (a0.getD i312 default) 2)), (27, .bool (decide (Int.tmod (a0.getD i312 default) 2 = 0))), (28, .int .i64 (a0.getD i312 default))] ∧ Ctx Nox w0 w_ [own 2 1 v372 s371.1.length ((EI .i64).encs s371.1)] [Ty.item ((EI .i64).ty.sl) a0 [u0_0] fp0]) ?_ (s0 := (s313, a0.getD i312 default)) ?_ h
   ·clear hC h
    rintro s371 e_ w376 next373 K374 ⟨v372, hS_, hC⟩ h hK375
    refine wp_seq ?_
    refine sr ?_
    refine s_mv (v := .int .i64 s371.2) (sx hS_ 6 rfl) ?_
    refine s_mv (v := .int .i64 a1) (sx hS_ 1 rfl) ?_
    refine s_leq rfl rfl ?_
    refine dn ?_
    refine cw_cond rfl (fun hb377 => ?_) (fun hb377 => ?_)
    ·replace h := ift h (ct hb377)
     refine wp_skip ?_
     refine then_norm ?_
     refine wp_seq ?_
     refine wp_block ?_
     refine cw_draw 13 mixed [0, 0, 0, 0, 12, 28, 0, 0, 0, 384, 960, 1984, 4092, 8191, 16383] [4, 5, 10, 11] [0, 1, 2, 3, 6, 7, 8, 9, 12] (by kernel_rfl) (by kernel_rfl) (by kernel_rfl) (fun hM379 hM380 w378 hB_ => ?_)
     replace hC := hC.grow hB_
     refine ae_lookF belPre 0 (v372) rfl rfl (by kernel_rfl) (hM380 0 rfl) (fun w_ => .inl ⟨rfl, by exact r_mv (v := v372) (sx hS_ 3 rfl)⟩) (listed' := (dbits 15 1)) (by kernel_rfl) ?_
     refine ae_lookF belPre 1 (.int .i64 s371.2) rfl rfl (by kernel_rfl) (hM380 1 rfl) (fun w_ => .inl ⟨rfl, by exact r_mv (v := .int .i64 s371.2) (sx hS_ 6 rfl)⟩) (listed' := (dbits 15 3)) (by kernel_rfl) ?_
     refine ae_lookF belPre 2 (v372) rfl rfl (by kernel_rfl) (hM380 2 rfl) (fun w_ => .inl ⟨rfl, by exact r_mv (v := v372) (sx hS_ 3 rfl)⟩) (listed' := (dbits 15 7)) (by kernel_rfl) ?_
     refine ae_lookF belPre 3 (.int .i64 s371.2) rfl rfl (by kernel_rfl) (hM380 3 rfl) (fun w_ => .inl ⟨rfl, by exact r_mv (v := .int .i64 s371.2) (sx hS_ 6 rfl)⟩) (listed' := (dbits 15 15)) (by kernel_rfl) ?_
     obtain ⟨⟨h0_381, h1_382⟩, h⟩ := h
     obtain ⟨Ad383, c384, hv385⟩ := own_formE (hC.getM 0 rfl) (Nat.lt_of_le_of_lt (Nat.zero_le _) (show s371.2.toNat < s371.1.length by omega))
     refine ae_look belPre 4 (.pointer (some ⟨Ad383, s371.2.toNat * 1, none⟩)) rfl rfl (by kernel_rfl) (hM379 4 rfl) (fun w_ hB_ => .inl ⟨rfl, by exact r_iaddrO (s371.2.toNat * 1) Try.underlying22 sc2.size (by exact tr rfl hv385) rfl h0_381 h1_382 rfl⟩) (listed' := (dbits 15 31)) (by kernel_rfl) ?_
     refine ae_look belPre 5 (.int .i64 (s371.1.getD s371.2.toNat default)) rfl rfl (by kernel_rfl) (hM379 5 rfl) (fun w_ hB_ => .inl ⟨rfl, by exact r_loadCS (.int .i64 (s371.1.getD s371.2.toNat default)) (own_cellsE ((hC.grow hB_).getM 0 rfl) hv385 s371.2.toNat (show s371.2.toNat < s371.1.length by omega)) sc2 rfl⟩) (listed' := (dbits 15 63)) (by kernel_rfl) ?_
     refine ae_lookF belPre 6 (v372) rfl rfl (by kernel_rfl) (hM380 6 rfl) (fun w_ => .inl ⟨rfl, by exact r_mv (v := v372) (sx hS_ 3 rfl)⟩) (listed' := (dbits 15 127)) (by kernel_rfl) ?_
     refine ae_lookF belPre 7 (.int .i64 s371.2) rfl rfl (by kernel_rfl) (hM380 7 rfl) (fun w_ => .inl ⟨rfl, by exact r_mv (v := .int .i64 s371.2) (sx hS_ 6 rfl)⟩) (listed' := (dbits 15 255)) (by kernel_rfl) ?_
     refine ae_lookF belPre 8 (.int .i64 (a0.getD i312 default)) rfl rfl (by kernel_rfl) (hM380 8 rfl) (fun w_ => .inl ⟨rfl, by exact r_mv (v := .int .i64 (a0.getD i312 default)) (sx hS_ 5 rfl)⟩) (listed' := (dbits 15 511)) (by kernel_rfl) ?_
     refine ae_lookF belPre 9 (.int .i64 (IntKind.i64.wrap (s371.2 - (a0.getD i312 default)))) rfl rfl (by kernel_rfl) (hM380 9 rfl) (fun w_ => .inl ⟨rfl, by exact r_sub rfl rfl⟩) (listed' := (dbits 15 1023)) (by kernel_rfl) ?_
     obtain ⟨⟨h0_386, h1_387⟩, h⟩ := h
     obtain ⟨Ad388, c389, hv390⟩ := own_formE (hC.getM 0 rfl) (Nat.lt_of_le_of_lt (Nat.zero_le _) (show (IntKind.i64.wrap (s371.2 - (a0.getD i312 default))).toNat < s371.1.length by omega))
     refine ae_look belPre 10 (.pointer (some ⟨Ad388, (IntKind.i64.wrap (s371.2 - (a0.getD i312 default))).toNat * 1, none⟩)) rfl rfl (by kernel_rfl) (hM379 10 rfl) (fun w_ hB_ => .inl ⟨rfl, by exact r_iaddrO ((IntKind.i64.wrap (s371.2 - (a0.getD i312 default))).toNat * 1) Try.underlying22 sc2.size (by exact tr rfl hv390) rfl h0_386 h1_387 rfl⟩) (listed' := (dbits 15 2047)) (by kernel_rfl) ?_
     refine ae_look belPre 11 (.int .i64 (s371.1.getD ((IntKind.i64.wrap (s371.2 - (a0.getD i312 default))).toNat) default)) rfl rfl (by kernel_rfl) (hM379 11 rfl) (fun w_ hB_ => .inl ⟨rfl, by exact r_loadCS (.int .i64 (s371.1.getD ((IntKind.i64.wrap (s371.2 - (a0.getD i312 default))).toNat) default)) (own_cellsE ((hC.grow hB_).getM 0 rfl) hv390 ((IntKind.i64.wrap (s371.2 - (a0.getD i312 default))).toNat) (show (IntKind.i64.wrap (s371.2 - (a0.getD i312 default))).toNat < s371.1.length by omega)) sc2 rfl⟩) (listed' := (dbits 15 4095)) (by kernel_rfl) ?_
     refine ae_lookF belPre 12 (.int .i64 (IntKind.i64.wrap ((s371.1.getD s371.2.toNat default) + (s371.1.getD ((IntKind.i64.wrap (s371.2 - (a0.getD i312 default))).toNat) default)))) rfl rfl (by kernel_rfl) (hM380 12 rfl) (fun w_ => .inl ⟨rfl, by exact r_add rfl rfl⟩) (listed' := (dbits 15 8191)) (by kernel_rfl) ?_
     refine ae_tail 13 (by decide) (by decide) (by kernel_rfl) (by kernel_rfl) rfl ?_
     obtain ⟨⟨h0_391, h1_392⟩, h⟩ := h
     obtain ⟨Ad393, c394, hv395⟩ := own_formE (hC.getM 0 rfl) (Nat.lt_of_le_of_lt (Nat.zero_le _) (show s371.2.toNat < s371.1.length by omega))
     refine s_iaddrO (s371.2.toNat * 1) Try.underlying22 sc2.size (tr rfl hv395) rfl h0_391 h1_392 rfl ?_
     refine s_storeO (v := .int .i64 (IntKind.i64.wrap ((s371.1.getD s371.2.toNat default) + (s371.1.getD ((IntKind.i64.wrap (s371.2 - (a0.getD i312 default))).toNat) default)))) hC 0 [.int .i64 (IntKind.i64.wrap ((s371.1.getD s371.2.toNat default) + (s371.1.getD ((IntKind.i64.wrap (s371.2 - (a0.getD i312 default))).toNat) default)))] ((EI .i64).encs (s371.1.set s371.2.toNat (IntKind.i64.wrap ((s371.1.getD s371.2.toNat default) + (s371.1.getD ((IntKind.i64.wrap (s371.2 - (a0.getD i312 default))).toNat) default))))) rfl hv395 sc2.size rfl rfl rfl rfl rfl (by rw [Enc.encs_len]; exact seg_le (sz := 1) (show s371.2.toNat < s371.1.length by omega)) (encs_set _ _ _ (show s371.2.toNat < s371.1.length by omega)) fun w396 hC => ?_
     replace hC := own_re hC 0 ((s371.1.set s371.2.toNat (IntKind.i64.wrap ((s371.1.getD s371.2.toNat default) + (s371.1.getD ((IntKind.i64.wrap (s371.2 - (a0.getD i312 default))).toNat) default)))).length) ((EI .i64).encs (s371.1.set s371.2.toNat (IntKind.i64.wrap ((s371.1.getD s371.2.toNat default) + (s371.1.getD ((IntKind.i64.wrap (s371.2 - (a0.getD i312 default))).toNat) default))))) rfl (by simp) rfl
     refine done ?_
     refine qn_norm ?_
     refine blk_norm ?_
     refine then_norm ?_
     refine cw_region ?_
     refine s_mv (v := .int .i64 s371.2) (sx hS_ 6 rfl) ?_
     refine s_add rfl rfl ?_
     refine s_as (v := .int .i64 (IntKind.i64.wrap (s371.2 + 1))) rfl ?_
     refine done ?_
     exact hK375 (s371.1.set s371.2.toNat (IntKind.i64.wrap ((s371.1.getD s371.2.toNat default) + (s371.1.getD ((IntKind.i64.wrap (s371.2 - (a0.getD i312 default))).toNat) default))), IntKind.i64.wrap (s371.2 + 1)) _ _ ⟨v372, (sk (sx hS_ 0 rfl) (sk (sx hS_ 1 rfl) (sk (sx hS_ 2 rfl) (sk (sx hS_ 3 rfl) (sk (sx hS_ 4 rfl) (sk (sx hS_ 5 rfl) (sk rfl (sk (sx hS_ 7 rfl) (sk (sx hS_ 8 rfl) (sk (sx hS_ 9 rfl) (sk (sx hS_ 10 rfl) (sk (sx hS_ 11 rfl) (sk (sx hS_ 12 rfl) (sk (sx hS_ 13 rfl) (sk (sx hS_ 14 rfl) (sk (sx hS_ 15 rfl) (sk (sx hS_ 16 rfl) (sk (sx hS_ 17 rfl) (sk (sx hS_ 18 rfl) sn))))))))))))))))))), hC⟩ h
    ·replace h := iff_ h (cf hb377)
     refine wp_exit (then_exit (then_exit (exit_in ?_)))
     refine blk_norm ?_
     refine then_norm ?_
     refine cw_region ?_
     refine s_mv (v := .int .i64 (i312 : Int)) (sx hS_ 4 rfl) ?_
     refine s_add rfl rfl ?_
     refine s_as (v := .int .i64 (IntKind.i64.wrap ((i312 : Int) + 1))) rfl ?_
     refine done ?_
     exact hK318 s371.1 _ _ ⟨v372, (sk (sx hS_ 0 rfl) (sk (sx hS_ 1 rfl) (sk (sx hS_ 2 rfl) (sk (sx hS_ 3 rfl) (sk (tr rfl (congrArg _ (wrap64_nat hi319 hN315))) sn))))), hC⟩ h
   ·skip
    exact ⟨v314, (sk (sx hS_ 0 rfl) (sk (sx hS_ 1 rfl) (sk (sx hS_ 2 rfl) (sk (sx hS_ 3 rfl) (sk (sx hS_ 4 rfl) (sk rfl (sk rfl (sk rfl (sk rfl (sk rfl (sk rfl (sk rfl (sk rfl (sk rfl (sk rfl (sk rfl (sk rfl (sk rfl (sk rfl sn))))))))))))))))))), hC⟩
  ·replace h := iff_ h (cf hb327)
   refine sr ?_
   refine s_mv (v := .int .i64 a1) (sx hS_ 1 rfl) ?_
   refine s_as (v := .int .i64 a1) rfl ?_
   refine dn ?_
   refine wp_block ?_
   refine loopW (S := (List Int) × Int) _ (fun s440 e_ w_ => ∃ (v441 : Value), Slots e_ [(0, u0_0), (1, .int .i64 a1), (4, .slice none 0 0), (5, v441), (6, .int .i64 (i312 : Int)), (7, .int .i64 (a0.getD i312 default)), (9, .int .i64 s440.2), (15, .int .i64 (i312 : Int)), (16, u0_0), (17, .int .i64 (a0.length : Int)), (18, .bool (decide ((i312 : Int) < (a0.length : Int)))), (21, u0_0), (22, .int .i64 (i312 : Int)), (23, .pointer (some (Ad324.add (i312 * 1)))), (24, .int .i64 (a0.getD i312 default)), (25, .int .i64 (a0.getD i312 default)), (26, .int .i64 (Int.tmod (a0.getD i312 default) 2)), (27, .bool (decide (Int.tmod (a0.getD i312 default) 2 = 0))), (48, .int .i64 a1)] ∧ Ctx Nox w0 w_ [own 2 1 v441 s440.1.length ((EI .i64).encs s440.1)] [Ty.item ((EI .i64).ty.sl) a0 [u0_0] fp0]) ?_ (s0 := (s313, a1)) ?_ h
   ·clear hC h
    rintro s440 e_ w445 next442 K443 ⟨v441, hS_, hC⟩ h hK444
    refine wp_seq ?_
    refine sr ?_
    refine s_mv (v := .int .i64 s440.2) (sx hS_ 6 rfl) ?_
    refine s_mv (v := .int .i64 (a0.getD i312 default)) (sx hS_ 5 rfl) ?_
    refine s_geq rfl rfl ?_
    refine dn ?_
    refine cw_cond rfl (fun hb446 => ?_) (fun hb446 => ?_)
    ·replace h := ift h (ct hb446)
     refine wp_skip ?_
     refine then_norm ?_
     refine wp_seq ?_
     refine wp_block ?_
     refine cw_draw 13 mixed [0, 0, 0, 0, 12, 28, 0, 0, 0, 384, 960, 1984, 4092, 8191, 16383] [4, 5, 10, 11] [0, 1, 2, 3, 6, 7, 8, 9, 12] (by kernel_rfl) (by kernel_rfl) (by kernel_rfl) (fun hM448 hM449 w447 hB_ => ?_)
     replace hC := hC.grow hB_
     refine ae_lookF belPre 0 (v441) rfl rfl (by kernel_rfl) (hM449 0 rfl) (fun w_ => .inl ⟨rfl, by exact r_mv (v := v441) (sx hS_ 3 rfl)⟩) (listed' := (dbits 15 1)) (by kernel_rfl) ?_
     refine ae_lookF belPre 1 (.int .i64 s440.2) rfl rfl (by kernel_rfl) (hM449 1 rfl) (fun w_ => .inl ⟨rfl, by exact r_mv (v := .int .i64 s440.2) (sx hS_ 6 rfl)⟩) (listed' := (dbits 15 3)) (by kernel_rfl) ?_
     refine ae_lookF belPre 2 (v441) rfl rfl (by kernel_rfl) (hM449 2 rfl) (fun w_ => .inl ⟨rfl, by exact r_mv (v := v441) (sx hS_ 3 rfl)⟩) (listed' := (dbits 15 7)) (by kernel_rfl) ?_
     refine ae_lookF belPre 3 (.int .i64 s440.2) rfl rfl (by kernel_rfl) (hM449 3 rfl) (fun w_ => .inl ⟨rfl, by exact r_mv (v := .int .i64 s440.2) (sx hS_ 6 rfl)⟩) (listed' := (dbits 15 15)) (by kernel_rfl) ?_
     obtain ⟨⟨h0_450, h1_451⟩, h⟩ := h
     obtain ⟨Ad452, c453, hv454⟩ := own_formE (hC.getM 0 rfl) (Nat.lt_of_le_of_lt (Nat.zero_le _) (show s440.2.toNat < s440.1.length by omega))
     refine ae_look belPre 4 (.pointer (some ⟨Ad452, s440.2.toNat * 1, none⟩)) rfl rfl (by kernel_rfl) (hM448 4 rfl) (fun w_ hB_ => .inl ⟨rfl, by exact r_iaddrO (s440.2.toNat * 1) Try.underlying22 sc2.size (by exact tr rfl hv454) rfl h0_450 h1_451 rfl⟩) (listed' := (dbits 15 31)) (by kernel_rfl) ?_
     refine ae_look belPre 5 (.int .i64 (s440.1.getD s440.2.toNat default)) rfl rfl (by kernel_rfl) (hM448 5 rfl) (fun w_ hB_ => .inl ⟨rfl, by exact r_loadCS (.int .i64 (s440.1.getD s440.2.toNat default)) (own_cellsE ((hC.grow hB_).getM 0 rfl) hv454 s440.2.toNat (show s440.2.toNat < s440.1.length by omega)) sc2 rfl⟩) (listed' := (dbits 15 63)) (by kernel_rfl) ?_
     refine ae_lookF belPre 6 (v441) rfl rfl (by kernel_rfl) (hM449 6 rfl) (fun w_ => .inl ⟨rfl, by exact r_mv (v := v441) (sx hS_ 3 rfl)⟩) (listed' := (dbits 15 127)) (by kernel_rfl) ?_
     refine ae_lookF belPre 7 (.int .i64 s440.2) rfl rfl (by kernel_rfl) (hM449 7 rfl) (fun w_ => .inl ⟨rfl, by exact r_mv (v := .int .i64 s440.2) (sx hS_ 6 rfl)⟩) (listed' := (dbits 15 255)) (by kernel_rfl) ?_
     refine ae_lookF belPre 8 (.int .i64 (a0.getD i312 default)) rfl rfl (by kernel_rfl) (hM449 8 rfl) (fun w_ => .inl ⟨rfl, by exact r_mv (v := .int .i64 (a0.getD i312 default)) (sx hS_ 5 rfl)⟩) (listed' := (dbits 15 511)) (by kernel_rfl) ?_
     refine ae_lookF belPre 9 (.int .i64 (IntKind.i64.wrap (s440.2 - (a0.getD i312 default)))) rfl rfl (by kernel_rfl) (hM449 9 rfl) (fun w_ => .inl ⟨rfl, by exact r_sub rfl rfl⟩) (listed' := (dbits 15 1023)) (by kernel_rfl) ?_
     obtain ⟨⟨h0_455, h1_456⟩, h⟩ := h
     obtain ⟨Ad457, c458, hv459⟩ := own_formE (hC.getM 0 rfl) (Nat.lt_of_le_of_lt (Nat.zero_le _) (show (IntKind.i64.wrap (s440.2 - (a0.getD i312 default))).toNat < s440.1.length by omega))
     refine ae_look belPre 10 (.pointer (some ⟨Ad457, (IntKind.i64.wrap (s440.2 - (a0.getD i312 default))).toNat * 1, none⟩)) rfl rfl (by kernel_rfl) (hM448 10 rfl) (fun w_ hB_ => .inl ⟨rfl, by exact r_iaddrO ((IntKind.i64.wrap (s440.2 - (a0.getD i312 default))).toNat * 1) Try.underlying22 sc2.size (by exact tr rfl hv459) rfl h0_455 h1_456 rfl⟩) (listed' := (dbits 15 2047)) (by kernel_rfl) ?_
     refine ae_look belPre 11 (.int .i64 (s440.1.getD ((IntKind.i64.wrap (s440.2 - (a0.getD i312 default))).toNat) default)) rfl rfl (by kernel_rfl) (hM448 11 rfl) (fun w_ hB_ => .inl ⟨rfl, by exact r_loadCS (.int .i64 (s440.1.getD ((IntKind.i64.wrap (s440.2 - (a0.getD i312 default))).toNat) default)) (own_cellsE ((hC.grow hB_).getM 0 rfl) hv459 ((IntKind.i64.wrap (s440.2 - (a0.getD i312 default))).toNat) (show (IntKind.i64.wrap (s440.2 - (a0.getD i312 default))).toNat < s440.1.length by omega)) sc2 rfl⟩) (listed' := (dbits 15 4095)) (by kernel_rfl) ?_
     refine ae_lookF belPre 12 (.int .i64 (IntKind.i64.wrap ((s440.1.getD s440.2.toNat default) + (s440.1.getD ((IntKind.i64.wrap (s440.2 - (a0.getD i312 default))).toNat) default)))) rfl rfl (by kernel_rfl) (hM449 12 rfl) (fun w_ => .inl ⟨rfl, by exact r_add rfl rfl⟩) (listed' := (dbits 15 8191)) (by kernel_rfl) ?_
     refine ae_tail 13 (by decide) (by decide) (by kernel_rfl) (by kernel_rfl) rfl ?_
     obtain ⟨⟨h0_460, h1_461⟩, h⟩ := h
     obtain ⟨Ad462, c463, hv464⟩ := own_formE (hC.getM 0 rfl) (Nat.lt_of_le_of_lt (Nat.zero_le _) (show s440.2.toNat < s440.1.length by omega))
     refine s_iaddrO (s440.2.toNat * 1) Try.underlying22 sc2.size (tr rfl hv464) rfl h0_460 h1_461 rfl ?_
     refine s_storeO (v := .int .i64 (IntKind.i64.wrap ((s440.1.getD s440.2.toNat default) + (s440.1.getD ((IntKind.i64.wrap (s440.2 - (a0.getD i312 default))).toNat) default)))) hC 0 [.int .i64 (IntKind.i64.wrap ((s440.1.getD s440.2.toNat default) + (s440.1.getD ((IntKind.i64.wrap (s440.2 - (a0.getD i312 default))).toNat) default)))] ((EI .i64).encs (s440.1.set s440.2.toNat (IntKind.i64.wrap ((s440.1.getD s440.2.toNat default) + (s440.1.getD ((IntKind.i64.wrap (s440.2 - (a0.getD i312 default))).toNat) default))))) rfl hv464 sc2.size rfl rfl rfl rfl rfl (by rw [Enc.encs_len]; exact seg_le (sz := 1) (show s440.2.toNat < s440.1.length by omega)) (encs_set _ _ _ (show s440.2.toNat < s440.1.length by omega)) fun w465 hC => ?_
     replace hC := own_re hC 0 ((s440.1.set s440.2.toNat (IntKind.i64.wrap ((s440.1.getD s440.2.toNat default) + (s440.1.getD ((IntKind.i64.wrap (s440.2 - (a0.getD i312 default))).toNat) default)))).length) ((EI .i64).encs (s440.1.set s440.2.toNat (IntKind.i64.wrap ((s440.1.getD s440.2.toNat default) + (s440.1.getD ((IntKind.i64.wrap (s440.2 - (a0.getD i312 default))).toNat) default))))) rfl (by simp) rfl
     refine done ?_
     refine qn_norm ?_
     refine blk_norm ?_
     refine then_norm ?_
     refine cw_region ?_
     refine s_mv (v := .int .i64 s440.2) (sx hS_ 6 rfl) ?_
     refine s_sub rfl rfl ?_
     refine s_as (v := .int .i64 (IntKind.i64.wrap (s440.2 - 1))) rfl ?_
     refine done ?_
     exact hK444 (s440.1.set s440.2.toNat (IntKind.i64.wrap ((s440.1.getD s440.2.toNat default) + (s440.1.getD ((IntKind.i64.wrap (s440.2 - (a0.getD i312 default))).toNat) default))), IntKind.i64.wrap (s440.2 - 1)) _ _ ⟨v441, (sk (sx hS_ 0 rfl) (sk (sx hS_ 1 rfl) (sk (sx hS_ 2 rfl) (sk (sx hS_ 3 rfl) (sk (sx hS_ 4 rfl) (sk (sx hS_ 5 rfl) (sk rfl (sk (sx hS_ 7 rfl) (sk (sx hS_ 8 rfl) (sk (sx hS_ 9 rfl) (sk (sx hS_ 10 rfl) (sk (sx hS_ 11 rfl) (sk (sx hS_ 12 rfl) (sk (sx hS_ 13 rfl) (sk (sx hS_ 14 rfl) (sk (sx hS_ 15 rfl) (sk (sx hS_ 16 rfl) (sk (sx hS_ 17 rfl) (sk (sx hS_ 18 rfl) sn))))))))))))))))))), hC⟩ h
    ·replace h := iff_ h (cf hb446)
     refine wp_exit (then_exit (then_exit (exit_in ?_)))
     refine blk_norm ?_
     refine then_norm ?_
     refine cw_region ?_
     refine s_mv (v := .int .i64 (i312 : Int)) (sx hS_ 4 rfl) ?_
     refine s_add rfl rfl ?_
     refine s_as (v := .int .i64 (IntKind.i64.wrap ((i312 : Int) + 1))) rfl ?_
     refine done ?_
     exact hK318 s440.1 _ _ ⟨v441, (sk (sx hS_ 0 rfl) (sk (sx hS_ 1 rfl) (sk (sx hS_ 2 rfl) (sk (sx hS_ 3 rfl) (sk (tr rfl (congrArg _ (wrap64_nat hi319 hN315))) sn))))), hC⟩ h
   ·skip
    exact ⟨v314, (sk (sx hS_ 0 rfl) (sk (sx hS_ 1 rfl) (sk (sx hS_ 2 rfl) (sk (sx hS_ 3 rfl) (sk (sx hS_ 4 rfl) (sk rfl (sk rfl (sk rfl (sk rfl (sk rfl (sk rfl (sk rfl (sk rfl (sk rfl (sk rfl (sk rfl (sk rfl (sk rfl (sk rfl sn))))))))))))))))))), hC⟩
 ·clear hC h
  rintro s313 e_ w466 K317 ⟨v314, hS_, hC⟩ h
  refine wp_seq ?_
  refine sr ?_
  refine s_mv (v := .int .i64 (a0.length : Int)) (sx hS_ 4 rfl) ?_
  refine s_mv (v := u0_0) (sx hS_ 0 rfl) ?_
  obtain ⟨Ad467, c468, hv469⟩ := sl_len (hC.getP 0 rfl)
  refine s_len Try.underlying22 (tr rfl hv469) ?_
  refine s_lss rfl rfl ?_
  refine dn ?_
  refine cw_false rfl (decide_eq_false (by omega)) ?_
  refine wp_exit (then_exit (then_exit (exit_in ?_)))
  refine then_norm ?_
  refine sr ?_
  refine s_mv (v := v314) (sx hS_ 3 rfl) ?_
  refine s_as (v := v314) rfl ?_
  refine dn ?_
  refine wp_ret ?_
  refine ret1 (fn := Try.f26) rfl ?_ ⟨s313, v314, (Option.toList (Value.ownBlock v314)), rfl, h, (own_item (hC.getM 0 rfl)), (own_fresh hC 0 rfl), hC.below⟩ (.inl rfl)
  exact res_tmp rfl
 ·skip
  exact ⟨v2, (sk rfl (sk rfl (sk rfl (sk rfl (sk rfl sn))))), hC⟩
def f_spec_LoopSeries (a0 : Alg) (a1 : Int) (K : List Int → Int → Prop) : Prop :=
 f_spec_l02Is a0 (fun r11 => (if ¬ (r11 = true) then K [] 1 else f_spec_l01In a1 0 40 (fun r17 => (if ¬ (r17 = true) then K [] 2 else whileP (fun (s94 : (List Int) × Int) next96 => (if s94.2 < (a0.degrees.length : Int) then ((0 ≤ s94.2 ∧ s94.2 < (a0.degrees.length : Int)) ∧ (if a0.degrees.getD s94.2.toNat default = 1 then K [] 5 else ((0 ≤ s94.2 ∧ s94.2 < (a0.degrees.length : Int)) ∧ (Room (s94.1.length + 1) 8 ∧ next96 (s94.1 ++ [IntKind.i64.wrap ((a0.degrees.getD s94.2.toNat default) - 1)], IntKind.i64.wrap (s94.2 + 1)))))) else f_spec_l08Series s94.1 a1 (fun r124 => K r124 0))) ([], 0)))))
theorem c_spec_LoopSeries (a0 : Alg) (a1 : Int) {u0_0 : Value} {u0_1 : Value} {fp0 : List Nat} {K : List Int → Int → Prop} (h : f_spec_LoopSeries a0 a1 K) (w0 : World) (q0 : TAlg.rep a0 [u0_0, u0_1] fp0 w0) :
  Calls Try.prog 7 #[.agg #[u0_0, u0_1], .int .i64 a1] w0 fun e w' => ∃ (r0 : List Int) (z0_0 : Value) (fz0 : List Nat) (r1 : Int), 
   e = .returned (.tuple #[z0_0, .int .i64 r1]) ∧ K r0 r1 ∧ (Tr.item (Tr.sl 2 ((EI .i64).tr)) r0 [z0_0] fz0).holds w' ∧ (∀ b, b ∈ fz0 → w0.heap.size ≤ b) ∧ Bel w0 w' := by
 unfold f_spec_LoopSeries at h
 refine calls_of (args := [.agg #[u0_0, u0_1], .int .i64 a1]) Try.func7 rfl 42 Try.ntmps7 (Nat.le_of_ble_eq_true rfl) ?_
 have hC := Ctx.start (X := Nox) w0 [Ty.item TAlg a0 [u0_0, u0_1] fp0] (by simp only [List.mem_cons, List.not_mem_nil, or_false, forall_eq_or_imp, forall_eq]; exact q0)
 have hp2 := (hC.getP 0 rfl)
 replace hC := hC.derive 0 rfl (Ty.item ((EI .i64).ty.sl) a0.degrees [u0_0] fp0) (fun _ => (alg_parts hp2).1) (fun _ hb_ => hb_)
 replace hC := hC.derive 1 rfl (Ty.item TForm.sl a0.images [u0_1] fp0) (fun _ => (alg_parts hp2).2) (fun _ hb_ => hb_)
 refine sr ?_
 refine s_box (v := .agg #[u0_0, u0_1]) hC [u0_0, u0_1] rfl rfl fun b5 w7 hB_ hC => ?_
 refine s_as (v := .slice none 0 0) rfl ?_
 refine s_as (v := .int .i64 0) rfl ?_
 refine dn ?_
 refine wp_seq ?_
 refine wp_block ?_
 refine sr ?_
 refine s_loadA hC 0 [u0_0, u0_1] rfl ag31 rfl rfl rfl ?_
 refine s_call [.agg #[u0_0, u0_1]] _ Try.func24 rfl rfl rfl (c_spec_l02Is a0 h _ (alg_mk (hC.getP 1 rfl) (hC.getP 0 rfl))) (fun ret8 w10 hR9 => ?_)
 obtain ⟨r11, rfl, h, hB12⟩ := hR9
 refine ⟨_, rfl, ?_⟩
 replace hC := hC.grow hB12
 refine s_not rfl ?_
 refine s_as (v := .bool (!r11)) rfl ?_
 refine dn ?_
 refine cw_cond rfl (fun hb13 => ?_) (fun hb13 => ?_)
 ·replace h := ift h (ne_t (not_t hb13))
  refine sr ?_
  refine s_as (v := .slice none 0 0) rfl ?_
  refine s_as (v := .int .i64 1) rfl ?_
  refine dn ?_
  refine wp_ret (blk_ret (then_ret ?_))
  refine ret2 (fn := Try.f7) rfl ?_ ?_ ⟨[], .slice none 0 0, [], 1, rfl, h, (nil_item _ _ _), (fun b hb => absurd hb (by simp)), hC.below⟩ (.inl rfl)
  ·exact res_tmp rfl
  ·exact res_tmp rfl
 ·replace h := iff_ h (not_not_intro ((not_f hb13)))
  refine sr ?_
  refine s_mv (v := .int .i64 a1) rfl ?_
  refine s_call [.int .i64 a1, .int .i64 0, .int .i64 40] _ Try.func25 rfl rfl rfl (c_spec_l01In a1 0 40 h _) (fun ret14 w16 hR15 => ?_)
  obtain ⟨r17, rfl, h, hB18⟩ := hR15
  refine ⟨_, rfl, ?_⟩
  replace hC := hC.grow hB18
  refine s_not rfl ?_
  refine s_as (v := .bool (!r17)) rfl ?_
  refine dn ?_
  refine cw_cond rfl (fun hb19 => ?_) (fun hb19 => ?_)
  ·replace h := ift h (ne_t (not_t hb19))
   refine sr ?_
   refine s_as (v := .slice none 0 0) rfl ?_
   refine s_as (v := .int .i64 2) rfl ?_
   refine dn ?_
   refine wp_ret (blk_ret (then_ret ?_))
   refine ret2 (fn := Try.f7) rfl ?_ ?_ ⟨[], .slice none 0 0, [], 2, rfl, h, (nil_item _ _ _), (fun b hb => absurd hb (by simp)), hC.below⟩ (.inl rfl)
   ·exact res_tmp rfl
   ·exact res_tmp rfl
  ·replace h := iff_ h (not_not_intro ((not_f hb19)))
   refine wp_skip ?_
   refine blk_norm ?_
   refine then_norm ?_
   refine sr ?_
   refine s_bslice (sz := 1) hC [] ((EI .i64).encs []) rfl (fun _ => bs22_0  _) rfl (by decide) fun b20 w21 hB_ hC => ?_
   refine s_as (v := .slice (some ⟨b20, 0, none⟩) 0 0) rfl ?_
   refine dn ?_
   refine wp_seq ?_
   refine sr ?_
   refine s_as (v := .int .i64 0) rfl ?_
   refine dn ?_
   refine wp_block ?_
   refine loopW (S := (List Int) × Int) _ (fun s94 e_ w_ => ∃ (v95 : Value), Slots e_ [(1, .int .i64 a1), (2, .pointer (some ⟨b5, 0, none⟩)), (4, .slice none 0 0), (5, .int .i64 0), (6, v95), (7, .int .i64 s94.2)] ∧ Ctx Nox w0 w_ [own 2 1 v95 s94.1.length ((EI .i64).encs s94.1), blk b5 31 [u0_0, u0_1]] [Ty.item TForm.sl a0.images [u0_1] fp0, Ty.item ((EI .i64).ty.sl) a0.degrees [u0_0] fp0, Ty.item TAlg a0 [u0_0, u0_1] fp0]) ?_ (s0 := ([], 0)) ?_ h
   ·clear hC h
    rintro s94 e_ w99 next96 K97 ⟨v95, hS_, hC⟩ h hK98
    refine wp_seq ?_
    refine sr ?_
    refine s_mv (v := .int .i64 s94.2) (sx hS_ 5 rfl) ?_
    refine s_faddrB 0 Try.underlying31 rfl sc22.size (sx hS_ 1 rfl) rfl ?_
    refine s_loadS hC 1 (u0_0) rfl sc22 rfl rfl ?_
    obtain ⟨Ad100, c101, hv102⟩ := sl_len (hC.getP 1 rfl)
    refine s_len Try.underlying22 (tr rfl hv102) ?_
    refine s_lss rfl rfl ?_
    refine dn ?_
    refine cw_cond rfl (fun hb103 => ?_) (fun hb103 => ?_)
    ·replace h := ift h (ct hb103)
     refine wp_skip ?_
     refine then_norm ?_
     refine wp_seq ?_
     refine wp_block ?_
     refine wp_seq ?_
     refine sr ?_
     refine s_faddrB 0 Try.underlying31 rfl sc22.size (sx hS_ 1 rfl) rfl ?_
     refine s_loadS hC 1 (u0_0) rfl sc22 rfl rfl ?_
     refine s_mv (v := .int .i64 s94.2) (sx hS_ 5 rfl) ?_
     obtain ⟨⟨h0_104, h1_105⟩, h⟩ := h
     obtain ⟨Ad106, c107, hv108⟩ := sl_form (hC.getP 1 rfl) s94.2.toNat (show s94.2.toNat < a0.degrees.length by omega)
     refine s_iaddrS (len := a0.degrees.length) Try.underlying22 sc2.size (tr rfl hv108) rfl h0_104 h1_105 ?_
     refine s_loadCS (.int .i64 (a0.degrees.getD s94.2.toNat default)) (sl_cellsE (hC.getP 1 rfl) hv108 s94.2.toNat (show s94.2.toNat < a0.degrees.length by omega)) sc2 rfl ?_
     refine s_eql rfl rfl ?_
     refine dn ?_
     refine cw_cond rfl (fun hb109 => ?_) (fun hb109 => ?_)
     ·replace h := ift h (ct hb109)
      refine sr ?_
      refine s_as (v := .slice none 0 0) rfl ?_
      refine s_as (v := .int .i64 5) rfl ?_
      refine dn ?_
      refine wp_ret (then_ret (blk_ret (then_ret (then_ret (blk_ret (then_ret ?_))))))
      refine ret2 (fn := Try.f7) rfl ?_ ?_ ⟨[], .slice none 0 0, [], 5, rfl, h, (nil_item _ _ _), (fun b hb => absurd hb (by simp)), hC.below⟩ (.inl rfl)
      ·exact res_tmp rfl
      ·exact res_tmp rfl
     ·replace h := iff_ h (cf hb109)
      refine wp_skip ?_
      refine then_norm ?_
      refine cw_region ?_
      refine s_mv (v := v95) (sx hS_ 4 rfl) ?_
      refine s_faddrB 0 Try.underlying31 rfl sc22.size (sx hS_ 1 rfl) rfl ?_
      refine s_loadS hC 1 (u0_0) rfl sc22 rfl rfl ?_
      refine s_mv (v := .int .i64 s94.2) (sx hS_ 5 rfl) ?_
      obtain ⟨⟨h0_110, h1_111⟩, h⟩ := h
      obtain ⟨Ad112, c113, hv114⟩ := sl_form (hC.getP 1 rfl) s94.2.toNat (show s94.2.toNat < a0.degrees.length by omega)
      refine s_iaddrS (len := a0.degrees.length) Try.underlying22 sc2.size (tr rfl hv114) rfl h0_110 h1_111 ?_
      refine s_loadCS (.int .i64 (a0.degrees.getD s94.2.toNat default)) (sl_cellsE (hC.getP 1 rfl) hv114 s94.2.toNat (show s94.2.toNat < a0.degrees.length by omega)) sc2 rfl ?_
      refine s_sub rfl rfl ?_
      refine s_bslice (sz := 1) hC [(0, .int .i64 (IntKind.i64.wrap ((a0.degrees.getD s94.2.toNat default) - 1)))] ((EI .i64).encs [IntKind.i64.wrap ((a0.degrees.getD s94.2.toNat default) - 1)]) rfl (fun _ => bs22_1 (IntKind.i64.wrap ((a0.degrees.getD s94.2.toNat default) - 1)) _) rfl (by decide) fun b115 w116 hB_ hC => ?_
      obtain ⟨hm120, h⟩ := h
      refine s_app hC 1 Try.underlying22 el2 rfl (by decide) (by decide) rfl (own_rdr (hC.getM 0 rfl)) (fun q hq => Enc.encs_one' (E := (EI .i64)) _ q hq) rfl rfl hm120 fun v118 w119 hC => ?_
      replace hC := own_re hC 1 ((s94.1 ++ [IntKind.i64.wrap ((a0.degrees.getD s94.2.toNat default) - 1)]).length) ((EI .i64).encs (s94.1 ++ [IntKind.i64.wrap ((a0.degrees.getD s94.2.toNat default) - 1)])) rfl (by simp) (by first | (simp [Enc.encs_append]; done) | simp [Enc.encs_append, Enc.encs])
      refine s_as (v := v118) rfl ?_
      refine done ?_
      refine blk_norm ?_
      refine then_norm ?_
      refine cw_region ?_
      refine s_mv (v := .int .i64 s94.2) (sx hS_ 5 rfl) ?_
      refine s_add rfl rfl ?_
      refine s_as (v := .int .i64 (IntKind.i64.wrap (s94.2 + 1))) rfl ?_
      refine done ?_
      replace hC := hC.sel [1, 2] [0, 1, 2] (M' := [own 2 1 v118 ((s94.1 ++ [IntKind.i64.wrap ((a0.degrees.getD s94.2.toNat default) - 1)]).length) ((EI .i64).encs (s94.1 ++ [IntKind.i64.wrap ((a0.degrees.getD s94.2.toNat default) - 1)])), blk b5 31 [u0_0, u0_1]]) (Ps' := [Ty.item TForm.sl a0.images [u0_1] fp0, Ty.item ((EI .i64).ty.sl) a0.degrees [u0_0] fp0, Ty.item TAlg a0 [u0_0, u0_1] fp0]) (by decide) rfl rfl
      exact hK98 (s94.1 ++ [IntKind.i64.wrap ((a0.degrees.getD s94.2.toNat default) - 1)], IntKind.i64.wrap (s94.2 + 1)) _ _ ⟨v118, (sk (sx hS_ 0 rfl) (sk (sx hS_ 1 rfl) (sk (sx hS_ 2 rfl) (sk (sx hS_ 3 rfl) (sk rfl (sk rfl sn)))))), hC⟩ h
    ·replace h := iff_ h (cf hb103)
     refine wp_exit (then_exit (then_exit (exit_in ?_)))
     refine then_norm ?_
     refine sr ?_
     refine s_mv (v := v95) (sx hS_ 4 rfl) ?_
     refine s_mv (v := .int .i64 a1) (sx hS_ 0 rfl) ?_
     refine s_call [v95, .int .i64 a1] _ Try.func26 rfl rfl rfl (c_spec_l08Series s94.1 a1 h _ (own_repE (hC.getM 0 rfl))) (fun ret121 w123 hR122 => ?_)
     obtain ⟨r124, u125, f126, rfl, h, hr127, hf128, hB129⟩ := hR122
     refine ⟨_, rfl, ?_⟩
     replace hC := hC.push hB129 (Tr.item (Tr.sl 2 ((EI .i64).tr)) r124 [u125] f126) hr127 hf128
     obtain ⟨ho131, hf132⟩ := flat_tr (hC.getM 0 rfl).1
     subst hf132
     replace hC := hC.recast (c := own 2 1 u125 r124.length ((EI .i64).encs r124)) (fun _ h_ => h_) (fun _ => ho131)
     refine s_as (v := u125) rfl ?_
     refine s_as (v := .int .i64 0) rfl ?_
     refine dn ?_
     refine wp_ret ?_
     refine ret2 (fn := Try.f7) rfl ?_ ?_ ⟨r124, u125, (Option.toList (Value.ownBlock u125)), 0, rfl, h, (own_item (hC.getM 0 rfl)), (own_fresh hC 0 rfl), hC.below⟩ (.inl rfl)
     ·exact res_tmp rfl
     ·exact res_tmp rfl
   ·skip
    exact ⟨.slice (some ⟨b20, 0, none⟩) 0 0, (sk rfl (sk rfl (sk rfl (sk rfl (sk rfl (sk rfl sn)))))), hC⟩
def f_impl_isLong (a0 : Int) (K : Bool → Prop) : Prop :=
 f_impl_within a0 0 40 (fun r4 => K r4)
theorem c_impl_isLong (a0 : Int)  {K : Bool → Prop} (h : f_impl_isLong a0 K) (w0 : World)  :
  Calls Try.prog 32 #[.int .i64 a0] w0 fun e w' => ∃ (r0 : Bool), 
   e = .returned (.bool r0) ∧ K r0 ∧ Bel w0 w' := by
 unfold f_impl_isLong at h
 refine calls_of (args := [.int .i64 a0]) Try.func32 rfl 5 Try.ntmps32 (Nat.le_of_ble_eq_true rfl) ?_
 have hC := Ctx.start (X := Nox) w0 [] (by simp)
 refine sr ?_
 refine s_as (v := .bool false) rfl ?_
 refine dn ?_
 refine sr ?_
 refine s_mv (v := .int .i64 a0) rfl ?_
 refine s_call [.int .i64 a0, .int .i64 0, .int .i64 40] _ Try.func52 rfl rfl rfl (c_impl_within a0 0 40 h _) (fun ret1 w3 hR2 => ?_)
 obtain ⟨r4, rfl, h, hB5⟩ := hR2
 refine ⟨_, rfl, ?_⟩
 replace hC := hC.grow hB5
 refine s_as (v := .bool r4) rfl ?_
 refine dn ?_
 refine wp_ret ?_
 refine ret1 (fn := Try.f32) rfl ?_ ⟨r4, rfl, h, hC.below⟩ (.inl rfl)
 exact res_tmp rfl
def f_slices_Index_int64_int64 (a0 : List Int) (a1 : Int) (K : Int → Prop) : Prop :=
 forN (fun i12 (s13 : Unit) next15 => (if a1 = a0.getD i12 default then K (i12 : Int) else next15 ())) (fun (s13 : Unit) => K (-1)) a0.length 0 ()
theorem c_slices_Index_int64_int64 (a0 : List Int) (a1 : Int) {u0_0 : Value} {fp0 : List Nat} {K : Int → Prop} (h : f_slices_Index_int64_int64 a0 a1 K) (w0 : World) (q0 : ((EI .i64).ty.sl).rep a0 [u0_0] fp0 w0) :
  Calls Try.prog 53 #[u0_0, .int .i64 a1] w0 fun e w' => ∃ (r0 : Int), 
   e = .returned (.int .i64 r0) ∧ K r0 ∧ Bel w0 w' := by
 unfold f_slices_Index_int64_int64 at h
 refine calls_of (args := [u0_0, .int .i64 a1]) Try.func53 rfl 19 Try.ntmps53 (Nat.le_of_ble_eq_true rfl) ?_
 have hC := Ctx.start (X := Nox) w0 [Ty.item ((EI .i64).ty.sl) a0 [u0_0] fp0] (by simp only [List.mem_cons, List.not_mem_nil, or_false, forall_eq_or_imp, forall_eq]; exact q0)
 refine sr ?_
 refine s_as (v := .int .i64 0) rfl ?_
 refine dn ?_
 refine wp_seq ?_
 refine sr ?_
 refine s_mv (v := u0_0) rfl ?_
 obtain ⟨Ad2, c3, hv4⟩ := sl_len (hC.getP 0 rfl)
 refine s_len Try.underlying22 (tr rfl hv4) ?_
 refine s_mv (v := .int .i64 0) rfl ?_
 refine dn ?_
 refine wp_block ?_
 have hN14 : a0.length ≤ 9223372036854775807 := sl_max (hC.getP 0 rfl)
 refine loopN (S := Unit) _ _ (fun i12 s13 e_ w_ => Slots e_ [(0, u0_0), (1, .int .i64 a1), (4, .int .i64 0), (7, .int .i64 (a0.length : Int)), (8, .int .i64 (i12 : Int))] ∧ Ctx Nox w0 w_ [] [Ty.item ((EI .i64).ty.sl) a0 [u0_0] fp0]) a0.length ?_ ?_ (s0 := ()) ?_ h
 ·clear hC h
  rintro i12 s13 e_ w19 next15 K16 hi18 ⟨hS_, hC⟩ h hK17
  refine sr ?_
  refine s_lss (sx hS_ 4 rfl) (sx hS_ 3 rfl) ?_
  refine dn ?_
  refine wp_seq ?_
  refine cw_true rfl (decide_eq_true (by omega)) ?_
  refine wp_skip ?_
  refine then_norm ?_
  refine wp_seq ?_
  refine wp_block ?_
  refine sr ?_
  refine s_mv (v := .int .i64 (i12 : Int)) (sx hS_ 4 rfl) ?_
  refine s_as (v := .int .i64 (i12 : Int)) rfl ?_
  refine dn ?_
  refine sr ?_
  refine s_mv (v := .int .i64 a1) (sx hS_ 1 rfl) ?_
  refine s_mv (v := u0_0) (sx hS_ 0 rfl) ?_
  refine s_mv (v := .int .i64 (i12 : Int)) rfl ?_
  obtain ⟨Ad20, c21, hv22⟩ := sl_form (hC.getP 0 rfl) i12 hi18
  refine s_iaddrS (len := a0.length) Try.underlying22 sc2.size (tr rfl hv22) rfl (Int.natCast_nonneg _) (Int.ofNat_lt.2 hi18) ?_
  refine s_loadCS (.int .i64 (a0.getD i12 default)) (sl_cellsE (hC.getP 0 rfl) hv22 i12 hi18) sc2 rfl ?_
  refine s_eql rfl rfl ?_
  refine dn ?_
  refine cw_cond rfl (fun hb23 => ?_) (fun hb23 => ?_)
  ·replace h := ift h (ct hb23)
   refine sr ?_
   refine s_mv (v := .int .i64 (i12 : Int)) rfl ?_
   refine s_as (v := .int .i64 (i12 : Int)) rfl ?_
   refine dn ?_
   refine wp_ret (blk_ret (then_ret (then_ret (blk_ret (then_ret ?_)))))
   refine ret1 (fn := Try.f53) rfl ?_ ⟨(i12 : Int), rfl, h, hC.below⟩ (.inl rfl)
   exact res_tmp rfl
  ·replace h := iff_ h (cf hb23)
   refine wp_skip ?_
   refine blk_norm ?_
   refine then_norm ?_
   refine cw_region ?_
   refine s_add (sx hS_ 4 rfl) rfl ?_
   refine s_mv (v := .int .i64 (IntKind.i64.wrap ((i12 : Int) + 1))) rfl ?_
   refine done ?_
   exact hK17 () _ _ ⟨(sk (sx hS_ 0 rfl) (sk (sx hS_ 1 rfl) (sk (sx hS_ 2 rfl) (sk (sx hS_ 3 rfl) (sk (tr rfl (congrArg _ (wrap64_nat hi18 hN14))) sn))))), hC⟩ h
 ·clear hC h
  rintro s13 e_ w24 K16 ⟨hS_, hC⟩ h
  refine sr ?_
  refine s_lss (sx hS_ 4 rfl) (sx hS_ 3 rfl) ?_
  refine dn ?_
  refine wp_seq ?_
  refine cw_false rfl (decide_eq_false (by omega)) ?_
  refine wp_exit (then_exit (then_exit (exit_in ?_)))
  refine then_norm ?_
  refine sr ?_
  refine s_as (v := .int .i64 (-1)) rfl ?_
  refine dn ?_
  refine wp_ret ?_
  refine ret1 (fn := Try.f53) rfl ?_ ⟨(-1), rfl, h, hC.below⟩ (.inl rfl)
  exact res_tmp rfl
 ·skip
  exact ⟨(sk rfl (sk rfl (sk rfl (sk rfl (sk rfl sn))))), hC⟩
def f_slices_Contains_int64_int64 (a0 : List Int) (a1 : Int) (K : Bool → Prop) : Prop :=
 f_slices_Index_int64_int64 a0 a1 (fun r5 => K (decide (r5 ≥ 0)))
theorem c_slices_Contains_int64_int64 (a0 : List Int) (a1 : Int) {u0_0 : Value} {fp0 : List Nat} {K : Bool → Prop} (h : f_slices_Contains_int64_int64 a0 a1 K) (w0 : World) (q0 : ((EI .i64).ty.sl).rep a0 [u0_0] fp0 w0) :
  Calls Try.prog 33 #[u0_0, .int .i64 a1] w0 fun e w' => ∃ (r0 : Bool), 
   e = .returned (.bool r0) ∧ K r0 ∧ Bel w0 w' := by
 unfold f_slices_Contains_int64_int64 at h
 refine calls_of (args := [u0_0, .int .i64 a1]) Try.func33 rfl 9 Try.ntmps33 (Nat.le_of_ble_eq_true rfl) ?_
 have hC := Ctx.start (X := Nox) w0 [Ty.item ((EI .i64).ty.sl) a0 [u0_0] fp0] (by simp only [List.mem_cons, List.not_mem_nil, or_false, forall_eq_or_imp, forall_eq]; exact q0)
 refine sr ?_
 refine s_as (v := .bool false) rfl ?_
 refine dn ?_
 refine sr ?_
 refine s_mv (v := u0_0) rfl ?_
 refine s_mv (v := .int .i64 a1) rfl ?_
 refine s_call [u0_0, .int .i64 a1] _ Try.func53 rfl rfl rfl (c_slices_Index_int64_int64 a0 a1 h _ (hC.getP 0 rfl)) (fun ret2 w4 hR3 => ?_)
 obtain ⟨r5, rfl, h, hB6⟩ := hR3
 refine ⟨_, rfl, ?_⟩
 replace hC := hC.grow hB6
 refine s_geq rfl rfl ?_
 refine s_as (v := .bool (decide (r5 ≥ 0))) rfl ?_
 refine dn ?_
 refine wp_ret ?_
 refine ret1 (fn := Try.f33) rfl ?_ ⟨decide (r5 ≥ 0), rfl, h, hC.below⟩ (.inl rfl)
 exact res_tmp rfl
def f_impl_series (a0 : List Int) (a1 : Int) (K : List Int → Prop) : Prop :=
 ((0 ≤ IntKind.i64.wrap (a1 + 1) ∧ (IntKind.i64.wrap (a1 + 1)) * 8 ≤ 281474976710656) ∧ ((0 ≤ (0 : Int) ∧ (0 : Int) < ((List.replicate ((IntKind.i64.wrap (a1 + 1)).toNat) (0 : Int)).length : Int)) ∧ forN (fun i306 (s307 : (List Int)) next310 => (if Int.tmod (a0.getD i306 default) 2 = 1 then whileP (fun (s362 : (List Int) × Int) next364 => (if s362.2 ≥ a0.getD i306 default then ((0 ≤ s362.2 ∧ s362.2 < (s362.1.length : Int)) ∧ ((0 ≤ IntKind.i64.wrap (s362.2 - (a0.getD i306 default)) ∧ IntKind.i64.wrap (s362.2 - (a0.getD i306 default)) < (s362.1.length : Int)) ∧ ((0 ≤ s362.2 ∧ s362.2 < (s362.1.length : Int)) ∧ next364 (s362.1.set s362.2.toNat (IntKind.i64.wrap ((s362.1.getD s362.2.toNat default) + (s362.1.getD ((IntKind.i64.wrap (s362.2 - (a0.getD i306 default))).toNat) default))), IntKind.i64.wrap (s362.2 - 1))))) else next310 s362.1)) (s307, a1) else whileP (fun (s431 : (List Int) × Int) next433 => (if s431.2 ≤ a1 then ((0 ≤ s431.2 ∧ s431.2 < (s431.1.length : Int)) ∧ ((0 ≤ IntKind.i64.wrap (s431.2 - (a0.getD i306 default)) ∧ IntKind.i64.wrap (s431.2 - (a0.getD i306 default)) < (s431.1.length : Int)) ∧ ((0 ≤ s431.2 ∧ s431.2 < (s431.1.length : Int)) ∧ next433 (s431.1.set s431.2.toNat (IntKind.i64.wrap ((s431.1.getD s431.2.toNat default) + (s431.1.getD ((IntKind.i64.wrap (s431.2 - (a0.getD i306 default))).toNat) default))), IntKind.i64.wrap (s431.2 + 1))))) else next310 s431.1)) (s307, a0.getD i306 default))) (fun (s307 : (List Int)) => K s307) a0.length 0 ((List.replicate ((IntKind.i64.wrap (a1 + 1)).toNat) (0 : Int)).set 0 1)))
theorem c_impl_series (a0 : List Int) (a1 : Int) {u0_0 : Value} {fp0 : List Nat} {K : List Int → Prop} (h : f_impl_series a0 a1 K) (w0 : World) (q0 : ((EI .i64).ty.sl).rep a0 [u0_0] fp0 w0) :
  Calls Try.prog 34 #[u0_0, .int .i64 a1] w0 fun e w' => ∃ (r0 : List Int) (z0_0 : Value) (fz0 : List Nat), 
   e = .returned (z0_0) ∧ K r0 ∧ (Tr.item (Tr.sl 2 ((EI .i64).tr)) r0 [z0_0] fz0).holds w' ∧ (∀ b, b ∈ fz0 → w0.heap.size ≤ b) ∧ Bel w0 w' := by
 unfold f_impl_series at h
 refine calls_of (args := [u0_0, .int .i64 a1]) Try.func34 rfl 62 Try.ntmps34 (Nat.le_of_ble_eq_true rfl) ?_
 have hC := Ctx.start (X := Nox) w0 [Ty.item ((EI .i64).ty.sl) a0 [u0_0] fp0] (by simp only [List.mem_cons, List.not_mem_nil, or_false, forall_eq_or_imp, forall_eq]; exact q0)
 refine sr ?_
 refine s_as (v := .slice none 0 0) rfl ?_
 refine dn ?_
 refine sr ?_
 refine s_mv (v := .int .i64 a1) rfl ?_
 refine s_add rfl rfl ?_
 obtain ⟨hm4, h⟩ := h
 refine s_make (sz := 1) hC ((EI .i64).encs (List.replicate ((IntKind.i64.wrap (a1 + 1)).toNat) (0 : Int))) Try.underlying22 el2 (tr rfl (congrArg (Value.int .i64) (Int.toNat_of_nonneg hm4.1).symm)) (tr rfl (congrArg (Value.int .i64) (Int.toNat_of_nonneg hm4.1).symm)) (by omega) (by omega) (made_encs (E := (EI .i64)) _ _) fun v2 w3 hB_ hC => ?_
 replace hC := own_re hC 0 ((List.replicate ((IntKind.i64.wrap (a1 + 1)).toNat) (0 : Int)).length) ((EI .i64).encs (List.replicate ((IntKind.i64.wrap (a1 + 1)).toNat) (0 : Int))) rfl (by simp) rfl
 refine s_as (v := v2) rfl ?_
 refine dn ?_
 refine sr ?_
 refine s_mv (v := v2) rfl ?_
 obtain ⟨⟨h0_6, h1_7⟩, h⟩ := h
 obtain ⟨Ad8, c9, hv10⟩ := own_formE (hC.getM 0 rfl) (Nat.lt_of_le_of_lt (Nat.zero_le _) (show 0 < (List.replicate ((IntKind.i64.wrap (a1 + 1)).toNat) (0 : Int)).length by omega))
 refine s_iaddrO (0 * 1) Try.underlying22 sc2.size (tr rfl hv10) rfl h0_6 h1_7 rfl ?_
 refine s_storeO (v := .int .i64 1) hC 0 [.int .i64 1] ((EI .i64).encs ((List.replicate ((IntKind.i64.wrap (a1 + 1)).toNat) (0 : Int)).set 0 1)) rfl hv10 sc2.size rfl rfl rfl rfl rfl (by rw [Enc.encs_len]; exact seg_le (sz := 1) (show 0 < (List.replicate ((IntKind.i64.wrap (a1 + 1)).toNat) (0 : Int)).length by omega)) (encs_set _ _ _ (show 0 < (List.replicate ((IntKind.i64.wrap (a1 + 1)).toNat) (0 : Int)).length by omega)) fun w11 hC => ?_
 replace hC := own_re hC 0 (((List.replicate ((IntKind.i64.wrap (a1 + 1)).toNat) (0 : Int)).set 0 1).length) ((EI .i64).encs ((List.replicate ((IntKind.i64.wrap (a1 + 1)).toNat) (0 : Int)).set 0 1)) rfl (by simp) rfl
 refine dn ?_
 refine wp_seq ?_
 refine sr ?_
 refine s_mv (v := u0_0) rfl ?_
 obtain ⟨Ad12, c13, hv14⟩ := sl_len (hC.getP 0 rfl)
 refine s_len Try.underlying22 (tr rfl hv14) ?_
 refine s_mv (v := .int .i64 0) rfl ?_
 refine dn ?_
 refine wp_block ?_
 have hN309 : a0.length ≤ 9223372036854775807 := sl_max (hC.getP 0 rfl)
 refine loopN (S := (List Int)) _ _ (fun i306 s307 e_ w_ => ∃ (v308 : Value), Slots e_ [(1, .int .i64 a1), (4, .slice none 0 0), (5, v308), (15, u0_0), (16, .int .i64 (a0.length : Int)), (17, .int .i64 (i306 : Int))] ∧ Ctx Nox w0 w_ [own 2 1 v308 s307.length ((EI .i64).encs s307)] [Ty.item ((EI .i64).ty.sl) a0 [u0_0] fp0]) a0.length ?_ ?_ (s0 := ((List.replicate ((IntKind.i64.wrap (a1 + 1)).toNat) (0 : Int)).set 0 1)) ?_ h
 ·clear hC h
  rintro i306 s307 e_ w314 next310 K311 hi313 ⟨v308, hS_, hC⟩ h hK312
  refine sr ?_
  refine s_lss (sx hS_ 5 rfl) (sx hS_ 4 rfl) ?_
  refine dn ?_
  refine wp_seq ?_
  refine cw_true rfl (decide_eq_true (by omega)) ?_
  refine wp_skip ?_
  refine then_norm ?_
  refine wp_seq ?_
  refine wp_block ?_
  refine sr ?_
  obtain ⟨Ad315, c316, hv317⟩ := sl_form (hC.getP 0 rfl) i306 hi313
  refine s_iaddrS (len := a0.length) Try.underlying22 sc2.size (tr (sx hS_ 3 rfl) hv317) (sx hS_ 5 rfl) (Int.natCast_nonneg _) (Int.ofNat_lt.2 hi313) ?_
  refine s_loadCS (.int .i64 (a0.getD i306 default)) (sl_cellsE (hC.getP 0 rfl) hv317 i306 hi313) sc2 rfl ?_
  refine s_as (v := .int .i64 (a0.getD i306 default)) rfl ?_
  refine dn ?_
  refine wp_seq ?_
  refine sr ?_
  refine s_mv (v := .int .i64 (a0.getD i306 default)) rfl ?_
  refine s_rem rfl rfl (by decide) ?_
  refine s_eql rfl rfl ?_
  refine dn ?_
  refine cw_cond rfl (fun hb318 => ?_) (fun hb318 => ?_)
  ·replace h := ift h (ct hb318)
   refine wp_seq ?_
   refine sr ?_
   refine s_mv (v := .int .i64 a1) (sx hS_ 0 rfl) ?_
   refine s_as (v := .int .i64 a1) rfl ?_
   refine dn ?_
   refine wp_block ?_
   refine loopW (S := (List Int) × Int) _ (fun s362 e_ w_ => ∃ (v363 : Value), Slots e_ [(1, .int .i64 a1), (4, .slice none 0 0), (5, v363), (7, .int .i64 (a0.getD i306 default)), (8, .int .i64 s362.2), (15, u0_0), (16, .int .i64 (a0.length : Int)), (17, .int .i64 (i306 : Int)), (18, .bool (decide ((i306 : Int) < (a0.length : Int)))), (19, .pointer (some (Ad315.add (i306 * 1)))), (20, .int .i64 (a0.getD i306 default)), (21, .int .i64 (a0.getD i306 default)), (22, .int .i64 (Int.tmod (a0.getD i306 default) 2)), (23, .bool (decide (Int.tmod (a0.getD i306 default) 2 = 1))), (24, .int .i64 a1)] ∧ Ctx Nox w0 w_ [own 2 1 v363 s362.1.length ((EI .i64).encs s362.1)] [Ty.item ((EI .i64).ty.sl) a0 [u0_0] fp0]) ?_ (s0 := (s307, a1)) ?_ h
   ·clear hC h
    rintro s362 e_ w367 next364 K365 ⟨v363, hS_, hC⟩ h hK366
    refine wp_seq ?_
    refine sr ?_
    refine s_mv (v := .int .i64 s362.2) (sx hS_ 4 rfl) ?_
    refine s_mv (v := .int .i64 (a0.getD i306 default)) (sx hS_ 3 rfl) ?_
    refine s_geq rfl rfl ?_
    refine dn ?_
    refine cw_cond rfl (fun hb368 => ?_) (fun hb368 => ?_)
    ·replace h := ift h (ct hb368)
     refine wp_skip ?_
     refine then_norm ?_
     refine wp_seq ?_
     refine wp_block ?_
     refine cw_draw 10 mixed [0, 0, 3, 7, 0, 0, 0, 96, 240, 496, 1023, 2047, 4095] [2, 3, 8, 9] [0, 1, 4, 5, 6, 7] (by kernel_rfl) (by kernel_rfl) (by kernel_rfl) (fun hM370 hM371 w369 hB_ => ?_)
     replace hC := hC.grow hB_
     refine ae_lookF belPre 0 (v363) rfl rfl (by kernel_rfl) (hM371 0 rfl) (fun w_ => .inl ⟨rfl, by exact r_mv (v := v363) (sx hS_ 2 rfl)⟩) (listed' := (dbits 13 1)) (by kernel_rfl) ?_
     refine ae_lookF belPre 1 (.int .i64 s362.2) rfl rfl (by kernel_rfl) (hM371 1 rfl) (fun w_ => .inl ⟨rfl, by exact r_mv (v := .int .i64 s362.2) (sx hS_ 4 rfl)⟩) (listed' := (dbits 13 3)) (by kernel_rfl) ?_
     obtain ⟨⟨h0_372, h1_373⟩, h⟩ := h
     obtain ⟨Ad374, c375, hv376⟩ := own_formE (hC.getM 0 rfl) (Nat.lt_of_le_of_lt (Nat.zero_le _) (show s362.2.toNat < s362.1.length by omega))
     refine ae_look belPre 2 (.pointer (some ⟨Ad374, s362.2.toNat * 1, none⟩)) rfl rfl (by kernel_rfl) (hM370 2 rfl) (fun w_ hB_ => .inl ⟨rfl, by exact r_iaddrO (s362.2.toNat * 1) Try.underlying22 sc2.size (by exact tr rfl hv376) rfl h0_372 h1_373 rfl⟩) (listed' := (dbits 13 7)) (by kernel_rfl) ?_
     refine ae_look belPre 3 (.int .i64 (s362.1.getD s362.2.toNat default)) rfl rfl (by kernel_rfl) (hM370 3 rfl) (fun w_ hB_ => .inl ⟨rfl, by exact r_loadCS (.int .i64 (s362.1.getD s362.2.toNat default)) (own_cellsE ((hC.grow hB_).getM 0 rfl) hv376 s362.2.toNat (show s362.2.toNat < s362.1.length by omega)) sc2 rfl⟩) (listed' := (dbits 13 15)) (by kernel_rfl) ?_
     refine ae_lookF belPre 4 (v363) rfl rfl (by kernel_rfl) (hM371 4 rfl) (fun w_ => .inl ⟨rfl, by exact r_mv (v := v363) (sx hS_ 2 rfl)⟩) (listed' := (dbits 13 31)) (by kernel_rfl) ?_
     refine ae_lookF belPre 5 (.int .i64 s362.2) rfl rfl (by kernel_rfl) (hM371 5 rfl) (fun w_ => .inl ⟨rfl, by exact r_mv (v := .int .i64 s362.2) (sx hS_ 4 rfl)⟩) (listed' := (dbits 13 63)) (by kernel_rfl) ?_
     refine ae_lookF belPre 6 (.int .i64 (a0.getD i306 default)) rfl rfl (by kernel_rfl) (hM371 6 rfl) (fun w_ => .inl ⟨rfl, by exact r_mv (v := .int .i64 (a0.getD i306 default)) (sx hS_ 3 rfl)⟩) (listed' := (dbits 13 127)) (by kernel_rfl) ?_
     refine ae_lookF belPre 7 (.int .i64 (IntKind.i64.wrap (s362.2 - (a0.getD i306 default)))) rfl rfl (by kernel_rfl) (hM371 7 rfl) (fun w_ => .inl ⟨rfl, by exact r_sub rfl rfl⟩) (listed' := (dbits 13 255)) (by kernel_rfl) ?_
     obtain ⟨⟨h0_377, h1_378⟩, h⟩ := h
     obtain ⟨Ad379, c380, hv381⟩ := own_formE (hC.getM 0 rfl) (Nat.lt_of_le_of_lt (Nat.zero_le _) (show (IntKind.i64.wrap (s362.2 - (a0.getD i306 default))).toNat < s362.1.length by omega))
     refine ae_look belPre 8 (.pointer (some ⟨Ad379, (IntKind.i64.wrap (s362.2 - (a0.getD i306 default))).toNat * 1, none⟩)) rfl rfl (by kernel_rfl) (hM370 8 rfl) (fun w_ hB_ => .inl ⟨rfl, by exact r_iaddrO ((IntKind.i64.wrap (s362.2 - (a0.getD i306 default))).toNat * 1) Try.underlying22 sc2.size (by exact tr rfl hv381) rfl h0_377 h1_378 rfl⟩) (listed' := (dbits 13 511)) (by kernel_rfl) ?_
     refine ae_look belPre 9 (.int .i64 (s362.1.getD ((IntKind.i64.wrap (s362.2 - (a0.getD i306 default))).toNat) default)) rfl rfl (by kernel_rfl) (hM370 9 rfl) (fun w_ hB_ => .inl ⟨rfl, by exact r_loadCS (.int .i64 (s362.1.getD ((IntKind.i64.wrap (s362.2 - (a0.getD i306 default))).toNat) default)) (own_cellsE ((hC.grow hB_).getM 0 rfl) hv381 ((IntKind.i64.wrap (s362.2 - (a0.getD i306 default))).toNat) (show (IntKind.i64.wrap (s362.2 - (a0.getD i306 default))).toNat < s362.1.length by omega)) sc2 rfl⟩) (listed' := (dbits 13 1023)) (by kernel_rfl) ?_
     refine ae_tail 10 (by decide) (by decide) (by kernel_rfl) (by kernel_rfl) rfl ?_
     refine s_add rfl rfl ?_
     obtain ⟨⟨h0_382, h1_383⟩, h⟩ := h
     obtain ⟨Ad384, c385, hv386⟩ := own_formE (hC.getM 0 rfl) (Nat.lt_of_le_of_lt (Nat.zero_le _) (show s362.2.toNat < s362.1.length by omega))
     refine s_iaddrO (s362.2.toNat * 1) Try.underlying22 sc2.size (tr rfl hv386) rfl h0_382 h1_383 rfl ?_
     refine s_storeO (v := .int .i64 (IntKind.i64.wrap ((s362.1.getD s362.2.toNat default) + (s362.1.getD ((IntKind.i64.wrap (s362.2 - (a0.getD i306 default))).toNat) default)))) hC 0 [.int .i64 (IntKind.i64.wrap ((s362.1.getD s362.2.toNat default) + (s362.1.getD ((IntKind.i64.wrap (s362.2 - (a0.getD i306 default))).toNat) default)))] ((EI .i64).encs (s362.1.set s362.2.toNat (IntKind.i64.wrap ((s362.1.getD s362.2.toNat default) + (s362.1.getD ((IntKind.i64.wrap (s362.2 - (a0.getD i306 default))).toNat) default))))) rfl hv386 sc2.size rfl rfl rfl rfl rfl (by rw [Enc.encs_len]; exact seg_le (sz := 1) (show s362.2.toNat < s362.1.length by omega)) (encs_set _ _ _ (show s362.2.toNat < s362.1.length by omega)) fun w387 hC => ?_
     replace hC := own_re hC 0 ((s362.1.set s362.2.toNat (IntKind.i64.wrap ((s362.1.getD s362.2.toNat default) + (s362.1.getD ((IntKind.i64.wrap (s362.2 - (a0.getD i306 default))).toNat) default)))).length) ((EI .i64).encs (s362.1.set s362.2.toNat (IntKind.i64.wrap ((s362.1.getD s362.2.toNat default) + (s362.1.getD ((IntKind.i64.wrap (s362.2 - (a0.getD i306 default))).toNat) default))))) rfl (by simp) rfl
     refine done ?_
     refine qn_norm ?_
     refine blk_norm ?_
     refine then_norm ?_
     refine cw_region ?_
     refine s_mv (v := .int .i64 s362.2) (sx hS_ 4 rfl) ?_
     refine s_sub rfl rfl ?_
     refine s_as (v := .int .i64 (IntKind.i64.wrap (s362.2 - 1))) rfl ?_
     refine done ?_
     exact hK366 (s362.1.set s362.2.toNat (IntKind.i64.wrap ((s362.1.getD s362.2.toNat default) + (s362.1.getD ((IntKind.i64.wrap (s362.2 - (a0.getD i306 default))).toNat) default))), IntKind.i64.wrap (s362.2 - 1)) _ _ ⟨v363, (sk (sx hS_ 0 rfl) (sk (sx hS_ 1 rfl) (sk (sx hS_ 2 rfl) (sk (sx hS_ 3 rfl) (sk rfl (sk (sx hS_ 5 rfl) (sk (sx hS_ 6 rfl) (sk (sx hS_ 7 rfl) (sk (sx hS_ 8 rfl) (sk (sx hS_ 9 rfl) (sk (sx hS_ 10 rfl) (sk (sx hS_ 11 rfl) (sk (sx hS_ 12 rfl) (sk (sx hS_ 13 rfl) (sk (sx hS_ 14 rfl) sn))))))))))))))), hC⟩ h
    ·replace h := iff_ h (cf hb368)
     refine wp_exit (then_exit (then_exit (exit_in ?_)))
     refine then_norm ?_
     refine wp_exit (then_exit (exit_in ?_))
     refine then_norm ?_
     refine cw_region ?_
     refine s_add (sx hS_ 7 rfl) rfl ?_
     refine s_mv (v := .int .i64 (IntKind.i64.wrap ((i306 : Int) + 1))) rfl ?_
     refine done ?_
     exact hK312 s362.1 _ _ ⟨v363, (sk (sx hS_ 0 rfl) (sk (sx hS_ 1 rfl) (sk (sx hS_ 2 rfl) (sk (sx hS_ 5 rfl) (sk (sx hS_ 6 rfl) (sk (tr rfl (congrArg _ (wrap64_nat hi313 hN309))) sn)))))), hC⟩ h
   ·skip
    exact ⟨v308, (sk (sx hS_ 0 rfl) (sk (sx hS_ 1 rfl) (sk (sx hS_ 2 rfl) (sk rfl (sk rfl (sk (sx hS_ 3 rfl) (sk (sx hS_ 4 rfl) (sk (sx hS_ 5 rfl) (sk rfl (sk rfl (sk rfl (sk rfl (sk rfl (sk rfl (sk rfl sn))))))))))))))), hC⟩
  ·replace h := iff_ h (cf hb318)
   refine wp_skip ?_
   refine then_norm ?_
   refine sr ?_
   refine s_mv (v := .int .i64 (a0.getD i306 default)) rfl ?_
   refine s_as (v := .int .i64 (a0.getD i306 default)) rfl ?_
   refine dn ?_
   refine wp_block ?_
   refine loopW (S := (List Int) × Int) _ (fun s431 e_ w_ => ∃ (v432 : Value), Slots e_ [(1, .int .i64 a1), (4, .slice none 0 0), (5, v432), (7, .int .i64 (a0.getD i306 default)), (9, .int .i64 s431.2), (15, u0_0), (16, .int .i64 (a0.length : Int)), (17, .int .i64 (i306 : Int)), (18, .bool (decide ((i306 : Int) < (a0.length : Int)))), (19, .pointer (some (Ad315.add (i306 * 1)))), (20, .int .i64 (a0.getD i306 default)), (21, .int .i64 (a0.getD i306 default)), (22, .int .i64 (Int.tmod (a0.getD i306 default) 2)), (23, .bool (decide (Int.tmod (a0.getD i306 default) 2 = 1))), (42, .int .i64 (a0.getD i306 default))] ∧ Ctx Nox w0 w_ [own 2 1 v432 s431.1.length ((EI .i64).encs s431.1)] [Ty.item ((EI .i64).ty.sl) a0 [u0_0] fp0]) ?_ (s0 := (s307, a0.getD i306 default)) ?_ h
   ·clear hC h
    rintro s431 e_ w436 next433 K434 ⟨v432, hS_, hC⟩ h hK435
    refine wp_seq ?_
    refine sr ?_
    refine s_mv (v := .int .i64 s431.2) (sx hS_ 4 rfl) ?_
    refine s_mv (v := .int .i64 a1) (sx hS_ 0 rfl) ?_
    refine s_leq rfl rfl ?_
    refine dn ?_
    refine cw_cond rfl (fun hb437 => ?_) (fun hb437 => ?_)
    ·replace h := ift h (ct hb437)
     refine wp_skip ?_
     refine then_norm ?_
     refine wp_seq ?_
     refine wp_block ?_
     refine cw_draw 10 mixed [0, 0, 3, 7, 0, 0, 0, 96, 240, 496, 1023, 2047, 4095] [2, 3, 8, 9] [0, 1, 4, 5, 6, 7] (by kernel_rfl) (by kernel_rfl) (by kernel_rfl) (fun hM439 hM440 w438 hB_ => ?_)
     replace hC := hC.grow hB_
     refine ae_lookF belPre 0 (v432) rfl rfl (by kernel_rfl) (hM440 0 rfl) (fun w_ => .inl ⟨rfl, by exact r_mv (v := v432) (sx hS_ 2 rfl)⟩) (listed' := (dbits 13 1)) (by kernel_rfl) ?_
     refine ae_lookF belPre 1 (.int .i64 s431.2) rfl rfl (by kernel_rfl) (hM440 1 rfl) (fun w_ => .inl ⟨rfl, by exact r_mv (v := .int .i64 s431.2) (sx hS_ 4 rfl)⟩) (listed' := (dbits 13 3)) (by kernel_rfl) ?_
     obtain ⟨⟨h0_441, h1_442⟩, h⟩ := h
     obtain ⟨Ad443, c444, hv445⟩ := own_formE (hC.getM 0 rfl) (Nat.lt_of_le_of_lt (Nat.zero_le _) (show s431.2.toNat < s431.1.length by omega))
     refine ae_look belPre 2 (.pointer (some ⟨Ad443, s431.2.toNat * 1, none⟩)) rfl rfl (by kernel_rfl) (hM439 2 rfl) (fun w_ hB_ => .inl ⟨rfl, by exact r_iaddrO (s431.2.toNat * 1) Try.underlying22 sc2.size (by exact tr rfl hv445) rfl h0_441 h1_442 rfl⟩) (listed' := (dbits 13 7)) (by kernel_rfl) ?_
     refine ae_look belPre 3 (.int .i64 (s431.1.getD s431.2.toNat default)) rfl rfl (by kernel_rfl) (hM439 3 rfl) (fun w_ hB_ => .inl ⟨rfl, by exact r_loadCS (.int .i64 (s431.1.getD s431.2.toNat default)) (own_cellsE ((hC.grow hB_).getM 0 rfl) hv445 s431.2.toNat (show s431.2.toNat < s431.1.length by omega)) sc2 rfl⟩) (listed' := (dbits 13 15)) (by kernel_rfl) ?_
     refine ae_lookF belPre 4 (v432) rfl rfl (by kernel_rfl) (hM440 4 rfl) (fun w_ => .inl ⟨rfl, by exact r_mv (v := v432) (sx hS_ 2 rfl)⟩) (listed' := (dbits 13 31)) (by kernel_rfl) ?_
     refine ae_lookF belPre 5 (.int .i64 s431.2) rfl rfl (by kernel_rfl) (hM440 5 rfl) (fun w_ => .inl ⟨rfl, by exact r_mv (v := .int .i64 s431.2) (sx hS_ 4 rfl)⟩) (listed' := (dbits 13 63)) (by kernel_rfl) ?_
     refine ae_lookF belPre 6 (.int .i64 (a0.getD i306 default)) rfl rfl (by kernel_rfl) (hM440 6 rfl) (fun w_ => .inl ⟨rfl, by exact r_mv (v := .int .i64 (a0.getD i306 default)) (sx hS_ 3 rfl)⟩) (listed' := (dbits 13 127)) (by kernel_rfl) ?_
     refine ae_lookF belPre 7 (.int .i64 (IntKind.i64.wrap (s431.2 - (a0.getD i306 default)))) rfl rfl (by kernel_rfl) (hM440 7 rfl) (fun w_ => .inl ⟨rfl, by exact r_sub rfl rfl⟩) (listed' := (dbits 13 255)) (by kernel_rfl) ?_
     obtain ⟨⟨h0_446, h1_447⟩, h⟩ := h
     obtain ⟨Ad448, c449, hv450⟩ := own_formE (hC.getM 0 rfl) (Nat.lt_of_le_of_lt (Nat.zero_le _) (show (IntKind.i64.wrap (s431.2 - (a0.getD i306 default))).toNat < s431.1.length by omega))
     refine ae_look belPre 8 (.pointer (some ⟨Ad448, (IntKind.i64.wrap (s431.2 - (a0.getD i306 default))).toNat * 1, none⟩)) rfl rfl (by kernel_rfl) (hM439 8 rfl) (fun w_ hB_ => .inl ⟨rfl, by exact r_iaddrO ((IntKind.i64.wrap (s431.2 - (a0.getD i306 default))).toNat * 1) Try.underlying22 sc2.size (by exact tr rfl hv450) rfl h0_446 h1_447 rfl⟩) (listed' := (dbits 13 511)) (by kernel_rfl) ?_
     refine ae_look belPre 9 (.int .i64 (s431.1.getD ((IntKind.i64.wrap (s431.2 - (a0.getD i306 default))).toNat) default)) rfl rfl (by kernel_rfl) (hM439 9 rfl) (fun w_ hB_ => .inl ⟨rfl, by exact r_loadCS (.int .i64 (s431.1.getD ((IntKind.i64.wrap (s431.2 - (a0.getD i306 default))).toNat) default)) (own_cellsE ((hC.grow hB_).getM 0 rfl) hv450 ((IntKind.i64.wrap (s431.2 - (a0.getD i306 default))).toNat) (show (IntKind.i64.wrap (s431.2 - (a0.getD i306 default))).toNat < s431.1.length by omega)) sc2 rfl⟩) (listed' := (dbits 13 1023)) (by kernel_rfl) ?_
     refine ae_tail 10 (by decide) (by decide) (by kernel_rfl) (by kernel_rfl) rfl ?_
     refine s_add rfl rfl ?_
     obtain ⟨⟨h0_451, h1_452⟩, h⟩ := h
     obtain ⟨Ad453, c454, hv455⟩ := own_formE (hC.getM 0 rfl) (Nat.lt_of_le_of_lt (Nat.zero_le _) (show s431.2.toNat < s431.1.length by omega))
     refine s_iaddrO (s431.2.toNat * 1) Try.underlying22 sc2.size (tr rfl hv455) rfl h0_451 h1_452 rfl ?_
     refine s_storeO (v := .int .i64 (IntKind.i64.wrap ((s431.1.getD s431.2.toNat default) + (s431.1.getD ((IntKind.i64.wrap (s431.2 - (a0.getD i306 default))).toNat) default)))) hC 0 [.int .i64 (IntKind.i64.wrap ((s431.1.getD s431.2.toNat default) + (s431.1.getD ((IntKind.i64.wrap (s431.2 - (a0.getD i306 default))).toNat) default)))] ((EI .i64).encs (s431.1.set s431.2.toNat (IntKind.i64.wrap ((s431.1.getD s431.2.toNat default) + (s431.1.getD ((IntKind.i64.wrap (s431.2 - (a0.getD i306 default))).toNat) default))))) rfl hv455 sc2.size rfl rfl rfl rfl rfl (by rw [Enc.encs_len]; exact seg_le (sz := 1) (show s431.2.toNat < s431.1.length by omega)) (encs_set _ _ _ (show s431.2.toNat < s431.1.length by omega)) fun w456 hC => ?_
     replace hC := own_re hC 0 ((s431.1.set s431.2.toNat (IntKind.i64.wrap ((s431.1.getD s431.2.toNat default) + (s431.1.getD ((IntKind.i64.wrap (s431.2 - (a0.getD i306 default))).toNat) default)))).length) ((EI .i64).encs (s431.1.set s431.2.toNat (IntKind.i64.wrap ((s431.1.getD s431.2.toNat default) + (s431.1.getD ((IntKind.i64.wrap (s431.2 - (a0.getD i306 default))).toNat) default))))) rfl (by simp) rfl
     refine done ?_
     refine qn_norm ?_
     refine blk_norm ?_
     refine then_norm ?_
     refine cw_region ?_
     refine s_mv (v := .int .i64 s431.2) (sx hS_ 4 rfl) ?_
     refine s_add rfl rfl ?_
     refine s_as (v := .int .i64 (IntKind.i64.wrap (s431.2 + 1))) rfl ?_
     refine done ?_
     exact hK435 (s431.1.set s431.2.toNat (IntKind.i64.wrap ((s431.1.getD s431.2.toNat default) + (s431.1.getD ((IntKind.i64.wrap (s431.2 - (a0.getD i306 default))).toNat) default))), IntKind.i64.wrap (s431.2 + 1)) _ _ ⟨v432, (sk (sx hS_ 0 rfl) (sk (sx hS_ 1 rfl) (sk (sx hS_ 2 rfl) (sk (sx hS_ 3 rfl) (sk rfl (sk (sx hS_ 5 rfl) (sk (sx hS_ 6 rfl) (sk (sx hS_ 7 rfl) (sk (sx hS_ 8 rfl) (sk (sx hS_ 9 rfl) (sk (sx hS_ 10 rfl) (sk (sx hS_ 11 rfl) (sk (sx hS_ 12 rfl) (sk (sx hS_ 13 rfl) (sk (sx hS_ 14 rfl) sn))))))))))))))), hC⟩ h
    ·replace h := iff_ h (cf hb437)
     refine wp_exit (then_exit (then_exit (exit_in ?_)))
     refine blk_norm ?_
     refine then_norm ?_
     refine cw_region ?_
     refine s_add (sx hS_ 7 rfl) rfl ?_
     refine s_mv (v := .int .i64 (IntKind.i64.wrap ((i306 : Int) + 1))) rfl ?_
     refine done ?_
     exact hK312 s431.1 _ _ ⟨v432, (sk (sx hS_ 0 rfl) (sk (sx hS_ 1 rfl) (sk (sx hS_ 2 rfl) (sk (sx hS_ 5 rfl) (sk (sx hS_ 6 rfl) (sk (tr rfl (congrArg _ (wrap64_nat hi313 hN309))) sn)))))), hC⟩ h
   ·skip
    exact ⟨v308, (sk (sx hS_ 0 rfl) (sk (sx hS_ 1 rfl) (sk (sx hS_ 2 rfl) (sk rfl (sk rfl (sk (sx hS_ 3 rfl) (sk (sx hS_ 4 rfl) (sk (sx hS_ 5 rfl) (sk rfl (sk rfl (sk rfl (sk rfl (sk rfl (sk rfl (sk rfl sn))))))))))))))), hC⟩
 ·clear hC h
  rintro s307 e_ w457 K311 ⟨v308, hS_, hC⟩ h
  refine sr ?_
  refine s_lss (sx hS_ 5 rfl) (sx hS_ 4 rfl) ?_
  refine dn ?_
  refine wp_seq ?_
  refine cw_false rfl (decide_eq_false (by omega)) ?_
  refine wp_exit (then_exit (then_exit (exit_in ?_)))
  refine then_norm ?_
  refine sr ?_
  refine s_mv (v := v308) (sx hS_ 2 rfl) ?_
  refine s_as (v := v308) rfl ?_
  refine dn ?_
  refine wp_ret ?_
  refine ret1 (fn := Try.f34) rfl ?_ ⟨s307, v308, (Option.toList (Value.ownBlock v308)), rfl, h, (own_item (hC.getM 0 rfl)), (own_fresh hC 0 rfl), hC.below⟩ (.inl rfl)
  exact res_tmp rfl
 ·skip
  exact ⟨v2, (sk rfl (sk rfl (sk rfl (sk rfl (sk rfl (sk rfl sn)))))), hC⟩
def f_impl_LoopSeries (a0 : Alg) (a1 : Int) (K : List Int → Int → Prop) : Prop :=
 f_impl_algebraCode a0 [] (fun r14 => f_impl_isLong a1 (fun r19 => f_impl_when (!r19) 2 (fun r24 => f_slices_Contains_int64_int64 a0.degrees 1 (fun r29 => f_impl_when r29 5 (fun r34 => f_impl_first [r14, r24, r34] (fun r42 => (if r42 ≠ 0 then K [] r42 else forN (fun i102 (s103 : (List Int)) next106 => (Room (s103.length + 1) 8 ∧ next106 (s103 ++ [IntKind.i64.wrap ((a0.degrees.getD i102 default) - 1)]))) (fun (s103 : (List Int)) => f_impl_series s103 a1 (fun r124 => K r124 0)) a0.degrees.length 0 [])))))))
theorem c_impl_LoopSeries (a0 : Alg) (a1 : Int) {u0_0 : Value} {u0_1 : Value} {fp0 : List Nat} {K : List Int → Int → Prop} (h : f_impl_LoopSeries a0 a1 K) (w0 : World) (q0 : TAlg.rep a0 [u0_0, u0_1] fp0 w0) :
  Calls Try.prog 9 #[.agg #[u0_0, u0_1], .int .i64 a1] w0 fun e w' => ∃ (r0 : List Int) (z0_0 : Value) (fz0 : List Nat) (r1 : Int), 
   e = .returned (.tuple #[z0_0, .int .i64 r1]) ∧ K r0 r1 ∧ (Tr.item (Tr.sl 2 ((EI .i64).tr)) r0 [z0_0] fz0).holds w' ∧ (∀ b, b ∈ fz0 → w0.heap.size ≤ b) ∧ Bel w0 w' := by
 unfold f_impl_LoopSeries at h
 refine calls_of (args := [.agg #[u0_0, u0_1], .int .i64 a1]) Try.func9 rfl 41 Try.ntmps9 (Nat.le_of_ble_eq_true rfl) ?_
 have hC := Ctx.start (X := Nox) w0 [Ty.item TAlg a0 [u0_0, u0_1] fp0] (by simp only [List.mem_cons, List.not_mem_nil, or_false, forall_eq_or_imp, forall_eq]; exact q0)
 have hp2 := (hC.getP 0 rfl)
 replace hC := hC.derive 0 rfl (Ty.item ((EI .i64).ty.sl) a0.degrees [u0_0] fp0) (fun _ => (alg_parts hp2).1) (fun _ hb_ => hb_)
 replace hC := hC.derive 1 rfl (Ty.item TForm.sl a0.images [u0_1] fp0) (fun _ => (alg_parts hp2).2) (fun _ hb_ => hb_)
 refine sr ?_
 refine s_box (v := .agg #[u0_0, u0_1]) hC [u0_0, u0_1] rfl rfl fun b5 w7 hB_ hC => ?_
 refine s_as (v := .slice none 0 0) rfl ?_
 refine s_as (v := .int .i64 0) rfl ?_
 refine dn ?_
 refine wp_seq ?_
 refine cw_draw 7 mixed [0, 0, 3, 7, 15, 0, 32, 127, 255, 511, 1023, 2047] [6] [1, 3, 5] (by kernel_rfl) (by kernel_rfl) (by kernel_rfl) (fun hM9 hM10 w8 hB_ => ?_)
 replace hC := hC.grow hB_
 refine ae_lookF belPre 1 (.int .i64 a1) rfl rfl (by kernel_rfl) (hM10 1 rfl) (fun w_ => .inl ⟨rfl, by exact r_mv (v := .int .i64 a1) rfl⟩) (listed' := (dbits 12 2)) (by kernel_rfl) ?_
 refine ae_lookF belPre 5 (.pointer (some ⟨b5, 0, none⟩)) rfl rfl (by kernel_rfl) (hM10 5 rfl) (fun w_ => .inl ⟨rfl, by exact r_faddrB 0 Try.underlying31 rfl sc22.size rfl rfl⟩) (listed' := (dbits 12 34)) (by kernel_rfl) ?_
 refine ae_look belPre 6 (u0_0) rfl rfl (by kernel_rfl) (hM9 6 rfl) (fun w_ hB_ => .inl ⟨rfl, by exact r_loadS (hC.grow hB_) 0 (u0_0) rfl sc22 rfl rfl⟩) (listed' := (dbits 12 98)) (by kernel_rfl) ?_
 refine ae_one 0 rfl (by kernel_rfl) ?_
 refine s_call [.pointer (some ⟨b5, 0, none⟩), .slice none 0 0] _ Try.func30 rfl rfl rfl (c_impl_algebraCode a0 [] h _ (alg_mk (hC.getP 1 rfl) (hC.getP 0 rfl)) (hC.getM 0 rfl) (rep_nil _ _)) (fun ret11 w13 hR12 => ?_)
 obtain ⟨r14, rfl, h, hB15⟩ := hR12
 refine ⟨_, rfl, ?_⟩
 replace hC := hC.grow hB15
 refine done ?_
 refine ak_intro (by assumption) (listed' := (dbits 12 99)) (by kernel_rfl) ?_
 refine ae_one 2 rfl (by kernel_rfl) ?_
 refine s_call [.int .i64 a1] _ Try.func32 rfl rfl rfl (c_impl_isLong a1 h _) (fun ret16 w18 hR17 => ?_)
 obtain ⟨r19, rfl, h, hB20⟩ := hR17
 refine ⟨_, rfl, ?_⟩
 replace hC := hC.grow hB20
 refine done ?_
 refine ak_intro (by assumption) (listed' := (dbits 12 103)) (by kernel_rfl) ?_
 refine ae_lookF belPre 3 (.bool (!r19)) rfl rfl (by kernel_rfl) (hM10 3 rfl) (fun w_ => .inl ⟨rfl, by exact r_not rfl⟩) (listed' := (dbits 12 111)) (by kernel_rfl) ?_
 refine ae_one 4 rfl (by kernel_rfl) ?_
 refine s_call [.bool (!r19), .int .i64 2] _ Try.func31 rfl rfl rfl (c_impl_when (!r19) 2 h _) (fun ret21 w23 hR22 => ?_)
 obtain ⟨r24, rfl, h, hB25⟩ := hR22
 refine ⟨_, rfl, ?_⟩
 replace hC := hC.grow hB25
 refine done ?_
 refine ak_intro (by assumption) (listed' := (dbits 12 127)) (by kernel_rfl) ?_
 refine ae_tail 7 (by decide) (by decide) (by kernel_rfl) (by kernel_rfl) rfl ?_
 refine s_call [u0_0, .int .i64 1] _ Try.func33 rfl rfl rfl (c_slices_Contains_int64_int64 a0.degrees 1 h _ (hC.getP 1 rfl)) (fun ret26 w28 hR27 => ?_)
 obtain ⟨r29, rfl, h, hB30⟩ := hR27
 refine ⟨_, rfl, ?_⟩
 replace hC := hC.grow hB30
 refine s_call [.bool r29, .int .i64 5] _ Try.func31 rfl rfl rfl (c_impl_when r29 5 h _) (fun ret31 w33 hR32 => ?_)
 obtain ⟨r34, rfl, h, hB35⟩ := hR32
 refine ⟨_, rfl, ?_⟩
 replace hC := hC.grow hB35
 refine s_bslice (sz := 1) hC [(0, .int .i64 r14), (1, .int .i64 r24), (2, .int .i64 r34)] ((EI .i64).encs [r14, r24, r34]) rfl (fun _ => bs22_3 r14 r24 r34 _) rfl (by decide) fun b36 w37 hB_ hC => ?_
 refine s_call [.slice (some ⟨b36, 0, none⟩) 3 3] _ Try.func29 rfl rfl rfl (c_impl_first [r14, r24, r34] h _ (own_repE (hC.getM 0 rfl))) (fun ret39 w41 hR40 => ?_)
 obtain ⟨r42, rfl, h, hB43⟩ := hR40
 refine ⟨_, rfl, ?_⟩
 replace hC := hC.grow hB43
 refine s_as (v := .int .i64 r42) rfl ?_
 refine done ?_
 refine qn_norm ?_
 refine then_norm ?_
 refine wp_seq ?_
 refine sr ?_
 refine s_mv (v := .int .i64 r42) rfl ?_
 refine s_neq rfl rfl ?_
 refine dn ?_
 refine cw_cond rfl (fun hb44 => ?_) (fun hb44 => ?_)
 ·replace h := ift h (ct hb44)
  refine sr ?_
  refine s_mv (v := .int .i64 r42) rfl ?_
  refine s_as (v := .slice none 0 0) rfl ?_
  refine s_as (v := .int .i64 r42) rfl ?_
  refine dn ?_
  refine wp_ret (then_ret ?_)
  refine ret2 (fn := Try.f9) rfl ?_ ?_ ⟨[], .slice none 0 0, [], r42, rfl, h, (nil_item _ _ _), (fun b hb => absurd hb (by simp)), hC.below⟩ (.inl rfl)
  ·exact res_tmp rfl
  ·exact res_tmp rfl
 ·replace h := iff_ h (cf hb44)
  refine wp_skip ?_
  refine then_norm ?_
  refine sr ?_
  refine s_bslice (sz := 1) hC [] ((EI .i64).encs []) rfl (fun _ => bs22_0  _) rfl (by decide) fun b45 w46 hB_ hC => ?_
  refine s_as (v := .slice (some ⟨b45, 0, none⟩) 0 0) rfl ?_
  refine dn ?_
  refine wp_seq ?_
  refine sr ?_
  refine s_faddrB 0 Try.underlying31 rfl sc22.size rfl rfl ?_
  refine s_loadS hC 2 (u0_0) rfl sc22 rfl rfl ?_
  obtain ⟨Ad48, c49, hv50⟩ := sl_len (hC.getP 1 rfl)
  refine s_len Try.underlying22 (tr rfl hv50) ?_
  refine s_mv (v := .int .i64 0) rfl ?_
  refine dn ?_
  refine wp_block ?_
  have hN105 : a0.degrees.length ≤ 9223372036854775807 := sl_max (hC.getP 1 rfl)
  refine loopN (S := (List Int)) _ _ (fun i102 s103 e_ w_ => ∃ (v104 : Value), Slots e_ [(1, .int .i64 a1), (4, .slice none 0 0), (5, .int .i64 0), (7, v104), (26, u0_0), (27, .int .i64 (a0.degrees.length : Int)), (28, .int .i64 (i102 : Int))] ∧ Ctx Nox w0 w_ [own 2 1 v104 s103.length ((EI .i64).encs s103)] [Ty.item TForm.sl a0.images [u0_1] fp0, Ty.item ((EI .i64).ty.sl) a0.degrees [u0_0] fp0, Ty.item TAlg a0 [u0_0, u0_1] fp0]) a0.degrees.length ?_ ?_ (s0 := []) ?_ h
  ·clear hC h
   rintro i102 s103 e_ w110 next106 K107 hi109 ⟨v104, hS_, hC⟩ h hK108
   refine sr ?_
   refine s_lss (sx hS_ 6 rfl) (sx hS_ 5 rfl) ?_
   refine dn ?_
   refine wp_seq ?_
   refine cw_true rfl (decide_eq_true (by omega)) ?_
   refine wp_skip ?_
   refine then_norm ?_
   refine wp_seq ?_
   refine wp_block ?_
   refine sr ?_
   obtain ⟨Ad111, c112, hv113⟩ := sl_form (hC.getP 1 rfl) i102 hi109
   refine s_iaddrS (len := a0.degrees.length) Try.underlying22 sc2.size (tr (sx hS_ 4 rfl) hv113) (sx hS_ 6 rfl) (Int.natCast_nonneg _) (Int.ofNat_lt.2 hi109) ?_
   refine s_loadCS (.int .i64 (a0.degrees.getD i102 default)) (sl_cellsE (hC.getP 1 rfl) hv113 i102 hi109) sc2 rfl ?_
   refine s_as (v := .int .i64 (a0.degrees.getD i102 default)) rfl ?_
   refine dn ?_
   refine cw_region ?_
   refine s_mv (v := v104) (sx hS_ 3 rfl) ?_
   refine s_mv (v := .int .i64 (a0.degrees.getD i102 default)) rfl ?_
   refine s_sub rfl rfl ?_
   refine s_bslice (sz := 1) hC [(0, .int .i64 (IntKind.i64.wrap ((a0.degrees.getD i102 default) - 1)))] ((EI .i64).encs [IntKind.i64.wrap ((a0.degrees.getD i102 default) - 1)]) rfl (fun _ => bs22_1 (IntKind.i64.wrap ((a0.degrees.getD i102 default) - 1)) _) rfl (by decide) fun b114 w115 hB_ hC => ?_
   obtain ⟨hm119, h⟩ := h
   refine s_app hC 1 Try.underlying22 el2 rfl (by decide) (by decide) rfl (own_rdr (hC.getM 0 rfl)) (fun q hq => Enc.encs_one' (E := (EI .i64)) _ q hq) rfl rfl hm119 fun v117 w118 hC => ?_
   replace hC := own_re hC 1 ((s103 ++ [IntKind.i64.wrap ((a0.degrees.getD i102 default) - 1)]).length) ((EI .i64).encs (s103 ++ [IntKind.i64.wrap ((a0.degrees.getD i102 default) - 1)])) rfl (by simp) (by first | (simp [Enc.encs_append]; done) | simp [Enc.encs_append, Enc.encs])
   refine s_as (v := v117) rfl ?_
   refine done ?_
   refine blk_norm ?_
   refine then_norm ?_
   refine cw_region ?_
   refine s_add (sx hS_ 6 rfl) rfl ?_
   refine s_mv (v := .int .i64 (IntKind.i64.wrap ((i102 : Int) + 1))) rfl ?_
   refine done ?_
   replace hC := hC.sel [1] [0, 1, 2] (M' := [own 2 1 v117 ((s103 ++ [IntKind.i64.wrap ((a0.degrees.getD i102 default) - 1)]).length) ((EI .i64).encs (s103 ++ [IntKind.i64.wrap ((a0.degrees.getD i102 default) - 1)]))]) (Ps' := [Ty.item TForm.sl a0.images [u0_1] fp0, Ty.item ((EI .i64).ty.sl) a0.degrees [u0_0] fp0, Ty.item TAlg a0 [u0_0, u0_1] fp0]) (by decide) rfl rfl
   exact hK108 (s103 ++ [IntKind.i64.wrap ((a0.degrees.getD i102 default) - 1)]) _ _ ⟨v117, (sk (sx hS_ 0 rfl) (sk (sx hS_ 1 rfl) (sk (sx hS_ 2 rfl) (sk rfl (sk (sx hS_ 4 rfl) (sk (sx hS_ 5 rfl) (sk (tr rfl (congrArg _ (wrap64_nat hi109 hN105))) sn))))))), hC⟩ h
  ·clear hC h
   rintro s103 e_ w120 K107 ⟨v104, hS_, hC⟩ h
   refine sr ?_
   refine s_lss (sx hS_ 6 rfl) (sx hS_ 5 rfl) ?_
   refine dn ?_
   refine wp_seq ?_
   refine cw_false rfl (decide_eq_false (by omega)) ?_
   refine wp_exit (then_exit (then_exit (exit_in ?_)))
   refine then_norm ?_
   refine sr ?_
   refine s_mv (v := v104) (sx hS_ 3 rfl) ?_
   refine s_mv (v := .int .i64 a1) (sx hS_ 0 rfl) ?_
   refine s_call [v104, .int .i64 a1] _ Try.func34 rfl rfl rfl (c_impl_series s103 a1 h _ (own_repE (hC.getM 0 rfl))) (fun ret121 w123 hR122 => ?_)
   obtain ⟨r124, u125, f126, rfl, h, hr127, hf128, hB129⟩ := hR122
   refine ⟨_, rfl, ?_⟩
   replace hC := hC.push hB129 (Tr.item (Tr.sl 2 ((EI .i64).tr)) r124 [u125] f126) hr127 hf128
   obtain ⟨ho131, hf132⟩ := flat_tr (hC.getM 0 rfl).1
   subst hf132
   replace hC := hC.recast (c := own 2 1 u125 r124.length ((EI .i64).encs r124)) (fun _ h_ => h_) (fun _ => ho131)
   refine s_as (v := u125) rfl ?_
   refine s_as (v := .int .i64 0) rfl ?_
   refine dn ?_
   refine wp_ret ?_
   refine ret2 (fn := Try.f9) rfl ?_ ?_ ⟨r124, u125, (Option.toList (Value.ownBlock u125)), 0, rfl, h, (own_item (hC.getM 0 rfl)), (own_fresh hC 0 rfl), hC.below⟩ (.inl rfl)
   ·exact res_tmp rfl
   ·exact res_tmp rfl
  ·skip
   replace hC := hC.sel [0] [0, 1, 2] (M' := [own 2 1 (.slice (some ⟨b45, 0, none⟩) 0 0) 0 ((EI .i64).encs [])]) (Ps' := [Ty.item TForm.sl a0.images [u0_1] fp0, Ty.item ((EI .i64).ty.sl) a0.degrees [u0_0] fp0, Ty.item TAlg a0 [u0_0, u0_1] fp0]) (by decide) rfl rfl
   exact ⟨.slice (some ⟨b45, 0, none⟩) 0 0, (sk rfl (sk rfl (sk rfl (sk rfl (sk rfl (sk rfl (sk rfl sn))))))), hC⟩
def f_laws_FnExactLoopSeries (a0 : Alg) (a1 : Int) (K : Bool → Prop) : Prop :=
 f_laws_szAlgebra a0 1048576 (fun r11 => (if r11 < 0 then K true else f_laws_toAlgebra a0 (fun r17 => f_spec_LoopSeries r17 a1 (fun r36 r41 => f_laws_toAlgebra a0 (fun r50 => f_impl_LoopSeries r50 a1 (fun r73 r78 => f_laws_eqInt64S r73 r36 (fun r87 => (if ¬ (r87 = true) then K false else (if r78 ≠ r41 then K false else f_laws_toAlgebra a0 (fun r97 => f_laws_eqAlgebra r50 r97 (fun r116 => (if ¬ (r116 = true) then K false else f_laws_markAlgebra r50 1 (fun r122 m124 => (if r122 < 0 then K false else f_laws_eqInt64S r73 r36 (fun r131 => (if ¬ (r131 = true) then K false else f_laws_markInt64S r73 1 (fun r137 m139 => f_laws_heldInt64S m139 1 (fun r144 => (if r144 < 0 then K false else (if r144 ≠ r137 then K false else f_laws_toAlgebra (⟨a0.degrees, a0.images⟩ : Alg) (fun r151 => f_impl_LoopSeries r151 a1 (fun r170 r175 => f_laws_eqInt64S r170 r36 (fun r184 => (if ¬ (r184 = true) then K false else (if r175 ≠ r41 then K false else f_laws_heldInt64S m139 1 (fun r191 => (if r191 < 0 then K false else (if r191 ≠ r137 then K false else K true))))))))))))))))))))))))))))
theorem c_laws_FnExactLoopSeries (a0 : Alg) (a1 : Int) {u0_0 : Value} {u0_1 : Value} {fp0 : List Nat} {K : Bool → Prop} (h : f_laws_FnExactLoopSeries a0 a1 K) (w0 : World) (q0 : TAlg.rep a0 [u0_0, u0_1] fp0 w0) :
  Calls Try.prog 3 #[.agg #[u0_0, u0_1], .int .i64 a1] w0 fun e w' => ∃ (r0 : Bool), 
   e = .returned (.bool r0) ∧ K r0 ∧ Bel w0 w' := by
 unfold f_laws_FnExactLoopSeries at h
 refine calls_of (args := [.agg #[u0_0, u0_1], .int .i64 a1]) Try.func3 rfl 101 Try.ntmps3 (Nat.le_of_ble_eq_true rfl) ?_
 have hC := Ctx.start (X := Nox) w0 [Ty.item TAlg a0 [u0_0, u0_1] fp0] (by simp only [List.mem_cons, List.not_mem_nil, or_false, forall_eq_or_imp, forall_eq]; exact q0)
 have hp2 := (hC.getP 0 rfl)
 replace hC := hC.derive 0 rfl (Ty.item ((EI .i64).ty.sl) a0.degrees [u0_0] fp0) (fun _ => (alg_parts hp2).1) (fun _ hb_ => hb_)
 replace hC := hC.derive 1 rfl (Ty.item TForm.sl a0.images [u0_1] fp0) (fun _ => (alg_parts hp2).2) (fun _ hb_ => hb_)
 refine sr ?_
 refine s_box (v := .agg #[u0_0, u0_1]) hC [u0_0, u0_1] rfl rfl fun b5 w7 hB_ hC => ?_
 refine s_as (v := .bool false) rfl ?_
 refine dn ?_
 refine sr ?_
 refine s_as (v := .int .i64 1048576) rfl ?_
 refine dn ?_
 refine sr ?_
 refine s_loadA hC 0 [u0_0, u0_1] rfl ag25 rfl rfl rfl ?_
 refine s_mv (v := .int .i64 1048576) rfl ?_
 refine s_call [.agg #[u0_0, u0_1], .int .i64 1048576] _ Try.func6 rfl rfl rfl (c_laws_szAlgebra a0 1048576 h _ (alg_mk (hC.getP 1 rfl) (hC.getP 0 rfl))) (fun ret8 w10 hR9 => ?_)
 obtain ⟨r11, rfl, h, hB12⟩ := hR9
 refine ⟨_, rfl, ?_⟩
 replace hC := hC.grow hB12
 refine s_as (v := .int .i64 r11) rfl ?_
 refine dn ?_
 refine wp_seq ?_
 refine sr ?_
 refine s_mv (v := .int .i64 r11) rfl ?_
 refine s_lss rfl rfl ?_
 refine dn ?_
 refine cw_cond rfl (fun hb13 => ?_) (fun hb13 => ?_)
 ·replace h := ift h (ct hb13)
  refine sr ?_
  refine s_as (v := .bool true) rfl ?_
  refine dn ?_
  refine wp_ret (then_ret ?_)
  refine ret1 (fn := Try.f3) rfl ?_ ⟨true, rfl, h, hC.below⟩ (.inl rfl)
  exact res_tmp rfl
 ·replace h := iff_ h (cf hb13)
  refine wp_skip ?_
  refine then_norm ?_
  refine sr ?_
  refine s_loadA hC 0 [u0_0, u0_1] rfl ag25 rfl rfl rfl ?_
  refine s_call [.agg #[u0_0, u0_1]] _ Try.func8 rfl rfl rfl (c_laws_toAlgebra a0 h _ (alg_mk (hC.getP 1 rfl) (hC.getP 0 rfl))) (fun ret14 w16 hR15 => ?_)
  obtain ⟨r17, u18, u19, f20, rfl, h, hr21, hf22, hB23⟩ := hR15
  refine ⟨_, rfl, ?_⟩
  replace hC := hC.push hB23 (Tr.item (TrAlg 2 83 58) r17 [u18, u19] f20) hr21 hf22
  obtain ⟨f25, ho26, ho27, hs28, hs29, hd30⟩ := alg_split (hC.getM 0 rfl)
  replace hC := hC.split (a := own 2 1 u18 r17.degrees.length ((EI .i64).encs r17.degrees)) (b := Tr.item (Tr.sl 58 (TrForm 83)) r17.images [u19] f25) hs28 hs29 ⟨ho26, ho27, hd30⟩
  refine s_mv (v := .int .i64 a1) rfl ?_
  refine s_call [.agg #[u18, u19], .int .i64 a1] _ Try.func7 rfl rfl rfl (c_spec_LoopSeries r17 a1 h _ (alg_mk (own_repE (hC.getM 0 rfl)) (Tr.trep _ (hC.getM 1 rfl).1))) (fun ret33 w35 hR34 => ?_)
  obtain ⟨r36, u37, f38, r41, rfl, h, hr39, hf40, hB42⟩ := hR34
  refine ⟨_, rfl, ?_⟩
  replace hC := hC.push hB42 (Tr.item (Tr.sl 2 ((EI .i64).tr)) r36 [u37] f38) hr39 hf40
  obtain ⟨ho44, hf45⟩ := flat_tr (hC.getM 0 rfl).1
  subst hf45
  replace hC := hC.recast (c := own 2 1 u37 r36.length ((EI .i64).encs r36)) (fun _ h_ => h_) (fun _ => ho44)
  refine s_mv (v := .tuple #[u37, .int .i64 r41]) rfl ?_
  refine s_ext (v := u37) rfl rfl ?_
  refine s_ext (v := .int .i64 r41) rfl rfl ?_
  refine s_as (v := u37) rfl ?_
  refine s_as (v := .int .i64 r41) rfl ?_
  refine dn ?_
  refine sr ?_
  refine s_loadA hC 3 [u0_0, u0_1] rfl ag25 rfl rfl rfl ?_
  refine s_call [.agg #[u0_0, u0_1]] _ Try.func8 rfl rfl rfl (c_laws_toAlgebra a0 h _ (alg_mk (hC.getP 1 rfl) (hC.getP 0 rfl))) (fun ret47 w49 hR48 => ?_)
  obtain ⟨r50, u51, u52, f53, rfl, h, hr54, hf55, hB56⟩ := hR48
  refine ⟨_, rfl, ?_⟩
  replace hC := hC.push hB56 (Tr.item (TrAlg 2 83 58) r50 [u51, u52] f53) hr54 hf55
  obtain ⟨f58, ho59, ho60, hs61, hs62, hd63⟩ := alg_split (hC.getM 0 rfl)
  replace hC := hC.split (a := own 2 1 u51 r50.degrees.length ((EI .i64).encs r50.degrees)) (b := Tr.item (Tr.sl 58 (TrForm 83)) r50.images [u52] f58) hs61 hs62 ⟨ho59, ho60, hd63⟩
  refine s_alloc hC [.slice none 0 0, .slice none 0 0] z31 rfl fun b66 w68 hB_ hC => ?_
  refine s_store (v := .agg #[u51, u52]) hC 0 [u51, u52] [u51, u52] rfl ag31.size rfl rfl rfl rfl (all_c (own_oneC (hC.getM 1 rfl)) (all_c (rep_oneC (Tr.trep _ (hC.getM 2 rfl).1)) rfl)) (Nat.le_of_ble_eq_true rfl) rfl fun w69 hC => ?_
  refine dn ?_
  refine sr ?_
  refine s_loadA hC 0 [u51, u52] rfl ag31 rfl rfl rfl ?_
  refine s_mv (v := .int .i64 a1) rfl ?_
  refine s_call [.agg #[u51, u52], .int .i64 a1] _ Try.func9 rfl rfl rfl (c_impl_LoopSeries r50 a1 h _ (alg_mk (own_repE (hC.getM 1 rfl)) (Tr.trep _ (hC.getM 2 rfl).1))) (fun ret70 w72 hR71 => ?_)
  obtain ⟨r73, u74, f75, r78, rfl, h, hr76, hf77, hB79⟩ := hR71
  refine ⟨_, rfl, ?_⟩
  replace hC := hC.push hB79 (Tr.item (Tr.sl 2 ((EI .i64).tr)) r73 [u74] f75) hr76 hf77
  obtain ⟨ho81, hf82⟩ := flat_tr (hC.getM 0 rfl).1
  subst hf82
  replace hC := hC.recast (c := own 2 1 u74 r73.length ((EI .i64).encs r73)) (fun _ h_ => h_) (fun _ => ho81)
  refine s_mv (v := .tuple #[u74, .int .i64 r78]) rfl ?_
  refine s_ext (v := u74) rfl rfl ?_
  refine s_ext (v := .int .i64 r78) rfl rfl ?_
  refine s_as (v := u74) rfl ?_
  refine s_as (v := .int .i64 r78) rfl ?_
  refine dn ?_
  refine wp_seq ?_
  refine sr ?_
  refine s_mv (v := u74) rfl ?_
  refine s_mv (v := u37) rfl ?_
  refine s_call [u74, u37] _ Try.func10 rfl rfl rfl (c_laws_eqInt64S r73 r36 h _ (own_repE (hC.getM 0 rfl)) (own_repE (hC.getM 4 rfl))) (fun ret84 w86 hR85 => ?_)
  obtain ⟨r87, rfl, h, hB88⟩ := hR85
  refine ⟨_, rfl, ?_⟩
  replace hC := hC.grow hB88
  refine s_not rfl ?_
  refine s_mv (v := .bool (!r87)) rfl ?_
  refine bsplit (!r87) (fun hb89 => ?_) (fun hb89 => ?_)
  ·replace h := ift h (ne_t (not_t hb89))
   refine guardOff (b := true) 4 40 rfl (tr rfl (congrArg _ hb89)) (by decide) ?_
   refine guardOff (b := true) 4 40 rfl (tr rfl (congrArg _ hb89)) (by decide) ?_
   refine guardOff (b := true) 4 40 rfl (tr rfl (congrArg _ hb89)) (by decide) ?_
   refine s_pick (v := .bool true) (b := true) (tr rfl (congrArg _ hb89)) rfl ?_
   refine dn ?_
   refine cw_true rfl rfl ?_
   refine sr ?_
   refine s_as (v := .bool false) rfl ?_
   refine dn ?_
   refine wp_ret (then_ret ?_)
   refine ret1 (fn := Try.f3) rfl ?_ ⟨false, rfl, h, hC.below⟩ (.inl rfl)
   exact res_tmp rfl
  ·replace h := iff_ h (not_not_intro ((not_f hb89)))
   refine guardOn 4 40 rfl rfl hb89 ?_
   refine s_mv (v := .int .i64 r78) rfl ?_
   refine guardOn 4 40 rfl rfl hb89 ?_
   refine s_mv (v := .int .i64 r41) rfl ?_
   refine guardOn 4 40 rfl rfl hb89 ?_
   refine s_neq rfl rfl ?_
   refine s_pick (v := .bool (decide (r78 ≠ r41))) (b := false) (tr rfl (congrArg _ hb89)) rfl ?_
   refine dn ?_
   refine cw_cond rfl (fun hb90 => ?_) (fun hb90 => ?_)
   ·replace h := ift h (ct hb90)
    refine sr ?_
    refine s_as (v := .bool false) rfl ?_
    refine dn ?_
    refine wp_ret (then_ret ?_)
    refine ret1 (fn := Try.f3) rfl ?_ ⟨false, rfl, h, hC.below⟩ (.inl rfl)
    exact res_tmp rfl
   ·replace h := iff_ h (cf hb90)
    refine wp_skip ?_
    refine then_norm ?_
    refine wp_seq ?_
    refine wp_seq ?_
    refine cw_draw 3 mixed [0, 0, 2, 7, 15] [0, 1] [] (by kernel_rfl) (by kernel_rfl) (by kernel_rfl) (fun hM92 hM93 w91 hB_ => ?_)
    replace hC := hC.grow hB_
    refine ae_look belPre 0 (.agg #[u51, u52]) rfl rfl (by kernel_rfl) (hM92 0 rfl) (fun w_ hB_ => .inl ⟨rfl, by exact r_loadA (hC.grow hB_) 1 [u51, u52] rfl ag31 rfl rfl rfl⟩) (listed' := (dbits 5 1)) (by kernel_rfl) ?_
    refine ae_look belPre 1 (.agg #[u0_0, u0_1]) rfl rfl (by kernel_rfl) (hM92 1 rfl) (fun w_ hB_ => .inl ⟨rfl, by exact r_loadA (hC.grow hB_) 7 [u0_0, u0_1] rfl ag25 rfl rfl rfl⟩) (listed' := (dbits 5 3)) (by kernel_rfl) ?_
    refine ae_one 2 rfl (by kernel_rfl) ?_
    refine s_call [.agg #[u0_0, u0_1]] _ Try.func8 rfl rfl rfl (c_laws_toAlgebra a0 h _ (alg_mk (hC.getP 1 rfl) (hC.getP 0 rfl))) (fun ret94 w96 hR95 => ?_)
    obtain ⟨r97, u98, u99, f100, rfl, h, hr101, hf102, hB103⟩ := hR95
    refine ⟨_, rfl, ?_⟩
    replace hC := hC.push hB103 (Tr.item (TrAlg 2 83 58) r97 [u98, u99] f100) hr101 hf102
    obtain ⟨f105, ho106, ho107, hs108, hs109, hd110⟩ := alg_split (hC.getM 0 rfl)
    replace hC := hC.split (a := own 2 1 u98 r97.degrees.length ((EI .i64).encs r97.degrees)) (b := Tr.item (Tr.sl 58 (TrForm 83)) r97.images [u99] f105) hs108 hs109 ⟨ho106, ho107, hd110⟩
    refine done ?_
    refine ak_intro (by assumption) (listed' := (dbits 5 7)) (by kernel_rfl) ?_
    refine ae_tail 3 (by decide) (by decide) (by kernel_rfl) (by kernel_rfl) rfl ?_
    refine s_call [.agg #[u51, u52], .agg #[u98, u99]] _ Try.func11 rfl rfl rfl (c_laws_eqAlgebra r50 r97 h _ (alg_mk (own_repE (hC.getM 4 rfl)) (Tr.trep _ (hC.getM 5 rfl).1)) (alg_mk (own_repE (hC.getM 0 rfl)) (Tr.trep _ (hC.getM 1 rfl).1))) (fun ret113 w115 hR114 => ?_)
    obtain ⟨r116, rfl, h, hB117⟩ := hR114
    refine ⟨_, rfl, ?_⟩
    replace hC := hC.grow hB117
    refine s_not rfl ?_
    refine done ?_
    refine qn_norm ?_
    refine then_norm ?_
    refine cw_cond rfl (fun hb118 => ?_) (fun hb118 => ?_)
    ·replace h := ift h (ne_t (not_t hb118))
     refine sr ?_
     refine s_as (v := .bool false) rfl ?_
     refine dn ?_
     refine wp_ret (then_ret ?_)
     refine ret1 (fn := Try.f3) rfl ?_ ⟨false, rfl, h, hC.below⟩ (.inl rfl)
     exact res_tmp rfl
    ·replace h := iff_ h (not_not_intro ((not_f hb118)))
     refine wp_skip ?_
     refine then_norm ?_
     refine sr ?_
     refine s_as (v := .int .i64 1) rfl ?_
     refine dn ?_
     refine sr ?_
     refine s_loadA hC 3 [u51, u52] rfl ag31 rfl rfl rfl ?_
     refine s_mv (v := .int .i64 1) rfl ?_
     refine s_call [.agg #[u51, u52], .int .i64 1] _ Try.func12 rfl rfl rfl (c_laws_markAlgebra r50 1 h _ (hC.getM 4 rfl) (hC.getM 5 rfl) (hC.mm 4 5 rfl rfl (by decide))) (fun ret119 w121 hR120 => ?_)
     obtain ⟨r122, m124, rfl, h, hm125, hm126, hB123⟩ := hR120
     refine ⟨_, rfl, ?_⟩
     replace hC := hC.turnL hB123 (M' := [own 2 1 u98 r97.degrees.length ((EI .i64).encs r97.degrees), Tr.item (Tr.sl 58 (TrForm 83)) r97.images [u99] f105, own 2 1 u74 r73.length ((EI .i64).encs r73), blk b66 31 [u51, u52], own 2 1 u51 m124.degrees.length ((EI .i64).encs m124.degrees), Tr.item (Tr.sl 58 (TrForm 83)) m124.images [u52] f58, own 2 1 u37 r36.length ((EI .i64).encs r36), own 2 1 u18 r17.degrees.length ((EI .i64).encs r17.degrees), Tr.item (Tr.sl 58 (TrForm 83)) r17.images [u19] f25, blk b5 25 [u0_0, u0_1]]) rfl (fun x_ hx_ => (List.mem_append.1 hx_).elim (fun hx_ => ⟨_, List.mem_of_getElem? (i := 4) rfl, hx_⟩) (fun hx_ => ⟨_, List.mem_of_getElem? (i := 5) rfl, hx_⟩)) (by simp only [List.mem_cons, List.not_mem_nil, or_false, forall_eq_or_imp, forall_eq]; exact ⟨(hC.stay 0 rfl hB123 (fun x_ hq_ hx_ => (List.mem_append.1 hx_).elim (fun hx_ => hC.mm 0 4 rfl rfl (by decide) x_ hq_ hx_) (fun hx_ => hC.mm 0 5 rfl rfl (by decide) x_ hq_ hx_))), (hC.stay 1 rfl hB123 (fun x_ hq_ hx_ => (List.mem_append.1 hx_).elim (fun hx_ => hC.mm 1 4 rfl rfl (by decide) x_ hq_ hx_) (fun hx_ => hC.mm 1 5 rfl rfl (by decide) x_ hq_ hx_))), (hC.stay 2 rfl hB123 (fun x_ hq_ hx_ => (List.mem_append.1 hx_).elim (fun hx_ => hC.mm 2 4 rfl rfl (by decide) x_ hq_ hx_) (fun hx_ => hC.mm 2 5 rfl rfl (by decide) x_ hq_ hx_))), (hC.stay 3 rfl hB123 (fun x_ hq_ hx_ => (List.mem_append.1 hx_).elim (fun hx_ => hC.mm 3 4 rfl rfl (by decide) x_ hq_ hx_) (fun hx_ => hC.mm 3 5 rfl rfl (by decide) x_ hq_ hx_))), hm125, hm126, (hC.stay 6 rfl hB123 (fun x_ hq_ hx_ => (List.mem_append.1 hx_).elim (fun hx_ => hC.mm 6 4 rfl rfl (by decide) x_ hq_ hx_) (fun hx_ => hC.mm 6 5 rfl rfl (by decide) x_ hq_ hx_))), (hC.stay 7 rfl hB123 (fun x_ hq_ hx_ => (List.mem_append.1 hx_).elim (fun hx_ => hC.mm 7 4 rfl rfl (by decide) x_ hq_ hx_) (fun hx_ => hC.mm 7 5 rfl rfl (by decide) x_ hq_ hx_))), (hC.stay 8 rfl hB123 (fun x_ hq_ hx_ => (List.mem_append.1 hx_).elim (fun hx_ => hC.mm 8 4 rfl rfl (by decide) x_ hq_ hx_) (fun hx_ => hC.mm 8 5 rfl rfl (by decide) x_ hq_ hx_))), (hC.stay 9 rfl hB123 (fun x_ hq_ hx_ => (List.mem_append.1 hx_).elim (fun hx_ => hC.mm 9 4 rfl rfl (by decide) x_ hq_ hx_) (fun hx_ => hC.mm 9 5 rfl rfl (by decide) x_ hq_ hx_)))⟩)
     refine s_as (v := .int .i64 r122) rfl ?_
     refine dn ?_
     refine wp_seq ?_
     refine sr ?_
     refine s_mv (v := .int .i64 r122) rfl ?_
     refine s_lss rfl rfl ?_
     refine s_mv (v := .bool (decide (r122 < 0))) rfl ?_
     refine bsplit (decide (r122 < 0)) (fun hb127 => ?_) (fun hb127 => ?_)
     ·replace h := ift h (ct hb127)
      refine guardOff (b := true) 2 55 rfl (tr rfl (congrArg _ hb127)) (by decide) ?_
      refine guardOff (b := true) 2 55 rfl (tr rfl (congrArg _ hb127)) (by decide) ?_
      refine guardOff (b := true) 2 55 rfl (tr rfl (congrArg _ hb127)) (by decide) ?_
      refine guardOff (b := true) 2 55 rfl (tr rfl (congrArg _ hb127)) (by decide) ?_
      refine s_pick (v := .bool true) (b := true) (tr rfl (congrArg _ hb127)) rfl ?_
      refine s_mv (v := .bool true) rfl ?_
      refine guardOff (b := true) 8 61 rfl (tr rfl (congrArg _ rfl)) (by decide) ?_
      refine guardOff (b := true) 8 61 rfl (tr rfl (congrArg _ rfl)) (by decide) ?_
      refine guardOff (b := true) 8 61 rfl (tr rfl (congrArg _ rfl)) (by decide) ?_
      refine s_pick (v := .bool true) (b := true) rfl rfl ?_
      refine dn ?_
      refine cw_true rfl rfl ?_
      refine sr ?_
      refine s_as (v := .bool false) rfl ?_
      refine dn ?_
      refine wp_ret (then_ret ?_)
      refine ret1 (fn := Try.f3) rfl ?_ ⟨false, rfl, h, hC.below⟩ (.inl rfl)
      exact res_tmp rfl
     ·replace h := iff_ h (cf hb127)
      refine guardOn 2 55 rfl rfl hb127 ?_
      refine s_mv (v := u74) rfl ?_
      refine guardOn 2 55 rfl rfl hb127 ?_
      refine s_mv (v := u37) rfl ?_
      refine guardOn 2 55 rfl rfl hb127 ?_
      refine s_call [u74, u37] _ Try.func10 rfl rfl rfl (c_laws_eqInt64S r73 r36 h _ (own_repE (hC.getM 2 rfl)) (own_repE (hC.getM 6 rfl))) (fun ret128 w130 hR129 => ?_)
      obtain ⟨r131, rfl, h, hB132⟩ := hR129
      refine ⟨_, rfl, ?_⟩
      replace hC := hC.grow hB132
      refine guardOn 2 55 rfl rfl hb127 ?_
      refine s_not rfl ?_
      refine s_pick (v := .bool (!r131)) (b := false) (tr rfl (congrArg _ hb127)) rfl ?_
      refine s_mv (v := .bool (!r131)) rfl ?_
      refine bsplit (!r131) (fun hb133 => ?_) (fun hb133 => ?_)
      ·replace h := ift h (ne_t (not_t hb133))
       refine guardOff (b := true) 8 61 rfl (tr rfl (congrArg _ hb133)) (by decide) ?_
       refine guardOff (b := true) 8 61 rfl (tr rfl (congrArg _ hb133)) (by decide) ?_
       refine guardOff (b := true) 8 61 rfl (tr rfl (congrArg _ hb133)) (by decide) ?_
       refine s_pick (v := .bool true) (b := true) (tr rfl (congrArg _ hb133)) rfl ?_
       refine dn ?_
       refine cw_true rfl rfl ?_
       refine sr ?_
       refine s_as (v := .bool false) rfl ?_
       refine dn ?_
       refine wp_ret (then_ret ?_)
       refine ret1 (fn := Try.f3) rfl ?_ ⟨false, rfl, h, hC.below⟩ (.inl rfl)
       exact res_tmp rfl
      ·replace h := iff_ h (not_not_intro ((not_f hb133)))
       refine guardOn 8 61 rfl rfl hb133 ?_
       refine s_mv (v := .int .i64 r78) rfl ?_
       refine guardOn 8 61 rfl rfl hb133 ?_
       refine s_mv (v := .int .i64 r41) rfl ?_
       refine guardOn 8 61 rfl rfl hb133 ?_
       refine s_neq rfl rfl ?_
       refine s_pick (v := .bool (decide (r78 ≠ r41))) (b := false) (tr rfl (congrArg _ hb133)) rfl ?_
       refine dn ?_
       refine cw_false rfl hb90 ?_
       refine wp_skip ?_
       refine then_norm ?_
       refine sr ?_
       refine s_as (v := .int .i64 1) rfl ?_
       refine dn ?_
       refine sr ?_
       refine s_mv (v := u74) rfl ?_
       refine s_mv (v := .int .i64 1) rfl ?_
       refine s_call [u74, .int .i64 1] _ Try.func13 rfl rfl rfl (c_laws_markInt64S r73 1 h _ (hC.getM 2 rfl)) (fun ret134 w136 hR135 => ?_)
       obtain ⟨r137, m139, rfl, h, hm140, hB138⟩ := hR135
       refine ⟨_, rfl, ?_⟩
       replace hC := hC.turnL hB138 (M' := [own 2 1 u98 r97.degrees.length ((EI .i64).encs r97.degrees), Tr.item (Tr.sl 58 (TrForm 83)) r97.images [u99] f105, own 2 1 u74 m139.length ((EI .i64).encs m139), blk b66 31 [u51, u52], own 2 1 u51 m124.degrees.length ((EI .i64).encs m124.degrees), Tr.item (Tr.sl 58 (TrForm 83)) m124.images [u52] f58, own 2 1 u37 r36.length ((EI .i64).encs r36), own 2 1 u18 r17.degrees.length ((EI .i64).encs r17.degrees), Tr.item (Tr.sl 58 (TrForm 83)) r17.images [u19] f25, blk b5 25 [u0_0, u0_1]]) rfl (fun x_ hx_ => ⟨_, List.mem_of_getElem? (i := 2) rfl, hx_⟩) (by simp only [List.mem_cons, List.not_mem_nil, or_false, forall_eq_or_imp, forall_eq]; exact ⟨(hC.stay 0 rfl hB138 (fun x_ hq_ hx_ => hC.mm 0 2 rfl rfl (by decide) x_ hq_ hx_)), (hC.stay 1 rfl hB138 (fun x_ hq_ hx_ => hC.mm 1 2 rfl rfl (by decide) x_ hq_ hx_)), hm140, (hC.stay 3 rfl hB138 (fun x_ hq_ hx_ => hC.mm 3 2 rfl rfl (by decide) x_ hq_ hx_)), (hC.stay 4 rfl hB138 (fun x_ hq_ hx_ => hC.mm 4 2 rfl rfl (by decide) x_ hq_ hx_)), (hC.stay 5 rfl hB138 (fun x_ hq_ hx_ => hC.mm 5 2 rfl rfl (by decide) x_ hq_ hx_)), (hC.stay 6 rfl hB138 (fun x_ hq_ hx_ => hC.mm 6 2 rfl rfl (by decide) x_ hq_ hx_)), (hC.stay 7 rfl hB138 (fun x_ hq_ hx_ => hC.mm 7 2 rfl rfl (by decide) x_ hq_ hx_)), (hC.stay 8 rfl hB138 (fun x_ hq_ hx_ => hC.mm 8 2 rfl rfl (by decide) x_ hq_ hx_)), (hC.stay 9 rfl hB138 (fun x_ hq_ hx_ => hC.mm 9 2 rfl rfl (by decide) x_ hq_ hx_))⟩)
       refine s_as (v := .int .i64 r137) rfl ?_
       refine dn ?_
       refine sr ?_
       refine s_as (v := .int .i64 1) rfl ?_
       refine dn ?_
       refine sr ?_
       refine s_mv (v := u74) rfl ?_
       refine s_mv (v := .int .i64 1) rfl ?_
       refine s_call [u74, .int .i64 1] _ Try.func14 rfl rfl rfl (c_laws_heldInt64S m139 1 h _ (own_repE (hC.getM 2 rfl))) (fun ret141 w143 hR142 => ?_)
       obtain ⟨r144, rfl, h, hB145⟩ := hR142
       refine ⟨_, rfl, ?_⟩
       replace hC := hC.grow hB145
       refine s_as (v := .int .i64 r144) rfl ?_
       refine dn ?_
       refine wp_seq ?_
       refine sr ?_
       refine s_mv (v := .int .i64 r144) rfl ?_
       refine s_lss rfl rfl ?_
       refine dn ?_
       refine cw_cond rfl (fun hb146 => ?_) (fun hb146 => ?_)
       ·replace h := ift h (ct hb146)
        refine sr ?_
        refine s_as (v := .bool false) rfl ?_
        refine dn ?_
        refine wp_ret (then_ret ?_)
        refine ret1 (fn := Try.f3) rfl ?_ ⟨false, rfl, h, hC.below⟩ (.inl rfl)
        exact res_tmp rfl
       ·replace h := iff_ h (cf hb146)
        refine wp_skip ?_
        refine then_norm ?_
        refine wp_seq ?_
        refine sr ?_
        refine s_mv (v := .int .i64 r144) rfl ?_
        refine s_mv (v := .int .i64 r137) rfl ?_
        refine s_neq rfl rfl ?_
        refine dn ?_
        refine cw_cond rfl (fun hb147 => ?_) (fun hb147 => ?_)
        ·replace h := ift h (ct hb147)
         refine sr ?_
         refine s_as (v := .bool false) rfl ?_
         refine dn ?_
         refine wp_ret (then_ret ?_)
         refine ret1 (fn := Try.f3) rfl ?_ ⟨false, rfl, h, hC.below⟩ (.inl rfl)
         exact res_tmp rfl
        ·replace h := iff_ h (cf hb147)
         refine wp_skip ?_
         refine then_norm ?_
         refine sr ?_
         refine s_loadA hC 9 [u0_0, u0_1] rfl ag25 rfl rfl rfl ?_
         refine s_call [.agg #[u0_0, u0_1]] _ Try.func8 rfl rfl rfl (c_laws_toAlgebra (⟨a0.degrees, a0.images⟩ : Alg) h _ (alg_mk (hC.getP 1 rfl) (hC.getP 0 rfl))) (fun ret148 w150 hR149 => ?_)
         obtain ⟨r151, u152, u153, f154, rfl, h, hr155, hf156, hB157⟩ := hR149
         refine ⟨_, rfl, ?_⟩
         replace hC := hC.push hB157 (Tr.item (TrAlg 2 83 58) r151 [u152, u153] f154) hr155 hf156
         obtain ⟨f159, ho160, ho161, hs162, hs163, hd164⟩ := alg_split (hC.getM 0 rfl)
         replace hC := hC.split (a := own 2 1 u152 r151.degrees.length ((EI .i64).encs r151.degrees)) (b := Tr.item (Tr.sl 58 (TrForm 83)) r151.images [u153] f159) hs162 hs163 ⟨ho160, ho161, hd164⟩
         refine s_mv (v := .int .i64 a1) rfl ?_
         refine s_call [.agg #[u152, u153], .int .i64 a1] _ Try.func9 rfl rfl rfl (c_impl_LoopSeries r151 a1 h _ (alg_mk (own_repE (hC.getM 0 rfl)) (Tr.trep _ (hC.getM 1 rfl).1))) (fun ret167 w169 hR168 => ?_)
         obtain ⟨r170, u171, f172, r175, rfl, h, hr173, hf174, hB176⟩ := hR168
         refine ⟨_, rfl, ?_⟩
         replace hC := hC.push hB176 (Tr.item (Tr.sl 2 ((EI .i64).tr)) r170 [u171] f172) hr173 hf174
         obtain ⟨ho178, hf179⟩ := flat_tr (hC.getM 0 rfl).1
         subst hf179
         replace hC := hC.recast (c := own 2 1 u171 r170.length ((EI .i64).encs r170)) (fun _ h_ => h_) (fun _ => ho178)
         refine s_mv (v := .tuple #[u171, .int .i64 r175]) rfl ?_
         refine s_ext (v := u171) rfl rfl ?_
         refine s_ext (v := .int .i64 r175) rfl rfl ?_
         refine s_as (v := u171) rfl ?_
         refine s_as (v := .int .i64 r175) rfl ?_
         refine dn ?_
         refine wp_seq ?_
         refine sr ?_
         refine s_mv (v := u171) rfl ?_
         refine s_mv (v := u37) rfl ?_
         refine s_call [u171, u37] _ Try.func10 rfl rfl rfl (c_laws_eqInt64S r170 r36 h _ (own_repE (hC.getM 0 rfl)) (own_repE (hC.getM 9 rfl))) (fun ret181 w183 hR182 => ?_)
         obtain ⟨r184, rfl, h, hB185⟩ := hR182
         refine ⟨_, rfl, ?_⟩
         replace hC := hC.grow hB185
         refine s_not rfl ?_
         refine s_mv (v := .bool (!r184)) rfl ?_
         refine bsplit (!r184) (fun hb186 => ?_) (fun hb186 => ?_)
         ·replace h := ift h (ne_t (not_t hb186))
          refine guardOff (b := true) 4 88 rfl (tr rfl (congrArg _ hb186)) (by decide) ?_
          refine guardOff (b := true) 4 88 rfl (tr rfl (congrArg _ hb186)) (by decide) ?_
          refine guardOff (b := true) 4 88 rfl (tr rfl (congrArg _ hb186)) (by decide) ?_
          refine s_pick (v := .bool true) (b := true) (tr rfl (congrArg _ hb186)) rfl ?_
          refine dn ?_
          refine cw_true rfl rfl ?_
          refine sr ?_
          refine s_as (v := .bool false) rfl ?_
          refine dn ?_
          refine wp_ret (then_ret ?_)
          refine ret1 (fn := Try.f3) rfl ?_ ⟨false, rfl, h, hC.below⟩ (.inl rfl)
          exact res_tmp rfl
         ·replace h := iff_ h (not_not_intro ((not_f hb186)))
          refine guardOn 4 88 rfl rfl hb186 ?_
          refine s_mv (v := .int .i64 r175) rfl ?_
          refine guardOn 4 88 rfl rfl hb186 ?_
          refine s_mv (v := .int .i64 r41) rfl ?_
          refine guardOn 4 88 rfl rfl hb186 ?_
          refine s_neq rfl rfl ?_
          refine s_pick (v := .bool (decide (r175 ≠ r41))) (b := false) (tr rfl (congrArg _ hb186)) rfl ?_
          refine dn ?_
          refine cw_cond rfl (fun hb187 => ?_) (fun hb187 => ?_)
          ·replace h := ift h (ct hb187)
           refine sr ?_
           refine s_as (v := .bool false) rfl ?_
           refine dn ?_
           refine wp_ret (then_ret ?_)
           refine ret1 (fn := Try.f3) rfl ?_ ⟨false, rfl, h, hC.below⟩ (.inl rfl)
           exact res_tmp rfl
          ·replace h := iff_ h (cf hb187)
           refine wp_skip ?_
           refine then_norm ?_
           refine sr ?_
           refine s_as (v := .int .i64 1) rfl ?_
           refine dn ?_
           refine sr ?_
           refine s_mv (v := u74) rfl ?_
           refine s_mv (v := .int .i64 1) rfl ?_
           refine s_call [u74, .int .i64 1] _ Try.func14 rfl rfl rfl (c_laws_heldInt64S m139 1 h _ (own_repE (hC.getM 5 rfl))) (fun ret188 w190 hR189 => ?_)
           obtain ⟨r191, rfl, h, hB192⟩ := hR189
           refine ⟨_, rfl, ?_⟩
           replace hC := hC.grow hB192
           refine s_as (v := .int .i64 r191) rfl ?_
           refine dn ?_
           refine wp_seq ?_
           refine sr ?_
           refine s_mv (v := .int .i64 r191) rfl ?_
           refine s_lss rfl rfl ?_
           refine dn ?_
           refine cw_cond rfl (fun hb193 => ?_) (fun hb193 => ?_)
           ·replace h := ift h (ct hb193)
            refine sr ?_
            refine s_as (v := .bool false) rfl ?_
            refine dn ?_
            refine wp_ret (then_ret ?_)
            refine ret1 (fn := Try.f3) rfl ?_ ⟨false, rfl, h, hC.below⟩ (.inl rfl)
            exact res_tmp rfl
           ·replace h := iff_ h (cf hb193)
            refine wp_skip ?_
            refine then_norm ?_
            refine wp_seq ?_
            refine sr ?_
            refine s_mv (v := .int .i64 r191) rfl ?_
            refine s_mv (v := .int .i64 r137) rfl ?_
            refine s_neq rfl rfl ?_
            refine dn ?_
            refine cw_cond rfl (fun hb194 => ?_) (fun hb194 => ?_)
            ·replace h := ift h (ct hb194)
             refine sr ?_
             refine s_as (v := .bool false) rfl ?_
             refine dn ?_
             refine wp_ret (then_ret ?_)
             refine ret1 (fn := Try.f3) rfl ?_ ⟨false, rfl, h, hC.below⟩ (.inl rfl)
             exact res_tmp rfl
            ·replace h := iff_ h (cf hb194)
             refine wp_skip ?_
             refine then_norm ?_
             refine sr ?_
             refine s_as (v := .bool true) rfl ?_
             refine dn ?_
             refine wp_ret ?_
             refine ret1 (fn := Try.f3) rfl ?_ ⟨true, rfl, h, hC.below⟩ (.inl rfl)
             exact res_tmp rfl
end Go.Proofs.Ytodedifhdjdmlaa
