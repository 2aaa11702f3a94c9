/- Printed by vcgen.py: functions of the program as predicates, and that the machine's calls meet them. -/
import Derived.Test.YtgfmflmhcfkldaaGAa
set_option linter.unusedVariables false
set_option linter.unusedSimpArgs false
set_option maxRecDepth 4000
set_option maxHeartbeats 4000000
namespace Go.Proofs.Ytgfmflmhcfkldaa
open Go Go.RowKit Vc
def f_spec_l01Joined (a0 : List Int) (a1 : A8) (a2 : A8) (K : A8 → Int → Prop) : Prop :=
  forN (fun i178 (s179 : A8 × Int) next181 => ((0 ≤ (i178 : Int) ∧ (i178 : Int) < 8) ∧ ((0 ≤ (i178 : Int) ∧ (i178 : Int) < 8) ∧ ((0 ≤ (i178 : Int) ∧ (i178 : Int) < 8) ∧ (if Int.tmod (a0.getD i178 default) 2 = 0 then next181 (s179.1.set i178 (IntKind.u8.wrap ((a1.get i178) + (a2.get i178))), s179.2) else ((0 ≤ (i178 : Int) ∧ (i178 : Int) < 8) ∧ (if (s179.1.set i178 (IntKind.u8.wrap ((a1.get i178) + (a2.get i178)))).get i178 > 1 then K A8.zero 0 else whileP (fun (s241 : Int × Int) next242 => (if s241.1 < (a0.length : Int) then ((0 ≤ (i178 : Int) ∧ (i178 : Int) < 8) ∧ (if a2.get i178 = 1 then ((0 ≤ s241.1 ∧ s241.1 < (a0.length : Int)) ∧ (if Int.tmod (a0.getD s241.1.toNat default) 2 ≠ 0 then ((0 ≤ s241.1 ∧ s241.1 < 8) ∧ (if a1.get s241.1.toNat = 1 then next242 (IntKind.i64.wrap (s241.1 + 1), IntKind.i64.wrap (0 - s241.2)) else next242 (IntKind.i64.wrap (s241.1 + 1), s241.2))) else next242 (IntKind.i64.wrap (s241.1 + 1), s241.2))) else next181 (s179.1.set i178 (IntKind.u8.wrap ((a1.get i178) + (a2.get i178))), s241.2))) else next181 (s179.1.set i178 (IntKind.u8.wrap ((a1.get i178) + (a2.get i178))), s241.2))) (IntKind.i64.wrap ((i178 : Int) + 1), s179.2)))))))) (fun (s179 : A8 × Int) => K s179.1 s179.2) a0.length 0 (A8.zero, 1)
theorem c_spec_l01Joined (a0 : List Int) (a1 : A8) (a2 : A8) {u0_0 : Value} {fp0 : List Nat} {K : A8 → Int → Prop} (h : f_spec_l01Joined a0 a1 a2 K) (w0 : World) (q0 : ((EI .i64).ty.sl).rep a0 [u0_0] fp0 w0) :
    Calls Try.prog 133 #[u0_0, .agg (List.toArray (A8.enc .u8 a1)), .agg (List.toArray (A8.enc .u8 a2))] w0 fun e w' => ∃ (r0 : A8) (r1 : Int), 
      e = .returned (.tuple #[.agg (List.toArray (A8.enc .u8 r0)), .int .i64 r1]) ∧ K r0 r1 ∧ Bel w0 w' := by
  unfold f_spec_l01Joined at h
  refine calls_of (args := [u0_0, .agg (List.toArray (A8.enc .u8 a1)), .agg (List.toArray (A8.enc .u8 a2))]) Try.func133 rfl 69 Try.ntmps133 (Nat.le_of_ble_eq_true rfl) ?_
  have hC := Ctx.start (X := Nox) w0 [Ty.item ((EI .i64).ty.sl) a0 [u0_0] fp0] (by simp only [List.mem_cons, List.not_mem_nil, or_false, forall_eq_or_imp, forall_eq]; exact q0)
  refine wp_seq ?_
  refine cw_region ?_
  refine s_box (v := .agg (List.toArray (A8.enc .u8 a1))) hC (A8.enc .u8 a1) rfl rfl fun b2 w4 hB_ hC => ?_
  refine s_box (v := .agg (List.toArray (A8.enc .u8 a2))) hC (A8.enc .u8 a2) rfl rfl fun b5 w7 hB_ hC => ?_
  refine s_alloc hC (A8.enc .u8 A8.zero) z84 rfl fun b8 w10 hB_ hC => ?_
  refine s_as (v := .int .i64 0) rfl ?_
  refine done ?_
  refine then_norm ?_
  refine wp_seq ?_
  refine cw_region ?_
  refine s_build [] rfl (bl84   _) ?_
  refine s_alloc hC (A8.enc .u8 A8.zero) z84 rfl fun b11 w13 hB_ hC => ?_
  refine s_store (v := .agg (List.toArray (A8.enc .u8 A8.zero))) hC 0 (A8.enc .u8 A8.zero) (A8.enc .u8 A8.zero) rfl ag84.size rfl rfl rfl rfl rfl (Nat.le_of_ble_eq_true rfl) rfl fun w14 hC => ?_
  refine s_as (v := .int .i64 1) rfl ?_
  refine done ?_
  refine then_norm ?_
  refine wp_seq ?_
  refine wp_seq ?_
  refine cw_region ?_
  refine s_as (v := .int .i64 0) rfl ?_
  refine done ?_
  refine then_norm ?_
  refine wp_block ?_
  have hN180 : a0.length ≤ 9223372036854775807 := sl_max (hC.getP 0 rfl)
  refine loopN (S := A8 × Int) _ _ (fun i178 s179 e_ w_ => e_ 0 = u0_0 ∧ e_ 4 = .pointer (some ⟨b2, 0, none⟩) ∧ e_ 5 = .pointer (some ⟨b5, 0, none⟩) ∧ e_ 6 = .pointer (some ⟨b8, 0, none⟩) ∧ e_ 7 = .int .i64 0 ∧ e_ 8 = .pointer (some ⟨b11, 0, none⟩) ∧ e_ 9 = .int .i64 s179.2 ∧ e_ 10 = .int .i64 (i178 : Int) ∧ Ctx Nox w0 w_ [blk b11 84 (A8.enc .u8 s179.1), blk b8 84 (A8.enc .u8 A8.zero), blk b5 84 (A8.enc .u8 a2), blk b2 84 (A8.enc .u8 a1)] [Ty.item ((EI .i64).ty.sl) a0 [u0_0] fp0]) a0.length ?_ ?_ (s0 := (A8.zero, 1)) ?_ h
  · clear hC h
    rintro i178 s179 e_ w185 next181 K182 hi184 ⟨h0_, h4_, h5_, h6_, h7_, h8_, h9_, h10_, hC⟩ h hK183
    refine wp_seq ?_
    refine wp_seq ?_
    refine cw_region ?_
    refine s_mv (v := .int .i64 (i178 : Int)) h10_ ?_
    refine s_mv (v := u0_0) h0_ ?_
    obtain ⟨Ad186, c187, hv188⟩ := sl_len (hC.getP 0 rfl)
    refine s_len Try.underlying22 (tr rfl hv188) ?_
    refine s_lss rfl rfl ?_
    refine done ?_
    refine then_norm ?_
    refine cw_true rfl (decide_eq_true (by omega)) ?_
    refine wp_skip ?_
    refine then_norm ?_
    refine wp_seq ?_
    refine wp_block ?_
    refine wp_seq ?_
    refine cw_draw 8 mixed [0, 0, 2, 6, 0, 16, 48, 126, 255, 511] [2, 3, 5, 6] [0, 1, 4, 7] (by kernel_rfl) (by kernel_rfl) (by kernel_rfl) (fun hM190 hM191 w189 hB_ => ?_)
    replace hC := hC.grow hB_
    refine ae_lookF belPre 0 (.int .i64 (i178 : Int)) rfl rfl (by kernel_rfl) (hM191 0 rfl) (fun w_ => .inl ⟨rfl, by exact r_mv (v := .int .i64 (i178 : Int)) h10_⟩) (listed' := (List.toArray [true, false, false, false, false, false, false, false, false, false])) rfl ?_
    refine ae_lookF belPre 1 (.int .i64 (i178 : Int)) rfl rfl (by kernel_rfl) (hM191 1 rfl) (fun w_ => .inl ⟨rfl, by exact r_mv (v := .int .i64 (i178 : Int)) h10_⟩) (listed' := (List.toArray [true, true, false, false, false, false, false, false, false, false])) rfl ?_
    obtain ⟨⟨h0_192, h1_193⟩, h⟩ := h
    refine ae_look belPre 2 (.pointer (some ⟨b2, i178, none⟩)) rfl rfl (by kernel_rfl) (hM190 2 rfl) (fun w_ hB_ => .inl ⟨rfl, by exact r_iaddrB i178 Try.underlying84 sc5.size h4_ rfl h0_192 h1_193 (by omega)⟩) (listed' := (List.toArray [true, true, true, false, false, false, false, false, false, false])) rfl ?_
    refine ae_look belPre 3 (.int .u8 (a1.get i178)) rfl rfl (by kernel_rfl) (hM190 3 rfl) (fun w_ hB_ => .inl ⟨rfl, by exact r_loadS (hC.grow hB_) 3 (.int .u8 (a1.get i178)) rfl sc5 rfl (A8.enc_get _ _ (show i178 < 8 by omega))⟩) (listed' := (List.toArray [true, true, true, true, false, false, false, false, false, false])) rfl ?_
    refine ae_lookF belPre 4 (.int .i64 (i178 : Int)) rfl rfl (by kernel_rfl) (hM191 4 rfl) (fun w_ => .inl ⟨rfl, by exact r_mv (v := .int .i64 (i178 : Int)) h10_⟩) (listed' := (List.toArray [true, true, true, true, true, false, false, false, false, false])) rfl ?_
    obtain ⟨⟨h0_194, h1_195⟩, h⟩ := h
    refine ae_look belPre 5 (.pointer (some ⟨b5, i178, none⟩)) rfl rfl (by kernel_rfl) (hM190 5 rfl) (fun w_ hB_ => .inl ⟨rfl, by exact r_iaddrB i178 Try.underlying84 sc5.size h5_ rfl h0_194 h1_195 (by omega)⟩) (listed' := (List.toArray [true, true, true, true, true, true, false, false, false, false])) rfl ?_
    refine ae_look belPre 6 (.int .u8 (a2.get i178)) rfl rfl (by kernel_rfl) (hM190 6 rfl) (fun w_ hB_ => .inl ⟨rfl, by exact r_loadS (hC.grow hB_) 2 (.int .u8 (a2.get i178)) rfl sc5 rfl (A8.enc_get _ _ (show i178 < 8 by omega))⟩) (listed' := (List.toArray [true, true, true, true, true, true, true, false, false, false])) rfl ?_
    refine ae_lookF belPre 7 (.int .u8 (IntKind.u8.wrap ((a1.get i178) + (a2.get i178)))) rfl rfl (by kernel_rfl) (hM191 7 rfl) (fun w_ => .inl ⟨rfl, by exact r_add rfl rfl⟩) (listed' := (List.toArray [true, true, true, true, true, true, true, true, false, false])) rfl ?_
    refine ae_tail 8 (by decide) (by decide) (by kernel_rfl) rfl rfl ?_
    obtain ⟨⟨h0_196, h1_197⟩, h⟩ := h
    refine s_iaddrB i178 Try.underlying84 sc5.size h8_ rfl h0_196 h1_197 (by omega) ?_
    refine s_store (v := .int .u8 (IntKind.u8.wrap ((a1.get i178) + (a2.get i178)))) hC 0 [.int .u8 (IntKind.u8.wrap ((a1.get i178) + (a2.get i178)))] (A8.enc .u8 (s179.1.set i178 (IntKind.u8.wrap ((a1.get i178) + (a2.get i178))))) rfl sc5.size rfl rfl rfl rfl rfl (show i178 < 8 by omega) (A8.enc_set _ _ _ (show i178 < 8 by omega)) fun w198 hC => ?_
    refine done ?_
    refine qn_norm ?_
    refine then_norm ?_
    refine wp_seq ?_
    refine wp_seq ?_
    refine cw_region ?_
    refine s_mv (v := u0_0) h0_ ?_
    refine s_mv (v := .int .i64 (i178 : Int)) h10_ ?_
    obtain ⟨Ad199, c200, hv201⟩ := sl_form (hC.getP 0 rfl) i178 hi184
    refine s_iaddrS (len := a0.length) Try.underlying22 sc2.size (tr rfl hv201) rfl (Int.natCast_nonneg _) (Int.ofNat_lt.2 hi184) ?_
    refine s_loadCS (.int .i64 (a0.getD i178 default)) (sl_cellsE (hC.getP 0 rfl) hv201 i178 hi184) sc2 rfl ?_
    refine s_rem rfl rfl (by decide) ?_
    refine s_eql rfl rfl ?_
    refine done ?_
    refine then_norm ?_
    refine cw_cond rfl (fun hb202 => ?_) (fun hb202 => ?_)
    · replace h := ift h (ct hb202)
      refine wp_exit (then_exit (exit_in ?_))
      refine then_norm ?_
      refine cw_region ?_
      refine s_mv (v := .int .i64 (i178 : Int)) h10_ ?_
      refine s_add rfl rfl ?_
      refine s_as (v := .int .i64 (IntKind.i64.wrap ((i178 : Int) + 1))) rfl ?_
      refine done ?_
      exact hK183 (s179.1.set i178 (IntKind.u8.wrap ((a1.get i178) + (a2.get i178))), s179.2) _ _ ⟨h0_, h4_, h5_, h6_, h7_, h8_, h9_, (tr rfl (congrArg _ (wrap64_nat hi184 hN180))), hC⟩ h
    · replace h := iff_ h (cf hb202)
      refine wp_skip ?_
      refine then_norm ?_
      refine wp_seq ?_
      refine wp_seq ?_
      refine cw_region ?_
      refine s_mv (v := .int .i64 (i178 : Int)) h10_ ?_
      obtain ⟨⟨h0_203, h1_204⟩, h⟩ := h
      refine s_iaddrB i178 Try.underlying84 sc5.size h8_ rfl h0_203 h1_204 (by omega) ?_
      refine s_loadS hC 0 (.int .u8 ((s179.1.set i178 (IntKind.u8.wrap ((a1.get i178) + (a2.get i178)))).get i178)) rfl sc5 rfl (A8.enc_get _ _ (show i178 < 8 by omega)) ?_
      refine s_gtr rfl rfl ?_
      refine done ?_
      refine then_norm ?_
      refine cw_cond rfl (fun hb205 => ?_) (fun hb205 => ?_)
      · replace h := ift h (ct hb205)
        refine wp_seq ?_
        refine cw_region ?_
        refine s_build [] rfl (bl84   _) ?_
        refine s_store (v := .agg (List.toArray (A8.enc .u8 A8.zero))) hC 1 (A8.enc .u8 A8.zero) (A8.enc .u8 A8.zero) rfl ag84.size h6_ rfl rfl rfl rfl (Nat.le_of_ble_eq_true rfl) rfl fun w206 hC => ?_
        refine s_as (v := .int .i64 0) rfl ?_
        refine done ?_
        refine then_norm ?_
        refine wp_ret (then_ret (blk_ret (then_ret (then_ret (blk_ret (then_ret ?_))))))
        refine ret2 (fn := Try.f133) rfl ?_ ?_ ⟨A8.zero, 0, rfl, h, hC.below⟩ (.inl rfl)
        · exact res_cellA hC 1 rfl ag84 h6_ rfl
        · exact res_tmp rfl
      · replace h := iff_ h (cf hb205)
        refine wp_skip ?_
        refine then_norm ?_
        refine wp_seq ?_
        refine cw_region ?_
        refine s_mv (v := .int .i64 (i178 : Int)) h10_ ?_
        refine s_add rfl rfl ?_
        refine s_as (v := .int .i64 (IntKind.i64.wrap ((i178 : Int) + 1))) rfl ?_
        refine done ?_
        refine then_norm ?_
        refine wp_block ?_
        refine loopW (S := Int × Int) _ (fun s241 e_ w_ => e_ 0 = u0_0 ∧ e_ 4 = .pointer (some ⟨b2, 0, none⟩) ∧ e_ 5 = .pointer (some ⟨b5, 0, none⟩) ∧ e_ 6 = .pointer (some ⟨b8, 0, none⟩) ∧ e_ 7 = .int .i64 0 ∧ e_ 8 = .pointer (some ⟨b11, 0, none⟩) ∧ e_ 9 = .int .i64 s241.2 ∧ e_ 10 = .int .i64 (i178 : Int) ∧ e_ 11 = .int .i64 s241.1 ∧ e_ 13 = .int .i64 (i178 : Int) ∧ e_ 14 = u0_0 ∧ e_ 15 = .int .i64 (a0.length : Int) ∧ e_ 16 = .bool (decide ((i178 : Int) < (a0.length : Int))) ∧ e_ 19 = .int .i64 (i178 : Int) ∧ e_ 20 = .int .i64 (i178 : Int) ∧ e_ 21 = .pointer (some ⟨b2, i178, none⟩) ∧ e_ 22 = .int .u8 (a1.get i178) ∧ e_ 23 = .int .i64 (i178 : Int) ∧ e_ 24 = .pointer (some ⟨b5, i178, none⟩) ∧ e_ 25 = .int .u8 (a2.get i178) ∧ e_ 26 = .int .u8 (IntKind.u8.wrap ((a1.get i178) + (a2.get i178))) ∧ e_ 27 = .pointer (some ⟨b11, i178, none⟩) ∧ e_ 28 = u0_0 ∧ e_ 29 = .int .i64 (i178 : Int) ∧ e_ 30 = .pointer (some (Ad199.add (i178 * 1))) ∧ e_ 31 = .int .i64 (a0.getD i178 default) ∧ e_ 32 = .int .i64 (Int.tmod (a0.getD i178 default) 2) ∧ e_ 33 = .bool (decide (Int.tmod (a0.getD i178 default) 2 = 0)) ∧ e_ 34 = .int .i64 (i178 : Int) ∧ e_ 35 = .pointer (some ⟨b11, i178, none⟩) ∧ e_ 36 = .int .u8 ((s179.1.set i178 (IntKind.u8.wrap ((a1.get i178) + (a2.get i178)))).get i178) ∧ e_ 37 = .bool (decide ((s179.1.set i178 (IntKind.u8.wrap ((a1.get i178) + (a2.get i178)))).get i178 > 1)) ∧ e_ 39 = .int .i64 (i178 : Int) ∧ e_ 40 = .int .i64 (IntKind.i64.wrap ((i178 : Int) + 1)) ∧ Ctx Nox w0 w_ [blk b11 84 (A8.enc .u8 (s179.1.set i178 (IntKind.u8.wrap ((a1.get i178) + (a2.get i178))))), blk b8 84 (A8.enc .u8 A8.zero), blk b5 84 (A8.enc .u8 a2), blk b2 84 (A8.enc .u8 a1)] [Ty.item ((EI .i64).ty.sl) a0 [u0_0] fp0]) ?_ (s0 := (IntKind.i64.wrap ((i178 : Int) + 1), s179.2)) ?_ h
        · clear hC h
          rintro s241 e_ w245 next242 K243 ⟨h0_, h4_, h5_, h6_, h7_, h8_, h9_, h10_, h11_, h13_, h14_, h15_, h16_, h19_, h20_, h21_, h22_, h23_, h24_, h25_, h26_, h27_, h28_, h29_, h30_, h31_, h32_, h33_, h34_, h35_, h36_, h37_, h39_, h40_, hC⟩ h hK244
          refine wp_seq ?_
          refine wp_seq ?_
          refine cw_region ?_
          refine s_mv (v := .int .i64 s241.1) h11_ ?_
          refine s_mv (v := u0_0) h0_ ?_
          obtain ⟨Ad246, c247, hv248⟩ := sl_len (hC.getP 0 rfl)
          refine s_len Try.underlying22 (tr rfl hv248) ?_
          refine s_lss rfl rfl ?_
          refine s_mv (v := .bool (decide (s241.1 < (a0.length : Int)))) rfl ?_
          refine bsplit (decide (s241.1 < (a0.length : Int))) (fun hb249 => ?_) (fun hb249 => ?_)
          · replace h := ift h (ct hb249)
            refine guardOn 4 45 rfl rfl hb249 ?_
            refine s_mv (v := .int .i64 (i178 : Int)) h10_ ?_
            refine guardOn 4 45 rfl rfl hb249 ?_
            obtain ⟨⟨h0_250, h1_251⟩, h⟩ := h
            refine s_iaddrB i178 Try.underlying84 sc5.size h5_ rfl h0_250 h1_251 (by omega) ?_
            refine guardOn 4 45 rfl rfl hb249 ?_
            refine s_loadS hC 2 (.int .u8 (a2.get i178)) rfl sc5 rfl (A8.enc_get _ _ (show i178 < 8 by omega)) ?_
            refine guardOn 4 45 rfl rfl hb249 ?_
            refine s_eql rfl rfl ?_
            refine s_pick (v := .bool (decide (a2.get i178 = 1))) (b := true) (tr rfl (congrArg _ hb249)) rfl ?_
            refine done ?_
            refine then_norm ?_
            refine cw_cond rfl (fun hb252 => ?_) (fun hb252 => ?_)
            · replace h := ift h (ct hb252)
              refine wp_skip ?_
              refine then_norm ?_
              refine wp_seq ?_
              refine wp_block ?_
              refine wp_seq ?_
              refine cw_region ?_
              refine s_mv (v := u0_0) h0_ ?_
              refine s_mv (v := .int .i64 s241.1) h11_ ?_
              obtain ⟨⟨h0_253, h1_254⟩, h⟩ := h
              obtain ⟨Ad255, c256, hv257⟩ := sl_form (hC.getP 0 rfl) s241.1.toNat (show s241.1.toNat < a0.length by omega)
              refine s_iaddrS (len := a0.length) Try.underlying22 sc2.size (tr rfl hv257) rfl h0_253 h1_254 ?_
              refine s_loadCS (.int .i64 (a0.getD s241.1.toNat default)) (sl_cellsE (hC.getP 0 rfl) hv257 s241.1.toNat (show s241.1.toNat < a0.length by omega)) sc2 rfl ?_
              refine s_rem rfl rfl (by decide) ?_
              refine s_neq rfl rfl ?_
              refine s_mv (v := .bool (decide (Int.tmod (a0.getD s241.1.toNat default) 2 ≠ 0))) rfl ?_
              refine bsplit (decide (Int.tmod (a0.getD s241.1.toNat default) 2 ≠ 0)) (fun hb258 => ?_) (fun hb258 => ?_)
              · replace h := ift h (ct hb258)
                refine guardOn 6 59 rfl rfl hb258 ?_
                refine s_mv (v := .int .i64 s241.1) h11_ ?_
                refine guardOn 6 59 rfl rfl hb258 ?_
                obtain ⟨⟨h0_259, h1_260⟩, h⟩ := h
                refine s_iaddrB s241.1.toNat Try.underlying84 sc5.size h4_ rfl h0_259 h1_260 (by omega) ?_
                refine guardOn 6 59 rfl rfl hb258 ?_
                refine s_loadS hC 3 (.int .u8 (a1.get s241.1.toNat)) rfl sc5 rfl (A8.enc_get _ _ (show s241.1.toNat < 8 by omega)) ?_
                refine guardOn 6 59 rfl rfl hb258 ?_
                refine s_eql rfl rfl ?_
                refine s_pick (v := .bool (decide (a1.get s241.1.toNat = 1))) (b := true) (tr rfl (congrArg _ hb258)) rfl ?_
                refine done ?_
                refine then_norm ?_
                refine cw_cond rfl (fun hb261 => ?_) (fun hb261 => ?_)
                · replace h := ift h (ct hb261)
                  refine cw_region ?_
                  refine s_mv (v := .int .i64 s241.2) h9_ ?_
                  refine s_neg rfl ?_
                  refine s_as (v := .int .i64 (IntKind.i64.wrap (0 - s241.2))) rfl ?_
                  refine done ?_
                  refine blk_norm ?_
                  refine then_norm ?_
                  refine cw_region ?_
                  refine s_mv (v := .int .i64 s241.1) h11_ ?_
                  refine s_add rfl rfl ?_
                  refine s_as (v := .int .i64 (IntKind.i64.wrap (s241.1 + 1))) rfl ?_
                  refine done ?_
                  exact hK244 (IntKind.i64.wrap (s241.1 + 1), IntKind.i64.wrap (0 - s241.2)) _ _ ⟨h0_, h4_, h5_, h6_, h7_, h8_, rfl, h10_, rfl, h13_, h14_, h15_, h16_, h19_, h20_, h21_, h22_, h23_, h24_, h25_, h26_, h27_, h28_, h29_, h30_, h31_, h32_, h33_, h34_, h35_, h36_, h37_, h39_, h40_, hC⟩ h
                · replace h := iff_ h (cf hb261)
                  refine wp_skip ?_
                  refine blk_norm ?_
                  refine then_norm ?_
                  refine cw_region ?_
                  refine s_mv (v := .int .i64 s241.1) h11_ ?_
                  refine s_add rfl rfl ?_
                  refine s_as (v := .int .i64 (IntKind.i64.wrap (s241.1 + 1))) rfl ?_
                  refine done ?_
                  exact hK244 (IntKind.i64.wrap (s241.1 + 1), s241.2) _ _ ⟨h0_, h4_, h5_, h6_, h7_, h8_, h9_, h10_, rfl, h13_, h14_, h15_, h16_, h19_, h20_, h21_, h22_, h23_, h24_, h25_, h26_, h27_, h28_, h29_, h30_, h31_, h32_, h33_, h34_, h35_, h36_, h37_, h39_, h40_, hC⟩ h
              · replace h := iff_ h (cf hb258)
                refine guardOff (b := false) 6 59 rfl (tr rfl (congrArg _ hb258)) (by decide) ?_
                refine guardOff (b := false) 6 59 rfl (tr rfl (congrArg _ hb258)) (by decide) ?_
                refine guardOff (b := false) 6 59 rfl (tr rfl (congrArg _ hb258)) (by decide) ?_
                refine guardOff (b := false) 6 59 rfl (tr rfl (congrArg _ hb258)) (by decide) ?_
                refine s_pick (v := .bool false) (b := false) (tr rfl (congrArg _ hb258)) rfl ?_
                refine done ?_
                refine then_norm ?_
                refine cw_false rfl rfl ?_
                refine wp_skip ?_
                refine blk_norm ?_
                refine then_norm ?_
                refine cw_region ?_
                refine s_mv (v := .int .i64 s241.1) h11_ ?_
                refine s_add rfl rfl ?_
                refine s_as (v := .int .i64 (IntKind.i64.wrap (s241.1 + 1))) rfl ?_
                refine done ?_
                exact hK244 (IntKind.i64.wrap (s241.1 + 1), s241.2) _ _ ⟨h0_, h4_, h5_, h6_, h7_, h8_, h9_, h10_, rfl, h13_, h14_, h15_, h16_, h19_, h20_, h21_, h22_, h23_, h24_, h25_, h26_, h27_, h28_, h29_, h30_, h31_, h32_, h33_, h34_, h35_, h36_, h37_, h39_, h40_, hC⟩ h
            · replace h := iff_ h (cf hb252)
              refine wp_exit (then_exit (then_exit (exit_in ?_)))
              refine blk_norm ?_
              refine then_norm ?_
              refine cw_region ?_
              refine s_mv (v := .int .i64 (i178 : Int)) h10_ ?_
              refine s_add rfl rfl ?_
              refine s_as (v := .int .i64 (IntKind.i64.wrap ((i178 : Int) + 1))) rfl ?_
              refine done ?_
              exact hK183 (s179.1.set i178 (IntKind.u8.wrap ((a1.get i178) + (a2.get i178))), s241.2) _ _ ⟨h0_, h4_, h5_, h6_, h7_, h8_, h9_, (tr rfl (congrArg _ (wrap64_nat hi184 hN180))), hC⟩ h
          · replace h := iff_ h (cf hb249)
            refine guardOff (b := false) 4 45 rfl (tr rfl (congrArg _ hb249)) (by decide) ?_
            refine guardOff (b := false) 4 45 rfl (tr rfl (congrArg _ hb249)) (by decide) ?_
            refine guardOff (b := false) 4 45 rfl (tr rfl (congrArg _ hb249)) (by decide) ?_
            refine guardOff (b := false) 4 45 rfl (tr rfl (congrArg _ hb249)) (by decide) ?_
            refine s_pick (v := .bool false) (b := false) (tr rfl (congrArg _ hb249)) rfl ?_
            refine done ?_
            refine then_norm ?_
            refine cw_false rfl rfl ?_
            refine wp_exit (then_exit (then_exit (exit_in ?_)))
            refine blk_norm ?_
            refine then_norm ?_
            refine cw_region ?_
            refine s_mv (v := .int .i64 (i178 : Int)) h10_ ?_
            refine s_add rfl rfl ?_
            refine s_as (v := .int .i64 (IntKind.i64.wrap ((i178 : Int) + 1))) rfl ?_
            refine done ?_
            exact hK183 (s179.1.set i178 (IntKind.u8.wrap ((a1.get i178) + (a2.get i178))), s241.2) _ _ ⟨h0_, h4_, h5_, h6_, h7_, h8_, h9_, (tr rfl (congrArg _ (wrap64_nat hi184 hN180))), hC⟩ h
        · skip
          exact ⟨h0_, h4_, h5_, h6_, h7_, h8_, h9_, h10_, rfl, rfl, rfl, rfl, rfl, rfl, rfl, rfl, rfl, rfl, rfl, rfl, rfl, rfl, rfl, rfl, rfl, rfl, rfl, rfl, rfl, rfl, rfl, rfl, rfl, rfl, hC⟩
  · clear hC h
    rintro s179 e_ w262 K182 ⟨h0_, h4_, h5_, h6_, h7_, h8_, h9_, h10_, hC⟩ h
    refine wp_seq ?_
    refine wp_seq ?_
    refine cw_region ?_
    refine s_mv (v := .int .i64 (a0.length : Int)) h10_ ?_
    refine s_mv (v := u0_0) h0_ ?_
    obtain ⟨Ad263, c264, hv265⟩ := sl_len (hC.getP 0 rfl)
    refine s_len Try.underlying22 (tr rfl hv265) ?_
    refine s_lss rfl rfl ?_
    refine done ?_
    refine then_norm ?_
    refine cw_false rfl (decide_eq_false (by omega)) ?_
    refine wp_exit (then_exit (then_exit (exit_in ?_)))
    refine then_norm ?_
    refine wp_seq ?_
    refine cw_region ?_
    refine s_loadA hC 0 (A8.enc .u8 s179.1) rfl ag84 h8_ rfl rfl ?_
    refine s_mv (v := .int .i64 s179.2) h9_ ?_
    refine s_store (v := .agg (List.toArray (A8.enc .u8 s179.1))) hC 1 (A8.enc .u8 s179.1) (A8.enc .u8 s179.1) rfl ag84.size h6_ rfl rfl rfl rfl (Nat.le_of_ble_eq_true rfl) rfl fun w266 hC => ?_
    refine s_as (v := .int .i64 s179.2) rfl ?_
    refine done ?_
    refine then_norm ?_
    refine wp_ret ?_
    refine ret2 (fn := Try.f133) rfl ?_ ?_ ⟨s179.1, s179.2, rfl, h, hC.below⟩ (.inl rfl)
    · exact res_cellA hC 1 rfl ag84 h6_ rfl
    · exact res_tmp rfl
  · skip
    exact ⟨rfl, rfl, rfl, rfl, rfl, rfl, rfl, rfl, hC⟩
def f_spec_l01Shift (a0 : List Int) (a1 : Term) (a2 : Vc.Form) (K : Vc.Form → Prop) : Prop :=
  whileP (fun (s173 : (List Term) × Int) next176 => (if s173.2 < (a2.terms.length : Int) then ((0 ≤ s173.2 ∧ s173.2 < (a2.terms.length : Int)) ∧ f_spec_l01Joined a0 a1.mono ((a2.terms.getD s173.2.toNat default).mono) (fun r237 r238 => (if r238 ≠ 0 then ((0 ≤ s173.2 ∧ s173.2 < (a2.terms.length : Int)) ∧ f_spec_l01Mod (IntKind.i64.wrap ((IntKind.i64.wrap (r238 * a1.factor)) * ((a2.terms.getD s173.2.toNat default).factor))) (fun r225 => (Room (s173.1.length + 1) 16 ∧ next176 (s173.1 ++ [(⟨r237, r225⟩ : Term)], IntKind.i64.wrap (s173.2 + 1))))) else next176 (s173.1, IntKind.i64.wrap (s173.2 + 1))))) else K (⟨s173.1⟩ : Vc.Form))) ([], 0)
theorem c_spec_l01Shift (a0 : List Int) (a1 : Term) (a2 : Vc.Form) {u0_0 : Value} {u2_0 : Value} {fp0 : List Nat} {fp2 : List Nat} {K : Vc.Form → Prop} (h : f_spec_l01Shift a0 a1 a2 K) (w0 : World) (q0 : ((EI .i64).ty.sl).rep a0 [u0_0] fp0 w0) (q2 : TForm.rep a2 [u2_0] fp2 w0) :
    Calls Try.prog 122 #[u0_0, .agg (List.toArray (Term.enc a1)), .agg #[u2_0]] w0 fun e w' => ∃ (r0 : Vc.Form) (z0_0 : Value) (fz0 : List Nat), 
      e = .returned (.agg #[z0_0]) ∧ K r0 ∧ (Tr.item (TrForm 86) r0 [z0_0] fz0).holds w' ∧ (∀ b, b ∈ fz0 → w0.heap.size ≤ b) ∧ Bel w0 w' := by
  unfold f_spec_l01Shift at h
  refine calls_of (args := [u0_0, .agg (List.toArray (Term.enc a1)), .agg #[u2_0]]) Try.func122 rfl 54 Try.ntmps122 (Nat.le_of_ble_eq_true rfl) ?_
  have hC := Ctx.start (X := Nox) w0 [Ty.item ((EI .i64).ty.sl) a0 [u0_0] fp0, Ty.item TForm a2 [u2_0] fp2] (by simp only [List.mem_cons, List.not_mem_nil, or_false, forall_eq_or_imp, forall_eq]; exact ⟨q0, q2⟩)
  have hp3 := (hC.getP 1 rfl)
  replace hC := hC.derive 1 rfl (Ty.item ETerm.ty.sl a2.terms [u2_0] fp2) (fun _ => (form_parts hp3)) (fun _ hb_ => hb_)
  refine wp_seq ?_
  refine cw_region ?_
  refine s_box (v := .agg (List.toArray (Term.enc a1))) hC (Term.enc a1) rfl rfl fun b5 w7 hB_ hC => ?_
  refine s_box (v := .agg #[u2_0]) hC [u2_0] rfl rfl fun b8 w10 hB_ hC => ?_
  refine s_alloc hC [.slice none 0 0] z46 rfl fun b11 w13 hB_ hC => ?_
  refine done ?_
  refine then_norm ?_
  refine wp_seq ?_
  refine cw_region ?_
  refine s_build [] rfl (bl46   _) ?_
  refine s_alloc hC [.slice none 0 0] z46 rfl fun b14 w16 hB_ hC => ?_
  refine s_store (v := .agg #[.slice none 0 0]) hC 0 [.slice none 0 0] [.slice none 0 0] rfl ag46.size rfl rfl rfl rfl rfl (Nat.le_of_ble_eq_true rfl) rfl fun w17 hC => ?_
  refine done ?_
  refine then_norm ?_
  refine wp_seq ?_
  refine wp_seq ?_
  refine cw_region ?_
  refine s_as (v := .int .i64 0) rfl ?_
  refine done ?_
  refine then_norm ?_
  refine wp_block ?_
  refine loopW (S := (List Term) × Int) _ (fun s173 e_ w_ => ∃ (v174 : Value), e_ 0 = u0_0 ∧ e_ 4 = .pointer (some ⟨b5, 0, none⟩) ∧ e_ 5 = .pointer (some ⟨b8, 0, none⟩) ∧ e_ 6 = .pointer (some ⟨b11, 0, none⟩) ∧ e_ 7 = .pointer (some ⟨b14, 0, none⟩) ∧ e_ 8 = .int .i64 s173.2 ∧ Ctx Nox w0 w_ [own 86 9 v174 s173.1.length (ETerm.encs s173.1), blk b14 46 [v174], blk b11 46 [.slice none 0 0], blk b8 46 [u2_0], blk b5 86 (Term.enc a1)] [Ty.item ETerm.ty.sl a2.terms [u2_0] fp2, Ty.item ((EI .i64).ty.sl) a0 [u0_0] fp0, Ty.item TForm a2 [u2_0] fp2]) ?_ (s0 := ([], 0)) ?_ h
  · clear hC h
    rintro s173 e_ w179 next176 K177 ⟨v174, h0_, h4_, h5_, h6_, h7_, h8_, hC⟩ h hK178
    refine wp_seq ?_
    refine wp_seq ?_
    refine cw_region ?_
    refine s_mv (v := .int .i64 s173.2) h8_ ?_
    refine s_faddrB 0 Try.underlying46 rfl sc44.size h5_ rfl ?_
    refine s_loadS hC 3 (u2_0) rfl sc44 rfl rfl ?_
    obtain ⟨Ad180, c181, hv182⟩ := sl_len (hC.getP 0 rfl)
    refine s_len Try.underlying44 (tr rfl hv182) ?_
    refine s_lss rfl rfl ?_
    refine done ?_
    refine then_norm ?_
    refine cw_cond rfl (fun hb183 => ?_) (fun hb183 => ?_)
    · replace h := ift h (ct hb183)
      refine wp_skip ?_
      refine then_norm ?_
      refine wp_seq ?_
      refine wp_block ?_
      refine wp_seq ?_
      refine cw_draw 14 mixed [0, 0, 2, 0, 8, 0, 56, 120, 248, 511, 1023, 2047, 2047, 0, 12287, 32767] [2, 4, 6, 8] [0, 1, 3, 5, 7, 10, 11, 12] (by kernel_rfl) (by kernel_rfl) (by kernel_rfl) (fun hM185 hM186 w184 hB_ => ?_)
      replace hC := hC.grow hB_
      refine ae_lookF belPre 0 (u0_0) rfl rfl (by kernel_rfl) (hM186 0 rfl) (fun w_ => .inl ⟨rfl, by exact r_mv (v := u0_0) h0_⟩) (listed' := (List.toArray [true, false, false, false, false, false, false, false, false, false, false, false, false, false, false, false])) rfl ?_
      refine ae_lookF belPre 1 (.pointer (some ⟨b5, 0, none⟩)) rfl rfl (by kernel_rfl) (hM186 1 rfl) (fun w_ => .inl ⟨rfl, by exact r_faddrB 0 Try.underlying86 rfl ag84.size h4_ rfl⟩) (listed' := (List.toArray [true, true, false, false, false, false, false, false, false, false, false, false, false, false, false, false])) rfl ?_
      refine ae_look belPre 2 (.agg (List.toArray (A8.enc .u8 a1.mono))) rfl rfl (by kernel_rfl) (hM185 2 rfl) (fun w_ hB_ => .inl ⟨rfl, by exact r_loadA (hC.grow hB_) 4 (A8.enc .u8 a1.mono) rfl ag84 rfl rfl rfl⟩) (listed' := (List.toArray [true, true, true, false, false, false, false, false, false, false, false, false, false, false, false, false])) rfl ?_
      refine ae_lookF belPre 3 (.pointer (some ⟨b8, 0, none⟩)) rfl rfl (by kernel_rfl) (hM186 3 rfl) (fun w_ => .inl ⟨rfl, by exact r_faddrB 0 Try.underlying46 rfl sc44.size h5_ rfl⟩) (listed' := (List.toArray [true, true, true, true, false, false, false, false, false, false, false, false, false, false, false, false])) rfl ?_
      refine ae_look belPre 4 (u2_0) rfl rfl (by kernel_rfl) (hM185 4 rfl) (fun w_ hB_ => .inl ⟨rfl, by exact r_loadS (hC.grow hB_) 3 (u2_0) rfl sc44 rfl rfl⟩) (listed' := (List.toArray [true, true, true, true, true, false, false, false, false, false, false, false, false, false, false, false])) rfl ?_
      refine ae_lookF belPre 5 (.int .i64 s173.2) rfl rfl (by kernel_rfl) (hM186 5 rfl) (fun w_ => .inl ⟨rfl, by exact r_mv (v := .int .i64 s173.2) h8_⟩) (listed' := (List.toArray [true, true, true, true, true, true, false, false, false, false, false, false, false, false, false, false])) rfl ?_
      obtain ⟨⟨h0_187, h1_188⟩, h⟩ := h
      obtain ⟨Ad189, c190, hv191⟩ := sl_form (hC.getP 0 rfl) s173.2.toNat (show s173.2.toNat < a2.terms.length by omega)
      refine ae_look belPre 6 (.pointer (some (Ad189.add (s173.2.toNat * 9)))) rfl rfl (by kernel_rfl) (hM185 6 rfl) (fun w_ hB_ => .inl ⟨rfl, by exact r_iaddrS (len := a2.terms.length) Try.underlying44 ag86.size (by exact tr rfl hv191) rfl h0_187 h1_188⟩) (listed' := (List.toArray [true, true, true, true, true, true, true, false, false, false, false, false, false, false, false, false])) rfl ?_
      refine ae_lookF belPre 7 (.pointer (some (Ad189.add (s173.2.toNat * 9 + 0)))) rfl rfl (by kernel_rfl) (hM186 7 rfl) (fun w_ => .inl ⟨rfl, by exact r_faddrS (s173.2.toNat * 9 + 0) Try.underlying86 rfl ag84.size rfl rfl⟩) (listed' := (List.toArray [true, true, true, true, true, true, true, true, false, false, false, false, false, false, false, false])) rfl ?_
      refine ae_look belPre 8 (.agg (List.toArray (A8.enc .u8 ((a2.terms.getD s173.2.toNat default).mono)))) rfl rfl (by kernel_rfl) (hM185 8 rfl) (fun w_ hB_ => .inl ⟨rfl, by exact r_loadCA (A8.enc .u8 ((a2.terms.getD s173.2.toNat default).mono)) (cells_subS (o := 0) (k := 8) (sl_cellsE ((hC.grow hB_).getP 0 rfl) hv191 s173.2.toNat (show s173.2.toNat < a2.terms.length by omega)) rfl) ag84 rfl rfl⟩) (listed' := (List.toArray [true, true, true, true, true, true, true, true, true, false, false, false, false, false, false, false])) rfl ?_
      refine ae_join (fun e_ w_ => ∃ (b198 : Nat), ∃ (r195 : A8), ∃ (r196 : Int), e_ 0 = u0_0 ∧ e_ 4 = .pointer (some ⟨b5, 0, none⟩) ∧ e_ 5 = .pointer (some ⟨b8, 0, none⟩) ∧ e_ 6 = .pointer (some ⟨b11, 0, none⟩) ∧ e_ 7 = .pointer (some ⟨b14, 0, none⟩) ∧ e_ 8 = .int .i64 s173.2 ∧ e_ 9 = .pointer (some ⟨b198, 0, none⟩) ∧ e_ 10 = .int .i64 r196 ∧ e_ 12 = .int .i64 s173.2 ∧ e_ 13 = .pointer (some ⟨b8, 0, none⟩) ∧ e_ 14 = u2_0 ∧ e_ 15 = .int .i64 (a2.terms.length : Int) ∧ e_ 16 = .bool (decide (s173.2 < (a2.terms.length : Int))) ∧ e_ 19 = .tuple #[.agg (List.toArray (A8.enc .u8 r195)), .int .i64 r196] ∧ e_ 20 = u0_0 ∧ e_ 21 = .pointer (some ⟨b5, 0, none⟩) ∧ e_ 22 = .agg (List.toArray (A8.enc .u8 a1.mono)) ∧ e_ 23 = .pointer (some ⟨b8, 0, none⟩) ∧ e_ 24 = u2_0 ∧ e_ 25 = .int .i64 s173.2 ∧ e_ 26 = .pointer (some (Ad189.add (s173.2.toNat * 9))) ∧ e_ 27 = .pointer (some (Ad189.add (s173.2.toNat * 9 + 0))) ∧ e_ 28 = .agg (List.toArray (A8.enc .u8 ((a2.terms.getD s173.2.toNat default).mono))) ∧ e_ 29 = .tuple #[.agg (List.toArray (A8.enc .u8 r195)), .int .i64 r196] ∧ e_ 30 = .agg (List.toArray (A8.enc .u8 r195)) ∧ e_ 31 = .int .i64 r196 ∧ Ctx Nox w0 w_ [blk b198 84 (A8.enc .u8 r195), own 86 9 v174 s173.1.length (ETerm.encs s173.1), blk b14 46 [v174], blk b11 46 [.slice none 0 0], blk b8 46 [u2_0], blk b5 86 (Term.enc a1)] [Ty.item ETerm.ty.sl a2.terms [u2_0] fp2, Ty.item ((EI .i64).ty.sl) a0 [u0_0] fp0, Ty.item TForm a2 [u2_0] fp2] ∧ (if r196 ≠ 0 then ((0 ≤ s173.2 ∧ s173.2 < (a2.terms.length : Int)) ∧ f_spec_l01Mod (IntKind.i64.wrap ((IntKind.i64.wrap (r196 * a1.factor)) * ((a2.terms.getD s173.2.toNat default).factor))) (fun r225 => (Room (s173.1.length + 1) 16 ∧ next176 (s173.1 ++ [(⟨r195, r225⟩ : Term)], IntKind.i64.wrap (s173.2 + 1))))) else next176 (s173.1, IntKind.i64.wrap (s173.2 + 1)))) ?_ ?_
      · clear hC h
        rintro e_ w212 ⟨b198, r195, r196, h0_, h4_, h5_, h6_, h7_, h8_, h9_, h10_, h12_, h13_, h14_, h15_, h16_, h19_, h20_, h21_, h22_, h23_, h24_, h25_, h26_, h27_, h28_, h29_, h30_, h31_, hC, h⟩
        refine then_norm ?_
        refine wp_seq ?_
        refine cw_region ?_
        refine s_mv (v := .int .i64 r196) h10_ ?_
        refine s_neq rfl rfl ?_
        refine done ?_
        refine then_norm ?_
        refine cw_cond rfl (fun hb213 => ?_) (fun hb213 => ?_)
        · replace h := ift h (ct hb213)
          refine cw_draw 17 mixed [0, 1, 0, 0, 0, 16, 56, 0, 128, 0, 896, 1920, 3968, 8184, 16376, 32764, 65532, 131071, 262143, 524287] [1, 2, 5, 8, 10, 12, 15] [0, 3, 4, 6, 7, 9, 11, 13] (by kernel_rfl) (by kernel_rfl) (by kernel_rfl) (fun hM215 hM216 w214 hB_ => ?_)
          replace hC := hC.grow hB_
          refine ae_lookF belPre 0 (.pointer (some ⟨b14, 0, none⟩)) rfl rfl (by kernel_rfl) (hM216 0 rfl) (fun w_ => .inl ⟨rfl, by exact r_faddrB 0 Try.underlying46 rfl sc44.size h7_ rfl⟩) (listed' := (List.toArray [true, false, false, false, false, false, false, false, false, false, false, false, false, false, false, false, false, false, false, false])) rfl ?_
          refine ae_look belPre 1 (v174) rfl rfl (by kernel_rfl) (hM215 1 rfl) (fun w_ hB_ => .inl ⟨rfl, by exact r_loadS (hC.grow hB_) 2 (v174) rfl sc44 rfl rfl⟩) (listed' := (List.toArray [true, true, false, false, false, false, false, false, false, false, false, false, false, false, false, false, false, false, false, false])) rfl ?_
          refine ae_look belPre 2 (.agg (List.toArray (A8.enc .u8 r195))) rfl rfl (by kernel_rfl) (hM215 2 rfl) (fun w_ hB_ => .inl ⟨rfl, by exact r_loadA (hC.grow hB_) 0 (A8.enc .u8 r195) rfl ag84 h9_ rfl rfl⟩) (listed' := (List.toArray [true, true, true, false, false, false, false, false, false, false, false, false, false, false, false, false, false, false, false, false])) rfl ?_
          refine ae_lookF belPre 3 (.int .i64 r196) rfl rfl (by kernel_rfl) (hM216 3 rfl) (fun w_ => .inl ⟨rfl, by exact r_mv (v := .int .i64 r196) h10_⟩) (listed' := (List.toArray [true, true, true, true, false, false, false, false, false, false, false, false, false, false, false, false, false, false, false, false])) rfl ?_
          refine ae_lookF belPre 4 (.pointer (some ⟨b5, 8, none⟩)) rfl rfl (by kernel_rfl) (hM216 4 rfl) (fun w_ => .inl ⟨rfl, by exact r_faddrB 8 Try.underlying86 rfl sc2.size h4_ rfl⟩) (listed' := (List.toArray [true, true, true, true, true, false, false, false, false, false, false, false, false, false, false, false, false, false, false, false])) rfl ?_
          refine ae_look belPre 5 (.int .i64 a1.factor) rfl rfl (by kernel_rfl) (hM215 5 rfl) (fun w_ hB_ => .inl ⟨rfl, by exact r_loadS (hC.grow hB_) 5 (.int .i64 a1.factor) rfl sc2 rfl rfl⟩) (listed' := (List.toArray [true, true, true, true, true, true, false, false, false, false, false, false, false, false, false, false, false, false, false, false])) rfl ?_
          refine ae_lookF belPre 6 (.int .i64 (IntKind.i64.wrap (r196 * a1.factor))) rfl rfl (by kernel_rfl) (hM216 6 rfl) (fun w_ => .inl ⟨rfl, by exact r_mul rfl rfl⟩) (listed' := (List.toArray [true, true, true, true, true, true, true, false, false, false, false, false, false, false, false, false, false, false, false, false])) rfl ?_
          refine ae_lookF belPre 7 (.pointer (some ⟨b8, 0, none⟩)) rfl rfl (by kernel_rfl) (hM216 7 rfl) (fun w_ => .inl ⟨rfl, by exact r_faddrB 0 Try.underlying46 rfl sc44.size h5_ rfl⟩) (listed' := (List.toArray [true, true, true, true, true, true, true, true, false, false, false, false, false, false, false, false, false, false, false, false])) rfl ?_
          refine ae_look belPre 8 (u2_0) rfl rfl (by kernel_rfl) (hM215 8 rfl) (fun w_ hB_ => .inl ⟨rfl, by exact r_loadS (hC.grow hB_) 4 (u2_0) rfl sc44 rfl rfl⟩) (listed' := (List.toArray [true, true, true, true, true, true, true, true, true, false, false, false, false, false, false, false, false, false, false, false])) rfl ?_
          refine ae_lookF belPre 9 (.int .i64 s173.2) rfl rfl (by kernel_rfl) (hM216 9 rfl) (fun w_ => .inl ⟨rfl, by exact r_mv (v := .int .i64 s173.2) h8_⟩) (listed' := (List.toArray [true, true, true, true, true, true, true, true, true, true, false, false, false, false, false, false, false, false, false, false])) rfl ?_
          obtain ⟨⟨h0_217, h1_218⟩, h⟩ := h
          obtain ⟨Ad219, c220, hv221⟩ := sl_form (hC.getP 0 rfl) s173.2.toNat (show s173.2.toNat < a2.terms.length by omega)
          refine ae_look belPre 10 (.pointer (some (Ad219.add (s173.2.toNat * 9)))) rfl rfl (by kernel_rfl) (hM215 10 rfl) (fun w_ hB_ => .inl ⟨rfl, by exact r_iaddrS (len := a2.terms.length) Try.underlying44 ag86.size (by exact tr rfl hv221) rfl h0_217 h1_218⟩) (listed' := (List.toArray [true, true, true, true, true, true, true, true, true, true, true, false, false, false, false, false, false, false, false, false])) rfl ?_
          refine ae_lookF belPre 11 (.pointer (some (Ad219.add (s173.2.toNat * 9 + 8)))) rfl rfl (by kernel_rfl) (hM216 11 rfl) (fun w_ => .inl ⟨rfl, by exact r_faddrS (s173.2.toNat * 9 + 8) Try.underlying86 rfl sc2.size rfl rfl⟩) (listed' := (List.toArray [true, true, true, true, true, true, true, true, true, true, true, true, false, false, false, false, false, false, false, false])) rfl ?_
          refine ae_look belPre 12 (.int .i64 ((a2.terms.getD s173.2.toNat default).factor)) rfl rfl (by kernel_rfl) (hM215 12 rfl) (fun w_ hB_ => .inl ⟨rfl, by exact r_loadCS (.int .i64 ((a2.terms.getD s173.2.toNat default).factor)) (cells_subS (o := 8) (k := 1) (sl_cellsE ((hC.grow hB_).getP 0 rfl) hv221 s173.2.toNat (show s173.2.toNat < a2.terms.length by omega)) rfl) sc2 rfl⟩) (listed' := (List.toArray [true, true, true, true, true, true, true, true, true, true, true, true, true, false, false, false, false, false, false, false])) rfl ?_
          refine ae_lookF belPre 13 (.int .i64 (IntKind.i64.wrap ((IntKind.i64.wrap (r196 * a1.factor)) * ((a2.terms.getD s173.2.toNat default).factor)))) rfl rfl (by kernel_rfl) (hM216 13 rfl) (fun w_ => .inl ⟨rfl, by exact r_mul rfl rfl⟩) (listed' := (List.toArray [true, true, true, true, true, true, true, true, true, true, true, true, true, true, false, false, false, false, false, false])) rfl ?_
          refine ae_one 14 rfl (by kernel_rfl) ?_
          refine s_call [.int .i64 (IntKind.i64.wrap ((IntKind.i64.wrap (r196 * a1.factor)) * ((a2.terms.getD s173.2.toNat default).factor)))] _ Try.func104 rfl rfl rfl (c_spec_l01Mod (IntKind.i64.wrap ((IntKind.i64.wrap (r196 * a1.factor)) * ((a2.terms.getD s173.2.toNat default).factor))) h _) (fun ret222 w224 hR223 => ?_)
          obtain ⟨r225, rfl, h, hB226⟩ := hR223
          refine ⟨_, rfl, ?_⟩
          replace hC := hC.grow hB226
          refine done ?_
          refine ak_intro (by assumption) (listed' := (List.toArray [true, true, true, true, true, true, true, true, true, true, true, true, true, true, true, false, false, false, false, false])) rfl ?_
          refine ae_look belPre 15 (.agg (List.toArray (Term.enc (⟨r195, r225⟩ : Term)))) rfl rfl (by kernel_rfl) (hM215 15 rfl) (fun w_ hB_ => .inl ⟨rfl, by exact r_build [(0, .agg (List.toArray (A8.enc .u8 r195))), (1, .int .i64 r225)] rfl (bl86_0flat_1int r195 r225  _)⟩) (listed' := (List.toArray [true, true, true, true, true, true, true, true, true, true, true, true, true, true, true, true, false, false, false, false])) rfl ?_
          refine ae_one 16 rfl (by kernel_rfl) ?_
          refine s_bslice (sz := 9) hC [(0, .agg (List.toArray (Term.enc (⟨r195, r225⟩ : Term))))] (ETerm.encs [(⟨r195, r225⟩ : Term)]) rfl (fun _ => bs44_1 (⟨r195, r225⟩ : Term) _) rfl (by decide) fun b227 w228 hB_ hC => ?_
          refine done ?_
          refine ak_intro (by assumption) (listed' := (List.toArray [true, true, true, true, true, true, true, true, true, true, true, true, true, true, true, true, true, false, false, false])) rfl ?_
          refine ae_tail 17 (by decide) (by decide) (by kernel_rfl) rfl rfl ?_
          obtain ⟨hm232, h⟩ := h
          refine s_app hC 2 Try.underlying44 el86 rfl (by decide) (by decide) rfl (own_rdr (hC.getM 0 rfl)) (fun q hq => Enc.encs_one' (E := ETerm) _ q hq) rfl rfl hm232 fun v230 w231 hC => ?_
          replace hC := own_re hC 2 ((s173.1 ++ [(⟨r195, r225⟩ : Term)]).length) (ETerm.encs (s173.1 ++ [(⟨r195, r225⟩ : Term)])) rfl (by simp) (by first | (simp [Enc.encs_append]; done) | simp [Enc.encs_append, Enc.encs])
          refine s_faddrB 0 Try.underlying46 rfl sc44.size h7_ rfl ?_
          refine s_store (v := v230) hC 3 [v230] [v230] rfl sc44.size rfl rfl (own_cellsV (hC.getM 2 rfl)) rfl (all_c (own_oneC (hC.getM 2 rfl)) rfl) (Nat.le_of_ble_eq_true rfl) rfl fun w233 hC => ?_
          refine done ?_
          refine qn_norm ?_
          refine blk_norm ?_
          refine then_norm ?_
          refine cw_region ?_
          refine s_mv (v := .int .i64 s173.2) h8_ ?_
          refine s_add rfl rfl ?_
          refine s_as (v := .int .i64 (IntKind.i64.wrap (s173.2 + 1))) rfl ?_
          refine done ?_
          replace hC := hC.sel [2, 3, 4, 5, 6] [0, 1, 2] (M' := [own 86 9 v230 ((s173.1 ++ [(⟨r195, r225⟩ : Term)]).length) (ETerm.encs (s173.1 ++ [(⟨r195, r225⟩ : Term)])), blk b14 46 [v230], blk b11 46 [.slice none 0 0], blk b8 46 [u2_0], blk b5 86 (Term.enc a1)]) (Ps' := [Ty.item ETerm.ty.sl a2.terms [u2_0] fp2, Ty.item ((EI .i64).ty.sl) a0 [u0_0] fp0, Ty.item TForm a2 [u2_0] fp2]) (by decide) rfl rfl
          exact hK178 (s173.1 ++ [(⟨r195, r225⟩ : Term)], IntKind.i64.wrap (s173.2 + 1)) _ _ ⟨v230, h0_, h4_, h5_, h6_, h7_, rfl, hC⟩ h
        · replace h := iff_ h (cf hb213)
          refine wp_skip ?_
          refine blk_norm ?_
          refine then_norm ?_
          refine cw_region ?_
          refine s_mv (v := .int .i64 s173.2) h8_ ?_
          refine s_add rfl rfl ?_
          refine s_as (v := .int .i64 (IntKind.i64.wrap (s173.2 + 1))) rfl ?_
          refine done ?_
          replace hC := hC.sel [1, 2, 3, 4, 5] [0, 1, 2] (M' := [own 86 9 v174 s173.1.length (ETerm.encs s173.1), blk b14 46 [v174], blk b11 46 [.slice none 0 0], blk b8 46 [u2_0], blk b5 86 (Term.enc a1)]) (Ps' := [Ty.item ETerm.ty.sl a2.terms [u2_0] fp2, Ty.item ((EI .i64).ty.sl) a0 [u0_0] fp0, Ty.item TForm a2 [u2_0] fp2]) (by decide) rfl rfl
          exact hK178 (s173.1, IntKind.i64.wrap (s173.2 + 1)) _ _ ⟨v174, h0_, h4_, h5_, h6_, h7_, rfl, hC⟩ h
      refine ae_two 9 13 rfl rfl (by kernel_rfl) ?_ ?_
      · skip
        refine s_call [u0_0, .agg (List.toArray (A8.enc .u8 a1.mono)), .agg (List.toArray (A8.enc .u8 ((a2.terms.getD s173.2.toNat default).mono)))] _ Try.func133 rfl rfl rfl (c_spec_l01Joined a0 a1.mono ((a2.terms.getD s173.2.toNat default).mono) h _ (hC.getP 1 rfl)) (fun ret234 w236 hR235 => ?_)
        obtain ⟨r237, r238, rfl, h, hB239⟩ := hR235
        refine ⟨_, rfl, ?_⟩
        replace hC := hC.grow hB239
        refine done ?_
        refine ak_intro (by assumption) (listed' := (List.toArray [true, true, true, true, true, true, true, true, true, true, false, false, false, false, false, false])) rfl ?_
        refine ae_lookF belPre 10 (.tuple #[.agg (List.toArray (A8.enc .u8 r237)), .int .i64 r238]) rfl rfl (by kernel_rfl) (hM186 10 rfl) (fun w_ => .inl ⟨rfl, by exact r_mv (v := .tuple #[.agg (List.toArray (A8.enc .u8 r237)), .int .i64 r238]) rfl⟩) (listed' := (List.toArray [true, true, true, true, true, true, true, true, true, true, true, false, false, false, false, false])) rfl ?_
        refine ae_lookF belPre 11 (.agg (List.toArray (A8.enc .u8 r237))) rfl rfl (by kernel_rfl) (hM186 11 rfl) (fun w_ => .inl ⟨rfl, by exact r_ext (v := .agg (List.toArray (A8.enc .u8 r237))) rfl rfl⟩) (listed' := (List.toArray [true, true, true, true, true, true, true, true, true, true, true, true, false, false, false, false])) rfl ?_
        refine ae_lookF belPre 12 (.int .i64 r238) rfl rfl (by kernel_rfl) (hM186 12 rfl) (fun w_ => .inl ⟨rfl, by exact r_ext (v := .int .i64 r238) rfl rfl⟩) (listed' := (List.toArray [true, true, true, true, true, true, true, true, true, true, true, true, true, false, false, false])) rfl ?_
        refine ae_one 13 rfl (by kernel_rfl) ?_
        refine s_alloc hC (A8.enc .u8 A8.zero) z84 rfl fun b240 w242 hB_ hC => ?_
        refine done ?_
        refine ak_intro (by assumption) (listed' := (List.toArray [true, true, true, true, true, true, true, true, true, true, true, true, true, true, false, false])) rfl ?_
        refine ae_one 14 rfl (by kernel_rfl) ?_
        refine s_store (v := .agg (List.toArray (A8.enc .u8 r237))) hC 0 (A8.enc .u8 r237) (A8.enc .u8 r237) rfl ag84.size rfl rfl rfl rfl rfl (Nat.le_of_ble_eq_true rfl) rfl fun w243 hC => ?_
        refine done ?_
        refine ak_introN (by decide) (listed' := (List.toArray [true, true, true, true, true, true, true, true, true, true, true, true, true, true, true, false])) rfl ?_
        refine ae_tail 15 (by decide) (by decide) (by kernel_rfl) rfl rfl ?_
        refine s_as (v := .int .i64 r238) rfl ?_
        refine done ?_
        refine qn_norm ?_
        exact ⟨rfl, _, rfl, ⟨b240, r237, r238, h0_, h4_, h5_, h6_, h7_, h8_, rfl, rfl, rfl, rfl, rfl, rfl, rfl, rfl, rfl, rfl, rfl, rfl, rfl, rfl, rfl, rfl, rfl, rfl, rfl, rfl, hC, h⟩⟩
      · skip
        refine s_alloc hC (A8.enc .u8 A8.zero) z84 rfl fun b244 w246 hB_ hC => ?_
        refine done ?_
        refine ak_intro (by assumption) (listed' := (List.toArray [true, true, true, true, true, true, true, true, true, false, false, false, false, true, false, false])) rfl ?_
        refine ae_one 9 rfl (by kernel_rfl) ?_
        refine s_call [u0_0, .agg (List.toArray (A8.enc .u8 a1.mono)), .agg (List.toArray (A8.enc .u8 ((a2.terms.getD s173.2.toNat default).mono)))] _ Try.func133 rfl rfl rfl (c_spec_l01Joined a0 a1.mono ((a2.terms.getD s173.2.toNat default).mono) h _ (hC.getP 1 rfl)) (fun ret247 w249 hR248 => ?_)
        obtain ⟨r250, r251, rfl, h, hB252⟩ := hR248
        refine ⟨_, rfl, ?_⟩
        replace hC := hC.grow hB252
        refine done ?_
        refine ak_intro (by assumption) (listed' := (List.toArray [true, true, true, true, true, true, true, true, true, true, false, false, false, true, false, false])) rfl ?_
        refine ae_lookF belPre 10 (.tuple #[.agg (List.toArray (A8.enc .u8 r250)), .int .i64 r251]) rfl rfl (by kernel_rfl) (hM186 10 rfl) (fun w_ => .inl ⟨rfl, by exact r_mv (v := .tuple #[.agg (List.toArray (A8.enc .u8 r250)), .int .i64 r251]) rfl⟩) (listed' := (List.toArray [true, true, true, true, true, true, true, true, true, true, true, false, false, true, false, false])) rfl ?_
        refine ae_lookF belPre 11 (.agg (List.toArray (A8.enc .u8 r250))) rfl rfl (by kernel_rfl) (hM186 11 rfl) (fun w_ => .inl ⟨rfl, by exact r_ext (v := .agg (List.toArray (A8.enc .u8 r250))) rfl rfl⟩) (listed' := (List.toArray [true, true, true, true, true, true, true, true, true, true, true, true, false, true, false, false])) rfl ?_
        refine ae_lookF belPre 12 (.int .i64 r251) rfl rfl (by kernel_rfl) (hM186 12 rfl) (fun w_ => .inl ⟨rfl, by exact r_ext (v := .int .i64 r251) rfl rfl⟩) (listed' := (List.toArray [true, true, true, true, true, true, true, true, true, true, true, true, true, true, false, false])) rfl ?_
        refine ae_one 14 rfl (by kernel_rfl) ?_
        refine s_store (v := .agg (List.toArray (A8.enc .u8 r250))) hC 0 (A8.enc .u8 r250) (A8.enc .u8 r250) rfl ag84.size rfl rfl rfl rfl rfl (Nat.le_of_ble_eq_true rfl) rfl fun w253 hC => ?_
        refine done ?_
        refine ak_introN (by decide) (listed' := (List.toArray [true, true, true, true, true, true, true, true, true, true, true, true, true, true, true, false])) rfl ?_
        refine ae_tail 15 (by decide) (by decide) (by kernel_rfl) rfl rfl ?_
        refine s_as (v := .int .i64 r251) rfl ?_
        refine done ?_
        refine qn_norm ?_
        exact ⟨rfl, _, rfl, ⟨b244, r250, r251, h0_, h4_, h5_, h6_, h7_, h8_, rfl, rfl, rfl, rfl, rfl, rfl, rfl, rfl, rfl, rfl, rfl, rfl, rfl, rfl, rfl, rfl, rfl, rfl, rfl, rfl, hC, h⟩⟩
    · replace h := iff_ h (cf hb183)
      refine wp_exit (then_exit (then_exit (exit_in ?_)))
      refine then_norm ?_
      refine wp_seq ?_
      refine cw_region ?_
      refine s_loadA hC 1 [v174] rfl ag46 h7_ rfl rfl ?_
      refine s_store (v := .agg #[v174]) hC 2 [v174] [v174] rfl ag46.size h6_ rfl rfl rfl (all_c (own_oneC (hC.getM 0 rfl)) rfl) (Nat.le_of_ble_eq_true rfl) rfl fun w254 hC => ?_
      refine done ?_
      refine then_norm ?_
      refine wp_ret ?_
      refine ret1 (fn := Try.f122) rfl ?_ ⟨(⟨s173.1⟩ : Vc.Form), v174, (Option.toList (Value.ownBlock v174)), rfl, h, (form_join (own_item (hC.getM 0 rfl))), (own_fresh hC 0 rfl), hC.below⟩ (.inl rfl)
      exact res_cellA hC 2 rfl ag46 h6_ rfl
  · skip
    replace hC := hC.pushNil 86 9
    exact ⟨.slice none 0 0, rfl, rfl, rfl, rfl, rfl, rfl, hC⟩
def f_spec_l01Times (a0 : List Int) (a1 : Vc.Form) (a2 : Vc.Form) (K : Vc.Form → Prop) : Prop :=
  whileP (fun (s105 : (List Term) × Int) next108 => (if s105.2 < (a1.terms.length : Int) then ((0 ≤ s105.2 ∧ s105.2 < (a1.terms.length : Int)) ∧ f_spec_l01Shift a0 (a1.terms.getD s105.2.toNat default) a2 (fun r127 => f_spec_l01Add (⟨s105.1⟩ : Vc.Form) r127 1 (fun r140 => next108 (r140.terms, IntKind.i64.wrap (s105.2 + 1))))) else K (⟨s105.1⟩ : Vc.Form))) ([], 0)
theorem c_spec_l01Times (a0 : List Int) (a1 : Vc.Form) (a2 : Vc.Form) {u0_0 : Value} {u1_0 : Value} {u2_0 : Value} {fp0 : List Nat} {fp1 : List Nat} {fp2 : List Nat} {K : Vc.Form → Prop} (h : f_spec_l01Times a0 a1 a2 K) (w0 : World) (q0 : ((EI .i64).ty.sl).rep a0 [u0_0] fp0 w0) (q1 : TForm.rep a1 [u1_0] fp1 w0) (q2 : TForm.rep a2 [u2_0] fp2 w0) :
    Calls Try.prog 101 #[u0_0, .agg #[u1_0], .agg #[u2_0]] w0 fun e w' => ∃ (r0 : Vc.Form) (z0_0 : Value) (fz0 : List Nat), 
      e = .returned (.agg #[z0_0]) ∧ K r0 ∧ (Tr.item (TrForm 86) r0 [z0_0] fz0).holds w' ∧ (∀ b, b ∈ fz0 → w0.heap.size ≤ b) ∧ Bel w0 w' := by
  unfold f_spec_l01Times at h
  refine calls_of (args := [u0_0, .agg #[u1_0], .agg #[u2_0]]) Try.func101 rfl 28 Try.ntmps101 (Nat.le_of_ble_eq_true rfl) ?_
  have hC := Ctx.start (X := Nox) w0 [Ty.item ((EI .i64).ty.sl) a0 [u0_0] fp0, Ty.item TForm a1 [u1_0] fp1, Ty.item TForm a2 [u2_0] fp2] (by simp only [List.mem_cons, List.not_mem_nil, or_false, forall_eq_or_imp, forall_eq]; exact ⟨q0, q1, q2⟩)
  have hp4 := (hC.getP 1 rfl)
  replace hC := hC.derive 1 rfl (Ty.item ETerm.ty.sl a1.terms [u1_0] fp1) (fun _ => (form_parts hp4)) (fun _ hb_ => hb_)
  have hp6 := (hC.getP 3 rfl)
  replace hC := hC.derive 3 rfl (Ty.item ETerm.ty.sl a2.terms [u2_0] fp2) (fun _ => (form_parts hp6)) (fun _ hb_ => hb_)
  refine wp_seq ?_
  refine cw_region ?_
  refine s_box (v := .agg #[u1_0]) hC [u1_0] rfl rfl fun b8 w10 hB_ hC => ?_
  refine s_box (v := .agg #[u2_0]) hC [u2_0] rfl rfl fun b11 w13 hB_ hC => ?_
  refine s_alloc hC [.slice none 0 0] z46 rfl fun b14 w16 hB_ hC => ?_
  refine done ?_
  refine then_norm ?_
  refine wp_seq ?_
  refine cw_region ?_
  refine s_build [] rfl (bl46   _) ?_
  refine s_alloc hC [.slice none 0 0] z46 rfl fun b17 w19 hB_ hC => ?_
  refine s_store (v := .agg #[.slice none 0 0]) hC 0 [.slice none 0 0] [.slice none 0 0] rfl ag46.size rfl rfl rfl rfl rfl (Nat.le_of_ble_eq_true rfl) rfl fun w20 hC => ?_
  refine done ?_
  refine then_norm ?_
  refine wp_seq ?_
  refine wp_seq ?_
  refine cw_region ?_
  refine s_as (v := .int .i64 0) rfl ?_
  refine done ?_
  refine then_norm ?_
  refine wp_block ?_
  refine loopW (S := (List Term) × Int) _ (fun s105 e_ w_ => ∃ (v106 : Value), e_ 0 = u0_0 ∧ e_ 4 = .pointer (some ⟨b8, 0, none⟩) ∧ e_ 5 = .pointer (some ⟨b11, 0, none⟩) ∧ e_ 6 = .pointer (some ⟨b14, 0, none⟩) ∧ e_ 7 = .pointer (some ⟨b17, 0, none⟩) ∧ e_ 8 = .int .i64 s105.2 ∧ Ctx Nox w0 w_ [own 86 9 v106 s105.1.length (ETerm.encs s105.1), blk b17 46 [v106], blk b14 46 [.slice none 0 0], blk b11 46 [u2_0], blk b8 46 [u1_0]] [Ty.item ETerm.ty.sl a2.terms [u2_0] fp2, Ty.item ETerm.ty.sl a1.terms [u1_0] fp1, Ty.item ((EI .i64).ty.sl) a0 [u0_0] fp0, Ty.item TForm a1 [u1_0] fp1, Ty.item TForm a2 [u2_0] fp2]) ?_ (s0 := ([], 0)) ?_ h
  · clear hC h
    rintro s105 e_ w111 next108 K109 ⟨v106, h0_, h4_, h5_, h6_, h7_, h8_, hC⟩ h hK110
    refine wp_seq ?_
    refine wp_seq ?_
    refine cw_region ?_
    refine s_mv (v := .int .i64 s105.2) h8_ ?_
    refine s_faddrB 0 Try.underlying46 rfl sc44.size h4_ rfl ?_
    refine s_loadS hC 4 (u1_0) rfl sc44 rfl rfl ?_
    obtain ⟨Ad112, c113, hv114⟩ := sl_len (hC.getP 1 rfl)
    refine s_len Try.underlying44 (tr rfl hv114) ?_
    refine s_lss rfl rfl ?_
    refine done ?_
    refine then_norm ?_
    refine cw_cond rfl (fun hb115 => ?_) (fun hb115 => ?_)
    · replace h := ift h (ct hb115)
      refine wp_skip ?_
      refine then_norm ?_
      refine wp_seq ?_
      refine wp_block ?_
      refine cw_draw 9 mixed [0, 0, 0, 4, 0, 28, 60, 0, 254, 511, 1023] [0, 3, 5, 6, 7] [1, 2, 4] (by kernel_rfl) (by kernel_rfl) (by kernel_rfl) (fun hM117 hM118 w116 hB_ => ?_)
      replace hC := hC.grow hB_
      refine ae_look belPre 0 (.agg #[v106]) rfl rfl (by kernel_rfl) (hM117 0 rfl) (fun w_ hB_ => .inl ⟨rfl, by exact r_loadA (hC.grow hB_) 1 [v106] rfl ag46 h7_ rfl rfl⟩) (listed' := (List.toArray [true, false, false, false, false, false, false, false, false, false, false])) rfl ?_
      refine ae_lookF belPre 1 (u0_0) rfl rfl (by kernel_rfl) (hM118 1 rfl) (fun w_ => .inl ⟨rfl, by exact r_mv (v := u0_0) h0_⟩) (listed' := (List.toArray [true, true, false, false, false, false, false, false, false, false, false])) rfl ?_
      refine ae_lookF belPre 2 (.pointer (some ⟨b8, 0, none⟩)) rfl rfl (by kernel_rfl) (hM118 2 rfl) (fun w_ => .inl ⟨rfl, by exact r_faddrB 0 Try.underlying46 rfl sc44.size h4_ rfl⟩) (listed' := (List.toArray [true, true, true, false, false, false, false, false, false, false, false])) rfl ?_
      refine ae_look belPre 3 (u1_0) rfl rfl (by kernel_rfl) (hM117 3 rfl) (fun w_ hB_ => .inl ⟨rfl, by exact r_loadS (hC.grow hB_) 4 (u1_0) rfl sc44 rfl rfl⟩) (listed' := (List.toArray [true, true, true, true, false, false, false, false, false, false, false])) rfl ?_
      refine ae_lookF belPre 4 (.int .i64 s105.2) rfl rfl (by kernel_rfl) (hM118 4 rfl) (fun w_ => .inl ⟨rfl, by exact r_mv (v := .int .i64 s105.2) h8_⟩) (listed' := (List.toArray [true, true, true, true, true, false, false, false, false, false, false])) rfl ?_
      obtain ⟨⟨h0_119, h1_120⟩, h⟩ := h
      obtain ⟨Ad121, c122, hv123⟩ := sl_form (hC.getP 1 rfl) s105.2.toNat (show s105.2.toNat < a1.terms.length by omega)
      refine ae_look belPre 5 (.pointer (some (Ad121.add (s105.2.toNat * 9)))) rfl rfl (by kernel_rfl) (hM117 5 rfl) (fun w_ hB_ => .inl ⟨rfl, by exact r_iaddrS (len := a1.terms.length) Try.underlying44 ag86.size (by exact tr rfl hv123) rfl h0_119 h1_120⟩) (listed' := (List.toArray [true, true, true, true, true, true, false, false, false, false, false])) rfl ?_
      refine ae_look belPre 6 (.agg (List.toArray (Term.enc (a1.terms.getD s105.2.toNat default)))) rfl rfl (by kernel_rfl) (hM117 6 rfl) (fun w_ hB_ => .inl ⟨rfl, by exact r_loadCA (Term.enc (a1.terms.getD s105.2.toNat default)) (sl_cellsE ((hC.grow hB_).getP 1 rfl) hv123 s105.2.toNat (show s105.2.toNat < a1.terms.length by omega)) ag86 rfl rfl⟩) (listed' := (List.toArray [true, true, true, true, true, true, true, false, false, false, false])) rfl ?_
      refine ae_look belPre 7 (.agg #[u2_0]) rfl rfl (by kernel_rfl) (hM117 7 rfl) (fun w_ hB_ => .inl ⟨rfl, by exact r_loadA (hC.grow hB_) 3 [u2_0] rfl ag46 h5_ rfl rfl⟩) (listed' := (List.toArray [true, true, true, true, true, true, true, true, false, false, false])) rfl ?_
      refine ae_one 8 rfl (by kernel_rfl) ?_
      refine s_call [u0_0, .agg (List.toArray (Term.enc (a1.terms.getD s105.2.toNat default))), .agg #[u2_0]] _ Try.func122 rfl rfl rfl (c_spec_l01Shift a0 (a1.terms.getD s105.2.toNat default) a2 h _ (hC.getP 2 rfl) (form_mk (hC.getP 0 rfl))) (fun ret124 w126 hR125 => ?_)
      obtain ⟨r127, u128, f129, rfl, h, hr130, hf131, hB132⟩ := hR125
      refine ⟨_, rfl, ?_⟩
      replace hC := hC.push hB132 (Tr.item (TrForm 86) r127 [u128] f129) hr130 hf131
      obtain ⟨ho134, hf135⟩ := form_split (hC.getM 0 rfl)
      subst hf135
      replace hC := hC.recast (c := own 86 9 u128 r127.terms.length (ETerm.encs r127.terms)) (fun _ h_ => h_) (fun _ => ho134)
      refine done ?_
      refine ak_intro (by assumption) (listed' := (List.toArray [true, true, true, true, true, true, true, true, true, false, false])) rfl ?_
      refine ae_tail 9 (by decide) (by decide) (by kernel_rfl) rfl rfl ?_
      refine s_call [.agg #[v106], .agg #[u128], .int .i64 1] _ Try.func103 rfl rfl rfl (c_spec_l01Add (⟨s105.1⟩ : Vc.Form) r127 1 h _ (form_mk (own_repE (hC.getM 1 rfl))) (form_mk (own_repE (hC.getM 0 rfl)))) (fun ret137 w139 hR138 => ?_)
      obtain ⟨r140, u141, f142, rfl, h, hr143, hf144, hB145⟩ := hR138
      refine ⟨_, rfl, ?_⟩
      replace hC := hC.push hB145 (Tr.item (TrForm 86) r140 [u141] f142) hr143 hf144
      obtain ⟨ho147, hf148⟩ := form_split (hC.getM 0 rfl)
      subst hf148
      replace hC := hC.recast (c := own 86 9 u141 r140.terms.length (ETerm.encs r140.terms)) (fun _ h_ => h_) (fun _ => ho147)
      refine s_store (v := .agg #[u141]) hC 3 [u141] [u141] rfl ag46.size h7_ rfl rfl rfl (all_c (own_oneC (hC.getM 0 rfl)) rfl) (Nat.le_of_ble_eq_true rfl) rfl fun w150 hC => ?_
      refine done ?_
      refine qn_norm ?_
      refine blk_norm ?_
      refine then_norm ?_
      refine cw_region ?_
      refine s_mv (v := .int .i64 s105.2) h8_ ?_
      refine s_add rfl rfl ?_
      refine s_as (v := .int .i64 (IntKind.i64.wrap (s105.2 + 1))) rfl ?_
      refine done ?_
      replace hC := hC.sel [0, 3, 4, 5, 6] [0, 1, 2, 3, 4] (M' := [own 86 9 u141 r140.terms.length (ETerm.encs r140.terms), blk b17 46 [u141], blk b14 46 [.slice none 0 0], blk b11 46 [u2_0], blk b8 46 [u1_0]]) (Ps' := [Ty.item ETerm.ty.sl a2.terms [u2_0] fp2, Ty.item ETerm.ty.sl a1.terms [u1_0] fp1, Ty.item ((EI .i64).ty.sl) a0 [u0_0] fp0, Ty.item TForm a1 [u1_0] fp1, Ty.item TForm a2 [u2_0] fp2]) (by decide) rfl rfl
      exact hK110 (r140.terms, IntKind.i64.wrap (s105.2 + 1)) _ _ ⟨u141, h0_, h4_, h5_, h6_, h7_, rfl, hC⟩ h
    · replace h := iff_ h (cf hb115)
      refine wp_exit (then_exit (then_exit (exit_in ?_)))
      refine then_norm ?_
      refine wp_seq ?_
      refine cw_region ?_
      refine s_loadA hC 1 [v106] rfl ag46 h7_ rfl rfl ?_
      refine s_store (v := .agg #[v106]) hC 2 [v106] [v106] rfl ag46.size h6_ rfl rfl rfl (all_c (own_oneC (hC.getM 0 rfl)) rfl) (Nat.le_of_ble_eq_true rfl) rfl fun w151 hC => ?_
      refine done ?_
      refine then_norm ?_
      refine wp_ret ?_
      refine ret1 (fn := Try.f101) rfl ?_ ⟨(⟨s105.1⟩ : Vc.Form), v106, (Option.toList (Value.ownBlock v106)), rfl, h, (form_join (own_item (hC.getM 0 rfl))), (own_fresh hC 0 rfl), hC.below⟩ (.inl rfl)
      exact res_cellA hC 2 rfl ag46 h6_ rfl
  · skip
    replace hC := hC.pushNil 86 9
    exact ⟨.slice none 0 0, rfl, rfl, rfl, rfl, rfl, rfl, hC⟩
def f_spec_l01Is (a0 : List Int) (a1 : Vc.Form) (K : Bool → Prop) : Prop :=
  whileP (fun (s96 : Int) next97 => (if s96 < (a1.terms.length : Int) then ((0 ≤ s96 ∧ s96 < (a1.terms.length : Int)) ∧ f_spec_l01Mono a0 ((a1.terms.getD s96.toNat default).mono) (fun r120 => (if ¬ (r120 = true) then K false else f_spec_l01In ((a1.terms.getD s96.toNat default).factor) 1 10006 (fun r126 => (if ¬ (r126 = true) then K false else (if s96 > 0 then ((0 ≤ IntKind.i64.wrap (s96 - 1) ∧ IntKind.i64.wrap (s96 - 1) < (a1.terms.length : Int)) ∧ f_spec_l01Before ((a1.terms.getD ((IntKind.i64.wrap (s96 - 1)).toNat) default).mono) ((a1.terms.getD s96.toNat default).mono) (fun r138 => (if ¬ (r138 = true) then K false else next97 (IntKind.i64.wrap (s96 + 1))))) else next97 (IntKind.i64.wrap (s96 + 1)))))))) else K (decide ((a1.terms.length : Int) ≤ 400)))) 0
theorem c_spec_l01Is (a0 : List Int) (a1 : Vc.Form) {u0_0 : Value} {u1_0 : Value} {fp0 : List Nat} {fp1 : List Nat} {K : Bool → Prop} (h : f_spec_l01Is a0 a1 K) (w0 : World) (q0 : ((EI .i64).ty.sl).rep a0 [u0_0] fp0 w0) (q1 : TForm.rep a1 [u1_0] fp1 w0) :
    Calls Try.prog 54 #[u0_0, .agg #[u1_0]] w0 fun e w' => ∃ (r0 : Bool), 
      e = .returned (.bool r0) ∧ K r0 ∧ Bel w0 w' := by
  unfold f_spec_l01Is at h
  refine calls_of (args := [u0_0, .agg #[u1_0]]) Try.func54 rfl 51 Try.ntmps54 (Nat.le_of_ble_eq_true rfl) ?_
  have hC := Ctx.start (X := Nox) w0 [Ty.item ((EI .i64).ty.sl) a0 [u0_0] fp0, Ty.item TForm a1 [u1_0] fp1] (by simp only [List.mem_cons, List.not_mem_nil, or_false, forall_eq_or_imp, forall_eq]; exact ⟨q0, q1⟩)
  have hp3 := (hC.getP 1 rfl)
  replace hC := hC.derive 1 rfl (Ty.item ETerm.ty.sl a1.terms [u1_0] fp1) (fun _ => (form_parts hp3)) (fun _ hb_ => hb_)
  refine wp_seq ?_
  refine cw_region ?_
  refine s_box (v := .agg #[u1_0]) hC [u1_0] rfl rfl fun b5 w7 hB_ hC => ?_
  refine s_as (v := .bool false) rfl ?_
  refine done ?_
  refine then_norm ?_
  refine wp_seq ?_
  refine wp_seq ?_
  refine cw_region ?_
  refine s_as (v := .int .i64 0) rfl ?_
  refine done ?_
  refine then_norm ?_
  refine wp_block ?_
  refine loopW (S := Int) _ (fun s96 e_ w_ => e_ 0 = u0_0 ∧ e_ 3 = .pointer (some ⟨b5, 0, none⟩) ∧ e_ 4 = .bool false ∧ e_ 5 = .int .i64 s96 ∧ Ctx Nox w0 w_ [blk b5 46 [u1_0]] [Ty.item ETerm.ty.sl a1.terms [u1_0] fp1, Ty.item ((EI .i64).ty.sl) a0 [u0_0] fp0, Ty.item TForm a1 [u1_0] fp1]) ?_ (s0 := 0) ?_ h
  · clear hC h
    rintro s96 e_ w100 next97 K98 ⟨h0_, h3_, h4_, h5_, hC⟩ h hK99
    refine wp_seq ?_
    refine wp_seq ?_
    refine cw_region ?_
    refine s_mv (v := .int .i64 s96) h5_ ?_
    refine s_faddrB 0 Try.underlying46 rfl sc44.size h3_ rfl ?_
    refine s_loadS hC 0 (u1_0) rfl sc44 rfl rfl ?_
    obtain ⟨Ad101, c102, hv103⟩ := sl_len (hC.getP 0 rfl)
    refine s_len Try.underlying44 (tr rfl hv103) ?_
    refine s_lss rfl rfl ?_
    refine done ?_
    refine then_norm ?_
    refine cw_cond rfl (fun hb104 => ?_) (fun hb104 => ?_)
    · replace h := ift h (ct hb104)
      refine wp_skip ?_
      refine then_norm ?_
      refine wp_seq ?_
      refine wp_block ?_
      refine wp_seq ?_
      refine cw_region ?_
      refine s_faddrB 0 Try.underlying46 rfl sc44.size h3_ rfl ?_
      refine s_loadS hC 0 (u1_0) rfl sc44 rfl rfl ?_
      refine s_mv (v := .int .i64 s96) h5_ ?_
      obtain ⟨⟨h0_105, h1_106⟩, h⟩ := h
      obtain ⟨Ad107, c108, hv109⟩ := sl_form (hC.getP 0 rfl) s96.toNat (show s96.toNat < a1.terms.length by omega)
      refine s_iaddrS (len := a1.terms.length) Try.underlying44 ag86.size (tr rfl hv109) rfl h0_105 h1_106 ?_
      refine s_loadCA (Term.enc (a1.terms.getD s96.toNat default)) (sl_cellsE (hC.getP 0 rfl) hv109 s96.toNat (show s96.toNat < a1.terms.length by omega)) ag86 rfl rfl ?_
      refine s_alloc hC (Term.enc (⟨A8.zero, 0⟩ : Term)) z86 rfl fun b110 w112 hB_ hC => ?_
      refine s_store (v := .agg (List.toArray (Term.enc (a1.terms.getD s96.toNat default)))) hC 0 (Term.enc (a1.terms.getD s96.toNat default)) (Term.enc (a1.terms.getD s96.toNat default)) rfl ag86.size rfl rfl rfl rfl rfl (Nat.le_of_ble_eq_true rfl) rfl fun w113 hC => ?_
      refine done ?_
      refine then_norm ?_
      refine wp_seq ?_
      refine cw_draw 24 mixed [0, 0, 2, 7, 15, 31, 63, 127, 255, 511, 1023, 2047, 4095, 8191, 16383, 32767, 65535, 32767, 163839, 524287, 1048575, 2097151, 32767, 4227071, 16777215, 33554431, 67108863, 134217727] [2, 7, 16, 19, 21, 23] [0, 1, 4, 5, 6, 7, 8, 9, 10, 11, 12, 13, 14, 15, 16, 17, 18, 19, 20, 21, 22, 23] (by kernel_rfl) (by kernel_rfl) (by kernel_rfl) (fun hM115 hM116 w114 hB_ => ?_)
      replace hC := hC.grow hB_
      refine ae_lookF belPre 0 (u0_0) rfl rfl (by kernel_rfl) (hM116 0 rfl) (fun w_ => .inl ⟨rfl, by exact r_mv (v := u0_0) h0_⟩) (listed' := (List.toArray [true, false, false, false, false, false, false, false, false, false, false, false, false, false, false, false, false, false, false, false, false, false, false, false, false, false, false, false])) rfl ?_
      refine ae_lookF belPre 1 (.pointer (some ⟨b110, 0, none⟩)) rfl rfl (by kernel_rfl) (hM116 1 rfl) (fun w_ => .inl ⟨rfl, by exact r_faddrB 0 Try.underlying86 rfl ag84.size rfl rfl⟩) (listed' := (List.toArray [true, true, false, false, false, false, false, false, false, false, false, false, false, false, false, false, false, false, false, false, false, false, false, false, false, false, false, false])) rfl ?_
      refine ae_look belPre 2 (.agg (List.toArray (A8.enc .u8 ((a1.terms.getD s96.toNat default).mono)))) rfl rfl (by kernel_rfl) (hM115 2 rfl) (fun w_ hB_ => .inl ⟨rfl, by exact r_loadA (hC.grow hB_) 0 (A8.enc .u8 ((a1.terms.getD s96.toNat default).mono)) rfl ag84 rfl rfl rfl⟩) (listed' := (List.toArray [true, true, true, false, false, false, false, false, false, false, false, false, false, false, false, false, false, false, false, false, false, false, false, false, false, false, false, false])) rfl ?_
      refine ae_one 3 rfl (by kernel_rfl) ?_
      refine s_call [u0_0, .agg (List.toArray (A8.enc .u8 ((a1.terms.getD s96.toNat default).mono)))] _ Try.func85 rfl rfl rfl (c_spec_l01Mono a0 ((a1.terms.getD s96.toNat default).mono) h _ (hC.getP 1 rfl)) (fun ret117 w119 hR118 => ?_)
      obtain ⟨r120, rfl, h, hB121⟩ := hR118
      refine ⟨_, rfl, ?_⟩
      replace hC := hC.grow hB121
      refine done ?_
      refine ak_intro (by assumption) (listed' := (List.toArray [true, true, true, true, false, false, false, false, false, false, false, false, false, false, false, false, false, false, false, false, false, false, false, false, false, false, false, false])) rfl ?_
      refine ae_lookF belPre 4 (.bool (!r120)) rfl rfl (by kernel_rfl) (hM116 4 rfl) (fun w_ => .inl ⟨rfl, by exact r_not rfl⟩) (listed' := (List.toArray [true, true, true, true, true, false, false, false, false, false, false, false, false, false, false, false, false, false, false, false, false, false, false, false, false, false, false, false])) rfl ?_
      refine ae_lookF belPre 5 (.bool (!r120)) rfl rfl (by kernel_rfl) (hM116 5 rfl) (fun w_ => .inl ⟨rfl, by exact r_mv (v := .bool (!r120)) rfl⟩) (listed' := (List.toArray [true, true, true, true, true, true, false, false, false, false, false, false, false, false, false, false, false, false, false, false, false, false, false, false, false, false, false, false])) rfl ?_
      refine bsplit (!r120) (fun hb122 => ?_) (fun hb122 => ?_)
      · replace h := ift h (ne_t (not_t hb122))
        refine ae_lookF belPre 6 undef rfl rfl (by kernel_rfl) (hM116 6 rfl) (fun w_ => .inr ⟨wanted_off (b := true) 5 24 rfl (tr rfl (congrArg _ hb122)) (by decide), rfl⟩) (listed' := (List.toArray [true, true, true, true, true, true, true, false, false, false, false, false, false, false, false, false, false, false, false, false, false, false, false, false, false, false, false, false])) rfl ?_
        refine ae_lookF belPre 7 undef rfl rfl (by kernel_rfl) (hM116 7 rfl) (fun w_ => .inr ⟨wanted_off (b := true) 5 24 rfl (tr rfl (congrArg _ hb122)) (by decide), rfl⟩) (listed' := (List.toArray [true, true, true, true, true, true, true, true, false, false, false, false, false, false, false, false, false, false, false, false, false, false, false, false, false, false, false, false])) rfl ?_
        refine ae_lookF belPre 8 undef rfl rfl (by kernel_rfl) (hM116 8 rfl) (fun w_ => .inr ⟨wanted_off (b := true) 5 24 rfl (tr rfl (congrArg _ hb122)) (by decide), rfl⟩) (listed' := (List.toArray [true, true, true, true, true, true, true, true, true, false, false, false, false, false, false, false, false, false, false, false, false, false, false, false, false, false, false, false])) rfl ?_
        refine ae_lookF belPre 9 undef rfl rfl (by kernel_rfl) (hM116 9 rfl) (fun w_ => .inr ⟨wanted_off (b := true) 5 24 rfl (tr rfl (congrArg _ hb122)) (by decide), rfl⟩) (listed' := (List.toArray [true, true, true, true, true, true, true, true, true, true, false, false, false, false, false, false, false, false, false, false, false, false, false, false, false, false, false, false])) rfl ?_
        refine ae_lookF belPre 10 (.bool true) rfl rfl (by kernel_rfl) (hM116 10 rfl) (fun w_ => .inl ⟨rfl, by exact r_pick (v := .bool true) (b := true) (by exact tr rfl (congrArg _ hb122)) rfl⟩) (listed' := (List.toArray [true, true, true, true, true, true, true, true, true, true, true, false, false, false, false, false, false, false, false, false, false, false, false, false, false, false, false, false])) rfl ?_
        refine ae_lookF belPre 11 (.bool true) rfl rfl (by kernel_rfl) (hM116 11 rfl) (fun w_ => .inl ⟨rfl, by exact r_mv (v := .bool true) rfl⟩) (listed' := (List.toArray [true, true, true, true, true, true, true, true, true, true, true, true, false, false, false, false, false, false, false, false, false, false, false, false, false, false, false, false])) rfl ?_
        refine ae_lookF belPre 12 undef rfl rfl (by kernel_rfl) (hM116 12 rfl) (fun w_ => .inr ⟨wanted_off (b := true) 11 30 rfl (tr rfl (congrArg _ rfl)) (by decide), rfl⟩) (listed' := (List.toArray [true, true, true, true, true, true, true, true, true, true, true, true, true, false, false, false, false, false, false, false, false, false, false, false, false, false, false, false])) rfl ?_
        refine ae_lookF belPre 13 undef rfl rfl (by kernel_rfl) (hM116 13 rfl) (fun w_ => .inr ⟨wanted_off (b := true) 11 30 rfl (tr rfl (congrArg _ rfl)) (by decide), rfl⟩) (listed' := (List.toArray [true, true, true, true, true, true, true, true, true, true, true, true, true, true, false, false, false, false, false, false, false, false, false, false, false, false, false, false])) rfl ?_
        refine ae_lookF belPre 14 undef rfl rfl (by kernel_rfl) (hM116 14 rfl) (fun w_ => .inr ⟨wanted_off (b := true) 11 30 rfl (tr rfl (congrArg _ rfl)) (by decide), rfl⟩) (listed' := (List.toArray [true, true, true, true, true, true, true, true, true, true, true, true, true, true, true, false, false, false, false, false, false, false, false, false, false, false, false, false])) rfl ?_
        refine ae_lookF belPre 15 undef rfl rfl (by kernel_rfl) (hM116 15 rfl) (fun w_ => .inr ⟨wanted_offU 14 33 rfl rfl, rfl⟩) (listed' := (List.toArray [true, true, true, true, true, true, true, true, true, true, true, true, true, true, true, true, false, false, false, false, false, false, false, false, false, false, false, false])) rfl ?_
        refine ae_lookF belPre 16 undef rfl rfl (by kernel_rfl) (hM116 16 rfl) (fun w_ => .inr ⟨wanted_offU 14 33 rfl rfl, rfl⟩) (listed' := (List.toArray [true, true, true, true, true, true, true, true, true, true, true, true, true, true, true, true, true, false, false, false, false, false, false, false, false, false, false, false])) rfl ?_
        refine ae_lookF belPre 17 undef rfl rfl (by kernel_rfl) (hM116 17 rfl) (fun w_ => .inr ⟨wanted_offU 14 33 rfl rfl, rfl⟩) (listed' := (List.toArray [true, true, true, true, true, true, true, true, true, true, true, true, true, true, true, true, true, true, false, false, false, false, false, false, false, false, false, false])) rfl ?_
        refine ae_lookF belPre 18 undef rfl rfl (by kernel_rfl) (hM116 18 rfl) (fun w_ => .inr ⟨wanted_offU 14 33 rfl rfl, rfl⟩) (listed' := (List.toArray [true, true, true, true, true, true, true, true, true, true, true, true, true, true, true, true, true, true, true, false, false, false, false, false, false, false, false, false])) rfl ?_
        refine ae_lookF belPre 19 undef rfl rfl (by kernel_rfl) (hM116 19 rfl) (fun w_ => .inr ⟨wanted_offU 14 33 rfl rfl, rfl⟩) (listed' := (List.toArray [true, true, true, true, true, true, true, true, true, true, true, true, true, true, true, true, true, true, true, true, false, false, false, false, false, false, false, false])) rfl ?_
        refine ae_lookF belPre 20 undef rfl rfl (by kernel_rfl) (hM116 20 rfl) (fun w_ => .inr ⟨wanted_offU 14 33 rfl rfl, rfl⟩) (listed' := (List.toArray [true, true, true, true, true, true, true, true, true, true, true, true, true, true, true, true, true, true, true, true, true, false, false, false, false, false, false, false])) rfl ?_
        refine ae_lookF belPre 21 undef rfl rfl (by kernel_rfl) (hM116 21 rfl) (fun w_ => .inr ⟨wanted_offU 14 33 rfl rfl, rfl⟩) (listed' := (List.toArray [true, true, true, true, true, true, true, true, true, true, true, true, true, true, true, true, true, true, true, true, true, true, false, false, false, false, false, false])) rfl ?_
        refine ae_lookF belPre 22 undef rfl rfl (by kernel_rfl) (hM116 22 rfl) (fun w_ => .inr ⟨wanted_offU 14 33 rfl rfl, rfl⟩) (listed' := (List.toArray [true, true, true, true, true, true, true, true, true, true, true, true, true, true, true, true, true, true, true, true, true, true, true, false, false, false, false, false])) rfl ?_
        refine ae_lookF belPre 23 undef rfl rfl (by kernel_rfl) (hM116 23 rfl) (fun w_ => .inr ⟨wanted_offU 14 33 rfl rfl, rfl⟩) (listed' := (List.toArray [true, true, true, true, true, true, true, true, true, true, true, true, true, true, true, true, true, true, true, true, true, true, true, true, false, false, false, false])) rfl ?_
        refine ae_tail 24 (by decide) (by decide) (by kernel_rfl) rfl rfl ?_
        refine guardOffU 14 33 rfl rfl ?_
        refine guardOffU 14 33 rfl rfl ?_
        refine guardOff (b := true) 11 30 rfl (tr rfl (congrArg _ rfl)) (by decide) ?_
        refine s_pick (v := .bool true) (b := true) rfl rfl ?_
        refine done ?_
        refine qn_norm ?_
        refine then_norm ?_
        refine cw_true rfl rfl ?_
        refine wp_seq ?_
        refine cw_region ?_
        refine s_as (v := .bool false) rfl ?_
        refine done ?_
        refine then_norm ?_
        refine wp_ret (blk_ret (then_ret (then_ret (blk_ret (then_ret ?_)))))
        refine ret1 (fn := Try.f54) rfl ?_ ⟨false, rfl, h, hC.below⟩ (.inl rfl)
        exact res_tmp rfl
      · replace h := iff_ h (not_not_intro ((not_f hb122)))
        refine ae_lookF belPre 6 (.pointer (some ⟨b110, 8, none⟩)) rfl rfl (by kernel_rfl) (hM116 6 rfl) (fun w_ => .inl ⟨wanted_on 5 24 rfl rfl hb122, by exact r_faddrB 8 Try.underlying86 rfl sc2.size rfl rfl⟩) (listed' := (List.toArray [true, true, true, true, true, true, true, false, false, false, false, false, false, false, false, false, false, false, false, false, false, false, false, false, false, false, false, false])) rfl ?_
        refine ae_look belPre 7 (.int .i64 ((a1.terms.getD s96.toNat default).factor)) rfl rfl (by kernel_rfl) (hM115 7 rfl) (fun w_ hB_ => .inl ⟨wanted_on 5 24 rfl rfl hb122, by exact r_loadS (hC.grow hB_) 0 (.int .i64 ((a1.terms.getD s96.toNat default).factor)) rfl sc2 rfl rfl⟩) (listed' := (List.toArray [true, true, true, true, true, true, true, true, false, false, false, false, false, false, false, false, false, false, false, false, false, false, false, false, false, false, false, false])) rfl ?_
        refine ae_one 8 rfl (by kernel_rfl) ?_
        refine guardOn 5 24 rfl rfl hb122 ?_
        refine s_call [.int .i64 ((a1.terms.getD s96.toNat default).factor), .int .i64 1, .int .i64 10006] _ Try.func86 rfl rfl rfl (c_spec_l01In ((a1.terms.getD s96.toNat default).factor) 1 10006 h _) (fun ret123 w125 hR124 => ?_)
        obtain ⟨r126, rfl, h, hB127⟩ := hR124
        refine ⟨_, rfl, ?_⟩
        replace hC := hC.grow hB127
        refine done ?_
        refine ak_intro (by assumption) (listed' := (List.toArray [true, true, true, true, true, true, true, true, true, false, false, false, false, false, false, false, false, false, false, false, false, false, false, false, false, false, false, false])) rfl ?_
        refine ae_lookF belPre 9 (.bool (!r126)) rfl rfl (by kernel_rfl) (hM116 9 rfl) (fun w_ => .inl ⟨wanted_on 5 24 rfl rfl hb122, by exact r_not rfl⟩) (listed' := (List.toArray [true, true, true, true, true, true, true, true, true, true, false, false, false, false, false, false, false, false, false, false, false, false, false, false, false, false, false, false])) rfl ?_
        refine ae_lookF belPre 10 (.bool (!r126)) rfl rfl (by kernel_rfl) (hM116 10 rfl) (fun w_ => .inl ⟨rfl, by exact r_pick (v := .bool (!r126)) (b := false) (by exact tr rfl (congrArg _ hb122)) rfl⟩) (listed' := (List.toArray [true, true, true, true, true, true, true, true, true, true, true, false, false, false, false, false, false, false, false, false, false, false, false, false, false, false, false, false])) rfl ?_
        refine ae_lookF belPre 11 (.bool (!r126)) rfl rfl (by kernel_rfl) (hM116 11 rfl) (fun w_ => .inl ⟨rfl, by exact r_mv (v := .bool (!r126)) rfl⟩) (listed' := (List.toArray [true, true, true, true, true, true, true, true, true, true, true, true, false, false, false, false, false, false, false, false, false, false, false, false, false, false, false, false])) rfl ?_
        refine bsplit (!r126) (fun hb128 => ?_) (fun hb128 => ?_)
        · replace h := ift h (ne_t (not_t hb128))
          refine ae_lookF belPre 12 undef rfl rfl (by kernel_rfl) (hM116 12 rfl) (fun w_ => .inr ⟨wanted_off (b := true) 11 30 rfl (tr rfl (congrArg _ hb128)) (by decide), rfl⟩) (listed' := (List.toArray [true, true, true, true, true, true, true, true, true, true, true, true, true, false, false, false, false, false, false, false, false, false, false, false, false, false, false, false])) rfl ?_
          refine ae_lookF belPre 13 undef rfl rfl (by kernel_rfl) (hM116 13 rfl) (fun w_ => .inr ⟨wanted_off (b := true) 11 30 rfl (tr rfl (congrArg _ hb128)) (by decide), rfl⟩) (listed' := (List.toArray [true, true, true, true, true, true, true, true, true, true, true, true, true, true, false, false, false, false, false, false, false, false, false, false, false, false, false, false])) rfl ?_
          refine ae_lookF belPre 14 undef rfl rfl (by kernel_rfl) (hM116 14 rfl) (fun w_ => .inr ⟨wanted_off (b := true) 11 30 rfl (tr rfl (congrArg _ hb128)) (by decide), rfl⟩) (listed' := (List.toArray [true, true, true, true, true, true, true, true, true, true, true, true, true, true, true, false, false, false, false, false, false, false, false, false, false, false, false, false])) rfl ?_
          refine ae_lookF belPre 15 undef rfl rfl (by kernel_rfl) (hM116 15 rfl) (fun w_ => .inr ⟨wanted_offU 14 33 rfl rfl, rfl⟩) (listed' := (List.toArray [true, true, true, true, true, true, true, true, true, true, true, true, true, true, true, true, false, false, false, false, false, false, false, false, false, false, false, false])) rfl ?_
          refine ae_lookF belPre 16 undef rfl rfl (by kernel_rfl) (hM116 16 rfl) (fun w_ => .inr ⟨wanted_offU 14 33 rfl rfl, rfl⟩) (listed' := (List.toArray [true, true, true, true, true, true, true, true, true, true, true, true, true, true, true, true, true, false, false, false, false, false, false, false, false, false, false, false])) rfl ?_
          refine ae_lookF belPre 17 undef rfl rfl (by kernel_rfl) (hM116 17 rfl) (fun w_ => .inr ⟨wanted_offU 14 33 rfl rfl, rfl⟩) (listed' := (List.toArray [true, true, true, true, true, true, true, true, true, true, true, true, true, true, true, true, true, true, false, false, false, false, false, false, false, false, false, false])) rfl ?_
          refine ae_lookF belPre 18 undef rfl rfl (by kernel_rfl) (hM116 18 rfl) (fun w_ => .inr ⟨wanted_offU 14 33 rfl rfl, rfl⟩) (listed' := (List.toArray [true, true, true, true, true, true, true, true, true, true, true, true, true, true, true, true, true, true, true, false, false, false, false, false, false, false, false, false])) rfl ?_
          refine ae_lookF belPre 19 undef rfl rfl (by kernel_rfl) (hM116 19 rfl) (fun w_ => .inr ⟨wanted_offU 14 33 rfl rfl, rfl⟩) (listed' := (List.toArray [true, true, true, true, true, true, true, true, true, true, true, true, true, true, true, true, true, true, true, true, false, false, false, false, false, false, false, false])) rfl ?_
          refine ae_lookF belPre 20 undef rfl rfl (by kernel_rfl) (hM116 20 rfl) (fun w_ => .inr ⟨wanted_offU 14 33 rfl rfl, rfl⟩) (listed' := (List.toArray [true, true, true, true, true, true, true, true, true, true, true, true, true, true, true, true, true, true, true, true, true, false, false, false, false, false, false, false])) rfl ?_
          refine ae_lookF belPre 21 undef rfl rfl (by kernel_rfl) (hM116 21 rfl) (fun w_ => .inr ⟨wanted_offU 14 33 rfl rfl, rfl⟩) (listed' := (List.toArray [true, true, true, true, true, true, true, true, true, true, true, true, true, true, true, true, true, true, true, true, true, true, false, false, false, false, false, false])) rfl ?_
          refine ae_lookF belPre 22 undef rfl rfl (by kernel_rfl) (hM116 22 rfl) (fun w_ => .inr ⟨wanted_offU 14 33 rfl rfl, rfl⟩) (listed' := (List.toArray [true, true, true, true, true, true, true, true, true, true, true, true, true, true, true, true, true, true, true, true, true, true, true, false, false, false, false, false])) rfl ?_
          refine ae_lookF belPre 23 undef rfl rfl (by kernel_rfl) (hM116 23 rfl) (fun w_ => .inr ⟨wanted_offU 14 33 rfl rfl, rfl⟩) (listed' := (List.toArray [true, true, true, true, true, true, true, true, true, true, true, true, true, true, true, true, true, true, true, true, true, true, true, true, false, false, false, false])) rfl ?_
          refine ae_tail 24 (by decide) (by decide) (by kernel_rfl) rfl rfl ?_
          refine guardOffU 14 33 rfl rfl ?_
          refine guardOffU 14 33 rfl rfl ?_
          refine guardOff (b := true) 11 30 rfl (tr rfl (congrArg _ hb128)) (by decide) ?_
          refine s_pick (v := .bool true) (b := true) (tr rfl (congrArg _ hb128)) rfl ?_
          refine done ?_
          refine qn_norm ?_
          refine then_norm ?_
          refine cw_true rfl rfl ?_
          refine wp_seq ?_
          refine cw_region ?_
          refine s_as (v := .bool false) rfl ?_
          refine done ?_
          refine then_norm ?_
          refine wp_ret (blk_ret (then_ret (then_ret (blk_ret (then_ret ?_)))))
          refine ret1 (fn := Try.f54) rfl ?_ ⟨false, rfl, h, hC.below⟩ (.inl rfl)
          exact res_tmp rfl
        · replace h := iff_ h (not_not_intro ((not_f hb128)))
          refine ae_lookF belPre 12 (.int .i64 s96) rfl rfl (by kernel_rfl) (hM116 12 rfl) (fun w_ => .inl ⟨wanted_on 11 30 rfl rfl hb128, by exact r_mv (v := .int .i64 s96) h5_⟩) (listed' := (List.toArray [true, true, true, true, true, true, true, true, true, true, true, true, true, false, false, false, false, false, false, false, false, false, false, false, false, false, false, false])) rfl ?_
          refine ae_lookF belPre 13 (.bool (decide (s96 > 0))) rfl rfl (by kernel_rfl) (hM116 13 rfl) (fun w_ => .inl ⟨wanted_on 11 30 rfl rfl hb128, by exact r_gtr rfl rfl⟩) (listed' := (List.toArray [true, true, true, true, true, true, true, true, true, true, true, true, true, true, false, false, false, false, false, false, false, false, false, false, false, false, false, false])) rfl ?_
          refine ae_lookF belPre 14 (.bool (decide (s96 > 0))) rfl rfl (by kernel_rfl) (hM116 14 rfl) (fun w_ => .inl ⟨wanted_on 11 30 rfl rfl hb128, by exact r_mv (v := .bool (decide (s96 > 0))) rfl⟩) (listed' := (List.toArray [true, true, true, true, true, true, true, true, true, true, true, true, true, true, true, false, false, false, false, false, false, false, false, false, false, false, false, false])) rfl ?_
          refine bsplit (decide (s96 > 0)) (fun hb129 => ?_) (fun hb129 => ?_)
          · replace h := ift h (ct hb129)
            refine ae_lookF belPre 15 (.pointer (some ⟨b5, 0, none⟩)) rfl rfl (by kernel_rfl) (hM116 15 rfl) (fun w_ => .inl ⟨wanted_on 14 33 rfl rfl hb129, by exact r_faddrB 0 Try.underlying46 rfl sc44.size h3_ rfl⟩) (listed' := (List.toArray [true, true, true, true, true, true, true, true, true, true, true, true, true, true, true, true, false, false, false, false, false, false, false, false, false, false, false, false])) rfl ?_
            refine ae_look belPre 16 (u1_0) rfl rfl (by kernel_rfl) (hM115 16 rfl) (fun w_ hB_ => .inl ⟨wanted_on 14 33 rfl rfl hb129, by exact r_loadS (hC.grow hB_) 1 (u1_0) rfl sc44 rfl rfl⟩) (listed' := (List.toArray [true, true, true, true, true, true, true, true, true, true, true, true, true, true, true, true, true, false, false, false, false, false, false, false, false, false, false, false])) rfl ?_
            refine ae_lookF belPre 17 (.int .i64 s96) rfl rfl (by kernel_rfl) (hM116 17 rfl) (fun w_ => .inl ⟨wanted_on 14 33 rfl rfl hb129, by exact r_mv (v := .int .i64 s96) h5_⟩) (listed' := (List.toArray [true, true, true, true, true, true, true, true, true, true, true, true, true, true, true, true, true, true, false, false, false, false, false, false, false, false, false, false])) rfl ?_
            refine ae_lookF belPre 18 (.int .i64 (IntKind.i64.wrap (s96 - 1))) rfl rfl (by kernel_rfl) (hM116 18 rfl) (fun w_ => .inl ⟨wanted_on 14 33 rfl rfl hb129, by exact r_sub rfl rfl⟩) (listed' := (List.toArray [true, true, true, true, true, true, true, true, true, true, true, true, true, true, true, true, true, true, true, false, false, false, false, false, false, false, false, false])) rfl ?_
            obtain ⟨⟨h0_130, h1_131⟩, h⟩ := h
            obtain ⟨Ad132, c133, hv134⟩ := sl_form (hC.getP 0 rfl) ((IntKind.i64.wrap (s96 - 1)).toNat) (show (IntKind.i64.wrap (s96 - 1)).toNat < a1.terms.length by omega)
            refine ae_look belPre 19 (.pointer (some (Ad132.add ((IntKind.i64.wrap (s96 - 1)).toNat * 9)))) rfl rfl (by kernel_rfl) (hM115 19 rfl) (fun w_ hB_ => .inl ⟨wanted_on 14 33 rfl rfl hb129, by exact r_iaddrS (len := a1.terms.length) Try.underlying44 ag86.size (by exact tr rfl hv134) rfl h0_130 h1_131⟩) (listed' := (List.toArray [true, true, true, true, true, true, true, true, true, true, true, true, true, true, true, true, true, true, true, true, false, false, false, false, false, false, false, false])) rfl ?_
            refine ae_lookF belPre 20 (.pointer (some (Ad132.add ((IntKind.i64.wrap (s96 - 1)).toNat * 9 + 0)))) rfl rfl (by kernel_rfl) (hM116 20 rfl) (fun w_ => .inl ⟨wanted_on 14 33 rfl rfl hb129, by exact r_faddrS ((IntKind.i64.wrap (s96 - 1)).toNat * 9 + 0) Try.underlying86 rfl ag84.size rfl rfl⟩) (listed' := (List.toArray [true, true, true, true, true, true, true, true, true, true, true, true, true, true, true, true, true, true, true, true, true, false, false, false, false, false, false, false])) rfl ?_
            refine ae_look belPre 21 (.agg (List.toArray (A8.enc .u8 ((a1.terms.getD ((IntKind.i64.wrap (s96 - 1)).toNat) default).mono)))) rfl rfl (by kernel_rfl) (hM115 21 rfl) (fun w_ hB_ => .inl ⟨wanted_on 14 33 rfl rfl hb129, by exact r_loadCA (A8.enc .u8 ((a1.terms.getD ((IntKind.i64.wrap (s96 - 1)).toNat) default).mono)) (cells_subS (o := 0) (k := 8) (sl_cellsE ((hC.grow hB_).getP 0 rfl) hv134 ((IntKind.i64.wrap (s96 - 1)).toNat) (show (IntKind.i64.wrap (s96 - 1)).toNat < a1.terms.length by omega)) rfl) ag84 rfl rfl⟩) (listed' := (List.toArray [true, true, true, true, true, true, true, true, true, true, true, true, true, true, true, true, true, true, true, true, true, true, false, false, false, false, false, false])) rfl ?_
            refine ae_lookF belPre 22 (.pointer (some ⟨b110, 0, none⟩)) rfl rfl (by kernel_rfl) (hM116 22 rfl) (fun w_ => .inl ⟨wanted_on 14 33 rfl rfl hb129, by exact r_faddrB 0 Try.underlying86 rfl ag84.size rfl rfl⟩) (listed' := (List.toArray [true, true, true, true, true, true, true, true, true, true, true, true, true, true, true, true, true, true, true, true, true, true, true, false, false, false, false, false])) rfl ?_
            refine ae_look belPre 23 (.agg (List.toArray (A8.enc .u8 ((a1.terms.getD s96.toNat default).mono)))) rfl rfl (by kernel_rfl) (hM115 23 rfl) (fun w_ hB_ => .inl ⟨wanted_on 14 33 rfl rfl hb129, by exact r_loadA (hC.grow hB_) 0 (A8.enc .u8 ((a1.terms.getD s96.toNat default).mono)) rfl ag84 rfl rfl rfl⟩) (listed' := (List.toArray [true, true, true, true, true, true, true, true, true, true, true, true, true, true, true, true, true, true, true, true, true, true, true, true, false, false, false, false])) rfl ?_
            refine ae_tail 24 (by decide) (by decide) (by kernel_rfl) rfl rfl ?_
            refine guardOn 14 33 rfl rfl hb129 ?_
            refine s_call [.agg (List.toArray (A8.enc .u8 ((a1.terms.getD ((IntKind.i64.wrap (s96 - 1)).toNat) default).mono))), .agg (List.toArray (A8.enc .u8 ((a1.terms.getD s96.toNat default).mono)))] _ Try.func87 rfl rfl rfl (c_spec_l01Before ((a1.terms.getD ((IntKind.i64.wrap (s96 - 1)).toNat) default).mono) ((a1.terms.getD s96.toNat default).mono) h _) (fun ret135 w137 hR136 => ?_)
            obtain ⟨r138, rfl, h, hB139⟩ := hR136
            refine ⟨_, rfl, ?_⟩
            replace hC := hC.grow hB139
            refine guardOn 14 33 rfl rfl hb129 ?_
            refine s_not rfl ?_
            refine guardOn 11 30 rfl rfl hb128 ?_
            refine s_pick (v := .bool (!r138)) (b := true) (tr rfl (congrArg _ hb129)) rfl ?_
            refine s_pick (v := .bool (!r138)) (b := false) (tr rfl (congrArg _ hb128)) rfl ?_
            refine done ?_
            refine qn_norm ?_
            refine then_norm ?_
            refine cw_cond rfl (fun hb140 => ?_) (fun hb140 => ?_)
            · replace h := ift h (ne_t (not_t hb140))
              refine wp_seq ?_
              refine cw_region ?_
              refine s_as (v := .bool false) rfl ?_
              refine done ?_
              refine then_norm ?_
              refine wp_ret (blk_ret (then_ret (then_ret (blk_ret (then_ret ?_)))))
              refine ret1 (fn := Try.f54) rfl ?_ ⟨false, rfl, h, hC.below⟩ (.inl rfl)
              exact res_tmp rfl
            · replace h := iff_ h (not_not_intro ((not_f hb140)))
              refine wp_skip ?_
              refine blk_norm ?_
              refine then_norm ?_
              refine cw_region ?_
              refine s_mv (v := .int .i64 s96) h5_ ?_
              refine s_add rfl rfl ?_
              refine s_as (v := .int .i64 (IntKind.i64.wrap (s96 + 1))) rfl ?_
              refine done ?_
              replace hC := hC.sel [1] [0, 1, 2] (M' := [blk b5 46 [u1_0]]) (Ps' := [Ty.item ETerm.ty.sl a1.terms [u1_0] fp1, Ty.item ((EI .i64).ty.sl) a0 [u0_0] fp0, Ty.item TForm a1 [u1_0] fp1]) (by decide) rfl rfl
              exact hK99 (IntKind.i64.wrap (s96 + 1)) _ _ ⟨h0_, h3_, h4_, rfl, hC⟩ h
          · replace h := iff_ h (cf hb129)
            refine ae_lookF belPre 15 undef rfl rfl (by kernel_rfl) (hM116 15 rfl) (fun w_ => .inr ⟨wanted_off (b := false) 14 33 rfl (tr rfl (congrArg _ hb129)) (by decide), rfl⟩) (listed' := (List.toArray [true, true, true, true, true, true, true, true, true, true, true, true, true, true, true, true, false, false, false, false, false, false, false, false, false, false, false, false])) rfl ?_
            refine ae_lookF belPre 16 undef rfl rfl (by kernel_rfl) (hM116 16 rfl) (fun w_ => .inr ⟨wanted_off (b := false) 14 33 rfl (tr rfl (congrArg _ hb129)) (by decide), rfl⟩) (listed' := (List.toArray [true, true, true, true, true, true, true, true, true, true, true, true, true, true, true, true, true, false, false, false, false, false, false, false, false, false, false, false])) rfl ?_
            refine ae_lookF belPre 17 undef rfl rfl (by kernel_rfl) (hM116 17 rfl) (fun w_ => .inr ⟨wanted_off (b := false) 14 33 rfl (tr rfl (congrArg _ hb129)) (by decide), rfl⟩) (listed' := (List.toArray [true, true, true, true, true, true, true, true, true, true, true, true, true, true, true, true, true, true, false, false, false, false, false, false, false, false, false, false])) rfl ?_
            refine ae_lookF belPre 18 undef rfl rfl (by kernel_rfl) (hM116 18 rfl) (fun w_ => .inr ⟨wanted_off (b := false) 14 33 rfl (tr rfl (congrArg _ hb129)) (by decide), rfl⟩) (listed' := (List.toArray [true, true, true, true, true, true, true, true, true, true, true, true, true, true, true, true, true, true, true, false, false, false, false, false, false, false, false, false])) rfl ?_
            refine ae_lookF belPre 19 undef rfl rfl (by kernel_rfl) (hM116 19 rfl) (fun w_ => .inr ⟨wanted_off (b := false) 14 33 rfl (tr rfl (congrArg _ hb129)) (by decide), rfl⟩) (listed' := (List.toArray [true, true, true, true, true, true, true, true, true, true, true, true, true, true, true, true, true, true, true, true, false, false, false, false, false, false, false, false])) rfl ?_
            refine ae_lookF belPre 20 undef rfl rfl (by kernel_rfl) (hM116 20 rfl) (fun w_ => .inr ⟨wanted_off (b := false) 14 33 rfl (tr rfl (congrArg _ hb129)) (by decide), rfl⟩) (listed' := (List.toArray [true, true, true, true, true, true, true, true, true, true, true, true, true, true, true, true, true, true, true, true, true, false, false, false, false, false, false, false])) rfl ?_
            refine ae_lookF belPre 21 undef rfl rfl (by kernel_rfl) (hM116 21 rfl) (fun w_ => .inr ⟨wanted_off (b := false) 14 33 rfl (tr rfl (congrArg _ hb129)) (by decide), rfl⟩) (listed' := (List.toArray [true, true, true, true, true, true, true, true, true, true, true, true, true, true, true, true, true, true, true, true, true, true, false, false, false, false, false, false])) rfl ?_
            refine ae_lookF belPre 22 undef rfl rfl (by kernel_rfl) (hM116 22 rfl) (fun w_ => .inr ⟨wanted_off (b := false) 14 33 rfl (tr rfl (congrArg _ hb129)) (by decide), rfl⟩) (listed' := (List.toArray [true, true, true, true, true, true, true, true, true, true, true, true, true, true, true, true, true, true, true, true, true, true, true, false, false, false, false, false])) rfl ?_
            refine ae_lookF belPre 23 undef rfl rfl (by kernel_rfl) (hM116 23 rfl) (fun w_ => .inr ⟨wanted_off (b := false) 14 33 rfl (tr rfl (congrArg _ hb129)) (by decide), rfl⟩) (listed' := (List.toArray [true, true, true, true, true, true, true, true, true, true, true, true, true, true, true, true, true, true, true, true, true, true, true, true, false, false, false, false])) rfl ?_
            refine ae_tail 24 (by decide) (by decide) (by kernel_rfl) rfl rfl ?_
            refine guardOff (b := false) 14 33 rfl (tr rfl (congrArg _ hb129)) (by decide) ?_
            refine guardOff (b := false) 14 33 rfl (tr rfl (congrArg _ hb129)) (by decide) ?_
            refine guardOn 11 30 rfl rfl hb128 ?_
            refine s_pick (v := .bool false) (b := false) (tr rfl (congrArg _ hb129)) rfl ?_
            refine s_pick (v := .bool false) (b := false) (tr rfl (congrArg _ hb128)) rfl ?_
            refine done ?_
            refine qn_norm ?_
            refine then_norm ?_
            refine cw_false rfl rfl ?_
            refine wp_skip ?_
            refine blk_norm ?_
            refine then_norm ?_
            refine cw_region ?_
            refine s_mv (v := .int .i64 s96) h5_ ?_
            refine s_add rfl rfl ?_
            refine s_as (v := .int .i64 (IntKind.i64.wrap (s96 + 1))) rfl ?_
            refine done ?_
            replace hC := hC.sel [1] [0, 1, 2] (M' := [blk b5 46 [u1_0]]) (Ps' := [Ty.item ETerm.ty.sl a1.terms [u1_0] fp1, Ty.item ((EI .i64).ty.sl) a0 [u0_0] fp0, Ty.item TForm a1 [u1_0] fp1]) (by decide) rfl rfl
            exact hK99 (IntKind.i64.wrap (s96 + 1)) _ _ ⟨h0_, h3_, h4_, rfl, hC⟩ h
    · replace h := iff_ h (cf hb104)
      refine wp_exit (then_exit (then_exit (exit_in ?_)))
      refine then_norm ?_
      refine wp_seq ?_
      refine cw_region ?_
      refine s_faddrB 0 Try.underlying46 rfl sc44.size h3_ rfl ?_
      refine s_loadS hC 0 (u1_0) rfl sc44 rfl rfl ?_
      obtain ⟨Ad141, c142, hv143⟩ := sl_len (hC.getP 0 rfl)
      refine s_len Try.underlying44 (tr rfl hv143) ?_
      refine s_leq rfl rfl ?_
      refine s_as (v := .bool (decide ((a1.terms.length : Int) ≤ 400))) rfl ?_
      refine done ?_
      refine then_norm ?_
      refine wp_ret ?_
      refine ret1 (fn := Try.f54) rfl ?_ ⟨decide ((a1.terms.length : Int) ≤ 400), rfl, h, hC.below⟩ (.inl rfl)
      exact res_tmp rfl
  · skip
    exact ⟨rfl, rfl, rfl, rfl, hC⟩
def f_spec_l01Weight (a0 : List Int) (a1 : A8) (K : Int → Prop) : Prop :=
  forN (fun i36 (s37 : Int) next39 => ((0 ≤ (i36 : Int) ∧ (i36 : Int) < 8) ∧ next39 (IntKind.i64.wrap (s37 + (IntKind.i64.wrap ((a0.getD i36 default) * (IntKind.i64.wrap (a1.get i36)))))))) (fun (s37 : Int) => K s37) a0.length 0 0
theorem c_spec_l01Weight (a0 : List Int) (a1 : A8) {u0_0 : Value} {fp0 : List Nat} {K : Int → Prop} (h : f_spec_l01Weight a0 a1 K) (w0 : World) (q0 : ((EI .i64).ty.sl).rep a0 [u0_0] fp0 w0) :
    Calls Try.prog 100 #[u0_0, .agg (List.toArray (A8.enc .u8 a1))] w0 fun e w' => ∃ (r0 : Int), 
      e = .returned (.int .i64 r0) ∧ K r0 ∧ Bel w0 w' := by
  unfold f_spec_l01Weight at h
  refine calls_of (args := [u0_0, .agg (List.toArray (A8.enc .u8 a1))]) Try.func100 rfl 25 Try.ntmps100 (Nat.le_of_ble_eq_true rfl) ?_
  have hC := Ctx.start (X := Nox) w0 [Ty.item ((EI .i64).ty.sl) a0 [u0_0] fp0] (by simp only [List.mem_cons, List.not_mem_nil, or_false, forall_eq_or_imp, forall_eq]; exact q0)
  refine wp_seq ?_
  refine cw_region ?_
  refine s_box (v := .agg (List.toArray (A8.enc .u8 a1))) hC (A8.enc .u8 a1) rfl rfl fun b2 w4 hB_ hC => ?_
  refine s_as (v := .int .i64 0) rfl ?_
  refine done ?_
  refine then_norm ?_
  refine wp_seq ?_
  refine cw_region ?_
  refine s_as (v := .int .i64 0) rfl ?_
  refine done ?_
  refine then_norm ?_
  refine wp_seq ?_
  refine wp_seq ?_
  refine cw_region ?_
  refine s_as (v := .int .i64 0) rfl ?_
  refine done ?_
  refine then_norm ?_
  refine wp_block ?_
  have hN38 : a0.length ≤ 9223372036854775807 := sl_max (hC.getP 0 rfl)
  refine loopN (S := Int) _ _ (fun i36 s37 e_ w_ => e_ 0 = u0_0 ∧ e_ 3 = .pointer (some ⟨b2, 0, none⟩) ∧ e_ 4 = .int .i64 0 ∧ e_ 5 = .int .i64 s37 ∧ e_ 6 = .int .i64 (i36 : Int) ∧ Ctx Nox w0 w_ [blk b2 84 (A8.enc .u8 a1)] [Ty.item ((EI .i64).ty.sl) a0 [u0_0] fp0]) a0.length ?_ ?_ (s0 := 0) ?_ h
  · clear hC h
    rintro i36 s37 e_ w43 next39 K40 hi42 ⟨h0_, h3_, h4_, h5_, h6_, hC⟩ h hK41
    refine wp_seq ?_
    refine wp_seq ?_
    refine cw_region ?_
    refine s_mv (v := .int .i64 (i36 : Int)) h6_ ?_
    refine s_mv (v := u0_0) h0_ ?_
    obtain ⟨Ad44, c45, hv46⟩ := sl_len (hC.getP 0 rfl)
    refine s_len Try.underlying22 (tr rfl hv46) ?_
    refine s_lss rfl rfl ?_
    refine done ?_
    refine then_norm ?_
    refine cw_true rfl (decide_eq_true (by omega)) ?_
    refine wp_skip ?_
    refine then_norm ?_
    refine wp_seq ?_
    refine wp_block ?_
    refine cw_draw 10 mixed [0, 0, 0, 6, 14, 0, 32, 96, 224, 510, 1023, 2047] [3, 4, 6, 7] [0, 1, 2, 5, 8, 9] (by kernel_rfl) (by kernel_rfl) (by kernel_rfl) (fun hM48 hM49 w47 hB_ => ?_)
    replace hC := hC.grow hB_
    refine ae_lookF belPre 0 (.int .i64 s37) rfl rfl (by kernel_rfl) (hM49 0 rfl) (fun w_ => .inl ⟨rfl, by exact r_mv (v := .int .i64 s37) h5_⟩) (listed' := (List.toArray [true, false, false, false, false, false, false, false, false, false, false, false])) rfl ?_
    refine ae_lookF belPre 1 (u0_0) rfl rfl (by kernel_rfl) (hM49 1 rfl) (fun w_ => .inl ⟨rfl, by exact r_mv (v := u0_0) h0_⟩) (listed' := (List.toArray [true, true, false, false, false, false, false, false, false, false, false, false])) rfl ?_
    refine ae_lookF belPre 2 (.int .i64 (i36 : Int)) rfl rfl (by kernel_rfl) (hM49 2 rfl) (fun w_ => .inl ⟨rfl, by exact r_mv (v := .int .i64 (i36 : Int)) h6_⟩) (listed' := (List.toArray [true, true, true, false, false, false, false, false, false, false, false, false])) rfl ?_
    obtain ⟨Ad50, c51, hv52⟩ := sl_form (hC.getP 0 rfl) i36 hi42
    refine ae_look belPre 3 (.pointer (some (Ad50.add (i36 * 1)))) rfl rfl (by kernel_rfl) (hM48 3 rfl) (fun w_ hB_ => .inl ⟨rfl, by exact r_iaddrS (len := a0.length) Try.underlying22 sc2.size (by exact tr rfl hv52) rfl (Int.natCast_nonneg _) (Int.ofNat_lt.2 hi42)⟩) (listed' := (List.toArray [true, true, true, true, false, false, false, false, false, false, false, false])) rfl ?_
    refine ae_look belPre 4 (.int .i64 (a0.getD i36 default)) rfl rfl (by kernel_rfl) (hM48 4 rfl) (fun w_ hB_ => .inl ⟨rfl, by exact r_loadCS (.int .i64 (a0.getD i36 default)) (sl_cellsE ((hC.grow hB_).getP 0 rfl) hv52 i36 hi42) sc2 rfl⟩) (listed' := (List.toArray [true, true, true, true, true, false, false, false, false, false, false, false])) rfl ?_
    refine ae_lookF belPre 5 (.int .i64 (i36 : Int)) rfl rfl (by kernel_rfl) (hM49 5 rfl) (fun w_ => .inl ⟨rfl, by exact r_mv (v := .int .i64 (i36 : Int)) h6_⟩) (listed' := (List.toArray [true, true, true, true, true, true, false, false, false, false, false, false])) rfl ?_
    obtain ⟨⟨h0_53, h1_54⟩, h⟩ := h
    refine ae_look belPre 6 (.pointer (some ⟨b2, i36, none⟩)) rfl rfl (by kernel_rfl) (hM48 6 rfl) (fun w_ hB_ => .inl ⟨rfl, by exact r_iaddrB i36 Try.underlying84 sc5.size h3_ rfl h0_53 h1_54 (by omega)⟩) (listed' := (List.toArray [true, true, true, true, true, true, true, false, false, false, false, false])) rfl ?_
    refine ae_look belPre 7 (.int .u8 (a1.get i36)) rfl rfl (by kernel_rfl) (hM48 7 rfl) (fun w_ hB_ => .inl ⟨rfl, by exact r_loadS (hC.grow hB_) 0 (.int .u8 (a1.get i36)) rfl sc5 rfl (A8.enc_get _ _ (show i36 < 8 by omega))⟩) (listed' := (List.toArray [true, true, true, true, true, true, true, true, false, false, false, false])) rfl ?_
    refine ae_lookF belPre 8 (.int .i64 (IntKind.i64.wrap (a1.get i36))) rfl rfl (by kernel_rfl) (hM49 8 rfl) (fun w_ => .inl ⟨rfl, by exact r_conv Try.underlying5 Try.underlying2 rfl⟩) (listed' := (List.toArray [true, true, true, true, true, true, true, true, true, false, false, false])) rfl ?_
    refine ae_lookF belPre 9 (.int .i64 (IntKind.i64.wrap ((a0.getD i36 default) * (IntKind.i64.wrap (a1.get i36))))) rfl rfl (by kernel_rfl) (hM49 9 rfl) (fun w_ => .inl ⟨rfl, by exact r_mul rfl rfl⟩) (listed' := (List.toArray [true, true, true, true, true, true, true, true, true, true, false, false])) rfl ?_
    refine ae_tail 10 (by decide) (by decide) (by kernel_rfl) rfl rfl ?_
    refine s_add rfl rfl ?_
    refine s_as (v := .int .i64 (IntKind.i64.wrap (s37 + (IntKind.i64.wrap ((a0.getD i36 default) * (IntKind.i64.wrap (a1.get i36))))))) rfl ?_
    refine done ?_
    refine qn_norm ?_
    refine blk_norm ?_
    refine then_norm ?_
    refine cw_region ?_
    refine s_mv (v := .int .i64 (i36 : Int)) h6_ ?_
    refine s_add rfl rfl ?_
    refine s_as (v := .int .i64 (IntKind.i64.wrap ((i36 : Int) + 1))) rfl ?_
    refine done ?_
    exact hK41 (IntKind.i64.wrap (s37 + (IntKind.i64.wrap ((a0.getD i36 default) * (IntKind.i64.wrap (a1.get i36)))))) _ _ ⟨h0_, h3_, h4_, rfl, (tr rfl (congrArg _ (wrap64_nat hi42 hN38))), hC⟩ h
  · clear hC h
    rintro s37 e_ w55 K40 ⟨h0_, h3_, h4_, h5_, h6_, hC⟩ h
    refine wp_seq ?_
    refine wp_seq ?_
    refine cw_region ?_
    refine s_mv (v := .int .i64 (a0.length : Int)) h6_ ?_
    refine s_mv (v := u0_0) h0_ ?_
    obtain ⟨Ad56, c57, hv58⟩ := sl_len (hC.getP 0 rfl)
    refine s_len Try.underlying22 (tr rfl hv58) ?_
    refine s_lss rfl rfl ?_
    refine done ?_
    refine then_norm ?_
    refine cw_false rfl (decide_eq_false (by omega)) ?_
    refine wp_exit (then_exit (then_exit (exit_in ?_)))
    refine then_norm ?_
    refine wp_seq ?_
    refine cw_region ?_
    refine s_mv (v := .int .i64 s37) h5_ ?_
    refine s_as (v := .int .i64 s37) rfl ?_
    refine done ?_
    refine then_norm ?_
    refine wp_ret ?_
    refine ret1 (fn := Try.f100) rfl ?_ ⟨s37, rfl, h, hC.below⟩ (.inl rfl)
    exact res_tmp rfl
  · skip
    exact ⟨rfl, rfl, rfl, rfl, rfl, hC⟩
def f_spec_l01Degree (a0 : List Int) (a1 : Vc.Form) (K : Int → Bool → Prop) : Prop :=
  (if (a1.terms.length : Int) = 0 then K (-1) true else ((0 ≤ (0 : Int) ∧ (0 : Int) < (a1.terms.length : Int)) ∧ f_spec_l01Weight a0 ((a1.terms.getD 0 default).mono) (fun r20 => whileP (fun (s54 : Int) next55 => (if s54 < (a1.terms.length : Int) then ((0 ≤ s54 ∧ s54 < (a1.terms.length : Int)) ∧ f_spec_l01Weight a0 ((a1.terms.getD s54.toNat default).mono) (fun r71 => (if r71 ≠ r20 then K 0 false else next55 (IntKind.i64.wrap (s54 + 1))))) else K r20 true)) 1)))
theorem c_spec_l01Degree (a0 : List Int) (a1 : Vc.Form) {u0_0 : Value} {u1_0 : Value} {fp0 : List Nat} {fp1 : List Nat} {K : Int → Bool → Prop} (h : f_spec_l01Degree a0 a1 K) (w0 : World) (q0 : ((EI .i64).ty.sl).rep a0 [u0_0] fp0 w0) (q1 : TForm.rep a1 [u1_0] fp1 w0) :
    Calls Try.prog 81 #[u0_0, .agg #[u1_0]] w0 fun e w' => ∃ (r0 : Int) (r1 : Bool), 
      e = .returned (.tuple #[.int .i64 r0, .bool r1]) ∧ K r0 r1 ∧ Bel w0 w' := by
  unfold f_spec_l01Degree at h
  refine calls_of (args := [u0_0, .agg #[u1_0]]) Try.func81 rfl 37 Try.ntmps81 (Nat.le_of_ble_eq_true rfl) ?_
  have hC := Ctx.start (X := Nox) w0 [Ty.item ((EI .i64).ty.sl) a0 [u0_0] fp0, Ty.item TForm a1 [u1_0] fp1] (by simp only [List.mem_cons, List.not_mem_nil, or_false, forall_eq_or_imp, forall_eq]; exact ⟨q0, q1⟩)
  have hp3 := (hC.getP 1 rfl)
  replace hC := hC.derive 1 rfl (Ty.item ETerm.ty.sl a1.terms [u1_0] fp1) (fun _ => (form_parts hp3)) (fun _ hb_ => hb_)
  refine wp_seq ?_
  refine cw_region ?_
  refine s_box (v := .agg #[u1_0]) hC [u1_0] rfl rfl fun b5 w7 hB_ hC => ?_
  refine s_as (v := .int .i64 0) rfl ?_
  refine s_as (v := .bool false) rfl ?_
  refine done ?_
  refine then_norm ?_
  refine wp_seq ?_
  refine wp_seq ?_
  refine cw_region ?_
  refine s_faddrB 0 Try.underlying46 rfl sc44.size rfl rfl ?_
  refine s_loadS hC 0 (u1_0) rfl sc44 rfl rfl ?_
  obtain ⟨Ad8, c9, hv10⟩ := sl_len (hC.getP 0 rfl)
  refine s_len Try.underlying44 (tr rfl hv10) ?_
  refine s_eql rfl rfl ?_
  refine done ?_
  refine then_norm ?_
  refine cw_cond rfl (fun hb11 => ?_) (fun hb11 => ?_)
  · replace h := ift h (ct hb11)
    refine wp_seq ?_
    refine cw_region ?_
    refine s_as (v := .int .i64 (-1)) rfl ?_
    refine s_as (v := .bool true) rfl ?_
    refine done ?_
    refine then_norm ?_
    refine wp_ret (then_ret ?_)
    refine ret2 (fn := Try.f81) rfl ?_ ?_ ⟨(-1), true, rfl, h, hC.below⟩ (.inl rfl)
    · exact res_tmp rfl
    · exact res_tmp rfl
  · replace h := iff_ h (cf hb11)
    refine wp_skip ?_
    refine then_norm ?_
    refine wp_seq ?_
    refine cw_region ?_
    refine s_mv (v := u0_0) rfl ?_
    refine s_faddrB 0 Try.underlying46 rfl sc44.size rfl rfl ?_
    refine s_loadS hC 0 (u1_0) rfl sc44 rfl rfl ?_
    obtain ⟨⟨h0_12, h1_13⟩, h⟩ := h
    obtain ⟨Ad14, c15, hv16⟩ := sl_form (hC.getP 0 rfl) 0 (show 0 < a1.terms.length by omega)
    refine s_iaddrS (len := a1.terms.length) Try.underlying44 ag86.size (tr rfl hv16) rfl h0_12 h1_13 ?_
    refine s_faddrS (0 * 9 + 0) Try.underlying86 rfl ag84.size rfl rfl ?_
    refine s_loadCA (A8.enc .u8 ((a1.terms.getD 0 default).mono)) (cells_subS (o := 0) (k := 8) (sl_cellsE (hC.getP 0 rfl) hv16 0 (show 0 < a1.terms.length by omega)) rfl) ag84 rfl rfl ?_
    refine s_call [u0_0, .agg (List.toArray (A8.enc .u8 ((a1.terms.getD 0 default).mono)))] _ Try.func100 rfl rfl rfl (c_spec_l01Weight a0 ((a1.terms.getD 0 default).mono) h _ (hC.getP 1 rfl)) (fun ret17 w19 hR18 => ?_)
    obtain ⟨r20, rfl, h, hB21⟩ := hR18
    refine ⟨_, rfl, ?_⟩
    replace hC := hC.grow hB21
    refine s_as (v := .int .i64 r20) rfl ?_
    refine done ?_
    refine then_norm ?_
    refine wp_seq ?_
    refine wp_seq ?_
    refine cw_region ?_
    refine s_as (v := .int .i64 1) rfl ?_
    refine done ?_
    refine then_norm ?_
    refine wp_block ?_
    refine loopW (S := Int) _ (fun s54 e_ w_ => e_ 0 = u0_0 ∧ e_ 3 = .pointer (some ⟨b5, 0, none⟩) ∧ e_ 4 = .int .i64 0 ∧ e_ 5 = .bool false ∧ e_ 6 = .int .i64 r20 ∧ e_ 7 = .int .i64 s54 ∧ Ctx Nox w0 w_ [blk b5 46 [u1_0]] [Ty.item ETerm.ty.sl a1.terms [u1_0] fp1, Ty.item ((EI .i64).ty.sl) a0 [u0_0] fp0, Ty.item TForm a1 [u1_0] fp1]) ?_ (s0 := 1) ?_ h
    · clear hC h
      rintro s54 e_ w58 next55 K56 ⟨h0_, h3_, h4_, h5_, h6_, h7_, hC⟩ h hK57
      refine wp_seq ?_
      refine wp_seq ?_
      refine cw_region ?_
      refine s_mv (v := .int .i64 s54) h7_ ?_
      refine s_faddrB 0 Try.underlying46 rfl sc44.size h3_ rfl ?_
      refine s_loadS hC 0 (u1_0) rfl sc44 rfl rfl ?_
      obtain ⟨Ad59, c60, hv61⟩ := sl_len (hC.getP 0 rfl)
      refine s_len Try.underlying44 (tr rfl hv61) ?_
      refine s_lss rfl rfl ?_
      refine done ?_
      refine then_norm ?_
      refine cw_cond rfl (fun hb62 => ?_) (fun hb62 => ?_)
      · replace h := ift h (ct hb62)
        refine wp_skip ?_
        refine then_norm ?_
        refine wp_seq ?_
        refine wp_block ?_
        refine wp_seq ?_
        refine cw_region ?_
        refine s_mv (v := u0_0) h0_ ?_
        refine s_faddrB 0 Try.underlying46 rfl sc44.size h3_ rfl ?_
        refine s_loadS hC 0 (u1_0) rfl sc44 rfl rfl ?_
        refine s_mv (v := .int .i64 s54) h7_ ?_
        obtain ⟨⟨h0_63, h1_64⟩, h⟩ := h
        obtain ⟨Ad65, c66, hv67⟩ := sl_form (hC.getP 0 rfl) s54.toNat (show s54.toNat < a1.terms.length by omega)
        refine s_iaddrS (len := a1.terms.length) Try.underlying44 ag86.size (tr rfl hv67) rfl h0_63 h1_64 ?_
        refine s_faddrS (s54.toNat * 9 + 0) Try.underlying86 rfl ag84.size rfl rfl ?_
        refine s_loadCA (A8.enc .u8 ((a1.terms.getD s54.toNat default).mono)) (cells_subS (o := 0) (k := 8) (sl_cellsE (hC.getP 0 rfl) hv67 s54.toNat (show s54.toNat < a1.terms.length by omega)) rfl) ag84 rfl rfl ?_
        refine s_call [u0_0, .agg (List.toArray (A8.enc .u8 ((a1.terms.getD s54.toNat default).mono)))] _ Try.func100 rfl rfl rfl (c_spec_l01Weight a0 ((a1.terms.getD s54.toNat default).mono) h _ (hC.getP 1 rfl)) (fun ret68 w70 hR69 => ?_)
        obtain ⟨r71, rfl, h, hB72⟩ := hR69
        refine ⟨_, rfl, ?_⟩
        replace hC := hC.grow hB72
        refine s_mv (v := .int .i64 r20) h6_ ?_
        refine s_neq rfl rfl ?_
        refine done ?_
        refine then_norm ?_
        refine cw_cond rfl (fun hb73 => ?_) (fun hb73 => ?_)
        · replace h := ift h (ct hb73)
          refine wp_seq ?_
          refine cw_region ?_
          refine s_as (v := .int .i64 0) rfl ?_
          refine s_as (v := .bool false) rfl ?_
          refine done ?_
          refine then_norm ?_
          refine wp_ret (blk_ret (then_ret (then_ret (blk_ret (then_ret ?_)))))
          refine ret2 (fn := Try.f81) rfl ?_ ?_ ⟨0, false, rfl, h, hC.below⟩ (.inl rfl)
          · exact res_tmp rfl
          · exact res_tmp rfl
        · replace h := iff_ h (cf hb73)
          refine wp_skip ?_
          refine blk_norm ?_
          refine then_norm ?_
          refine cw_region ?_
          refine s_mv (v := .int .i64 s54) h7_ ?_
          refine s_add rfl rfl ?_
          refine s_as (v := .int .i64 (IntKind.i64.wrap (s54 + 1))) rfl ?_
          refine done ?_
          exact hK57 (IntKind.i64.wrap (s54 + 1)) _ _ ⟨h0_, h3_, h4_, h5_, h6_, rfl, hC⟩ h
      · replace h := iff_ h (cf hb62)
        refine wp_exit (then_exit (then_exit (exit_in ?_)))
        refine then_norm ?_
        refine wp_seq ?_
        refine cw_region ?_
        refine s_mv (v := .int .i64 r20) h6_ ?_
        refine s_as (v := .int .i64 r20) rfl ?_
        refine s_as (v := .bool true) rfl ?_
        refine done ?_
        refine then_norm ?_
        refine wp_ret ?_
        refine ret2 (fn := Try.f81) rfl ?_ ?_ ⟨r20, true, rfl, h, hC.below⟩ (.inl rfl)
        · exact res_tmp rfl
        · exact res_tmp rfl
    · skip
      exact ⟨rfl, rfl, rfl, rfl, rfl, rfl, hC⟩
end Go.Proofs.Ytgfmflmhcfkldaa
