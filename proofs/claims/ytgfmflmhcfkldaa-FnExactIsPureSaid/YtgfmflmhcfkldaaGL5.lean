/- Printed by vcgen.py: functions of the program as predicates, and that the machine's calls meet them. -/
import Derived.Test.YtgfmflmhcfkldaaGC
import Derived.KernelRfl
set_option linter.unusedVariables false
set_option linter.unusedSimpArgs false
set_option maxRecDepth 4000
set_option maxHeartbeats 4000000
namespace Go.Proofs.Ytgfmflmhcfkldaa
open Go Go.RowKit Vc
theorem ag25 : AggT Try.prog 25 2 := ⟨⟨_, Try.underlying25, rfl⟩, by kernel_rfl⟩
def f_laws_FnExactIsPure (a0 : Alg) (K : Bool → Prop) : Prop :=
  f_laws_szAlgebra a0 1048576 (fun r11 => (if r11 < 0 then K true else f_laws_toAlgebra a0 (fun r17 => f_spec_IsPure r17 (fun r36 r37 => f_laws_toAlgebra a0 (fun r42 => f_impl_IsPure r42 (fun r65 r66 => (if r65 ≠ r36 then K false else (if r66 ≠ r37 then K false else f_laws_toAlgebra a0 (fun r76 => f_laws_eqAlgebra r42 r76 (fun r95 => (if ¬ (r95 = true) then K false else K true)))))))))))
theorem c_laws_FnExactIsPure (a0 : Alg) {u0_0 : Value} {u0_1 : Value} {fp0 : List Nat} {K : Bool → Prop} (h : f_laws_FnExactIsPure a0 K) (w0 : World) (q0 : TAlg.rep a0 [u0_0, u0_1] fp0 w0) :
    Calls Try.prog 5 #[.agg #[u0_0, u0_1]] w0 fun e w' => ∃ (r0 : Bool), 
      e = .returned (.bool r0) ∧ K r0 ∧ Bel w0 w' := by
  unfold f_laws_FnExactIsPure at h
  refine calls_of (args := [.agg #[u0_0, u0_1]]) Try.func5 rfl 40 Try.ntmps5 (Nat.le_of_ble_eq_true rfl) ?_
  have hC := Ctx.start (X := Nox) w0 [Ty.item TAlg a0 [u0_0, u0_1] fp0] (by simp only [List.mem_cons, List.not_mem_nil, or_false, forall_eq_or_imp, forall_eq]; exact q0)
  have hp2 := (hC.getP 0 rfl)
  replace hC := hC.derive 0 rfl (Ty.item ((EI .i64).ty.sl) a0.degrees [u0_0] fp0) (fun _ => (alg_parts hp2).1) (fun _ hb_ => hb_)
  replace hC := hC.derive 1 rfl (Ty.item TForm.sl a0.images [u0_1] fp0) (fun _ => (alg_parts hp2).2) (fun _ hb_ => hb_)
  refine wp_seq ?_
  refine cw_region ?_
  refine s_box (v := .agg #[u0_0, u0_1]) hC [u0_0, u0_1] rfl rfl fun b5 w7 hB_ hC => ?_
  refine s_as (v := .bool false) rfl ?_
  refine done ?_
  refine then_norm ?_
  refine wp_seq ?_
  refine cw_region ?_
  refine s_as (v := .int .i64 1048576) rfl ?_
  refine done ?_
  refine then_norm ?_
  refine wp_seq ?_
  refine cw_region ?_
  refine s_loadA hC 0 [u0_0, u0_1] rfl ag25 rfl rfl rfl ?_
  refine s_mv (v := .int .i64 1048576) rfl ?_
  refine s_call [.agg #[u0_0, u0_1], .int .i64 1048576] _ Try.func11 rfl rfl rfl (c_laws_szAlgebra a0 1048576 h _ (alg_mk (hC.getP 1 rfl) (hC.getP 0 rfl))) (fun ret8 w10 hR9 => ?_)
  obtain ⟨r11, rfl, h, hB12⟩ := hR9
  refine ⟨_, rfl, ?_⟩
  replace hC := hC.grow hB12
  refine s_as (v := .int .i64 r11) rfl ?_
  refine done ?_
  refine then_norm ?_
  refine wp_seq ?_
  refine wp_seq ?_
  refine cw_region ?_
  refine s_mv (v := .int .i64 r11) rfl ?_
  refine s_lss rfl rfl ?_
  refine done ?_
  refine then_norm ?_
  refine cw_cond rfl (fun hb13 => ?_) (fun hb13 => ?_)
  · replace h := ift h (ct hb13)
    refine wp_seq ?_
    refine cw_region ?_
    refine s_as (v := .bool true) rfl ?_
    refine done ?_
    refine then_norm ?_
    refine wp_ret (then_ret ?_)
    refine ret1 (fn := Try.f5) rfl ?_ ⟨true, rfl, h, hC.below⟩ (.inl rfl)
    exact res_tmp rfl
  · replace h := iff_ h (cf hb13)
    refine wp_skip ?_
    refine then_norm ?_
    refine wp_seq ?_
    refine cw_region ?_
    refine s_loadA hC 0 [u0_0, u0_1] rfl ag25 rfl rfl rfl ?_
    refine s_call [.agg #[u0_0, u0_1]] _ Try.func13 rfl rfl rfl (c_laws_toAlgebra a0 h _ (alg_mk (hC.getP 1 rfl) (hC.getP 0 rfl))) (fun ret14 w16 hR15 => ?_)
    obtain ⟨r17, u18, u19, f20, rfl, h, hr21, hf22, hB23⟩ := hR15
    refine ⟨_, rfl, ?_⟩
    replace hC := hC.push hB23 (Tr.item (TrAlg 2 86 46) r17 [u18, u19] f20) hr21 hf22
    obtain ⟨f25, ho26, ho27, hs28, hs29, hd30⟩ := alg_split (hC.getM 0 rfl)
    replace hC := hC.split (a := own 2 1 u18 r17.degrees.length ((EI .i64).encs r17.degrees)) (b := Tr.item (Tr.sl 46 (TrForm 86)) r17.images [u19] f25) hs28 hs29 ⟨ho26, ho27, hd30⟩
    refine s_call [.agg #[u18, u19]] _ Try.func18 rfl rfl rfl (c_spec_IsPure r17 h _ (alg_mk (own_repE (hC.getM 0 rfl)) (Tr.trep _ (hC.getM 1 rfl).1))) (fun ret33 w35 hR34 => ?_)
    obtain ⟨r36, r37, rfl, h, hB38⟩ := hR34
    refine ⟨_, rfl, ?_⟩
    replace hC := hC.grow hB38
    refine s_mv (v := .tuple #[.bool r36, .int .i64 r37]) rfl ?_
    refine s_ext (v := .bool r36) rfl rfl ?_
    refine s_ext (v := .int .i64 r37) rfl rfl ?_
    refine s_as (v := .bool r36) rfl ?_
    refine s_as (v := .int .i64 r37) rfl ?_
    refine done ?_
    refine then_norm ?_
    refine wp_seq ?_
    refine cw_region ?_
    refine s_loadA hC 2 [u0_0, u0_1] rfl ag25 rfl rfl rfl ?_
    refine s_call [.agg #[u0_0, u0_1]] _ Try.func13 rfl rfl rfl (c_laws_toAlgebra a0 h _ (alg_mk (hC.getP 1 rfl) (hC.getP 0 rfl))) (fun ret39 w41 hR40 => ?_)
    obtain ⟨r42, u43, u44, f45, rfl, h, hr46, hf47, hB48⟩ := hR40
    refine ⟨_, rfl, ?_⟩
    replace hC := hC.push hB48 (Tr.item (TrAlg 2 86 46) r42 [u43, u44] f45) hr46 hf47
    obtain ⟨f50, ho51, ho52, hs53, hs54, hd55⟩ := alg_split (hC.getM 0 rfl)
    replace hC := hC.split (a := own 2 1 u43 r42.degrees.length ((EI .i64).encs r42.degrees)) (b := Tr.item (Tr.sl 46 (TrForm 86)) r42.images [u44] f50) hs53 hs54 ⟨ho51, ho52, hd55⟩
    refine s_alloc hC [.slice none 0 0, .slice none 0 0] z31 rfl fun b58 w60 hB_ hC => ?_
    refine s_store (v := .agg #[u43, u44]) hC 0 [u43, u44] [u43, u44] rfl ag31.size rfl rfl rfl rfl (all_c (own_oneC (hC.getM 1 rfl)) (all_c (rep_oneC (Tr.trep _ (hC.getM 2 rfl).1)) rfl)) (Nat.le_of_ble_eq_true rfl) rfl fun w61 hC => ?_
    refine done ?_
    refine then_norm ?_
    refine wp_seq ?_
    refine cw_region ?_
    refine s_loadA hC 0 [u43, u44] rfl ag31 rfl rfl rfl ?_
    refine s_call [.agg #[u43, u44]] _ Try.func19 rfl rfl rfl (c_impl_IsPure r42 h _ (alg_mk (own_repE (hC.getM 1 rfl)) (Tr.trep _ (hC.getM 2 rfl).1))) (fun ret62 w64 hR63 => ?_)
    obtain ⟨r65, r66, rfl, h, hB67⟩ := hR63
    refine ⟨_, rfl, ?_⟩
    replace hC := hC.grow hB67
    refine s_mv (v := .tuple #[.bool r65, .int .i64 r66]) rfl ?_
    refine s_ext (v := .bool r65) rfl rfl ?_
    refine s_ext (v := .int .i64 r66) rfl rfl ?_
    refine s_as (v := .bool r65) rfl ?_
    refine s_as (v := .int .i64 r66) rfl ?_
    refine done ?_
    refine then_norm ?_
    refine wp_seq ?_
    refine wp_seq ?_
    refine cw_region ?_
    refine s_mv (v := .bool r65) rfl ?_
    refine s_mv (v := .bool r36) rfl ?_
    refine s_neqB Try.underlying4 rfl rfl ?_
    refine s_mv (v := .bool (!(r65 == r36))) rfl ?_
    refine bsplit (!(r65 == r36)) (fun hb68 => ?_) (fun hb68 => ?_)
    · replace h := ift h (bne_t hb68)
      refine guardOff (b := true) 3 30 rfl (tr rfl (congrArg _ hb68)) (by decide) ?_
      refine guardOff (b := true) 3 30 rfl (tr rfl (congrArg _ hb68)) (by decide) ?_
      refine guardOff (b := true) 3 30 rfl (tr rfl (congrArg _ hb68)) (by decide) ?_
      refine s_pick (v := .bool true) (b := true) (tr rfl (congrArg _ hb68)) rfl ?_
      refine done ?_
      refine then_norm ?_
      refine cw_true rfl rfl ?_
      refine wp_seq ?_
      refine cw_region ?_
      refine s_as (v := .bool false) rfl ?_
      refine done ?_
      refine then_norm ?_
      refine wp_ret (then_ret ?_)
      refine ret1 (fn := Try.f5) rfl ?_ ⟨false, rfl, h, hC.below⟩ (.inl rfl)
      exact res_tmp rfl
    · replace h := iff_ h (bne_f hb68)
      refine guardOn 3 30 rfl rfl hb68 ?_
      refine s_mv (v := .int .i64 r66) rfl ?_
      refine guardOn 3 30 rfl rfl hb68 ?_
      refine s_mv (v := .int .i64 r37) rfl ?_
      refine guardOn 3 30 rfl rfl hb68 ?_
      refine s_neq rfl rfl ?_
      refine s_pick (v := .bool (decide (r66 ≠ r37))) (b := false) (tr rfl (congrArg _ hb68)) rfl ?_
      refine done ?_
      refine then_norm ?_
      refine cw_cond rfl (fun hb69 => ?_) (fun hb69 => ?_)
      · replace h := ift h (ct hb69)
        refine wp_seq ?_
        refine cw_region ?_
        refine s_as (v := .bool false) rfl ?_
        refine done ?_
        refine then_norm ?_
        refine wp_ret (then_ret ?_)
        refine ret1 (fn := Try.f5) rfl ?_ ⟨false, rfl, h, hC.below⟩ (.inl rfl)
        exact res_tmp rfl
      · replace h := iff_ h (cf hb69)
        refine wp_skip ?_
        refine then_norm ?_
        refine wp_seq ?_
        refine wp_seq ?_
        refine cw_draw 3 mixed [0, 0, 2, 7, 15] [0, 1] [] (by kernel_rfl) (by kernel_rfl) (by kernel_rfl) (fun hM71 hM72 w70 hB_ => ?_)
        replace hC := hC.grow hB_
        refine ae_look belPre 0 (.agg #[u43, u44]) rfl rfl (by kernel_rfl) (hM71 0 rfl) (fun w_ hB_ => .inl ⟨rfl, by exact r_loadA (hC.grow hB_) 0 [u43, u44] rfl ag31 rfl rfl rfl⟩) (listed' := (List.toArray [true, false, false, false, false])) rfl ?_
        refine ae_look belPre 1 (.agg #[u0_0, u0_1]) rfl rfl (by kernel_rfl) (hM71 1 rfl) (fun w_ hB_ => .inl ⟨rfl, by exact r_loadA (hC.grow hB_) 5 [u0_0, u0_1] rfl ag25 rfl rfl rfl⟩) (listed' := (List.toArray [true, true, false, false, false])) rfl ?_
        refine ae_one 2 rfl (by kernel_rfl) ?_
        refine s_call [.agg #[u0_0, u0_1]] _ Try.func13 rfl rfl rfl (c_laws_toAlgebra a0 h _ (alg_mk (hC.getP 1 rfl) (hC.getP 0 rfl))) (fun ret73 w75 hR74 => ?_)
        obtain ⟨r76, u77, u78, f79, rfl, h, hr80, hf81, hB82⟩ := hR74
        refine ⟨_, rfl, ?_⟩
        replace hC := hC.push hB82 (Tr.item (TrAlg 2 86 46) r76 [u77, u78] f79) hr80 hf81
        obtain ⟨f84, ho85, ho86, hs87, hs88, hd89⟩ := alg_split (hC.getM 0 rfl)
        replace hC := hC.split (a := own 2 1 u77 r76.degrees.length ((EI .i64).encs r76.degrees)) (b := Tr.item (Tr.sl 46 (TrForm 86)) r76.images [u78] f84) hs87 hs88 ⟨ho85, ho86, hd89⟩
        refine done ?_
        refine ak_intro (by assumption) (listed' := (List.toArray [true, true, true, false, false])) rfl ?_
        refine ae_tail 3 (by decide) (by decide) (by kernel_rfl) rfl rfl ?_
        refine s_call [.agg #[u43, u44], .agg #[u77, u78]] _ Try.func15 rfl rfl rfl (c_laws_eqAlgebra r42 r76 h _ (alg_mk (own_repE (hC.getM 3 rfl)) (Tr.trep _ (hC.getM 4 rfl).1)) (alg_mk (own_repE (hC.getM 0 rfl)) (Tr.trep _ (hC.getM 1 rfl).1))) (fun ret92 w94 hR93 => ?_)
        obtain ⟨r95, rfl, h, hB96⟩ := hR93
        refine ⟨_, rfl, ?_⟩
        replace hC := hC.grow hB96
        refine s_not rfl ?_
        refine done ?_
        refine qn_norm ?_
        refine then_norm ?_
        refine cw_cond rfl (fun hb97 => ?_) (fun hb97 => ?_)
        · replace h := ift h (ne_t (not_t hb97))
          refine wp_seq ?_
          refine cw_region ?_
          refine s_as (v := .bool false) rfl ?_
          refine done ?_
          refine then_norm ?_
          refine wp_ret (then_ret ?_)
          refine ret1 (fn := Try.f5) rfl ?_ ⟨false, rfl, h, hC.below⟩ (.inl rfl)
          exact res_tmp rfl
        · replace h := iff_ h (not_not_intro ((not_f hb97)))
          refine wp_skip ?_
          refine then_norm ?_
          refine wp_seq ?_
          refine cw_region ?_
          refine s_as (v := .bool true) rfl ?_
          refine done ?_
          refine then_norm ?_
          refine wp_ret ?_
          refine ret1 (fn := Try.f5) rfl ?_ ⟨true, rfl, h, hC.below⟩ (.inl rfl)
          exact res_tmp rfl
end Go.Proofs.Ytgfmflmhcfkldaa
