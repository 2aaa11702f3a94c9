/- Printed by vcgen.py: functions of the program as predicates, and that the machine's calls meet them. -/
import Derived.Test.YtjngkbalaipdbaaGC
import Derived.KernelRfl
set_option linter.unusedVariables false
set_option linter.unusedSimpArgs false
set_option maxRecDepth 4000
set_option maxHeartbeats 4000000
namespace Go.Proofs.Ytjngkbalaipdbaa
open Go Go.RowKit Vc
theorem ag60 : AggT Try.prog 60 1 := ⟨⟨_, Try.underlying60, rfl⟩, by kernel_rfl⟩
def f_laws_FnExactMultiplyForms (a0 : List Int) (a1 : Vc.Form) (a2 : Vc.Form) (K : Bool → Prop) : Prop :=
  (if (a0.length : Int) > 1048576 then K true else f_laws_szForm a1 1048576 (fun r21 => (if r21 < 0 then K true else f_laws_szForm a2 r21 (fun r27 => (if r27 < 0 then K true else f_laws_toInt64S a0 (fun r899 => f_laws_toForm a1 (fun r912 => f_laws_toForm a2 (fun r925 => f_spec_MultiplyForms r899 (⟨r912.terms⟩ : Vc.Form) (⟨r925.terms⟩ : Vc.Form) (fun r947 r952 => f_laws_toInt64S a0 (fun r290 => f_laws_toForm (⟨a1.terms⟩ : Vc.Form) (fun r303 => f_laws_toForm (⟨a2.terms⟩ : Vc.Form) (fun r320 => f_impl_MultiplyForms r290 r303 r320 (fun r337 r342 => f_laws_eqForm r337 r947 (fun r355 => (if ¬ (r355 = true) then K false else (if r342 ≠ r952 then K false else f_laws_toInt64S a0 (fun r362 => f_laws_eqInt64S r290 r362 (fun r375 => (if ¬ (r375 = true) then K false else f_laws_toForm (⟨a1.terms⟩ : Vc.Form) (fun r384 => f_laws_eqForm r303 r384 (fun r397 => (if ¬ (r397 = true) then K false else f_laws_toForm (⟨a2.terms⟩ : Vc.Form) (fun r406 => f_laws_eqForm r320 r406 (fun r419 => (if ¬ (r419 = true) then K false else f_laws_markInt64S r290 1 (fun r425 m427 => f_laws_markForm (⟨r303.terms⟩ : Vc.Form) r425 (fun r432 m434 => f_laws_markForm (⟨r320.terms⟩ : Vc.Form) r432 (fun r439 m441 => (if r439 < 0 then K false else f_laws_eqForm (⟨r337.terms⟩ : Vc.Form) (⟨r947.terms⟩ : Vc.Form) (fun r447 => (if ¬ (r447 = true) then K false else f_laws_markForm (⟨r337.terms⟩ : Vc.Form) 1 (fun r453 m455 => f_laws_heldForm (⟨m455.terms⟩ : Vc.Form) 1 (fun r460 => (if r460 < 0 then K false else (if r460 ≠ r453 then K false else f_laws_toInt64S a0 (fun r692 => f_laws_toForm (⟨a1.terms⟩ : Vc.Form) (fun r705 => f_laws_toForm (⟨a2.terms⟩ : Vc.Form) (fun r718 => f_impl_MultiplyForms r692 r705 r718 (fun r731 r736 => f_laws_eqForm r731 (⟨r947.terms⟩ : Vc.Form) (fun r678 => (if ¬ (r678 = true) then K false else (if r736 ≠ r952 then K false else f_laws_heldForm (⟨m455.terms⟩ : Vc.Form) 1 (fun r685 => (if r685 < 0 then K false else (if r685 ≠ r453 then K false else K true)))))))))))))))))))))))))))))))))))))))))))))
theorem c_laws_FnExactMultiplyForms (a0 : List Int) (a1 : Vc.Form) (a2 : Vc.Form) {u0_0 : Value} {u1_0 : Value} {u2_0 : Value} {fp0 : List Nat} {fp1 : List Nat} {fp2 : List Nat} {K : Bool → Prop} (h : f_laws_FnExactMultiplyForms a0 a1 a2 K) (w0 : World) (q0 : ((EI .i64).ty.sl).rep a0 [u0_0] fp0 w0) (q1 : TForm.rep a1 [u1_0] fp1 w0) (q2 : TForm.rep a2 [u2_0] fp2 w0) :
    Calls Try.prog 12 #[u0_0, .agg #[u1_0], .agg #[u2_0]] w0 fun e w' => ∃ (r0 : Bool), 
      e = .returned (.bool r0) ∧ K r0 ∧ Bel w0 w' := by
  unfold f_laws_FnExactMultiplyForms at h
  refine calls_of (args := [u0_0, .agg #[u1_0], .agg #[u2_0]]) Try.func12 rfl 140 Try.ntmps12 (Nat.le_of_ble_eq_true rfl) ?_
  have hC := Ctx.start (X := Nox) w0 [Ty.item ((EI .i64).ty.sl) a0 [u0_0] fp0, Ty.item TForm a1 [u1_0] fp1, Ty.item TForm a2 [u2_0] fp2] (by simp only [List.mem_cons, List.not_mem_nil, or_false, forall_eq_or_imp, forall_eq]; exact ⟨q0, q1, q2⟩)
  have hp4 := (hC.getP 1 rfl)
  replace hC := hC.derive 1 rfl (Ty.item ETerm.ty.sl a1.terms [u1_0] fp1) (fun _ => (form_parts hp4)) (fun _ hb_ => hb_)
  have hp6 := (hC.getP 3 rfl)
  replace hC := hC.derive 3 rfl (Ty.item ETerm.ty.sl a2.terms [u2_0] fp2) (fun _ => (form_parts hp6)) (fun _ hb_ => hb_)
  refine wp_seq ?_
  refine cw_region ?_
  refine s_box (v := .agg #[u1_0]) hC [u1_0] rfl rfl fun b8 w10 hB_ hC => ?_
  refine s_box (v := .agg #[u2_0]) hC [u2_0] rfl rfl fun b11 w13 hB_ hC => ?_
  refine s_as (v := .bool false) rfl ?_
  refine done ?_
  refine then_norm ?_
  refine wp_seq ?_
  refine wp_seq ?_
  refine cw_region ?_
  refine s_mv (v := u0_0) rfl ?_
  obtain ⟨Ad14, c15, hv16⟩ := sl_len (hC.getP 2 rfl)
  refine s_len Try.underlying22 (tr rfl hv16) ?_
  refine s_gtr rfl rfl ?_
  refine done ?_
  refine then_norm ?_
  refine cw_cond rfl (fun hb17 => ?_) (fun hb17 => ?_)
  · replace h := ift h (ct hb17)
    refine wp_seq ?_
    refine cw_region ?_
    refine s_as (v := .bool true) rfl ?_
    refine done ?_
    refine then_norm ?_
    refine wp_ret (then_ret ?_)
    refine ret1 (fn := Try.f12) rfl ?_ ⟨true, rfl, h, hC.below⟩ (.inl rfl)
    exact res_tmp rfl
  · replace h := iff_ h (cf hb17)
    refine wp_skip ?_
    refine then_norm ?_
    refine wp_seq ?_
    refine cw_region ?_
    refine s_as (v := .int .i64 1048576) rfl ?_
    refine done ?_
    refine then_norm ?_
    refine wp_seq ?_
    refine cw_region ?_
    refine s_loadA hC 1 [u1_0] rfl ag60 rfl rfl rfl ?_
    refine s_mv (v := .int .i64 1048576) rfl ?_
    refine s_call [.agg #[u1_0], .int .i64 1048576] _ Try.func39 rfl rfl rfl (c_laws_szForm a1 1048576 h _ (form_mk (hC.getP 1 rfl))) (fun ret18 w20 hR19 => ?_)
    obtain ⟨r21, rfl, h, hB22⟩ := hR19
    refine ⟨_, rfl, ?_⟩
    replace hC := hC.grow hB22
    refine s_as (v := .int .i64 r21) rfl ?_
    refine done ?_
    refine then_norm ?_
    refine wp_seq ?_
    refine wp_seq ?_
    refine cw_region ?_
    refine s_mv (v := .int .i64 r21) rfl ?_
    refine s_lss rfl rfl ?_
    refine done ?_
    refine then_norm ?_
    refine cw_cond rfl (fun hb23 => ?_) (fun hb23 => ?_)
    · replace h := ift h (ct hb23)
      refine wp_seq ?_
      refine cw_region ?_
      refine s_as (v := .bool true) rfl ?_
      refine done ?_
      refine then_norm ?_
      refine wp_ret (then_ret ?_)
      refine ret1 (fn := Try.f12) rfl ?_ ⟨true, rfl, h, hC.below⟩ (.inl rfl)
      exact res_tmp rfl
    · replace h := iff_ h (cf hb23)
      refine wp_skip ?_
      refine then_norm ?_
      refine wp_seq ?_
      refine cw_region ?_
      refine s_loadA hC 0 [u2_0] rfl ag60 rfl rfl rfl ?_
      refine s_mv (v := .int .i64 r21) rfl ?_
      refine s_call [.agg #[u2_0], .int .i64 r21] _ Try.func39 rfl rfl rfl (c_laws_szForm a2 r21 h _ (form_mk (hC.getP 0 rfl))) (fun ret24 w26 hR25 => ?_)
      obtain ⟨r27, rfl, h, hB28⟩ := hR25
      refine ⟨_, rfl, ?_⟩
      replace hC := hC.grow hB28
      refine s_as (v := .int .i64 r27) rfl ?_
      refine done ?_
      refine then_norm ?_
      refine wp_seq ?_
      refine wp_seq ?_
      refine cw_region ?_
      refine s_mv (v := .int .i64 r27) rfl ?_
      refine s_lss rfl rfl ?_
      refine done ?_
      refine then_norm ?_
      refine cw_cond rfl (fun hb29 => ?_) (fun hb29 => ?_)
      · replace h := ift h (ct hb29)
        refine wp_seq ?_
        refine cw_region ?_
        refine s_as (v := .bool true) rfl ?_
        refine done ?_
        refine then_norm ?_
        refine wp_ret (then_ret ?_)
        refine ret1 (fn := Try.f12) rfl ?_ ⟨true, rfl, h, hC.below⟩ (.inl rfl)
        exact res_tmp rfl
      · replace h := iff_ h (cf hb29)
        refine wp_skip ?_
        refine then_norm ?_
        refine wp_seq ?_
        refine cw_draw 11 mixed [0, 1, 0, 7, 0, 31, 63, 127, 255, 255, 0, 1535, 4095] [2, 4] [0, 7, 8, 9] (by kernel_rfl) (by kernel_rfl) (by kernel_rfl) (fun hM31 hM32 w30 hB_ => ?_)
        replace hC := hC.grow hB_
        refine ae_lookF 0 (u0_0) rfl rfl (by kernel_rfl) (hM32 0 rfl) (fun w_ => .inl ⟨rfl, by exact r_mv (v := u0_0) rfl⟩) (listed' := (List.toArray [true, false, false, false, false, false, false, false, false, false, false, false, false])) rfl ?_
        refine ae_look 2 (.agg #[u1_0]) rfl rfl (by kernel_rfl) (hM31 2 rfl) (fun w_ hB_ => .inl ⟨rfl, by exact r_loadA (hC.grow hB_) 1 [u1_0] rfl ag60 rfl rfl rfl⟩) (listed' := (List.toArray [true, false, true, false, false, false, false, false, false, false, false, false, false])) rfl ?_
        refine ae_look 4 (.agg #[u2_0]) rfl rfl (by kernel_rfl) (hM31 4 rfl) (fun w_ hB_ => .inl ⟨rfl, by exact r_loadA (hC.grow hB_) 0 [u2_0] rfl ag60 rfl rfl rfl⟩) (listed' := (List.toArray [true, false, true, false, true, false, false, false, false, false, false, false, false])) rfl ?_
        refine ae_join (fun e_ w_ => ∃ (b95 : Nat), ∃ (u85 : Value), ∃ (r84 : Vc.Form), ∃ (f86 : List Nat), ∃ (r89 : Int), e_ 0 = u0_0 ∧ e_ 4 = .pointer (some ⟨b8, 0, none⟩) ∧ e_ 5 = .pointer (some ⟨b11, 0, none⟩) ∧ e_ 6 = .bool false ∧ e_ 8 = .pointer (some ⟨b95, 0, none⟩) ∧ e_ 9 = .int .i64 r89 ∧ (∀ b, b ∈ f86 → w0.heap.size ≤ b ∨ b ∈ (fp0 ++ (fp1 ++ (fp2)))) ∧ Ctx Nox w0 w_ [blk b95 51 [u85], blk b11 60 [u2_0], blk b8 60 [u1_0]] [Ty.item ETerm.ty.sl r84.terms [u85] f86, Ty.item ETerm.ty.sl a2.terms [u2_0] fp2, Ty.item ETerm.ty.sl a1.terms [u1_0] fp1, Ty.item ((EI .i64).ty.sl) a0 [u0_0] fp0, Ty.item TForm a1 [u1_0] fp1, Ty.item TForm a2 [u2_0] fp2] ∧ (f_laws_toInt64S a0 (fun r290 => f_laws_toForm (⟨a1.terms⟩ : Vc.Form) (fun r303 => f_laws_toForm (⟨a2.terms⟩ : Vc.Form) (fun r320 => f_impl_MultiplyForms r290 r303 r320 (fun r337 r342 => f_laws_eqForm r337 r84 (fun r355 => (if ¬ (r355 = true) then K false else (if r342 ≠ r89 then K false else f_laws_toInt64S a0 (fun r362 => f_laws_eqInt64S r290 r362 (fun r375 => (if ¬ (r375 = true) then K false else f_laws_toForm (⟨a1.terms⟩ : Vc.Form) (fun r384 => f_laws_eqForm r303 r384 (fun r397 => (if ¬ (r397 = true) then K false else f_laws_toForm (⟨a2.terms⟩ : Vc.Form) (fun r406 => f_laws_eqForm r320 r406 (fun r419 => (if ¬ (r419 = true) then K false else f_laws_markInt64S r290 1 (fun r425 m427 => f_laws_markForm (⟨r303.terms⟩ : Vc.Form) r425 (fun r432 m434 => f_laws_markForm (⟨r320.terms⟩ : Vc.Form) r432 (fun r439 m441 => (if r439 < 0 then K false else f_laws_eqForm (⟨r337.terms⟩ : Vc.Form) (⟨r84.terms⟩ : Vc.Form) (fun r447 => (if ¬ (r447 = true) then K false else f_laws_markForm (⟨r337.terms⟩ : Vc.Form) 1 (fun r453 m455 => f_laws_heldForm (⟨m455.terms⟩ : Vc.Form) 1 (fun r460 => (if r460 < 0 then K false else (if r460 ≠ r453 then K false else f_laws_toInt64S a0 (fun r692 => f_laws_toForm (⟨a1.terms⟩ : Vc.Form) (fun r705 => f_laws_toForm (⟨a2.terms⟩ : Vc.Form) (fun r718 => f_impl_MultiplyForms r692 r705 r718 (fun r731 r736 => f_laws_eqForm r731 (⟨r84.terms⟩ : Vc.Form) (fun r678 => (if ¬ (r678 = true) then K false else (if r736 ≠ r89 then K false else f_laws_heldForm (⟨m455.terms⟩ : Vc.Form) 1 (fun r685 => (if r685 < 0 then K false else (if r685 ≠ r453 then K false else K true)))))))))))))))))))))))))))))))))))))) ?_ ?_
        · clear hC h
          rintro e_ w286 ⟨b95, u85, r84, f86, r89, h0_, h4_, h5_, h6_, h8_, h9_, hq285, hC, h⟩
          refine then_norm ?_
          refine wp_seq ?_
          refine cw_region ?_
          refine s_mv (v := u0_0) h0_ ?_
          refine s_call [u0_0] _ Try.func14 rfl rfl rfl (c_laws_toInt64S a0 h _ (hC.getP 3 rfl)) (fun ret287 w289 hR288 => ?_)
          obtain ⟨r290, u291, f292, rfl, h, hr293, hf294, hB295⟩ := hR288
          refine ⟨_, rfl, ?_⟩
          replace hC := hC.push hB295 (Tr.item (Tr.sl 2 ((EI .i64).tr)) r290 [u291] f292) hr293 hf294
          obtain ⟨ho297, hf298⟩ := flat_tr (hC.getM 0 rfl).1
          subst hf298
          replace hC := hC.recast (c := own 2 1 u291 r290.length ((EI .i64).encs r290)) (fun _ h_ => h_) (fun _ => ho297)
          refine s_as (v := u291) rfl ?_
          refine done ?_
          refine then_norm ?_
          refine wp_seq ?_
          refine cw_region ?_
          refine s_loadA hC 3 [u1_0] rfl ag60 h4_ rfl rfl ?_
          refine s_call [.agg #[u1_0]] _ Try.func41 rfl rfl rfl (c_laws_toForm (⟨a1.terms⟩ : Vc.Form) h _ (form_mk (hC.getP 2 rfl))) (fun ret300 w302 hR301 => ?_)
          obtain ⟨r303, u304, f305, rfl, h, hr306, hf307, hB308⟩ := hR301
          refine ⟨_, rfl, ?_⟩
          replace hC := hC.push hB308 (Tr.item (TrForm 93) r303 [u304] f305) hr306 hf307
          obtain ⟨ho310, hf311⟩ := form_split (hC.getM 0 rfl)
          subst hf311
          replace hC := hC.recast (c := own 93 9 u304 r303.terms.length (ETerm.encs r303.terms)) (fun _ h_ => h_) (fun _ => ho310)
          refine s_alloc hC [.slice none 0 0] z51 rfl fun b313 w315 hB_ hC => ?_
          refine s_store (v := .agg #[u304]) hC 0 [u304] [u304] rfl ag51.size rfl rfl rfl rfl (all_c (own_oneC (hC.getM 1 rfl)) rfl) (Nat.le_of_ble_eq_true rfl) rfl fun w316 hC => ?_
          refine done ?_
          refine then_norm ?_
          refine wp_seq ?_
          refine cw_region ?_
          refine s_loadA hC 4 [u2_0] rfl ag60 h5_ rfl rfl ?_
          refine s_call [.agg #[u2_0]] _ Try.func41 rfl rfl rfl (c_laws_toForm (⟨a2.terms⟩ : Vc.Form) h _ (form_mk (hC.getP 1 rfl))) (fun ret317 w319 hR318 => ?_)
          obtain ⟨r320, u321, f322, rfl, h, hr323, hf324, hB325⟩ := hR318
          refine ⟨_, rfl, ?_⟩
          replace hC := hC.push hB325 (Tr.item (TrForm 93) r320 [u321] f322) hr323 hf324
          obtain ⟨ho327, hf328⟩ := form_split (hC.getM 0 rfl)
          subst hf328
          replace hC := hC.recast (c := own 93 9 u321 r320.terms.length (ETerm.encs r320.terms)) (fun _ h_ => h_) (fun _ => ho327)
          refine s_alloc hC [.slice none 0 0] z51 rfl fun b330 w332 hB_ hC => ?_
          refine s_store (v := .agg #[u321]) hC 0 [u321] [u321] rfl ag51.size rfl rfl rfl rfl (all_c (own_oneC (hC.getM 1 rfl)) rfl) (Nat.le_of_ble_eq_true rfl) rfl fun w333 hC => ?_
          refine done ?_
          refine then_norm ?_
          refine wp_seq ?_
          refine cw_region ?_
          refine s_mv (v := u291) rfl ?_
          refine s_loadA hC 2 [u304] rfl ag51 rfl rfl rfl ?_
          refine s_loadA hC 0 [u321] rfl ag51 rfl rfl rfl ?_
          refine s_call [u291, .agg #[u304], .agg #[u321]] _ Try.func60 rfl rfl rfl (c_impl_MultiplyForms r290 r303 r320 h _ (own_repE (hC.getM 4 rfl)) (form_mk (own_repE (hC.getM 3 rfl))) (form_mk (own_repE (hC.getM 1 rfl)))) (fun ret334 w336 hR335 => ?_)
          obtain ⟨r337, u338, f339, r342, rfl, h, hr340, hf341, hB343⟩ := hR335
          refine ⟨_, rfl, ?_⟩
          replace hC := hC.push hB343 (Tr.item (TrForm 93) r337 [u338] f339) hr340 hf341
          obtain ⟨ho345, hf346⟩ := form_split (hC.getM 0 rfl)
          subst hf346
          replace hC := hC.recast (c := own 93 9 u338 r337.terms.length (ETerm.encs r337.terms)) (fun _ h_ => h_) (fun _ => ho345)
          refine s_mv (v := .tuple #[.agg #[u338], .int .i64 r342]) rfl ?_
          refine s_ext (v := .agg #[u338]) rfl rfl ?_
          refine s_ext (v := .int .i64 r342) rfl rfl ?_
          refine s_alloc hC [.slice none 0 0] z51 rfl fun b348 w350 hB_ hC => ?_
          refine s_store (v := .agg #[u338]) hC 0 [u338] [u338] rfl ag51.size rfl rfl rfl rfl (all_c (own_oneC (hC.getM 1 rfl)) rfl) (Nat.le_of_ble_eq_true rfl) rfl fun w351 hC => ?_
          refine s_as (v := .int .i64 r342) rfl ?_
          refine done ?_
          refine then_norm ?_
          refine wp_seq ?_
          refine wp_seq ?_
          refine cw_region ?_
          refine s_loadA hC 0 [u338] rfl ag51 rfl rfl rfl ?_
          refine s_loadA hC 7 [u85] rfl ag51 h8_ rfl rfl ?_
          refine s_call [.agg #[u338], .agg #[u85]] _ Try.func43 rfl rfl rfl (c_laws_eqForm r337 r84 h _ (form_mk (own_repE (hC.getM 1 rfl))) (form_mk (hC.getP 0 rfl))) (fun ret352 w354 hR353 => ?_)
          obtain ⟨r355, rfl, h, hB356⟩ := hR353
          refine ⟨_, rfl, ?_⟩
          replace hC := hC.grow hB356
          refine s_not rfl ?_
          refine s_mv (v := .bool (!r355)) rfl ?_
          refine bsplit (!r355) (fun hb357 => ?_) (fun hb357 => ?_)
          · replace h := ift h (ne_t (not_t hb357))
            refine guardOff (b := true) 4 60 rfl (tr rfl (congrArg _ hb357)) (by decide) ?_
            refine guardOff (b := true) 4 60 rfl (tr rfl (congrArg _ hb357)) (by decide) ?_
            refine guardOff (b := true) 4 60 rfl (tr rfl (congrArg _ hb357)) (by decide) ?_
            refine s_pick (v := .bool true) (b := true) (tr rfl (congrArg _ hb357)) rfl ?_
            refine done ?_
            refine then_norm ?_
            refine cw_true rfl rfl ?_
            refine wp_seq ?_
            refine cw_region ?_
            refine s_as (v := .bool false) rfl ?_
            refine done ?_
            refine then_norm ?_
            refine wp_ret (then_ret ?_)
            refine ret1 (fn := Try.f12) rfl ?_ ⟨false, rfl, h, hC.below⟩ (.inl rfl)
            exact res_tmp rfl
          · replace h := iff_ h (not_not_intro ((not_f hb357)))
            refine guardOn 4 60 rfl rfl hb357 ?_
            refine s_mv (v := .int .i64 r342) rfl ?_
            refine guardOn 4 60 rfl rfl hb357 ?_
            refine s_mv (v := .int .i64 r89) h9_ ?_
            refine guardOn 4 60 rfl rfl hb357 ?_
            refine s_neq rfl rfl ?_
            refine s_pick (v := .bool (decide (r342 ≠ r89))) (b := false) (tr rfl (congrArg _ hb357)) rfl ?_
            refine done ?_
            refine then_norm ?_
            refine cw_cond rfl (fun hb358 => ?_) (fun hb358 => ?_)
            · replace h := ift h (ct hb358)
              refine wp_seq ?_
              refine cw_region ?_
              refine s_as (v := .bool false) rfl ?_
              refine done ?_
              refine then_norm ?_
              refine wp_ret (then_ret ?_)
              refine ret1 (fn := Try.f12) rfl ?_ ⟨false, rfl, h, hC.below⟩ (.inl rfl)
              exact res_tmp rfl
            · replace h := iff_ h (cf hb358)
              refine wp_skip ?_
              refine then_norm ?_
              refine wp_seq ?_
              refine wp_seq ?_
              refine cw_region ?_
              refine s_mv (v := u291) rfl ?_
              refine s_mv (v := u0_0) h0_ ?_
              refine s_call [u0_0] _ Try.func14 rfl rfl rfl (c_laws_toInt64S a0 h _ (hC.getP 3 rfl)) (fun ret359 w361 hR360 => ?_)
              obtain ⟨r362, u363, f364, rfl, h, hr365, hf366, hB367⟩ := hR360
              refine ⟨_, rfl, ?_⟩
              replace hC := hC.push hB367 (Tr.item (Tr.sl 2 ((EI .i64).tr)) r362 [u363] f364) hr365 hf366
              obtain ⟨ho369, hf370⟩ := flat_tr (hC.getM 0 rfl).1
              subst hf370
              replace hC := hC.recast (c := own 2 1 u363 r362.length ((EI .i64).encs r362)) (fun _ h_ => h_) (fun _ => ho369)
              refine s_call [u291, u363] _ Try.func18 rfl rfl rfl (c_laws_eqInt64S r290 r362 h _ (own_repE (hC.getM 7 rfl)) (own_repE (hC.getM 0 rfl))) (fun ret372 w374 hR373 => ?_)
              obtain ⟨r375, rfl, h, hB376⟩ := hR373
              refine ⟨_, rfl, ?_⟩
              replace hC := hC.grow hB376
              refine s_not rfl ?_
              refine done ?_
              refine then_norm ?_
              refine cw_cond rfl (fun hb377 => ?_) (fun hb377 => ?_)
              · replace h := ift h (ne_t (not_t hb377))
                refine wp_seq ?_
                refine cw_region ?_
                refine s_as (v := .bool false) rfl ?_
                refine done ?_
                refine then_norm ?_
                refine wp_ret (then_ret ?_)
                refine ret1 (fn := Try.f12) rfl ?_ ⟨false, rfl, h, hC.below⟩ (.inl rfl)
                exact res_tmp rfl
              · replace h := iff_ h (not_not_intro ((not_f hb377)))
                refine wp_skip ?_
                refine then_norm ?_
                refine wp_seq ?_
                refine wp_seq ?_
                refine cw_draw 3 mixed [0, 0, 2, 7, 15] [0, 1] [] (by kernel_rfl) (by kernel_rfl) (by kernel_rfl) (fun hM379 hM380 w378 hB_ => ?_)
                replace hC := hC.grow hB_
                refine ae_look 0 (.agg #[u304]) rfl rfl (by kernel_rfl) (hM379 0 rfl) (fun w_ hB_ => .inl ⟨rfl, by exact r_loadA (hC.grow hB_) 5 [u304] rfl ag51 rfl rfl rfl⟩) (listed' := (List.toArray [true, false, false, false, false])) rfl ?_
                refine ae_look 1 (.agg #[u1_0]) rfl rfl (by kernel_rfl) (hM379 1 rfl) (fun w_ hB_ => .inl ⟨rfl, by exact r_loadA (hC.grow hB_) 10 [u1_0] rfl ag60 h4_ rfl rfl⟩) (listed' := (List.toArray [true, true, false, false, false])) rfl ?_
                refine ae_one 2 rfl (by kernel_rfl) ?_
                refine s_call [.agg #[u1_0]] _ Try.func41 rfl rfl rfl (c_laws_toForm (⟨a1.terms⟩ : Vc.Form) h _ (form_mk (hC.getP 2 rfl))) (fun ret381 w383 hR382 => ?_)
                obtain ⟨r384, u385, f386, rfl, h, hr387, hf388, hB389⟩ := hR382
                refine ⟨_, rfl, ?_⟩
                replace hC := hC.push hB389 (Tr.item (TrForm 93) r384 [u385] f386) hr387 hf388
                obtain ⟨ho391, hf392⟩ := form_split (hC.getM 0 rfl)
                subst hf392
                replace hC := hC.recast (c := own 93 9 u385 r384.terms.length (ETerm.encs r384.terms)) (fun _ h_ => h_) (fun _ => ho391)
                refine done ?_
                refine ak_intro (by assumption) (listed' := (List.toArray [true, true, true, false, false])) rfl ?_
                refine ae_tail 3 (by decide) (by decide) (by kernel_rfl) rfl rfl ?_
                refine s_call [.agg #[u304], .agg #[u385]] _ Try.func43 rfl rfl rfl (c_laws_eqForm r303 r384 h _ (form_mk (own_repE (hC.getM 7 rfl))) (form_mk (own_repE (hC.getM 0 rfl)))) (fun ret394 w396 hR395 => ?_)
                obtain ⟨r397, rfl, h, hB398⟩ := hR395
                refine ⟨_, rfl, ?_⟩
                replace hC := hC.grow hB398
                refine s_not rfl ?_
                refine done ?_
                refine qn_norm ?_
                refine then_norm ?_
                refine cw_cond rfl (fun hb399 => ?_) (fun hb399 => ?_)
                · replace h := ift h (ne_t (not_t hb399))
                  refine wp_seq ?_
                  refine cw_region ?_
                  refine s_as (v := .bool false) rfl ?_
                  refine done ?_
                  refine then_norm ?_
                  refine wp_ret (then_ret ?_)
                  refine ret1 (fn := Try.f12) rfl ?_ ⟨false, rfl, h, hC.below⟩ (.inl rfl)
                  exact res_tmp rfl
                · replace h := iff_ h (not_not_intro ((not_f hb399)))
                  refine wp_skip ?_
                  refine then_norm ?_
                  refine wp_seq ?_
                  refine wp_seq ?_
                  refine cw_draw 3 mixed [0, 0, 2, 7, 15] [0, 1] [] (by kernel_rfl) (by kernel_rfl) (by kernel_rfl) (fun hM401 hM402 w400 hB_ => ?_)
                  replace hC := hC.grow hB_
                  refine ae_look 0 (.agg #[u321]) rfl rfl (by kernel_rfl) (hM401 0 rfl) (fun w_ hB_ => .inl ⟨rfl, by exact r_loadA (hC.grow hB_) 4 [u321] rfl ag51 rfl rfl rfl⟩) (listed' := (List.toArray [true, false, false, false, false])) rfl ?_
                  refine ae_look 1 (.agg #[u2_0]) rfl rfl (by kernel_rfl) (hM401 1 rfl) (fun w_ hB_ => .inl ⟨rfl, by exact r_loadA (hC.grow hB_) 10 [u2_0] rfl ag60 h5_ rfl rfl⟩) (listed' := (List.toArray [true, true, false, false, false])) rfl ?_
                  refine ae_one 2 rfl (by kernel_rfl) ?_
                  refine s_call [.agg #[u2_0]] _ Try.func41 rfl rfl rfl (c_laws_toForm (⟨a2.terms⟩ : Vc.Form) h _ (form_mk (hC.getP 1 rfl))) (fun ret403 w405 hR404 => ?_)
                  obtain ⟨r406, u407, f408, rfl, h, hr409, hf410, hB411⟩ := hR404
                  refine ⟨_, rfl, ?_⟩
                  replace hC := hC.push hB411 (Tr.item (TrForm 93) r406 [u407] f408) hr409 hf410
                  obtain ⟨ho413, hf414⟩ := form_split (hC.getM 0 rfl)
                  subst hf414
                  replace hC := hC.recast (c := own 93 9 u407 r406.terms.length (ETerm.encs r406.terms)) (fun _ h_ => h_) (fun _ => ho413)
                  refine done ?_
                  refine ak_intro (by assumption) (listed' := (List.toArray [true, true, true, false, false])) rfl ?_
                  refine ae_tail 3 (by decide) (by decide) (by kernel_rfl) rfl rfl ?_
                  refine s_call [.agg #[u321], .agg #[u407]] _ Try.func43 rfl rfl rfl (c_laws_eqForm r320 r406 h _ (form_mk (own_repE (hC.getM 6 rfl))) (form_mk (own_repE (hC.getM 0 rfl)))) (fun ret416 w418 hR417 => ?_)
                  obtain ⟨r419, rfl, h, hB420⟩ := hR417
                  refine ⟨_, rfl, ?_⟩
                  replace hC := hC.grow hB420
                  refine s_not rfl ?_
                  refine done ?_
                  refine qn_norm ?_
                  refine then_norm ?_
                  refine cw_cond rfl (fun hb421 => ?_) (fun hb421 => ?_)
                  · replace h := ift h (ne_t (not_t hb421))
                    refine wp_seq ?_
                    refine cw_region ?_
                    refine s_as (v := .bool false) rfl ?_
                    refine done ?_
                    refine then_norm ?_
                    refine wp_ret (then_ret ?_)
                    refine ret1 (fn := Try.f12) rfl ?_ ⟨false, rfl, h, hC.below⟩ (.inl rfl)
                    exact res_tmp rfl
                  · replace h := iff_ h (not_not_intro ((not_f hb421)))
                    refine wp_skip ?_
                    refine then_norm ?_
                    refine wp_seq ?_
                    refine cw_region ?_
                    refine s_as (v := .int .i64 1) rfl ?_
                    refine done ?_
                    refine then_norm ?_
                    refine wp_seq ?_
                    refine cw_region ?_
                    refine s_mv (v := u291) rfl ?_
                    refine s_mv (v := .int .i64 1) rfl ?_
                    refine s_call [u291, .int .i64 1] _ Try.func27 rfl rfl rfl (c_laws_markInt64S r290 1 h _ (hC.getM 9 rfl)) (fun ret422 w424 hR423 => ?_)
                    obtain ⟨r425, m427, rfl, h, hm428, hB426⟩ := hR423
                    refine ⟨_, rfl, ?_⟩
                    replace hC := hC.turnL hB426 (M' := [own 93 9 u407 r406.terms.length (ETerm.encs r406.terms), own 93 9 u385 r384.terms.length (ETerm.encs r384.terms), own 2 1 u363 r362.length ((EI .i64).encs r362), blk b348 51 [u338], own 93 9 u338 r337.terms.length (ETerm.encs r337.terms), blk b330 51 [u321], own 93 9 u321 r320.terms.length (ETerm.encs r320.terms), blk b313 51 [u304], own 93 9 u304 r303.terms.length (ETerm.encs r303.terms), own 2 1 u291 m427.length ((EI .i64).encs m427), blk b95 51 [u85], blk b11 60 [u2_0], blk b8 60 [u1_0]]) rfl (fun x_ hx_ => ⟨_, List.mem_of_getElem? (i := 9) rfl, hx_⟩) (by simp only [List.mem_cons, List.not_mem_nil, or_false, forall_eq_or_imp, forall_eq]; exact ⟨(hC.stay 0 rfl hB426 (fun x_ hq_ hx_ => hC.mm 0 9 rfl rfl (by decide) x_ hq_ hx_)), (hC.stay 1 rfl hB426 (fun x_ hq_ hx_ => hC.mm 1 9 rfl rfl (by decide) x_ hq_ hx_)), (hC.stay 2 rfl hB426 (fun x_ hq_ hx_ => hC.mm 2 9 rfl rfl (by decide) x_ hq_ hx_)), (hC.stay 3 rfl hB426 (fun x_ hq_ hx_ => hC.mm 3 9 rfl rfl (by decide) x_ hq_ hx_)), (hC.stay 4 rfl hB426 (fun x_ hq_ hx_ => hC.mm 4 9 rfl rfl (by decide) x_ hq_ hx_)), (hC.stay 5 rfl hB426 (fun x_ hq_ hx_ => hC.mm 5 9 rfl rfl (by decide) x_ hq_ hx_)), (hC.stay 6 rfl hB426 (fun x_ hq_ hx_ => hC.mm 6 9 rfl rfl (by decide) x_ hq_ hx_)), (hC.stay 7 rfl hB426 (fun x_ hq_ hx_ => hC.mm 7 9 rfl rfl (by decide) x_ hq_ hx_)), (hC.stay 8 rfl hB426 (fun x_ hq_ hx_ => hC.mm 8 9 rfl rfl (by decide) x_ hq_ hx_)), hm428, (hC.stay 10 rfl hB426 (fun x_ hq_ hx_ => hC.mm 10 9 rfl rfl (by decide) x_ hq_ hx_)), (hC.stay 11 rfl hB426 (fun x_ hq_ hx_ => hC.mm 11 9 rfl rfl (by decide) x_ hq_ hx_)), (hC.stay 12 rfl hB426 (fun x_ hq_ hx_ => hC.mm 12 9 rfl rfl (by decide) x_ hq_ hx_))⟩)
                    refine s_as (v := .int .i64 r425) rfl ?_
                    refine done ?_
                    refine then_norm ?_
                    refine wp_seq ?_
                    refine cw_region ?_
                    refine s_loadA hC 7 [u304] rfl ag51 rfl rfl rfl ?_
                    refine s_mv (v := .int .i64 r425) rfl ?_
                    refine s_call [.agg #[u304], .int .i64 r425] _ Try.func44 rfl rfl rfl (c_laws_markForm (⟨r303.terms⟩ : Vc.Form) r425 h _ (hC.getM 8 rfl)) (fun ret429 w431 hR430 => ?_)
                    obtain ⟨r432, m434, rfl, h, hm435, hB433⟩ := hR430
                    refine ⟨_, rfl, ?_⟩
                    replace hC := hC.turnL hB433 (M' := [own 93 9 u407 r406.terms.length (ETerm.encs r406.terms), own 93 9 u385 r384.terms.length (ETerm.encs r384.terms), own 2 1 u363 r362.length ((EI .i64).encs r362), blk b348 51 [u338], own 93 9 u338 r337.terms.length (ETerm.encs r337.terms), blk b330 51 [u321], own 93 9 u321 r320.terms.length (ETerm.encs r320.terms), blk b313 51 [u304], own 93 9 u304 m434.terms.length (ETerm.encs m434.terms), own 2 1 u291 m427.length ((EI .i64).encs m427), blk b95 51 [u85], blk b11 60 [u2_0], blk b8 60 [u1_0]]) rfl (fun x_ hx_ => ⟨_, List.mem_of_getElem? (i := 8) rfl, hx_⟩) (by simp only [List.mem_cons, List.not_mem_nil, or_false, forall_eq_or_imp, forall_eq]; exact ⟨(hC.stay 0 rfl hB433 (fun x_ hq_ hx_ => hC.mm 0 8 rfl rfl (by decide) x_ hq_ hx_)), (hC.stay 1 rfl hB433 (fun x_ hq_ hx_ => hC.mm 1 8 rfl rfl (by decide) x_ hq_ hx_)), (hC.stay 2 rfl hB433 (fun x_ hq_ hx_ => hC.mm 2 8 rfl rfl (by decide) x_ hq_ hx_)), (hC.stay 3 rfl hB433 (fun x_ hq_ hx_ => hC.mm 3 8 rfl rfl (by decide) x_ hq_ hx_)), (hC.stay 4 rfl hB433 (fun x_ hq_ hx_ => hC.mm 4 8 rfl rfl (by decide) x_ hq_ hx_)), (hC.stay 5 rfl hB433 (fun x_ hq_ hx_ => hC.mm 5 8 rfl rfl (by decide) x_ hq_ hx_)), (hC.stay 6 rfl hB433 (fun x_ hq_ hx_ => hC.mm 6 8 rfl rfl (by decide) x_ hq_ hx_)), (hC.stay 7 rfl hB433 (fun x_ hq_ hx_ => hC.mm 7 8 rfl rfl (by decide) x_ hq_ hx_)), hm435, (hC.stay 9 rfl hB433 (fun x_ hq_ hx_ => hC.mm 9 8 rfl rfl (by decide) x_ hq_ hx_)), (hC.stay 10 rfl hB433 (fun x_ hq_ hx_ => hC.mm 10 8 rfl rfl (by decide) x_ hq_ hx_)), (hC.stay 11 rfl hB433 (fun x_ hq_ hx_ => hC.mm 11 8 rfl rfl (by decide) x_ hq_ hx_)), (hC.stay 12 rfl hB433 (fun x_ hq_ hx_ => hC.mm 12 8 rfl rfl (by decide) x_ hq_ hx_))⟩)
                    refine s_as (v := .int .i64 r432) rfl ?_
                    refine done ?_
                    refine then_norm ?_
                    refine wp_seq ?_
                    refine cw_region ?_
                    refine s_loadA hC 5 [u321] rfl ag51 rfl rfl rfl ?_
                    refine s_mv (v := .int .i64 r432) rfl ?_
                    refine s_call [.agg #[u321], .int .i64 r432] _ Try.func44 rfl rfl rfl (c_laws_markForm (⟨r320.terms⟩ : Vc.Form) r432 h _ (hC.getM 6 rfl)) (fun ret436 w438 hR437 => ?_)
                    obtain ⟨r439, m441, rfl, h, hm442, hB440⟩ := hR437
                    refine ⟨_, rfl, ?_⟩
                    replace hC := hC.turnL hB440 (M' := [own 93 9 u407 r406.terms.length (ETerm.encs r406.terms), own 93 9 u385 r384.terms.length (ETerm.encs r384.terms), own 2 1 u363 r362.length ((EI .i64).encs r362), blk b348 51 [u338], own 93 9 u338 r337.terms.length (ETerm.encs r337.terms), blk b330 51 [u321], own 93 9 u321 m441.terms.length (ETerm.encs m441.terms), blk b313 51 [u304], own 93 9 u304 m434.terms.length (ETerm.encs m434.terms), own 2 1 u291 m427.length ((EI .i64).encs m427), blk b95 51 [u85], blk b11 60 [u2_0], blk b8 60 [u1_0]]) rfl (fun x_ hx_ => ⟨_, List.mem_of_getElem? (i := 6) rfl, hx_⟩) (by simp only [List.mem_cons, List.not_mem_nil, or_false, forall_eq_or_imp, forall_eq]; exact ⟨(hC.stay 0 rfl hB440 (fun x_ hq_ hx_ => hC.mm 0 6 rfl rfl (by decide) x_ hq_ hx_)), (hC.stay 1 rfl hB440 (fun x_ hq_ hx_ => hC.mm 1 6 rfl rfl (by decide) x_ hq_ hx_)), (hC.stay 2 rfl hB440 (fun x_ hq_ hx_ => hC.mm 2 6 rfl rfl (by decide) x_ hq_ hx_)), (hC.stay 3 rfl hB440 (fun x_ hq_ hx_ => hC.mm 3 6 rfl rfl (by decide) x_ hq_ hx_)), (hC.stay 4 rfl hB440 (fun x_ hq_ hx_ => hC.mm 4 6 rfl rfl (by decide) x_ hq_ hx_)), (hC.stay 5 rfl hB440 (fun x_ hq_ hx_ => hC.mm 5 6 rfl rfl (by decide) x_ hq_ hx_)), hm442, (hC.stay 7 rfl hB440 (fun x_ hq_ hx_ => hC.mm 7 6 rfl rfl (by decide) x_ hq_ hx_)), (hC.stay 8 rfl hB440 (fun x_ hq_ hx_ => hC.mm 8 6 rfl rfl (by decide) x_ hq_ hx_)), (hC.stay 9 rfl hB440 (fun x_ hq_ hx_ => hC.mm 9 6 rfl rfl (by decide) x_ hq_ hx_)), (hC.stay 10 rfl hB440 (fun x_ hq_ hx_ => hC.mm 10 6 rfl rfl (by decide) x_ hq_ hx_)), (hC.stay 11 rfl hB440 (fun x_ hq_ hx_ => hC.mm 11 6 rfl rfl (by decide) x_ hq_ hx_)), (hC.stay 12 rfl hB440 (fun x_ hq_ hx_ => hC.mm 12 6 rfl rfl (by decide) x_ hq_ hx_))⟩)
                    refine s_as (v := .int .i64 r439) rfl ?_
                    refine done ?_
                    refine then_norm ?_
                    refine wp_seq ?_
                    refine wp_seq ?_
                    refine cw_region ?_
                    refine s_mv (v := .int .i64 r439) rfl ?_
                    refine s_lss rfl rfl ?_
                    refine s_mv (v := .bool (decide (r439 < 0))) rfl ?_
                    refine bsplit (decide (r439 < 0)) (fun hb443 => ?_) (fun hb443 => ?_)
                    · replace h := ift h (ct hb443)
                      refine guardOff (b := true) 2 91 rfl (tr rfl (congrArg _ hb443)) (by decide) ?_
                      refine guardOff (b := true) 2 91 rfl (tr rfl (congrArg _ hb443)) (by decide) ?_
                      refine guardOff (b := true) 2 91 rfl (tr rfl (congrArg _ hb443)) (by decide) ?_
                      refine guardOff (b := true) 2 91 rfl (tr rfl (congrArg _ hb443)) (by decide) ?_
                      refine s_pick (v := .bool true) (b := true) (tr rfl (congrArg _ hb443)) rfl ?_
                      refine s_mv (v := .bool true) rfl ?_
                      refine guardOff (b := true) 8 97 rfl (tr rfl (congrArg _ rfl)) (by decide) ?_
                      refine guardOff (b := true) 8 97 rfl (tr rfl (congrArg _ rfl)) (by decide) ?_
                      refine guardOff (b := true) 8 97 rfl (tr rfl (congrArg _ rfl)) (by decide) ?_
                      refine s_pick (v := .bool true) (b := true) rfl rfl ?_
                      refine done ?_
                      refine then_norm ?_
                      refine cw_true rfl rfl ?_
                      refine wp_seq ?_
                      refine cw_region ?_
                      refine s_as (v := .bool false) rfl ?_
                      refine done ?_
                      refine then_norm ?_
                      refine wp_ret (then_ret ?_)
                      refine ret1 (fn := Try.f12) rfl ?_ ⟨false, rfl, h, hC.below⟩ (.inl rfl)
                      exact res_tmp rfl
                    · replace h := iff_ h (cf hb443)
                      refine guardOn 2 91 rfl rfl hb443 ?_
                      refine s_loadA hC 3 [u338] rfl ag51 rfl rfl rfl ?_
                      refine guardOn 2 91 rfl rfl hb443 ?_
                      refine s_loadA hC 10 [u85] rfl ag51 h8_ rfl rfl ?_
                      refine guardOn 2 91 rfl rfl hb443 ?_
                      refine s_call [.agg #[u338], .agg #[u85]] _ Try.func43 rfl rfl rfl (c_laws_eqForm (⟨r337.terms⟩ : Vc.Form) (⟨r84.terms⟩ : Vc.Form) h _ (form_mk (own_repE (hC.getM 4 rfl))) (form_mk (hC.getP 0 rfl))) (fun ret444 w446 hR445 => ?_)
                      obtain ⟨r447, rfl, h, hB448⟩ := hR445
                      refine ⟨_, rfl, ?_⟩
                      replace hC := hC.grow hB448
                      refine guardOn 2 91 rfl rfl hb443 ?_
                      refine s_not rfl ?_
                      refine s_pick (v := .bool (!r447)) (b := false) (tr rfl (congrArg _ hb443)) rfl ?_
                      refine s_mv (v := .bool (!r447)) rfl ?_
                      refine bsplit (!r447) (fun hb449 => ?_) (fun hb449 => ?_)
                      · replace h := ift h (ne_t (not_t hb449))
                        refine guardOff (b := true) 8 97 rfl (tr rfl (congrArg _ hb449)) (by decide) ?_
                        refine guardOff (b := true) 8 97 rfl (tr rfl (congrArg _ hb449)) (by decide) ?_
                        refine guardOff (b := true) 8 97 rfl (tr rfl (congrArg _ hb449)) (by decide) ?_
                        refine s_pick (v := .bool true) (b := true) (tr rfl (congrArg _ hb449)) rfl ?_
                        refine done ?_
                        refine then_norm ?_
                        refine cw_true rfl rfl ?_
                        refine wp_seq ?_
                        refine cw_region ?_
                        refine s_as (v := .bool false) rfl ?_
                        refine done ?_
                        refine then_norm ?_
                        refine wp_ret (then_ret ?_)
                        refine ret1 (fn := Try.f12) rfl ?_ ⟨false, rfl, h, hC.below⟩ (.inl rfl)
                        exact res_tmp rfl
                      · replace h := iff_ h (not_not_intro ((not_f hb449)))
                        refine guardOn 8 97 rfl rfl hb449 ?_
                        refine s_mv (v := .int .i64 r342) rfl ?_
                        refine guardOn 8 97 rfl rfl hb449 ?_
                        refine s_mv (v := .int .i64 r89) h9_ ?_
                        refine guardOn 8 97 rfl rfl hb449 ?_
                        refine s_neq rfl rfl ?_
                        refine s_pick (v := .bool (decide (r342 ≠ r89))) (b := false) (tr rfl (congrArg _ hb449)) rfl ?_
                        refine done ?_
                        refine then_norm ?_
                        refine cw_false rfl hb358 ?_
                        refine wp_skip ?_
                        refine then_norm ?_
                        refine wp_seq ?_
                        refine cw_region ?_
                        refine s_as (v := .int .i64 1) rfl ?_
                        refine done ?_
                        refine then_norm ?_
                        refine wp_seq ?_
                        refine cw_region ?_
                        refine s_loadA hC 3 [u338] rfl ag51 rfl rfl rfl ?_
                        refine s_mv (v := .int .i64 1) rfl ?_
                        refine s_call [.agg #[u338], .int .i64 1] _ Try.func44 rfl rfl rfl (c_laws_markForm (⟨r337.terms⟩ : Vc.Form) 1 h _ (hC.getM 4 rfl)) (fun ret450 w452 hR451 => ?_)
                        obtain ⟨r453, m455, rfl, h, hm456, hB454⟩ := hR451
                        refine ⟨_, rfl, ?_⟩
                        replace hC := hC.turnL hB454 (M' := [own 93 9 u407 r406.terms.length (ETerm.encs r406.terms), own 93 9 u385 r384.terms.length (ETerm.encs r384.terms), own 2 1 u363 r362.length ((EI .i64).encs r362), blk b348 51 [u338], own 93 9 u338 m455.terms.length (ETerm.encs m455.terms), blk b330 51 [u321], own 93 9 u321 m441.terms.length (ETerm.encs m441.terms), blk b313 51 [u304], own 93 9 u304 m434.terms.length (ETerm.encs m434.terms), own 2 1 u291 m427.length ((EI .i64).encs m427), blk b95 51 [u85], blk b11 60 [u2_0], blk b8 60 [u1_0]]) rfl (fun x_ hx_ => ⟨_, List.mem_of_getElem? (i := 4) rfl, hx_⟩) (by simp only [List.mem_cons, List.not_mem_nil, or_false, forall_eq_or_imp, forall_eq]; exact ⟨(hC.stay 0 rfl hB454 (fun x_ hq_ hx_ => hC.mm 0 4 rfl rfl (by decide) x_ hq_ hx_)), (hC.stay 1 rfl hB454 (fun x_ hq_ hx_ => hC.mm 1 4 rfl rfl (by decide) x_ hq_ hx_)), (hC.stay 2 rfl hB454 (fun x_ hq_ hx_ => hC.mm 2 4 rfl rfl (by decide) x_ hq_ hx_)), (hC.stay 3 rfl hB454 (fun x_ hq_ hx_ => hC.mm 3 4 rfl rfl (by decide) x_ hq_ hx_)), hm456, (hC.stay 5 rfl hB454 (fun x_ hq_ hx_ => hC.mm 5 4 rfl rfl (by decide) x_ hq_ hx_)), (hC.stay 6 rfl hB454 (fun x_ hq_ hx_ => hC.mm 6 4 rfl rfl (by decide) x_ hq_ hx_)), (hC.stay 7 rfl hB454 (fun x_ hq_ hx_ => hC.mm 7 4 rfl rfl (by decide) x_ hq_ hx_)), (hC.stay 8 rfl hB454 (fun x_ hq_ hx_ => hC.mm 8 4 rfl rfl (by decide) x_ hq_ hx_)), (hC.stay 9 rfl hB454 (fun x_ hq_ hx_ => hC.mm 9 4 rfl rfl (by decide) x_ hq_ hx_)), (hC.stay 10 rfl hB454 (fun x_ hq_ hx_ => hC.mm 10 4 rfl rfl (by decide) x_ hq_ hx_)), (hC.stay 11 rfl hB454 (fun x_ hq_ hx_ => hC.mm 11 4 rfl rfl (by decide) x_ hq_ hx_)), (hC.stay 12 rfl hB454 (fun x_ hq_ hx_ => hC.mm 12 4 rfl rfl (by decide) x_ hq_ hx_))⟩)
                        refine s_as (v := .int .i64 r453) rfl ?_
                        refine done ?_
                        refine then_norm ?_
                        refine wp_seq ?_
                        refine cw_region ?_
                        refine s_as (v := .int .i64 1) rfl ?_
                        refine done ?_
                        refine then_norm ?_
                        refine wp_seq ?_
                        refine cw_region ?_
                        refine s_loadA hC 3 [u338] rfl ag51 rfl rfl rfl ?_
                        refine s_mv (v := .int .i64 1) rfl ?_
                        refine s_call [.agg #[u338], .int .i64 1] _ Try.func45 rfl rfl rfl (c_laws_heldForm (⟨m455.terms⟩ : Vc.Form) 1 h _ (form_mk (own_repE (hC.getM 4 rfl)))) (fun ret457 w459 hR458 => ?_)
                        obtain ⟨r460, rfl, h, hB461⟩ := hR458
                        refine ⟨_, rfl, ?_⟩
                        replace hC := hC.grow hB461
                        refine s_as (v := .int .i64 r460) rfl ?_
                        refine done ?_
                        refine then_norm ?_
                        refine wp_seq ?_
                        refine wp_seq ?_
                        refine cw_region ?_
                        refine s_mv (v := .int .i64 r460) rfl ?_
                        refine s_lss rfl rfl ?_
                        refine done ?_
                        refine then_norm ?_
                        refine cw_cond rfl (fun hb462 => ?_) (fun hb462 => ?_)
                        · replace h := ift h (ct hb462)
                          refine wp_seq ?_
                          refine cw_region ?_
                          refine s_as (v := .bool false) rfl ?_
                          refine done ?_
                          refine then_norm ?_
                          refine wp_ret (then_ret ?_)
                          refine ret1 (fn := Try.f12) rfl ?_ ⟨false, rfl, h, hC.below⟩ (.inl rfl)
                          exact res_tmp rfl
                        · replace h := iff_ h (cf hb462)
                          refine wp_skip ?_
                          refine then_norm ?_
                          refine wp_seq ?_
                          refine wp_seq ?_
                          refine cw_region ?_
                          refine s_mv (v := .int .i64 r460) rfl ?_
                          refine s_mv (v := .int .i64 r453) rfl ?_
                          refine s_neq rfl rfl ?_
                          refine done ?_
                          refine then_norm ?_
                          refine cw_cond rfl (fun hb463 => ?_) (fun hb463 => ?_)
                          · replace h := ift h (ct hb463)
                            refine wp_seq ?_
                            refine cw_region ?_
                            refine s_as (v := .bool false) rfl ?_
                            refine done ?_
                            refine then_norm ?_
                            refine wp_ret (then_ret ?_)
                            refine ret1 (fn := Try.f12) rfl ?_ ⟨false, rfl, h, hC.below⟩ (.inl rfl)
                            exact res_tmp rfl
                          · replace h := iff_ h (cf hb463)
                            refine wp_skip ?_
                            refine then_norm ?_
                            refine wp_seq ?_
                            refine cw_draw 11 mixed [0, 1, 0, 7, 0, 31, 63, 127, 255, 255, 0, 1535, 4095] [2, 4] [0, 7, 8, 9] (by kernel_rfl) (by kernel_rfl) (by kernel_rfl) (fun hM465 hM466 w464 hB_ => ?_)
                            replace hC := hC.grow hB_
                            refine ae_lookF 0 (u0_0) rfl rfl (by kernel_rfl) (hM466 0 rfl) (fun w_ => .inl ⟨rfl, by exact r_mv (v := u0_0) h0_⟩) (listed' := (List.toArray [true, false, false, false, false, false, false, false, false, false, false, false, false])) rfl ?_
                            refine ae_look 2 (.agg #[u1_0]) rfl rfl (by kernel_rfl) (hM465 2 rfl) (fun w_ hB_ => .inl ⟨rfl, by exact r_loadA (hC.grow hB_) 12 [u1_0] rfl ag60 h4_ rfl rfl⟩) (listed' := (List.toArray [true, false, true, false, false, false, false, false, false, false, false, false, false])) rfl ?_
                            refine ae_look 4 (.agg #[u2_0]) rfl rfl (by kernel_rfl) (hM465 4 rfl) (fun w_ hB_ => .inl ⟨rfl, by exact r_loadA (hC.grow hB_) 11 [u2_0] rfl ag60 h5_ rfl rfl⟩) (listed' := (List.toArray [true, false, true, false, true, false, false, false, false, false, false, false, false])) rfl ?_
                            refine ae_join (fun e_ w_ => ∃ (b520 : Nat), ∃ (u510 : Value), ∃ (r509 : Vc.Form), ∃ (r514 : Int), e_ 6 = .bool false ∧ e_ 8 = .pointer (some ⟨b95, 0, none⟩) ∧ e_ 9 = .int .i64 r89 ∧ e_ 13 = .pointer (some ⟨b348, 0, none⟩) ∧ e_ 16 = .int .i64 r453 ∧ e_ 17 = .int .i64 r460 ∧ e_ 18 = .pointer (some ⟨b520, 0, none⟩) ∧ e_ 19 = .int .i64 r514 ∧ Ctx Nox w0 w_ [blk b520 51 [u510], own 93 9 u510 r509.terms.length (ETerm.encs r509.terms), blk b348 51 [u338], own 93 9 u338 m455.terms.length (ETerm.encs m455.terms), blk b95 51 [u85]] [Ty.item ETerm.ty.sl r84.terms [u85] f86, Ty.item ETerm.ty.sl a2.terms [u2_0] fp2, Ty.item ETerm.ty.sl a1.terms [u1_0] fp1, Ty.item ((EI .i64).ty.sl) a0 [u0_0] fp0, Ty.item TForm a1 [u1_0] fp1, Ty.item TForm a2 [u2_0] fp2] ∧ (f_laws_eqForm r509 (⟨r84.terms⟩ : Vc.Form) (fun r678 => (if ¬ (r678 = true) then K false else (if r514 ≠ r89 then K false else f_laws_heldForm (⟨m455.terms⟩ : Vc.Form) 1 (fun r685 => (if r685 < 0 then K false else (if r685 ≠ r453 then K false else K true)))))))) ?_ ?_
                            · clear hC h
                              rintro e_ w674 ⟨b520, u510, r509, r514, h6_, h8_, h9_, h13_, h16_, h17_, h18_, h19_, hC, h⟩
                              refine then_norm ?_
                              refine wp_seq ?_
                              refine wp_seq ?_
                              refine cw_region ?_
                              refine s_loadA hC 0 [u510] rfl ag51 h18_ rfl rfl ?_
                              refine s_loadA hC 4 [u85] rfl ag51 h8_ rfl rfl ?_
                              refine s_call [.agg #[u510], .agg #[u85]] _ Try.func43 rfl rfl rfl (c_laws_eqForm r509 (⟨r84.terms⟩ : Vc.Form) h _ (form_mk (own_repE (hC.getM 1 rfl))) (form_mk (hC.getP 0 rfl))) (fun ret675 w677 hR676 => ?_)
                              obtain ⟨r678, rfl, h, hB679⟩ := hR676
                              refine ⟨_, rfl, ?_⟩
                              replace hC := hC.grow hB679
                              refine s_not rfl ?_
                              refine s_mv (v := .bool (!r678)) rfl ?_
                              refine bsplit (!r678) (fun hb680 => ?_) (fun hb680 => ?_)
                              · replace h := ift h (ne_t (not_t hb680))
                                refine guardOff (b := true) 4 127 rfl (tr rfl (congrArg _ hb680)) (by decide) ?_
                                refine guardOff (b := true) 4 127 rfl (tr rfl (congrArg _ hb680)) (by decide) ?_
                                refine guardOff (b := true) 4 127 rfl (tr rfl (congrArg _ hb680)) (by decide) ?_
                                refine s_pick (v := .bool true) (b := true) (tr rfl (congrArg _ hb680)) rfl ?_
                                refine done ?_
                                refine then_norm ?_
                                refine cw_true rfl rfl ?_
                                refine wp_seq ?_
                                refine cw_region ?_
                                refine s_as (v := .bool false) rfl ?_
                                refine done ?_
                                refine then_norm ?_
                                refine wp_ret (then_ret ?_)
                                refine ret1 (fn := Try.f12) rfl ?_ ⟨false, rfl, h, hC.below⟩ (.inl rfl)
                                exact res_tmp rfl
                              · replace h := iff_ h (not_not_intro ((not_f hb680)))
                                refine guardOn 4 127 rfl rfl hb680 ?_
                                refine s_mv (v := .int .i64 r514) h19_ ?_
                                refine guardOn 4 127 rfl rfl hb680 ?_
                                refine s_mv (v := .int .i64 r89) h9_ ?_
                                refine guardOn 4 127 rfl rfl hb680 ?_
                                refine s_neq rfl rfl ?_
                                refine s_pick (v := .bool (decide (r514 ≠ r89))) (b := false) (tr rfl (congrArg _ hb680)) rfl ?_
                                refine done ?_
                                refine then_norm ?_
                                refine cw_cond rfl (fun hb681 => ?_) (fun hb681 => ?_)
                                · replace h := ift h (ct hb681)
                                  refine wp_seq ?_
                                  refine cw_region ?_
                                  refine s_as (v := .bool false) rfl ?_
                                  refine done ?_
                                  refine then_norm ?_
                                  refine wp_ret (then_ret ?_)
                                  refine ret1 (fn := Try.f12) rfl ?_ ⟨false, rfl, h, hC.below⟩ (.inl rfl)
                                  exact res_tmp rfl
                                · replace h := iff_ h (cf hb681)
                                  refine wp_skip ?_
                                  refine then_norm ?_
                                  refine wp_seq ?_
                                  refine cw_region ?_
                                  refine s_as (v := .int .i64 1) rfl ?_
                                  refine done ?_
                                  refine then_norm ?_
                                  refine wp_seq ?_
                                  refine cw_region ?_
                                  refine s_loadA hC 2 [u338] rfl ag51 h13_ rfl rfl ?_
                                  refine s_mv (v := .int .i64 1) rfl ?_
                                  refine s_call [.agg #[u338], .int .i64 1] _ Try.func45 rfl rfl rfl (c_laws_heldForm (⟨m455.terms⟩ : Vc.Form) 1 h _ (form_mk (own_repE (hC.getM 3 rfl)))) (fun ret682 w684 hR683 => ?_)
                                  obtain ⟨r685, rfl, h, hB686⟩ := hR683
                                  refine ⟨_, rfl, ?_⟩
                                  replace hC := hC.grow hB686
                                  refine s_as (v := .int .i64 r685) rfl ?_
                                  refine done ?_
                                  refine then_norm ?_
                                  refine wp_seq ?_
                                  refine wp_seq ?_
                                  refine cw_region ?_
                                  refine s_mv (v := .int .i64 r685) rfl ?_
                                  refine s_lss rfl rfl ?_
                                  refine done ?_
                                  refine then_norm ?_
                                  refine cw_cond rfl (fun hb687 => ?_) (fun hb687 => ?_)
                                  · replace h := ift h (ct hb687)
                                    refine wp_seq ?_
                                    refine cw_region ?_
                                    refine s_as (v := .bool false) rfl ?_
                                    refine done ?_
                                    refine then_norm ?_
                                    refine wp_ret (then_ret ?_)
                                    refine ret1 (fn := Try.f12) rfl ?_ ⟨false, rfl, h, hC.below⟩ (.inl rfl)
                                    exact res_tmp rfl
                                  · replace h := iff_ h (cf hb687)
                                    refine wp_skip ?_
                                    refine then_norm ?_
                                    refine wp_seq ?_
                                    refine wp_seq ?_
                                    refine cw_region ?_
                                    refine s_mv (v := .int .i64 r685) rfl ?_
                                    refine s_mv (v := .int .i64 r453) h16_ ?_
                                    refine s_neq rfl rfl ?_
                                    refine done ?_
                                    refine then_norm ?_
                                    refine cw_cond rfl (fun hb688 => ?_) (fun hb688 => ?_)
                                    · replace h := ift h (ct hb688)
                                      refine wp_seq ?_
                                      refine cw_region ?_
                                      refine s_as (v := .bool false) rfl ?_
                                      refine done ?_
                                      refine then_norm ?_
                                      refine wp_ret (then_ret ?_)
                                      refine ret1 (fn := Try.f12) rfl ?_ ⟨false, rfl, h, hC.below⟩ (.inl rfl)
                                      exact res_tmp rfl
                                    · replace h := iff_ h (cf hb688)
                                      refine wp_skip ?_
                                      refine then_norm ?_
                                      refine wp_seq ?_
                                      refine cw_region ?_
                                      refine s_as (v := .bool true) rfl ?_
                                      refine done ?_
                                      refine then_norm ?_
                                      refine wp_ret ?_
                                      refine ret1 (fn := Try.f12) rfl ?_ ⟨true, rfl, h, hC.below⟩ (.inl rfl)
                                      exact res_tmp rfl
                            refine ae_two 1 10 rfl rfl (by kernel_rfl) ?_ ?_
                            · skip
                              refine s_call [u0_0] _ Try.func14 rfl rfl rfl (c_laws_toInt64S a0 h _ (hC.getP 3 rfl)) (fun ret689 w691 hR690 => ?_)
                              obtain ⟨r692, u693, f694, rfl, h, hr695, hf696, hB697⟩ := hR690
                              refine ⟨_, rfl, ?_⟩
                              replace hC := hC.push hB697 (Tr.item (Tr.sl 2 ((EI .i64).tr)) r692 [u693] f694) hr695 hf696
                              obtain ⟨ho699, hf700⟩ := flat_tr (hC.getM 0 rfl).1
                              subst hf700
                              replace hC := hC.recast (c := own 2 1 u693 r692.length ((EI .i64).encs r692)) (fun _ h_ => h_) (fun _ => ho699)
                              refine done ?_
                              refine ak_intro (by assumption) (listed' := (List.toArray [true, true, true, false, true, false, false, false, false, false, false, false, false])) rfl ?_
                              refine ae_two 3 10 rfl rfl (by kernel_rfl) ?_ ?_
                              · skip
                                refine s_call [.agg #[u1_0]] _ Try.func41 rfl rfl rfl (c_laws_toForm (⟨a1.terms⟩ : Vc.Form) h _ (form_mk (hC.getP 2 rfl))) (fun ret702 w704 hR703 => ?_)
                                obtain ⟨r705, u706, f707, rfl, h, hr708, hf709, hB710⟩ := hR703
                                refine ⟨_, rfl, ?_⟩
                                replace hC := hC.push hB710 (Tr.item (TrForm 93) r705 [u706] f707) hr708 hf709
                                obtain ⟨ho712, hf713⟩ := form_split (hC.getM 0 rfl)
                                subst hf713
                                replace hC := hC.recast (c := own 93 9 u706 r705.terms.length (ETerm.encs r705.terms)) (fun _ h_ => h_) (fun _ => ho712)
                                refine done ?_
                                refine ak_intro (by assumption) (listed' := (List.toArray [true, true, true, true, true, false, false, false, false, false, false, false, false])) rfl ?_
                                refine ae_two 5 10 rfl rfl (by kernel_rfl) ?_ ?_
                                · skip
                                  refine s_call [.agg #[u2_0]] _ Try.func41 rfl rfl rfl (c_laws_toForm (⟨a2.terms⟩ : Vc.Form) h _ (form_mk (hC.getP 1 rfl))) (fun ret715 w717 hR716 => ?_)
                                  obtain ⟨r718, u719, f720, rfl, h, hr721, hf722, hB723⟩ := hR716
                                  refine ⟨_, rfl, ?_⟩
                                  replace hC := hC.push hB723 (Tr.item (TrForm 93) r718 [u719] f720) hr721 hf722
                                  obtain ⟨ho725, hf726⟩ := form_split (hC.getM 0 rfl)
                                  subst hf726
                                  replace hC := hC.recast (c := own 93 9 u719 r718.terms.length (ETerm.encs r718.terms)) (fun _ h_ => h_) (fun _ => ho725)
                                  refine done ?_
                                  refine ak_intro (by assumption) (listed' := (List.toArray [true, true, true, true, true, true, false, false, false, false, false, false, false])) rfl ?_
                                  refine ae_two 6 10 rfl rfl (by kernel_rfl) ?_ ?_
                                  · skip
                                    refine s_call [u693, .agg #[u706], .agg #[u719]] _ Try.func60 rfl rfl rfl (c_impl_MultiplyForms r692 r705 r718 h _ (own_repE (hC.getM 2 rfl)) (form_mk (own_repE (hC.getM 1 rfl))) (form_mk (own_repE (hC.getM 0 rfl)))) (fun ret728 w730 hR729 => ?_)
                                    obtain ⟨r731, u732, f733, r736, rfl, h, hr734, hf735, hB737⟩ := hR729
                                    refine ⟨_, rfl, ?_⟩
                                    replace hC := hC.push hB737 (Tr.item (TrForm 93) r731 [u732] f733) hr734 hf735
                                    obtain ⟨ho739, hf740⟩ := form_split (hC.getM 0 rfl)
                                    subst hf740
                                    replace hC := hC.recast (c := own 93 9 u732 r731.terms.length (ETerm.encs r731.terms)) (fun _ h_ => h_) (fun _ => ho739)
                                    refine done ?_
                                    refine ak_intro (by assumption) (listed' := (List.toArray [true, true, true, true, true, true, true, false, false, false, false, false, false])) rfl ?_
                                    refine ae_lookF 7 (.tuple #[.agg #[u732], .int .i64 r736]) rfl rfl (by kernel_rfl) (hM466 7 rfl) (fun w_ => .inl ⟨rfl, by exact r_mv (v := .tuple #[.agg #[u732], .int .i64 r736]) rfl⟩) (listed' := (List.toArray [true, true, true, true, true, true, true, true, false, false, false, false, false])) rfl ?_
                                    refine ae_lookF 8 (.agg #[u732]) rfl rfl (by kernel_rfl) (hM466 8 rfl) (fun w_ => .inl ⟨rfl, by exact r_ext (v := .agg #[u732]) rfl rfl⟩) (listed' := (List.toArray [true, true, true, true, true, true, true, true, true, false, false, false, false])) rfl ?_
                                    refine ae_lookF 9 (.int .i64 r736) rfl rfl (by kernel_rfl) (hM466 9 rfl) (fun w_ => .inl ⟨rfl, by exact r_ext (v := .int .i64 r736) rfl rfl⟩) (listed' := (List.toArray [true, true, true, true, true, true, true, true, true, true, false, false, false])) rfl ?_
                                    refine ae_one 10 rfl (by kernel_rfl) ?_
                                    refine s_alloc hC [.slice none 0 0] z51 rfl fun b742 w744 hB_ hC => ?_
                                    refine done ?_
                                    refine ak_intro (by assumption) (listed' := (List.toArray [true, true, true, true, true, true, true, true, true, true, true, false, false])) rfl ?_
                                    refine ae_one 11 rfl (by kernel_rfl) ?_
                                    refine s_store (v := .agg #[u732]) hC 0 [u732] [u732] rfl ag51.size rfl rfl rfl rfl (all_c (own_oneC (hC.getM 1 rfl)) rfl) (Nat.le_of_ble_eq_true rfl) rfl fun w745 hC => ?_
                                    refine done ?_
                                    refine ak_introN (by decide) (listed' := (List.toArray [true, true, true, true, true, true, true, true, true, true, true, true, false])) rfl ?_
                                    refine ae_tail 12 (by decide) (by decide) (by kernel_rfl) rfl rfl ?_
                                    refine s_as (v := .int .i64 r736) rfl ?_
                                    refine done ?_
                                    refine qn_norm ?_
                                    replace hC := hC.sel [0, 1, 8, 9, 15] [0, 1, 2, 3, 4, 5] (M' := [blk b742 51 [u732], own 93 9 u732 r731.terms.length (ETerm.encs r731.terms), blk b348 51 [u338], own 93 9 u338 m455.terms.length (ETerm.encs m455.terms), blk b95 51 [u85]]) (Ps' := [Ty.item ETerm.ty.sl r84.terms [u85] f86, Ty.item ETerm.ty.sl a2.terms [u2_0] fp2, Ty.item ETerm.ty.sl a1.terms [u1_0] fp1, Ty.item ((EI .i64).ty.sl) a0 [u0_0] fp0, Ty.item TForm a1 [u1_0] fp1, Ty.item TForm a2 [u2_0] fp2]) (by decide) rfl rfl
                                    exact ⟨rfl, _, rfl, ⟨b742, u732, r731, r736, h6_, h8_, h9_, rfl, rfl, rfl, rfl, rfl, hC, h⟩⟩
                                  · skip
                                    refine s_alloc hC [.slice none 0 0] z51 rfl fun b746 w748 hB_ hC => ?_
                                    refine done ?_
                                    refine ak_intro (by assumption) (listed' := (List.toArray [true, true, true, true, true, true, false, false, false, false, true, false, false])) rfl ?_
                                    refine ae_one 6 rfl (by kernel_rfl) ?_
                                    refine s_call [u693, .agg #[u706], .agg #[u719]] _ Try.func60 rfl rfl rfl (c_impl_MultiplyForms r692 r705 r718 h _ (own_repE (hC.getM 3 rfl)) (form_mk (own_repE (hC.getM 2 rfl))) (form_mk (own_repE (hC.getM 1 rfl)))) (fun ret749 w751 hR750 => ?_)
                                    obtain ⟨r752, u753, f754, r757, rfl, h, hr755, hf756, hB758⟩ := hR750
                                    refine ⟨_, rfl, ?_⟩
                                    replace hC := hC.push hB758 (Tr.item (TrForm 93) r752 [u753] f754) hr755 hf756
                                    obtain ⟨ho760, hf761⟩ := form_split (hC.getM 0 rfl)
                                    subst hf761
                                    replace hC := hC.recast (c := own 93 9 u753 r752.terms.length (ETerm.encs r752.terms)) (fun _ h_ => h_) (fun _ => ho760)
                                    refine done ?_
                                    refine ak_intro (by assumption) (listed' := (List.toArray [true, true, true, true, true, true, true, false, false, false, true, false, false])) rfl ?_
                                    refine ae_lookF 7 (.tuple #[.agg #[u753], .int .i64 r757]) rfl rfl (by kernel_rfl) (hM466 7 rfl) (fun w_ => .inl ⟨rfl, by exact r_mv (v := .tuple #[.agg #[u753], .int .i64 r757]) rfl⟩) (listed' := (List.toArray [true, true, true, true, true, true, true, true, false, false, true, false, false])) rfl ?_
                                    refine ae_lookF 8 (.agg #[u753]) rfl rfl (by kernel_rfl) (hM466 8 rfl) (fun w_ => .inl ⟨rfl, by exact r_ext (v := .agg #[u753]) rfl rfl⟩) (listed' := (List.toArray [true, true, true, true, true, true, true, true, true, false, true, false, false])) rfl ?_
                                    refine ae_lookF 9 (.int .i64 r757) rfl rfl (by kernel_rfl) (hM466 9 rfl) (fun w_ => .inl ⟨rfl, by exact r_ext (v := .int .i64 r757) rfl rfl⟩) (listed' := (List.toArray [true, true, true, true, true, true, true, true, true, true, true, false, false])) rfl ?_
                                    refine ae_one 11 rfl (by kernel_rfl) ?_
                                    refine s_store (v := .agg #[u753]) hC 1 [u753] [u753] rfl ag51.size rfl rfl rfl rfl (all_c (own_oneC (hC.getM 0 rfl)) rfl) (Nat.le_of_ble_eq_true rfl) rfl fun w763 hC => ?_
                                    refine done ?_
                                    refine ak_introN (by decide) (listed' := (List.toArray [true, true, true, true, true, true, true, true, true, true, true, true, false])) rfl ?_
                                    refine ae_tail 12 (by decide) (by decide) (by kernel_rfl) rfl rfl ?_
                                    refine s_as (v := .int .i64 r757) rfl ?_
                                    refine done ?_
                                    refine qn_norm ?_
                                    replace hC := hC.sel [1, 0, 8, 9, 15] [0, 1, 2, 3, 4, 5] (M' := [blk b746 51 [u753], own 93 9 u753 r752.terms.length (ETerm.encs r752.terms), blk b348 51 [u338], own 93 9 u338 m455.terms.length (ETerm.encs m455.terms), blk b95 51 [u85]]) (Ps' := [Ty.item ETerm.ty.sl r84.terms [u85] f86, Ty.item ETerm.ty.sl a2.terms [u2_0] fp2, Ty.item ETerm.ty.sl a1.terms [u1_0] fp1, Ty.item ((EI .i64).ty.sl) a0 [u0_0] fp0, Ty.item TForm a1 [u1_0] fp1, Ty.item TForm a2 [u2_0] fp2]) (by decide) rfl rfl
                                    exact ⟨rfl, _, rfl, ⟨b746, u753, r752, r757, h6_, h8_, h9_, rfl, rfl, rfl, rfl, rfl, hC, h⟩⟩
                                · skip
                                  refine s_alloc hC [.slice none 0 0] z51 rfl fun b764 w766 hB_ hC => ?_
                                  refine done ?_
                                  refine ak_intro (by assumption) (listed' := (List.toArray [true, true, true, true, true, false, false, false, false, false, true, false, false])) rfl ?_
                                  refine ae_one 5 rfl (by kernel_rfl) ?_
                                  refine s_call [.agg #[u2_0]] _ Try.func41 rfl rfl rfl (c_laws_toForm (⟨a2.terms⟩ : Vc.Form) h _ (form_mk (hC.getP 1 rfl))) (fun ret767 w769 hR768 => ?_)
                                  obtain ⟨r770, u771, f772, rfl, h, hr773, hf774, hB775⟩ := hR768
                                  refine ⟨_, rfl, ?_⟩
                                  replace hC := hC.push hB775 (Tr.item (TrForm 93) r770 [u771] f772) hr773 hf774
                                  obtain ⟨ho777, hf778⟩ := form_split (hC.getM 0 rfl)
                                  subst hf778
                                  replace hC := hC.recast (c := own 93 9 u771 r770.terms.length (ETerm.encs r770.terms)) (fun _ h_ => h_) (fun _ => ho777)
                                  refine done ?_
                                  refine ak_intro (by assumption) (listed' := (List.toArray [true, true, true, true, true, true, false, false, false, false, true, false, false])) rfl ?_
                                  refine ae_one 6 rfl (by kernel_rfl) ?_
                                  refine s_call [u693, .agg #[u706], .agg #[u771]] _ Try.func60 rfl rfl rfl (c_impl_MultiplyForms r692 r705 r770 h _ (own_repE (hC.getM 3 rfl)) (form_mk (own_repE (hC.getM 2 rfl))) (form_mk (own_repE (hC.getM 0 rfl)))) (fun ret780 w782 hR781 => ?_)
                                  obtain ⟨r783, u784, f785, r788, rfl, h, hr786, hf787, hB789⟩ := hR781
                                  refine ⟨_, rfl, ?_⟩
                                  replace hC := hC.push hB789 (Tr.item (TrForm 93) r783 [u784] f785) hr786 hf787
                                  obtain ⟨ho791, hf792⟩ := form_split (hC.getM 0 rfl)
                                  subst hf792
                                  replace hC := hC.recast (c := own 93 9 u784 r783.terms.length (ETerm.encs r783.terms)) (fun _ h_ => h_) (fun _ => ho791)
                                  refine done ?_
                                  refine ak_intro (by assumption) (listed' := (List.toArray [true, true, true, true, true, true, true, false, false, false, true, false, false])) rfl ?_
                                  refine ae_lookF 7 (.tuple #[.agg #[u784], .int .i64 r788]) rfl rfl (by kernel_rfl) (hM466 7 rfl) (fun w_ => .inl ⟨rfl, by exact r_mv (v := .tuple #[.agg #[u784], .int .i64 r788]) rfl⟩) (listed' := (List.toArray [true, true, true, true, true, true, true, true, false, false, true, false, false])) rfl ?_
                                  refine ae_lookF 8 (.agg #[u784]) rfl rfl (by kernel_rfl) (hM466 8 rfl) (fun w_ => .inl ⟨rfl, by exact r_ext (v := .agg #[u784]) rfl rfl⟩) (listed' := (List.toArray [true, true, true, true, true, true, true, true, true, false, true, false, false])) rfl ?_
                                  refine ae_lookF 9 (.int .i64 r788) rfl rfl (by kernel_rfl) (hM466 9 rfl) (fun w_ => .inl ⟨rfl, by exact r_ext (v := .int .i64 r788) rfl rfl⟩) (listed' := (List.toArray [true, true, true, true, true, true, true, true, true, true, true, false, false])) rfl ?_
                                  refine ae_one 11 rfl (by kernel_rfl) ?_
                                  refine s_store (v := .agg #[u784]) hC 2 [u784] [u784] rfl ag51.size rfl rfl rfl rfl (all_c (own_oneC (hC.getM 0 rfl)) rfl) (Nat.le_of_ble_eq_true rfl) rfl fun w794 hC => ?_
                                  refine done ?_
                                  refine ak_introN (by decide) (listed' := (List.toArray [true, true, true, true, true, true, true, true, true, true, true, true, false])) rfl ?_
                                  refine ae_tail 12 (by decide) (by decide) (by kernel_rfl) rfl rfl ?_
                                  refine s_as (v := .int .i64 r788) rfl ?_
                                  refine done ?_
                                  refine qn_norm ?_
                                  replace hC := hC.sel [2, 0, 8, 9, 15] [0, 1, 2, 3, 4, 5] (M' := [blk b764 51 [u784], own 93 9 u784 r783.terms.length (ETerm.encs r783.terms), blk b348 51 [u338], own 93 9 u338 m455.terms.length (ETerm.encs m455.terms), blk b95 51 [u85]]) (Ps' := [Ty.item ETerm.ty.sl r84.terms [u85] f86, Ty.item ETerm.ty.sl a2.terms [u2_0] fp2, Ty.item ETerm.ty.sl a1.terms [u1_0] fp1, Ty.item ((EI .i64).ty.sl) a0 [u0_0] fp0, Ty.item TForm a1 [u1_0] fp1, Ty.item TForm a2 [u2_0] fp2]) (by decide) rfl rfl
                                  exact ⟨rfl, _, rfl, ⟨b764, u784, r783, r788, h6_, h8_, h9_, rfl, rfl, rfl, rfl, rfl, hC, h⟩⟩
                              · skip
                                refine s_alloc hC [.slice none 0 0] z51 rfl fun b795 w797 hB_ hC => ?_
                                refine done ?_
                                refine ak_intro (by assumption) (listed' := (List.toArray [true, true, true, false, true, false, false, false, false, false, true, false, false])) rfl ?_
                                refine ae_one 3 rfl (by kernel_rfl) ?_
                                refine s_call [.agg #[u1_0]] _ Try.func41 rfl rfl rfl (c_laws_toForm (⟨a1.terms⟩ : Vc.Form) h _ (form_mk (hC.getP 2 rfl))) (fun ret798 w800 hR799 => ?_)
                                obtain ⟨r801, u802, f803, rfl, h, hr804, hf805, hB806⟩ := hR799
                                refine ⟨_, rfl, ?_⟩
                                replace hC := hC.push hB806 (Tr.item (TrForm 93) r801 [u802] f803) hr804 hf805
                                obtain ⟨ho808, hf809⟩ := form_split (hC.getM 0 rfl)
                                subst hf809
                                replace hC := hC.recast (c := own 93 9 u802 r801.terms.length (ETerm.encs r801.terms)) (fun _ h_ => h_) (fun _ => ho808)
                                refine done ?_
                                refine ak_intro (by assumption) (listed' := (List.toArray [true, true, true, true, true, false, false, false, false, false, true, false, false])) rfl ?_
                                refine ae_one 5 rfl (by kernel_rfl) ?_
                                refine s_call [.agg #[u2_0]] _ Try.func41 rfl rfl rfl (c_laws_toForm (⟨a2.terms⟩ : Vc.Form) h _ (form_mk (hC.getP 1 rfl))) (fun ret811 w813 hR812 => ?_)
                                obtain ⟨r814, u815, f816, rfl, h, hr817, hf818, hB819⟩ := hR812
                                refine ⟨_, rfl, ?_⟩
                                replace hC := hC.push hB819 (Tr.item (TrForm 93) r814 [u815] f816) hr817 hf818
                                obtain ⟨ho821, hf822⟩ := form_split (hC.getM 0 rfl)
                                subst hf822
                                replace hC := hC.recast (c := own 93 9 u815 r814.terms.length (ETerm.encs r814.terms)) (fun _ h_ => h_) (fun _ => ho821)
                                refine done ?_
                                refine ak_intro (by assumption) (listed' := (List.toArray [true, true, true, true, true, true, false, false, false, false, true, false, false])) rfl ?_
                                refine ae_one 6 rfl (by kernel_rfl) ?_
                                refine s_call [u693, .agg #[u802], .agg #[u815]] _ Try.func60 rfl rfl rfl (c_impl_MultiplyForms r692 r801 r814 h _ (own_repE (hC.getM 3 rfl)) (form_mk (own_repE (hC.getM 1 rfl))) (form_mk (own_repE (hC.getM 0 rfl)))) (fun ret824 w826 hR825 => ?_)
                                obtain ⟨r827, u828, f829, r832, rfl, h, hr830, hf831, hB833⟩ := hR825
                                refine ⟨_, rfl, ?_⟩
                                replace hC := hC.push hB833 (Tr.item (TrForm 93) r827 [u828] f829) hr830 hf831
                                obtain ⟨ho835, hf836⟩ := form_split (hC.getM 0 rfl)
                                subst hf836
                                replace hC := hC.recast (c := own 93 9 u828 r827.terms.length (ETerm.encs r827.terms)) (fun _ h_ => h_) (fun _ => ho835)
                                refine done ?_
                                refine ak_intro (by assumption) (listed' := (List.toArray [true, true, true, true, true, true, true, false, false, false, true, false, false])) rfl ?_
                                refine ae_lookF 7 (.tuple #[.agg #[u828], .int .i64 r832]) rfl rfl (by kernel_rfl) (hM466 7 rfl) (fun w_ => .inl ⟨rfl, by exact r_mv (v := .tuple #[.agg #[u828], .int .i64 r832]) rfl⟩) (listed' := (List.toArray [true, true, true, true, true, true, true, true, false, false, true, false, false])) rfl ?_
                                refine ae_lookF 8 (.agg #[u828]) rfl rfl (by kernel_rfl) (hM466 8 rfl) (fun w_ => .inl ⟨rfl, by exact r_ext (v := .agg #[u828]) rfl rfl⟩) (listed' := (List.toArray [true, true, true, true, true, true, true, true, true, false, true, false, false])) rfl ?_
                                refine ae_lookF 9 (.int .i64 r832) rfl rfl (by kernel_rfl) (hM466 9 rfl) (fun w_ => .inl ⟨rfl, by exact r_ext (v := .int .i64 r832) rfl rfl⟩) (listed' := (List.toArray [true, true, true, true, true, true, true, true, true, true, true, false, false])) rfl ?_
                                refine ae_one 11 rfl (by kernel_rfl) ?_
                                refine s_store (v := .agg #[u828]) hC 3 [u828] [u828] rfl ag51.size rfl rfl rfl rfl (all_c (own_oneC (hC.getM 0 rfl)) rfl) (Nat.le_of_ble_eq_true rfl) rfl fun w838 hC => ?_
                                refine done ?_
                                refine ak_introN (by decide) (listed' := (List.toArray [true, true, true, true, true, true, true, true, true, true, true, true, false])) rfl ?_
                                refine ae_tail 12 (by decide) (by decide) (by kernel_rfl) rfl rfl ?_
                                refine s_as (v := .int .i64 r832) rfl ?_
                                refine done ?_
                                refine qn_norm ?_
                                replace hC := hC.sel [3, 0, 8, 9, 15] [0, 1, 2, 3, 4, 5] (M' := [blk b795 51 [u828], own 93 9 u828 r827.terms.length (ETerm.encs r827.terms), blk b348 51 [u338], own 93 9 u338 m455.terms.length (ETerm.encs m455.terms), blk b95 51 [u85]]) (Ps' := [Ty.item ETerm.ty.sl r84.terms [u85] f86, Ty.item ETerm.ty.sl a2.terms [u2_0] fp2, Ty.item ETerm.ty.sl a1.terms [u1_0] fp1, Ty.item ((EI .i64).ty.sl) a0 [u0_0] fp0, Ty.item TForm a1 [u1_0] fp1, Ty.item TForm a2 [u2_0] fp2]) (by decide) rfl rfl
                                exact ⟨rfl, _, rfl, ⟨b795, u828, r827, r832, h6_, h8_, h9_, rfl, rfl, rfl, rfl, rfl, hC, h⟩⟩
                            · skip
                              refine s_alloc hC [.slice none 0 0] z51 rfl fun b839 w841 hB_ hC => ?_
                              refine done ?_
                              refine ak_intro (by assumption) (listed' := (List.toArray [true, false, true, false, true, false, false, false, false, false, true, false, false])) rfl ?_
                              refine ae_one 1 rfl (by kernel_rfl) ?_
                              refine s_call [u0_0] _ Try.func14 rfl rfl rfl (c_laws_toInt64S a0 h _ (hC.getP 3 rfl)) (fun ret842 w844 hR843 => ?_)
                              obtain ⟨r845, u846, f847, rfl, h, hr848, hf849, hB850⟩ := hR843
                              refine ⟨_, rfl, ?_⟩
                              replace hC := hC.push hB850 (Tr.item (Tr.sl 2 ((EI .i64).tr)) r845 [u846] f847) hr848 hf849
                              obtain ⟨ho852, hf853⟩ := flat_tr (hC.getM 0 rfl).1
                              subst hf853
                              replace hC := hC.recast (c := own 2 1 u846 r845.length ((EI .i64).encs r845)) (fun _ h_ => h_) (fun _ => ho852)
                              refine done ?_
                              refine ak_intro (by assumption) (listed' := (List.toArray [true, true, true, false, true, false, false, false, false, false, true, false, false])) rfl ?_
                              refine ae_one 3 rfl (by kernel_rfl) ?_
                              refine s_call [.agg #[u1_0]] _ Try.func41 rfl rfl rfl (c_laws_toForm (⟨a1.terms⟩ : Vc.Form) h _ (form_mk (hC.getP 2 rfl))) (fun ret855 w857 hR856 => ?_)
                              obtain ⟨r858, u859, f860, rfl, h, hr861, hf862, hB863⟩ := hR856
                              refine ⟨_, rfl, ?_⟩
                              replace hC := hC.push hB863 (Tr.item (TrForm 93) r858 [u859] f860) hr861 hf862
                              obtain ⟨ho865, hf866⟩ := form_split (hC.getM 0 rfl)
                              subst hf866
                              replace hC := hC.recast (c := own 93 9 u859 r858.terms.length (ETerm.encs r858.terms)) (fun _ h_ => h_) (fun _ => ho865)
                              refine done ?_
                              refine ak_intro (by assumption) (listed' := (List.toArray [true, true, true, true, true, false, false, false, false, false, true, false, false])) rfl ?_
                              refine ae_one 5 rfl (by kernel_rfl) ?_
                              refine s_call [.agg #[u2_0]] _ Try.func41 rfl rfl rfl (c_laws_toForm (⟨a2.terms⟩ : Vc.Form) h _ (form_mk (hC.getP 1 rfl))) (fun ret868 w870 hR869 => ?_)
                              obtain ⟨r871, u872, f873, rfl, h, hr874, hf875, hB876⟩ := hR869
                              refine ⟨_, rfl, ?_⟩
                              replace hC := hC.push hB876 (Tr.item (TrForm 93) r871 [u872] f873) hr874 hf875
                              obtain ⟨ho878, hf879⟩ := form_split (hC.getM 0 rfl)
                              subst hf879
                              replace hC := hC.recast (c := own 93 9 u872 r871.terms.length (ETerm.encs r871.terms)) (fun _ h_ => h_) (fun _ => ho878)
                              refine done ?_
                              refine ak_intro (by assumption) (listed' := (List.toArray [true, true, true, true, true, true, false, false, false, false, true, false, false])) rfl ?_
                              refine ae_one 6 rfl (by kernel_rfl) ?_
                              refine s_call [u846, .agg #[u859], .agg #[u872]] _ Try.func60 rfl rfl rfl (c_impl_MultiplyForms r845 r858 r871 h _ (own_repE (hC.getM 2 rfl)) (form_mk (own_repE (hC.getM 1 rfl))) (form_mk (own_repE (hC.getM 0 rfl)))) (fun ret881 w883 hR882 => ?_)
                              obtain ⟨r884, u885, f886, r889, rfl, h, hr887, hf888, hB890⟩ := hR882
                              refine ⟨_, rfl, ?_⟩
                              replace hC := hC.push hB890 (Tr.item (TrForm 93) r884 [u885] f886) hr887 hf888
                              obtain ⟨ho892, hf893⟩ := form_split (hC.getM 0 rfl)
                              subst hf893
                              replace hC := hC.recast (c := own 93 9 u885 r884.terms.length (ETerm.encs r884.terms)) (fun _ h_ => h_) (fun _ => ho892)
                              refine done ?_
                              refine ak_intro (by assumption) (listed' := (List.toArray [true, true, true, true, true, true, true, false, false, false, true, false, false])) rfl ?_
                              refine ae_lookF 7 (.tuple #[.agg #[u885], .int .i64 r889]) rfl rfl (by kernel_rfl) (hM466 7 rfl) (fun w_ => .inl ⟨rfl, by exact r_mv (v := .tuple #[.agg #[u885], .int .i64 r889]) rfl⟩) (listed' := (List.toArray [true, true, true, true, true, true, true, true, false, false, true, false, false])) rfl ?_
                              refine ae_lookF 8 (.agg #[u885]) rfl rfl (by kernel_rfl) (hM466 8 rfl) (fun w_ => .inl ⟨rfl, by exact r_ext (v := .agg #[u885]) rfl rfl⟩) (listed' := (List.toArray [true, true, true, true, true, true, true, true, true, false, true, false, false])) rfl ?_
                              refine ae_lookF 9 (.int .i64 r889) rfl rfl (by kernel_rfl) (hM466 9 rfl) (fun w_ => .inl ⟨rfl, by exact r_ext (v := .int .i64 r889) rfl rfl⟩) (listed' := (List.toArray [true, true, true, true, true, true, true, true, true, true, true, false, false])) rfl ?_
                              refine ae_one 11 rfl (by kernel_rfl) ?_
                              refine s_store (v := .agg #[u885]) hC 4 [u885] [u885] rfl ag51.size rfl rfl rfl rfl (all_c (own_oneC (hC.getM 0 rfl)) rfl) (Nat.le_of_ble_eq_true rfl) rfl fun w895 hC => ?_
                              refine done ?_
                              refine ak_introN (by decide) (listed' := (List.toArray [true, true, true, true, true, true, true, true, true, true, true, true, false])) rfl ?_
                              refine ae_tail 12 (by decide) (by decide) (by kernel_rfl) rfl rfl ?_
                              refine s_as (v := .int .i64 r889) rfl ?_
                              refine done ?_
                              refine qn_norm ?_
                              replace hC := hC.sel [4, 0, 8, 9, 15] [0, 1, 2, 3, 4, 5] (M' := [blk b839 51 [u885], own 93 9 u885 r884.terms.length (ETerm.encs r884.terms), blk b348 51 [u338], own 93 9 u338 m455.terms.length (ETerm.encs m455.terms), blk b95 51 [u85]]) (Ps' := [Ty.item ETerm.ty.sl r84.terms [u85] f86, Ty.item ETerm.ty.sl a2.terms [u2_0] fp2, Ty.item ETerm.ty.sl a1.terms [u1_0] fp1, Ty.item ((EI .i64).ty.sl) a0 [u0_0] fp0, Ty.item TForm a1 [u1_0] fp1, Ty.item TForm a2 [u2_0] fp2]) (by decide) rfl rfl
                              exact ⟨rfl, _, rfl, ⟨b839, u885, r884, r889, h6_, h8_, h9_, rfl, rfl, rfl, rfl, rfl, hC, h⟩⟩
        refine ae_two 1 10 rfl rfl (by kernel_rfl) ?_ ?_
        · skip
          refine s_call [u0_0] _ Try.func14 rfl rfl rfl (c_laws_toInt64S a0 h _ (hC.getP 2 rfl)) (fun ret896 w898 hR897 => ?_)
          obtain ⟨r899, u900, f901, rfl, h, hr902, hf903, hB904⟩ := hR897
          refine ⟨_, rfl, ?_⟩
          replace hC := hC.push hB904 (Tr.item (Tr.sl 2 ((EI .i64).tr)) r899 [u900] f901) hr902 hf903
          obtain ⟨ho906, hf907⟩ := flat_tr (hC.getM 0 rfl).1
          subst hf907
          replace hC := hC.recast (c := own 2 1 u900 r899.length ((EI .i64).encs r899)) (fun _ h_ => h_) (fun _ => ho906)
          refine done ?_
          refine ak_intro (by assumption) (listed' := (List.toArray [true, true, true, false, true, false, false, false, false, false, false, false, false])) rfl ?_
          refine ae_two 3 10 rfl rfl (by kernel_rfl) ?_ ?_
          · skip
            refine s_call [.agg #[u1_0]] _ Try.func41 rfl rfl rfl (c_laws_toForm a1 h _ (form_mk (hC.getP 1 rfl))) (fun ret909 w911 hR910 => ?_)
            obtain ⟨r912, u913, f914, rfl, h, hr915, hf916, hB917⟩ := hR910
            refine ⟨_, rfl, ?_⟩
            replace hC := hC.push hB917 (Tr.item (TrForm 93) r912 [u913] f914) hr915 hf916
            obtain ⟨ho919, hf920⟩ := form_split (hC.getM 0 rfl)
            subst hf920
            replace hC := hC.recast (c := own 93 9 u913 r912.terms.length (ETerm.encs r912.terms)) (fun _ h_ => h_) (fun _ => ho919)
            refine done ?_
            refine ak_intro (by assumption) (listed' := (List.toArray [true, true, true, true, true, false, false, false, false, false, false, false, false])) rfl ?_
            refine ae_two 5 10 rfl rfl (by kernel_rfl) ?_ ?_
            · skip
              refine s_call [.agg #[u2_0]] _ Try.func41 rfl rfl rfl (c_laws_toForm a2 h _ (form_mk (hC.getP 0 rfl))) (fun ret922 w924 hR923 => ?_)
              obtain ⟨r925, u926, f927, rfl, h, hr928, hf929, hB930⟩ := hR923
              refine ⟨_, rfl, ?_⟩
              replace hC := hC.push hB930 (Tr.item (TrForm 93) r925 [u926] f927) hr928 hf929
              obtain ⟨ho932, hf933⟩ := form_split (hC.getM 0 rfl)
              subst hf933
              replace hC := hC.recast (c := own 93 9 u926 r925.terms.length (ETerm.encs r925.terms)) (fun _ h_ => h_) (fun _ => ho932)
              refine done ?_
              refine ak_intro (by assumption) (listed' := (List.toArray [true, true, true, true, true, true, false, false, false, false, false, false, false])) rfl ?_
              refine ae_two 6 10 rfl rfl (by kernel_rfl) ?_ ?_
              · skip
                have hs938 := own_fresh hC 2 rfl
                replace hC := hC.thaw 2 rfl (Ty.item ((EI .i64).ty.sl) r899 [u900] (Option.toList (Value.ownBlock u900))) own_repE (fun _ hb_ => hb_)
                have hs940 := own_fresh hC 1 rfl
                replace hC := hC.thaw 1 rfl (Ty.item ETerm.ty.sl r912.terms [u913] (Option.toList (Value.ownBlock u913))) own_repE (fun _ hb_ => hb_)
                have hs942 := own_fresh hC 0 rfl
                replace hC := hC.thaw 0 rfl (Ty.item ETerm.ty.sl r925.terms [u926] (Option.toList (Value.ownBlock u926))) own_repE (fun _ hb_ => hb_)
                refine s_call [u900, .agg #[u913], .agg #[u926]] _ Try.func59 rfl rfl rfl (c_spec_MultiplyForms r899 (⟨r912.terms⟩ : Vc.Form) (⟨r925.terms⟩ : Vc.Form) h _ (hC.getP 2 rfl) (form_mk (hC.getP 1 rfl)) (form_mk (hC.getP 0 rfl))) (fun ret944 w946 hR945 => ?_)
                obtain ⟨r947, u948, f949, r952, rfl, h, hr950, hf951, hB953⟩ := hR945
                refine ⟨_, rfl, ?_⟩
                have hs954 : ∀ b, b ∈ f949 → w0.heap.size ≤ b ∨ b ∈ (fp0 ++ (fp1 ++ (fp2))) := (fun b hb => (hf951 b hb).elim (fun h_ => .inl (Nat.le_trans hC.size h_)) (fun hb => (List.mem_append.1 hb).elim (fun hb => .inl (hs938 b hb)) (fun hb => (List.mem_append.1 hb).elim (fun hb => .inl (hs940 b hb)) (fun hb => .inl (hs942 b hb)))))
                replace hC := hC.pushR hB953 (Ty.item TForm r947 [u948] f949) hr950 (fun b hb => (hf951 b hb).elim .inl (fun hb => .inr ((List.mem_append.1 hb).elim (fun hb => ⟨_, List.mem_of_getElem? (i := 2) rfl, hb⟩) (fun hb => (List.mem_append.1 hb).elim (fun hb => ⟨_, List.mem_of_getElem? (i := 1) rfl, hb⟩) (fun hb => ⟨_, List.mem_of_getElem? (i := 0) rfl, hb⟩)))))
                have hp956 := (hC.getP 0 rfl)
                replace hC := hC.derive 0 rfl (Ty.item ETerm.ty.sl r947.terms [u948] f949) (fun _ => (form_parts hp956)) (fun _ hb_ => hb_)
                refine done ?_
                refine ak_intro (by assumption) (listed' := (List.toArray [true, true, true, true, true, true, true, false, false, false, false, false, false])) rfl ?_
                refine ae_lookF 7 (.tuple #[.agg #[u948], .int .i64 r952]) rfl rfl (by kernel_rfl) (hM32 7 rfl) (fun w_ => .inl ⟨rfl, by exact r_mv (v := .tuple #[.agg #[u948], .int .i64 r952]) rfl⟩) (listed' := (List.toArray [true, true, true, true, true, true, true, true, false, false, false, false, false])) rfl ?_
                refine ae_lookF 8 (.agg #[u948]) rfl rfl (by kernel_rfl) (hM32 8 rfl) (fun w_ => .inl ⟨rfl, by exact r_ext (v := .agg #[u948]) rfl rfl⟩) (listed' := (List.toArray [true, true, true, true, true, true, true, true, true, false, false, false, false])) rfl ?_
                refine ae_lookF 9 (.int .i64 r952) rfl rfl (by kernel_rfl) (hM32 9 rfl) (fun w_ => .inl ⟨rfl, by exact r_ext (v := .int .i64 r952) rfl rfl⟩) (listed' := (List.toArray [true, true, true, true, true, true, true, true, true, true, false, false, false])) rfl ?_
                refine ae_one 10 rfl (by kernel_rfl) ?_
                refine s_alloc hC [.slice none 0 0] z51 rfl fun b958 w960 hB_ hC => ?_
                refine done ?_
                refine ak_intro (by assumption) (listed' := (List.toArray [true, true, true, true, true, true, true, true, true, true, true, false, false])) rfl ?_
                refine ae_one 11 rfl (by kernel_rfl) ?_
                refine s_store (v := .agg #[u948]) hC 0 [u948] [u948] rfl ag51.size rfl rfl rfl rfl (all_c (rep_oneC (hC.getP 0 rfl)) rfl) (Nat.le_of_ble_eq_true rfl) rfl fun w961 hC => ?_
                refine done ?_
                refine ak_introN (by decide) (listed' := (List.toArray [true, true, true, true, true, true, true, true, true, true, true, true, false])) rfl ?_
                refine ae_tail 12 (by decide) (by decide) (by kernel_rfl) rfl rfl ?_
                refine s_as (v := .int .i64 r952) rfl ?_
                refine done ?_
                refine qn_norm ?_
                replace hC := hC.sel [0, 1, 2] [0, 5, 6, 7, 8, 9] (M' := [blk b958 51 [u948], blk b11 60 [u2_0], blk b8 60 [u1_0]]) (Ps' := [Ty.item ETerm.ty.sl r947.terms [u948] f949, Ty.item ETerm.ty.sl a2.terms [u2_0] fp2, Ty.item ETerm.ty.sl a1.terms [u1_0] fp1, Ty.item ((EI .i64).ty.sl) a0 [u0_0] fp0, Ty.item TForm a1 [u1_0] fp1, Ty.item TForm a2 [u2_0] fp2]) (by decide) rfl rfl
                exact ⟨rfl, _, rfl, ⟨b958, u948, r947, f949, r952, rfl, rfl, rfl, rfl, rfl, rfl, hs954, hC, h⟩⟩
              · skip
                refine s_alloc hC [.slice none 0 0] z51 rfl fun b962 w964 hB_ hC => ?_
                refine done ?_
                refine ak_intro (by assumption) (listed' := (List.toArray [true, true, true, true, true, true, false, false, false, false, true, false, false])) rfl ?_
                refine ae_one 6 rfl (by kernel_rfl) ?_
                have hs968 := own_fresh hC 3 rfl
                replace hC := hC.thaw 3 rfl (Ty.item ((EI .i64).ty.sl) r899 [u900] (Option.toList (Value.ownBlock u900))) own_repE (fun _ hb_ => hb_)
                have hs970 := own_fresh hC 2 rfl
                replace hC := hC.thaw 2 rfl (Ty.item ETerm.ty.sl r912.terms [u913] (Option.toList (Value.ownBlock u913))) own_repE (fun _ hb_ => hb_)
                have hs972 := own_fresh hC 1 rfl
                replace hC := hC.thaw 1 rfl (Ty.item ETerm.ty.sl r925.terms [u926] (Option.toList (Value.ownBlock u926))) own_repE (fun _ hb_ => hb_)
                refine s_call [u900, .agg #[u913], .agg #[u926]] _ Try.func59 rfl rfl rfl (c_spec_MultiplyForms r899 (⟨r912.terms⟩ : Vc.Form) (⟨r925.terms⟩ : Vc.Form) h _ (hC.getP 2 rfl) (form_mk (hC.getP 1 rfl)) (form_mk (hC.getP 0 rfl))) (fun ret974 w976 hR975 => ?_)
                obtain ⟨r977, u978, f979, r982, rfl, h, hr980, hf981, hB983⟩ := hR975
                refine ⟨_, rfl, ?_⟩
                have hs984 : ∀ b, b ∈ f979 → w0.heap.size ≤ b ∨ b ∈ (fp0 ++ (fp1 ++ (fp2))) := (fun b hb => (hf981 b hb).elim (fun h_ => .inl (Nat.le_trans hC.size h_)) (fun hb => (List.mem_append.1 hb).elim (fun hb => .inl (hs968 b hb)) (fun hb => (List.mem_append.1 hb).elim (fun hb => .inl (hs970 b hb)) (fun hb => .inl (hs972 b hb)))))
                replace hC := hC.pushR hB983 (Ty.item TForm r977 [u978] f979) hr980 (fun b hb => (hf981 b hb).elim .inl (fun hb => .inr ((List.mem_append.1 hb).elim (fun hb => ⟨_, List.mem_of_getElem? (i := 2) rfl, hb⟩) (fun hb => (List.mem_append.1 hb).elim (fun hb => ⟨_, List.mem_of_getElem? (i := 1) rfl, hb⟩) (fun hb => ⟨_, List.mem_of_getElem? (i := 0) rfl, hb⟩)))))
                have hp986 := (hC.getP 0 rfl)
                replace hC := hC.derive 0 rfl (Ty.item ETerm.ty.sl r977.terms [u978] f979) (fun _ => (form_parts hp986)) (fun _ hb_ => hb_)
                refine done ?_
                refine ak_intro (by assumption) (listed' := (List.toArray [true, true, true, true, true, true, true, false, false, false, true, false, false])) rfl ?_
                refine ae_lookF 7 (.tuple #[.agg #[u978], .int .i64 r982]) rfl rfl (by kernel_rfl) (hM32 7 rfl) (fun w_ => .inl ⟨rfl, by exact r_mv (v := .tuple #[.agg #[u978], .int .i64 r982]) rfl⟩) (listed' := (List.toArray [true, true, true, true, true, true, true, true, false, false, true, false, false])) rfl ?_
                refine ae_lookF 8 (.agg #[u978]) rfl rfl (by kernel_rfl) (hM32 8 rfl) (fun w_ => .inl ⟨rfl, by exact r_ext (v := .agg #[u978]) rfl rfl⟩) (listed' := (List.toArray [true, true, true, true, true, true, true, true, true, false, true, false, false])) rfl ?_
                refine ae_lookF 9 (.int .i64 r982) rfl rfl (by kernel_rfl) (hM32 9 rfl) (fun w_ => .inl ⟨rfl, by exact r_ext (v := .int .i64 r982) rfl rfl⟩) (listed' := (List.toArray [true, true, true, true, true, true, true, true, true, true, true, false, false])) rfl ?_
                refine ae_one 11 rfl (by kernel_rfl) ?_
                refine s_store (v := .agg #[u978]) hC 0 [u978] [u978] rfl ag51.size rfl rfl rfl rfl (all_c (rep_oneC (hC.getP 0 rfl)) rfl) (Nat.le_of_ble_eq_true rfl) rfl fun w988 hC => ?_
                refine done ?_
                refine ak_introN (by decide) (listed' := (List.toArray [true, true, true, true, true, true, true, true, true, true, true, true, false])) rfl ?_
                refine ae_tail 12 (by decide) (by decide) (by kernel_rfl) rfl rfl ?_
                refine s_as (v := .int .i64 r982) rfl ?_
                refine done ?_
                refine qn_norm ?_
                replace hC := hC.sel [0, 1, 2] [0, 5, 6, 7, 8, 9] (M' := [blk b962 51 [u978], blk b11 60 [u2_0], blk b8 60 [u1_0]]) (Ps' := [Ty.item ETerm.ty.sl r977.terms [u978] f979, Ty.item ETerm.ty.sl a2.terms [u2_0] fp2, Ty.item ETerm.ty.sl a1.terms [u1_0] fp1, Ty.item ((EI .i64).ty.sl) a0 [u0_0] fp0, Ty.item TForm a1 [u1_0] fp1, Ty.item TForm a2 [u2_0] fp2]) (by decide) rfl rfl
                exact ⟨rfl, _, rfl, ⟨b962, u978, r977, f979, r982, rfl, rfl, rfl, rfl, rfl, rfl, hs984, hC, h⟩⟩
            · skip
              refine s_alloc hC [.slice none 0 0] z51 rfl fun b989 w991 hB_ hC => ?_
              refine done ?_
              refine ak_intro (by assumption) (listed' := (List.toArray [true, true, true, true, true, false, false, false, false, false, true, false, false])) rfl ?_
              refine ae_one 5 rfl (by kernel_rfl) ?_
              refine s_call [.agg #[u2_0]] _ Try.func41 rfl rfl rfl (c_laws_toForm a2 h _ (form_mk (hC.getP 0 rfl))) (fun ret992 w994 hR993 => ?_)
              obtain ⟨r995, u996, f997, rfl, h, hr998, hf999, hB1000⟩ := hR993
              refine ⟨_, rfl, ?_⟩
              replace hC := hC.push hB1000 (Tr.item (TrForm 93) r995 [u996] f997) hr998 hf999
              obtain ⟨ho1002, hf1003⟩ := form_split (hC.getM 0 rfl)
              subst hf1003
              replace hC := hC.recast (c := own 93 9 u996 r995.terms.length (ETerm.encs r995.terms)) (fun _ h_ => h_) (fun _ => ho1002)
              refine done ?_
              refine ak_intro (by assumption) (listed' := (List.toArray [true, true, true, true, true, true, false, false, false, false, true, false, false])) rfl ?_
              refine ae_one 6 rfl (by kernel_rfl) ?_
              have hs1008 := own_fresh hC 3 rfl
              replace hC := hC.thaw 3 rfl (Ty.item ((EI .i64).ty.sl) r899 [u900] (Option.toList (Value.ownBlock u900))) own_repE (fun _ hb_ => hb_)
              have hs1010 := own_fresh hC 2 rfl
              replace hC := hC.thaw 2 rfl (Ty.item ETerm.ty.sl r912.terms [u913] (Option.toList (Value.ownBlock u913))) own_repE (fun _ hb_ => hb_)
              have hs1012 := own_fresh hC 0 rfl
              replace hC := hC.thaw 0 rfl (Ty.item ETerm.ty.sl r995.terms [u996] (Option.toList (Value.ownBlock u996))) own_repE (fun _ hb_ => hb_)
              refine s_call [u900, .agg #[u913], .agg #[u996]] _ Try.func59 rfl rfl rfl (c_spec_MultiplyForms r899 (⟨r912.terms⟩ : Vc.Form) (⟨r995.terms⟩ : Vc.Form) h _ (hC.getP 2 rfl) (form_mk (hC.getP 1 rfl)) (form_mk (hC.getP 0 rfl))) (fun ret1014 w1016 hR1015 => ?_)
              obtain ⟨r1017, u1018, f1019, r1022, rfl, h, hr1020, hf1021, hB1023⟩ := hR1015
              refine ⟨_, rfl, ?_⟩
              have hs1024 : ∀ b, b ∈ f1019 → w0.heap.size ≤ b ∨ b ∈ (fp0 ++ (fp1 ++ (fp2))) := (fun b hb => (hf1021 b hb).elim (fun h_ => .inl (Nat.le_trans hC.size h_)) (fun hb => (List.mem_append.1 hb).elim (fun hb => .inl (hs1008 b hb)) (fun hb => (List.mem_append.1 hb).elim (fun hb => .inl (hs1010 b hb)) (fun hb => .inl (hs1012 b hb)))))
              replace hC := hC.pushR hB1023 (Ty.item TForm r1017 [u1018] f1019) hr1020 (fun b hb => (hf1021 b hb).elim .inl (fun hb => .inr ((List.mem_append.1 hb).elim (fun hb => ⟨_, List.mem_of_getElem? (i := 2) rfl, hb⟩) (fun hb => (List.mem_append.1 hb).elim (fun hb => ⟨_, List.mem_of_getElem? (i := 1) rfl, hb⟩) (fun hb => ⟨_, List.mem_of_getElem? (i := 0) rfl, hb⟩)))))
              have hp1026 := (hC.getP 0 rfl)
              replace hC := hC.derive 0 rfl (Ty.item ETerm.ty.sl r1017.terms [u1018] f1019) (fun _ => (form_parts hp1026)) (fun _ hb_ => hb_)
              refine done ?_
              refine ak_intro (by assumption) (listed' := (List.toArray [true, true, true, true, true, true, true, false, false, false, true, false, false])) rfl ?_
              refine ae_lookF 7 (.tuple #[.agg #[u1018], .int .i64 r1022]) rfl rfl (by kernel_rfl) (hM32 7 rfl) (fun w_ => .inl ⟨rfl, by exact r_mv (v := .tuple #[.agg #[u1018], .int .i64 r1022]) rfl⟩) (listed' := (List.toArray [true, true, true, true, true, true, true, true, false, false, true, false, false])) rfl ?_
              refine ae_lookF 8 (.agg #[u1018]) rfl rfl (by kernel_rfl) (hM32 8 rfl) (fun w_ => .inl ⟨rfl, by exact r_ext (v := .agg #[u1018]) rfl rfl⟩) (listed' := (List.toArray [true, true, true, true, true, true, true, true, true, false, true, false, false])) rfl ?_
              refine ae_lookF 9 (.int .i64 r1022) rfl rfl (by kernel_rfl) (hM32 9 rfl) (fun w_ => .inl ⟨rfl, by exact r_ext (v := .int .i64 r1022) rfl rfl⟩) (listed' := (List.toArray [true, true, true, true, true, true, true, true, true, true, true, false, false])) rfl ?_
              refine ae_one 11 rfl (by kernel_rfl) ?_
              refine s_store (v := .agg #[u1018]) hC 0 [u1018] [u1018] rfl ag51.size rfl rfl rfl rfl (all_c (rep_oneC (hC.getP 0 rfl)) rfl) (Nat.le_of_ble_eq_true rfl) rfl fun w1028 hC => ?_
              refine done ?_
              refine ak_introN (by decide) (listed' := (List.toArray [true, true, true, true, true, true, true, true, true, true, true, true, false])) rfl ?_
              refine ae_tail 12 (by decide) (by decide) (by kernel_rfl) rfl rfl ?_
              refine s_as (v := .int .i64 r1022) rfl ?_
              refine done ?_
              refine qn_norm ?_
              replace hC := hC.sel [0, 1, 2] [0, 5, 6, 7, 8, 9] (M' := [blk b989 51 [u1018], blk b11 60 [u2_0], blk b8 60 [u1_0]]) (Ps' := [Ty.item ETerm.ty.sl r1017.terms [u1018] f1019, Ty.item ETerm.ty.sl a2.terms [u2_0] fp2, Ty.item ETerm.ty.sl a1.terms [u1_0] fp1, Ty.item ((EI .i64).ty.sl) a0 [u0_0] fp0, Ty.item TForm a1 [u1_0] fp1, Ty.item TForm a2 [u2_0] fp2]) (by decide) rfl rfl
              exact ⟨rfl, _, rfl, ⟨b989, u1018, r1017, f1019, r1022, rfl, rfl, rfl, rfl, rfl, rfl, hs1024, hC, h⟩⟩
          · skip
            refine s_alloc hC [.slice none 0 0] z51 rfl fun b1029 w1031 hB_ hC => ?_
            refine done ?_
            refine ak_intro (by assumption) (listed' := (List.toArray [true, true, true, false, true, false, false, false, false, false, true, false, false])) rfl ?_
            refine ae_one 3 rfl (by kernel_rfl) ?_
            refine s_call [.agg #[u1_0]] _ Try.func41 rfl rfl rfl (c_laws_toForm a1 h _ (form_mk (hC.getP 1 rfl))) (fun ret1032 w1034 hR1033 => ?_)
            obtain ⟨r1035, u1036, f1037, rfl, h, hr1038, hf1039, hB1040⟩ := hR1033
            refine ⟨_, rfl, ?_⟩
            replace hC := hC.push hB1040 (Tr.item (TrForm 93) r1035 [u1036] f1037) hr1038 hf1039
            obtain ⟨ho1042, hf1043⟩ := form_split (hC.getM 0 rfl)
            subst hf1043
            replace hC := hC.recast (c := own 93 9 u1036 r1035.terms.length (ETerm.encs r1035.terms)) (fun _ h_ => h_) (fun _ => ho1042)
            refine done ?_
            refine ak_intro (by assumption) (listed' := (List.toArray [true, true, true, true, true, false, false, false, false, false, true, false, false])) rfl ?_
            refine ae_one 5 rfl (by kernel_rfl) ?_
            refine s_call [.agg #[u2_0]] _ Try.func41 rfl rfl rfl (c_laws_toForm a2 h _ (form_mk (hC.getP 0 rfl))) (fun ret1045 w1047 hR1046 => ?_)
            obtain ⟨r1048, u1049, f1050, rfl, h, hr1051, hf1052, hB1053⟩ := hR1046
            refine ⟨_, rfl, ?_⟩
            replace hC := hC.push hB1053 (Tr.item (TrForm 93) r1048 [u1049] f1050) hr1051 hf1052
            obtain ⟨ho1055, hf1056⟩ := form_split (hC.getM 0 rfl)
            subst hf1056
            replace hC := hC.recast (c := own 93 9 u1049 r1048.terms.length (ETerm.encs r1048.terms)) (fun _ h_ => h_) (fun _ => ho1055)
            refine done ?_
            refine ak_intro (by assumption) (listed' := (List.toArray [true, true, true, true, true, true, false, false, false, false, true, false, false])) rfl ?_
            refine ae_one 6 rfl (by kernel_rfl) ?_
            have hs1061 := own_fresh hC 3 rfl
            replace hC := hC.thaw 3 rfl (Ty.item ((EI .i64).ty.sl) r899 [u900] (Option.toList (Value.ownBlock u900))) own_repE (fun _ hb_ => hb_)
            have hs1063 := own_fresh hC 1 rfl
            replace hC := hC.thaw 1 rfl (Ty.item ETerm.ty.sl r1035.terms [u1036] (Option.toList (Value.ownBlock u1036))) own_repE (fun _ hb_ => hb_)
            have hs1065 := own_fresh hC 0 rfl
            replace hC := hC.thaw 0 rfl (Ty.item ETerm.ty.sl r1048.terms [u1049] (Option.toList (Value.ownBlock u1049))) own_repE (fun _ hb_ => hb_)
            refine s_call [u900, .agg #[u1036], .agg #[u1049]] _ Try.func59 rfl rfl rfl (c_spec_MultiplyForms r899 (⟨r1035.terms⟩ : Vc.Form) (⟨r1048.terms⟩ : Vc.Form) h _ (hC.getP 2 rfl) (form_mk (hC.getP 1 rfl)) (form_mk (hC.getP 0 rfl))) (fun ret1067 w1069 hR1068 => ?_)
            obtain ⟨r1070, u1071, f1072, r1075, rfl, h, hr1073, hf1074, hB1076⟩ := hR1068
            refine ⟨_, rfl, ?_⟩
            have hs1077 : ∀ b, b ∈ f1072 → w0.heap.size ≤ b ∨ b ∈ (fp0 ++ (fp1 ++ (fp2))) := (fun b hb => (hf1074 b hb).elim (fun h_ => .inl (Nat.le_trans hC.size h_)) (fun hb => (List.mem_append.1 hb).elim (fun hb => .inl (hs1061 b hb)) (fun hb => (List.mem_append.1 hb).elim (fun hb => .inl (hs1063 b hb)) (fun hb => .inl (hs1065 b hb)))))
            replace hC := hC.pushR hB1076 (Ty.item TForm r1070 [u1071] f1072) hr1073 (fun b hb => (hf1074 b hb).elim .inl (fun hb => .inr ((List.mem_append.1 hb).elim (fun hb => ⟨_, List.mem_of_getElem? (i := 2) rfl, hb⟩) (fun hb => (List.mem_append.1 hb).elim (fun hb => ⟨_, List.mem_of_getElem? (i := 1) rfl, hb⟩) (fun hb => ⟨_, List.mem_of_getElem? (i := 0) rfl, hb⟩)))))
            have hp1079 := (hC.getP 0 rfl)
            replace hC := hC.derive 0 rfl (Ty.item ETerm.ty.sl r1070.terms [u1071] f1072) (fun _ => (form_parts hp1079)) (fun _ hb_ => hb_)
            refine done ?_
            refine ak_intro (by assumption) (listed' := (List.toArray [true, true, true, true, true, true, true, false, false, false, true, false, false])) rfl ?_
            refine ae_lookF 7 (.tuple #[.agg #[u1071], .int .i64 r1075]) rfl rfl (by kernel_rfl) (hM32 7 rfl) (fun w_ => .inl ⟨rfl, by exact r_mv (v := .tuple #[.agg #[u1071], .int .i64 r1075]) rfl⟩) (listed' := (List.toArray [true, true, true, true, true, true, true, true, false, false, true, false, false])) rfl ?_
            refine ae_lookF 8 (.agg #[u1071]) rfl rfl (by kernel_rfl) (hM32 8 rfl) (fun w_ => .inl ⟨rfl, by exact r_ext (v := .agg #[u1071]) rfl rfl⟩) (listed' := (List.toArray [true, true, true, true, true, true, true, true, true, false, true, false, false])) rfl ?_
            refine ae_lookF 9 (.int .i64 r1075) rfl rfl (by kernel_rfl) (hM32 9 rfl) (fun w_ => .inl ⟨rfl, by exact r_ext (v := .int .i64 r1075) rfl rfl⟩) (listed' := (List.toArray [true, true, true, true, true, true, true, true, true, true, true, false, false])) rfl ?_
            refine ae_one 11 rfl (by kernel_rfl) ?_
            refine s_store (v := .agg #[u1071]) hC 0 [u1071] [u1071] rfl ag51.size rfl rfl rfl rfl (all_c (rep_oneC (hC.getP 0 rfl)) rfl) (Nat.le_of_ble_eq_true rfl) rfl fun w1081 hC => ?_
            refine done ?_
            refine ak_introN (by decide) (listed' := (List.toArray [true, true, true, true, true, true, true, true, true, true, true, true, false])) rfl ?_
            refine ae_tail 12 (by decide) (by decide) (by kernel_rfl) rfl rfl ?_
            refine s_as (v := .int .i64 r1075) rfl ?_
            refine done ?_
            refine qn_norm ?_
            replace hC := hC.sel [0, 1, 2] [0, 5, 6, 7, 8, 9] (M' := [blk b1029 51 [u1071], blk b11 60 [u2_0], blk b8 60 [u1_0]]) (Ps' := [Ty.item ETerm.ty.sl r1070.terms [u1071] f1072, Ty.item ETerm.ty.sl a2.terms [u2_0] fp2, Ty.item ETerm.ty.sl a1.terms [u1_0] fp1, Ty.item ((EI .i64).ty.sl) a0 [u0_0] fp0, Ty.item TForm a1 [u1_0] fp1, Ty.item TForm a2 [u2_0] fp2]) (by decide) rfl rfl
            exact ⟨rfl, _, rfl, ⟨b1029, u1071, r1070, f1072, r1075, rfl, rfl, rfl, rfl, rfl, rfl, hs1077, hC, h⟩⟩
        · skip
          refine s_alloc hC [.slice none 0 0] z51 rfl fun b1082 w1084 hB_ hC => ?_
          refine done ?_
          refine ak_intro (by assumption) (listed' := (List.toArray [true, false, true, false, true, false, false, false, false, false, true, false, false])) rfl ?_
          refine ae_one 1 rfl (by kernel_rfl) ?_
          refine s_call [u0_0] _ Try.func14 rfl rfl rfl (c_laws_toInt64S a0 h _ (hC.getP 2 rfl)) (fun ret1085 w1087 hR1086 => ?_)
          obtain ⟨r1088, u1089, f1090, rfl, h, hr1091, hf1092, hB1093⟩ := hR1086
          refine ⟨_, rfl, ?_⟩
          replace hC := hC.push hB1093 (Tr.item (Tr.sl 2 ((EI .i64).tr)) r1088 [u1089] f1090) hr1091 hf1092
          obtain ⟨ho1095, hf1096⟩ := flat_tr (hC.getM 0 rfl).1
          subst hf1096
          replace hC := hC.recast (c := own 2 1 u1089 r1088.length ((EI .i64).encs r1088)) (fun _ h_ => h_) (fun _ => ho1095)
          refine done ?_
          refine ak_intro (by assumption) (listed' := (List.toArray [true, true, true, false, true, false, false, false, false, false, true, false, false])) rfl ?_
          refine ae_one 3 rfl (by kernel_rfl) ?_
          refine s_call [.agg #[u1_0]] _ Try.func41 rfl rfl rfl (c_laws_toForm a1 h _ (form_mk (hC.getP 1 rfl))) (fun ret1098 w1100 hR1099 => ?_)
          obtain ⟨r1101, u1102, f1103, rfl, h, hr1104, hf1105, hB1106⟩ := hR1099
          refine ⟨_, rfl, ?_⟩
          replace hC := hC.push hB1106 (Tr.item (TrForm 93) r1101 [u1102] f1103) hr1104 hf1105
          obtain ⟨ho1108, hf1109⟩ := form_split (hC.getM 0 rfl)
          subst hf1109
          replace hC := hC.recast (c := own 93 9 u1102 r1101.terms.length (ETerm.encs r1101.terms)) (fun _ h_ => h_) (fun _ => ho1108)
          refine done ?_
          refine ak_intro (by assumption) (listed' := (List.toArray [true, true, true, true, true, false, false, false, false, false, true, false, false])) rfl ?_
          refine ae_one 5 rfl (by kernel_rfl) ?_
          refine s_call [.agg #[u2_0]] _ Try.func41 rfl rfl rfl (c_laws_toForm a2 h _ (form_mk (hC.getP 0 rfl))) (fun ret1111 w1113 hR1112 => ?_)
          obtain ⟨r1114, u1115, f1116, rfl, h, hr1117, hf1118, hB1119⟩ := hR1112
          refine ⟨_, rfl, ?_⟩
          replace hC := hC.push hB1119 (Tr.item (TrForm 93) r1114 [u1115] f1116) hr1117 hf1118
          obtain ⟨ho1121, hf1122⟩ := form_split (hC.getM 0 rfl)
          subst hf1122
          replace hC := hC.recast (c := own 93 9 u1115 r1114.terms.length (ETerm.encs r1114.terms)) (fun _ h_ => h_) (fun _ => ho1121)
          refine done ?_
          refine ak_intro (by assumption) (listed' := (List.toArray [true, true, true, true, true, true, false, false, false, false, true, false, false])) rfl ?_
          refine ae_one 6 rfl (by kernel_rfl) ?_
          have hs1127 := own_fresh hC 2 rfl
          replace hC := hC.thaw 2 rfl (Ty.item ((EI .i64).ty.sl) r1088 [u1089] (Option.toList (Value.ownBlock u1089))) own_repE (fun _ hb_ => hb_)
          have hs1129 := own_fresh hC 1 rfl
          replace hC := hC.thaw 1 rfl (Ty.item ETerm.ty.sl r1101.terms [u1102] (Option.toList (Value.ownBlock u1102))) own_repE (fun _ hb_ => hb_)
          have hs1131 := own_fresh hC 0 rfl
          replace hC := hC.thaw 0 rfl (Ty.item ETerm.ty.sl r1114.terms [u1115] (Option.toList (Value.ownBlock u1115))) own_repE (fun _ hb_ => hb_)
          refine s_call [u1089, .agg #[u1102], .agg #[u1115]] _ Try.func59 rfl rfl rfl (c_spec_MultiplyForms r1088 (⟨r1101.terms⟩ : Vc.Form) (⟨r1114.terms⟩ : Vc.Form) h _ (hC.getP 2 rfl) (form_mk (hC.getP 1 rfl)) (form_mk (hC.getP 0 rfl))) (fun ret1133 w1135 hR1134 => ?_)
          obtain ⟨r1136, u1137, f1138, r1141, rfl, h, hr1139, hf1140, hB1142⟩ := hR1134
          refine ⟨_, rfl, ?_⟩
          have hs1143 : ∀ b, b ∈ f1138 → w0.heap.size ≤ b ∨ b ∈ (fp0 ++ (fp1 ++ (fp2))) := (fun b hb => (hf1140 b hb).elim (fun h_ => .inl (Nat.le_trans hC.size h_)) (fun hb => (List.mem_append.1 hb).elim (fun hb => .inl (hs1127 b hb)) (fun hb => (List.mem_append.1 hb).elim (fun hb => .inl (hs1129 b hb)) (fun hb => .inl (hs1131 b hb)))))
          replace hC := hC.pushR hB1142 (Ty.item TForm r1136 [u1137] f1138) hr1139 (fun b hb => (hf1140 b hb).elim .inl (fun hb => .inr ((List.mem_append.1 hb).elim (fun hb => ⟨_, List.mem_of_getElem? (i := 2) rfl, hb⟩) (fun hb => (List.mem_append.1 hb).elim (fun hb => ⟨_, List.mem_of_getElem? (i := 1) rfl, hb⟩) (fun hb => ⟨_, List.mem_of_getElem? (i := 0) rfl, hb⟩)))))
          have hp1145 := (hC.getP 0 rfl)
          replace hC := hC.derive 0 rfl (Ty.item ETerm.ty.sl r1136.terms [u1137] f1138) (fun _ => (form_parts hp1145)) (fun _ hb_ => hb_)
          refine done ?_
          refine ak_intro (by assumption) (listed' := (List.toArray [true, true, true, true, true, true, true, false, false, false, true, false, false])) rfl ?_
          refine ae_lookF 7 (.tuple #[.agg #[u1137], .int .i64 r1141]) rfl rfl (by kernel_rfl) (hM32 7 rfl) (fun w_ => .inl ⟨rfl, by exact r_mv (v := .tuple #[.agg #[u1137], .int .i64 r1141]) rfl⟩) (listed' := (List.toArray [true, true, true, true, true, true, true, true, false, false, true, false, false])) rfl ?_
          refine ae_lookF 8 (.agg #[u1137]) rfl rfl (by kernel_rfl) (hM32 8 rfl) (fun w_ => .inl ⟨rfl, by exact r_ext (v := .agg #[u1137]) rfl rfl⟩) (listed' := (List.toArray [true, true, true, true, true, true, true, true, true, false, true, false, false])) rfl ?_
          refine ae_lookF 9 (.int .i64 r1141) rfl rfl (by kernel_rfl) (hM32 9 rfl) (fun w_ => .inl ⟨rfl, by exact r_ext (v := .int .i64 r1141) rfl rfl⟩) (listed' := (List.toArray [true, true, true, true, true, true, true, true, true, true, true, false, false])) rfl ?_
          refine ae_one 11 rfl (by kernel_rfl) ?_
          refine s_store (v := .agg #[u1137]) hC 0 [u1137] [u1137] rfl ag51.size rfl rfl rfl rfl (all_c (rep_oneC (hC.getP 0 rfl)) rfl) (Nat.le_of_ble_eq_true rfl) rfl fun w1147 hC => ?_
          refine done ?_
          refine ak_introN (by decide) (listed' := (List.toArray [true, true, true, true, true, true, true, true, true, true, true, true, false])) rfl ?_
          refine ae_tail 12 (by decide) (by decide) (by kernel_rfl) rfl rfl ?_
          refine s_as (v := .int .i64 r1141) rfl ?_
          refine done ?_
          refine qn_norm ?_
          replace hC := hC.sel [0, 1, 2] [0, 5, 6, 7, 8, 9] (M' := [blk b1082 51 [u1137], blk b11 60 [u2_0], blk b8 60 [u1_0]]) (Ps' := [Ty.item ETerm.ty.sl r1136.terms [u1137] f1138, Ty.item ETerm.ty.sl a2.terms [u2_0] fp2, Ty.item ETerm.ty.sl a1.terms [u1_0] fp1, Ty.item ((EI .i64).ty.sl) a0 [u0_0] fp0, Ty.item TForm a1 [u1_0] fp1, Ty.item TForm a2 [u2_0] fp2]) (by decide) rfl rfl
          exact ⟨rfl, _, rfl, ⟨b1082, u1137, r1136, f1138, r1141, rfl, rfl, rfl, rfl, rfl, rfl, hs1143, hC, h⟩⟩
end Go.Proofs.Ytjngkbalaipdbaa
