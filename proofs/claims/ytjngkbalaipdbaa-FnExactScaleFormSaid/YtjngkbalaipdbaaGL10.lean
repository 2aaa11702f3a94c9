/- Printed by vcgen.py: functions of the program as predicates, and that the machine's calls meet them. -/
import Derived.Test.YtjngkbalaipdbaaGC
import Derived.KernelRfl
set_option linter.unusedVariables false
set_option linter.unusedSimpArgs false
set_option maxRecDepth 4000
set_option maxHeartbeats 4000000
namespace Go.Proofs.Ytjngkbalaipdbaa
open Go Go.RowKit Vc
theorem ag60 : AggT Try.prog 60 1 := ⟨⟨_, Try.underlying60, rfl⟩, by kernel_rfl⟩
def f_laws_FnExactScaleForm (a0 : List Int) (a1 : Int) (a2 : Vc.Form) (K : Bool → Prop) : Prop :=
  (if (a0.length : Int) > 1048576 then K true else f_laws_szForm a2 1048576 (fun r15 => (if r15 < 0 then K true else f_laws_toInt64S a0 (fun r585 => f_laws_toForm a2 (fun r598 => f_spec_ScaleForm r585 a1 r598 (fun r611 r616 => f_laws_toInt64S a0 (fun r162 => f_laws_toForm a2 (fun r175 => f_impl_ScaleForm r162 a1 r175 (fun r192 r197 => f_laws_eqForm r192 r611 (fun r210 => (if ¬ (r210 = true) then K false else (if r197 ≠ r616 then K false else f_laws_toInt64S a0 (fun r217 => f_laws_eqInt64S r162 r217 (fun r230 => (if ¬ (r230 = true) then K false else f_laws_toForm a2 (fun r239 => f_laws_eqForm r175 r239 (fun r252 => (if ¬ (r252 = true) then K false else f_laws_markInt64S r162 1 (fun r258 m260 => f_laws_markForm (⟨r175.terms⟩ : Vc.Form) r258 (fun r265 m267 => (if r265 < 0 then K false else f_laws_eqForm (⟨r192.terms⟩ : Vc.Form) (⟨r611.terms⟩ : Vc.Form) (fun r273 => (if ¬ (r273 = true) then K false else f_laws_markForm (⟨r192.terms⟩ : Vc.Form) 1 (fun r279 m281 => f_laws_heldForm (⟨m281.terms⟩ : Vc.Form) 1 (fun r286 => (if r286 < 0 then K false else (if r286 ≠ r279 then K false else f_laws_toInt64S a0 (fun r448 => f_laws_toForm (⟨a2.terms⟩ : Vc.Form) (fun r461 => f_impl_ScaleForm r448 a1 r461 (fun r474 r479 => f_laws_eqForm r474 (⟨r611.terms⟩ : Vc.Form) (fun r434 => (if ¬ (r434 = true) then K false else (if r479 ≠ r616 then K false else f_laws_heldForm (⟨m281.terms⟩ : Vc.Form) 1 (fun r441 => (if r441 < 0 then K false else (if r441 ≠ r279 then K false else K true))))))))))))))))))))))))))))))))))))
theorem c_laws_FnExactScaleForm (a0 : List Int) (a1 : Int) (a2 : Vc.Form) {u0_0 : Value} {u2_0 : Value} {fp0 : List Nat} {fp2 : List Nat} {K : Bool → Prop} (h : f_laws_FnExactScaleForm a0 a1 a2 K) (w0 : World) (q0 : ((EI .i64).ty.sl).rep a0 [u0_0] fp0 w0) (q2 : TForm.rep a2 [u2_0] fp2 w0) :
    Calls Try.prog 10 #[u0_0, .int .i64 a1, .agg #[u2_0]] w0 fun e w' => ∃ (r0 : Bool), 
      e = .returned (.bool r0) ∧ K r0 ∧ Bel w0 w' := by
  unfold f_laws_FnExactScaleForm at h
  refine calls_of (args := [u0_0, .int .i64 a1, .agg #[u2_0]]) Try.func10 rfl 122 Try.ntmps10 (Nat.le_of_ble_eq_true rfl) ?_
  have hC := Ctx.start (X := Nox) w0 [Ty.item ((EI .i64).ty.sl) a0 [u0_0] fp0, Ty.item TForm a2 [u2_0] fp2] (by simp only [List.mem_cons, List.not_mem_nil, or_false, forall_eq_or_imp, forall_eq]; exact ⟨q0, q2⟩)
  have hp3 := (hC.getP 1 rfl)
  replace hC := hC.derive 1 rfl (Ty.item ETerm.ty.sl a2.terms [u2_0] fp2) (fun _ => (form_parts hp3)) (fun _ hb_ => hb_)
  refine wp_seq ?_
  refine cw_region ?_
  refine s_box (v := .agg #[u2_0]) hC [u2_0] rfl rfl fun b5 w7 hB_ hC => ?_
  refine s_as (v := .bool false) rfl ?_
  refine done ?_
  refine then_norm ?_
  refine wp_seq ?_
  refine wp_seq ?_
  refine cw_region ?_
  refine s_mv (v := u0_0) rfl ?_
  obtain ⟨Ad8, c9, hv10⟩ := sl_len (hC.getP 1 rfl)
  refine s_len Try.underlying22 (tr rfl hv10) ?_
  refine s_gtr rfl rfl ?_
  refine done ?_
  refine then_norm ?_
  refine cw_cond rfl (fun hb11 => ?_) (fun hb11 => ?_)
  · replace h := ift h (ct hb11)
    refine wp_seq ?_
    refine cw_region ?_
    refine s_as (v := .bool true) rfl ?_
    refine done ?_
    refine then_norm ?_
    refine wp_ret (then_ret ?_)
    refine ret1 (fn := Try.f10) rfl ?_ ⟨true, rfl, h, hC.below⟩ (.inl rfl)
    exact res_tmp rfl
  · replace h := iff_ h (cf hb11)
    refine wp_skip ?_
    refine then_norm ?_
    refine wp_seq ?_
    refine cw_region ?_
    refine s_as (v := .int .i64 1048576) rfl ?_
    refine done ?_
    refine then_norm ?_
    refine wp_seq ?_
    refine cw_region ?_
    refine s_loadA hC 0 [u2_0] rfl ag60 rfl rfl rfl ?_
    refine s_mv (v := .int .i64 1048576) rfl ?_
    refine s_call [.agg #[u2_0], .int .i64 1048576] _ Try.func39 rfl rfl rfl (c_laws_szForm a2 1048576 h _ (form_mk (hC.getP 0 rfl))) (fun ret12 w14 hR13 => ?_)
    obtain ⟨r15, rfl, h, hB16⟩ := hR13
    refine ⟨_, rfl, ?_⟩
    replace hC := hC.grow hB16
    refine s_as (v := .int .i64 r15) rfl ?_
    refine done ?_
    refine then_norm ?_
    refine wp_seq ?_
    refine wp_seq ?_
    refine cw_region ?_
    refine s_mv (v := .int .i64 r15) rfl ?_
    refine s_lss rfl rfl ?_
    refine done ?_
    refine then_norm ?_
    refine cw_cond rfl (fun hb17 => ?_) (fun hb17 => ?_)
    · replace h := ift h (ct hb17)
      refine wp_seq ?_
      refine cw_region ?_
      refine s_as (v := .bool true) rfl ?_
      refine done ?_
      refine then_norm ?_
      refine wp_ret (then_ret ?_)
      refine ret1 (fn := Try.f10) rfl ?_ ⟨true, rfl, h, hC.below⟩ (.inl rfl)
      exact res_tmp rfl
    · replace h := iff_ h (cf hb17)
      refine wp_skip ?_
      refine then_norm ?_
      refine wp_seq ?_
      refine cw_draw 10 mixed [0, 1, 0, 0, 11, 31, 63, 127, 127, 0, 767, 2047] [3] [0, 2, 6, 7, 8] (by kernel_rfl) (by kernel_rfl) (by kernel_rfl) (fun hM19 hM20 w18 hB_ => ?_)
      replace hC := hC.grow hB_
      refine ae_lookF 0 (u0_0) rfl rfl (by kernel_rfl) (hM20 0 rfl) (fun w_ => .inl ⟨rfl, by exact r_mv (v := u0_0) rfl⟩) (listed' := (List.toArray [true, false, false, false, false, false, false, false, false, false, false, false])) rfl ?_
      refine ae_lookF 2 (.int .i64 a1) rfl rfl (by kernel_rfl) (hM20 2 rfl) (fun w_ => .inl ⟨rfl, by exact r_mv (v := .int .i64 a1) rfl⟩) (listed' := (List.toArray [true, false, true, false, false, false, false, false, false, false, false, false])) rfl ?_
      refine ae_look 3 (.agg #[u2_0]) rfl rfl (by kernel_rfl) (hM19 3 rfl) (fun w_ hB_ => .inl ⟨rfl, by exact r_loadA (hC.grow hB_) 0 [u2_0] rfl ag60 rfl rfl rfl⟩) (listed' := (List.toArray [true, false, true, true, false, false, false, false, false, false, false, false])) rfl ?_
      refine ae_join (fun e_ w_ => ∃ (b61 : Nat), ∃ (u51 : Value), ∃ (r50 : Vc.Form), ∃ (r55 : Int), e_ 0 = u0_0 ∧ e_ 1 = .int .i64 a1 ∧ e_ 5 = .pointer (some ⟨b5, 0, none⟩) ∧ e_ 6 = .bool false ∧ e_ 8 = .pointer (some ⟨b61, 0, none⟩) ∧ e_ 9 = .int .i64 r55 ∧ Ctx Nox w0 w_ [blk b61 51 [u51], own 93 9 u51 r50.terms.length (ETerm.encs r50.terms), blk b5 60 [u2_0]] [Ty.item ETerm.ty.sl a2.terms [u2_0] fp2, Ty.item ((EI .i64).ty.sl) a0 [u0_0] fp0, Ty.item TForm a2 [u2_0] fp2] ∧ (f_laws_toInt64S a0 (fun r162 => f_laws_toForm a2 (fun r175 => f_impl_ScaleForm r162 a1 r175 (fun r192 r197 => f_laws_eqForm r192 r50 (fun r210 => (if ¬ (r210 = true) then K false else (if r197 ≠ r55 then K false else f_laws_toInt64S a0 (fun r217 => f_laws_eqInt64S r162 r217 (fun r230 => (if ¬ (r230 = true) then K false else f_laws_toForm a2 (fun r239 => f_laws_eqForm r175 r239 (fun r252 => (if ¬ (r252 = true) then K false else f_laws_markInt64S r162 1 (fun r258 m260 => f_laws_markForm (⟨r175.terms⟩ : Vc.Form) r258 (fun r265 m267 => (if r265 < 0 then K false else f_laws_eqForm (⟨r192.terms⟩ : Vc.Form) (⟨r50.terms⟩ : Vc.Form) (fun r273 => (if ¬ (r273 = true) then K false else f_laws_markForm (⟨r192.terms⟩ : Vc.Form) 1 (fun r279 m281 => f_laws_heldForm (⟨m281.terms⟩ : Vc.Form) 1 (fun r286 => (if r286 < 0 then K false else (if r286 ≠ r279 then K false else f_laws_toInt64S a0 (fun r448 => f_laws_toForm (⟨a2.terms⟩ : Vc.Form) (fun r461 => f_impl_ScaleForm r448 a1 r461 (fun r474 r479 => f_laws_eqForm r474 (⟨r50.terms⟩ : Vc.Form) (fun r434 => (if ¬ (r434 = true) then K false else (if r479 ≠ r55 then K false else f_laws_heldForm (⟨m281.terms⟩ : Vc.Form) 1 (fun r441 => (if r441 < 0 then K false else (if r441 ≠ r279 then K false else K true)))))))))))))))))))))))))))))))) ?_ ?_
      · clear hC h
        rintro e_ w158 ⟨b61, u51, r50, r55, h0_, h1_, h5_, h6_, h8_, h9_, hC, h⟩
        refine then_norm ?_
        refine wp_seq ?_
        refine cw_region ?_
        refine s_mv (v := u0_0) h0_ ?_
        refine s_call [u0_0] _ Try.func14 rfl rfl rfl (c_laws_toInt64S a0 h _ (hC.getP 1 rfl)) (fun ret159 w161 hR160 => ?_)
        obtain ⟨r162, u163, f164, rfl, h, hr165, hf166, hB167⟩ := hR160
        refine ⟨_, rfl, ?_⟩
        replace hC := hC.push hB167 (Tr.item (Tr.sl 2 ((EI .i64).tr)) r162 [u163] f164) hr165 hf166
        obtain ⟨ho169, hf170⟩ := flat_tr (hC.getM 0 rfl).1
        subst hf170
        replace hC := hC.recast (c := own 2 1 u163 r162.length ((EI .i64).encs r162)) (fun _ h_ => h_) (fun _ => ho169)
        refine s_as (v := u163) rfl ?_
        refine done ?_
        refine then_norm ?_
        refine wp_seq ?_
        refine cw_region ?_
        refine s_loadA hC 3 [u2_0] rfl ag60 h5_ rfl rfl ?_
        refine s_call [.agg #[u2_0]] _ Try.func41 rfl rfl rfl (c_laws_toForm a2 h _ (form_mk (hC.getP 0 rfl))) (fun ret172 w174 hR173 => ?_)
        obtain ⟨r175, u176, f177, rfl, h, hr178, hf179, hB180⟩ := hR173
        refine ⟨_, rfl, ?_⟩
        replace hC := hC.push hB180 (Tr.item (TrForm 93) r175 [u176] f177) hr178 hf179
        obtain ⟨ho182, hf183⟩ := form_split (hC.getM 0 rfl)
        subst hf183
        replace hC := hC.recast (c := own 93 9 u176 r175.terms.length (ETerm.encs r175.terms)) (fun _ h_ => h_) (fun _ => ho182)
        refine s_alloc hC [.slice none 0 0] z51 rfl fun b185 w187 hB_ hC => ?_
        refine s_store (v := .agg #[u176]) hC 0 [u176] [u176] rfl ag51.size rfl rfl rfl rfl (all_c (own_oneC (hC.getM 1 rfl)) rfl) (Nat.le_of_ble_eq_true rfl) rfl fun w188 hC => ?_
        refine done ?_
        refine then_norm ?_
        refine wp_seq ?_
        refine cw_region ?_
        refine s_mv (v := u163) rfl ?_
        refine s_mv (v := .int .i64 a1) h1_ ?_
        refine s_loadA hC 0 [u176] rfl ag51 rfl rfl rfl ?_
        refine s_call [u163, .int .i64 a1, .agg #[u176]] _ Try.func47 rfl rfl rfl (c_impl_ScaleForm r162 a1 r175 h _ (own_repE (hC.getM 2 rfl)) (form_mk (own_repE (hC.getM 1 rfl)))) (fun ret189 w191 hR190 => ?_)
        obtain ⟨r192, u193, f194, r197, rfl, h, hr195, hf196, hB198⟩ := hR190
        refine ⟨_, rfl, ?_⟩
        replace hC := hC.push hB198 (Tr.item (TrForm 93) r192 [u193] f194) hr195 hf196
        obtain ⟨ho200, hf201⟩ := form_split (hC.getM 0 rfl)
        subst hf201
        replace hC := hC.recast (c := own 93 9 u193 r192.terms.length (ETerm.encs r192.terms)) (fun _ h_ => h_) (fun _ => ho200)
        refine s_mv (v := .tuple #[.agg #[u193], .int .i64 r197]) rfl ?_
        refine s_ext (v := .agg #[u193]) rfl rfl ?_
        refine s_ext (v := .int .i64 r197) rfl rfl ?_
        refine s_alloc hC [.slice none 0 0] z51 rfl fun b203 w205 hB_ hC => ?_
        refine s_store (v := .agg #[u193]) hC 0 [u193] [u193] rfl ag51.size rfl rfl rfl rfl (all_c (own_oneC (hC.getM 1 rfl)) rfl) (Nat.le_of_ble_eq_true rfl) rfl fun w206 hC => ?_
        refine s_as (v := .int .i64 r197) rfl ?_
        refine done ?_
        refine then_norm ?_
        refine wp_seq ?_
        refine wp_seq ?_
        refine cw_region ?_
        refine s_loadA hC 0 [u193] rfl ag51 rfl rfl rfl ?_
        refine s_loadA hC 5 [u51] rfl ag51 h8_ rfl rfl ?_
        refine s_call [.agg #[u193], .agg #[u51]] _ Try.func43 rfl rfl rfl (c_laws_eqForm r192 r50 h _ (form_mk (own_repE (hC.getM 1 rfl))) (form_mk (own_repE (hC.getM 6 rfl)))) (fun ret207 w209 hR208 => ?_)
        obtain ⟨r210, rfl, h, hB211⟩ := hR208
        refine ⟨_, rfl, ?_⟩
        replace hC := hC.grow hB211
        refine s_not rfl ?_
        refine s_mv (v := .bool (!r210)) rfl ?_
        refine bsplit (!r210) (fun hb212 => ?_) (fun hb212 => ?_)
        · replace h := ift h (ne_t (not_t hb212))
          refine guardOff (b := true) 4 51 rfl (tr rfl (congrArg _ hb212)) (by decide) ?_
          refine guardOff (b := true) 4 51 rfl (tr rfl (congrArg _ hb212)) (by decide) ?_
          refine guardOff (b := true) 4 51 rfl (tr rfl (congrArg _ hb212)) (by decide) ?_
          refine s_pick (v := .bool true) (b := true) (tr rfl (congrArg _ hb212)) rfl ?_
          refine done ?_
          refine then_norm ?_
          refine cw_true rfl rfl ?_
          refine wp_seq ?_
          refine cw_region ?_
          refine s_as (v := .bool false) rfl ?_
          refine done ?_
          refine then_norm ?_
          refine wp_ret (then_ret ?_)
          refine ret1 (fn := Try.f10) rfl ?_ ⟨false, rfl, h, hC.below⟩ (.inl rfl)
          exact res_tmp rfl
        · replace h := iff_ h (not_not_intro ((not_f hb212)))
          refine guardOn 4 51 rfl rfl hb212 ?_
          refine s_mv (v := .int .i64 r197) rfl ?_
          refine guardOn 4 51 rfl rfl hb212 ?_
          refine s_mv (v := .int .i64 r55) h9_ ?_
          refine guardOn 4 51 rfl rfl hb212 ?_
          refine s_neq rfl rfl ?_
          refine s_pick (v := .bool (decide (r197 ≠ r55))) (b := false) (tr rfl (congrArg _ hb212)) rfl ?_
          refine done ?_
          refine then_norm ?_
          refine cw_cond rfl (fun hb213 => ?_) (fun hb213 => ?_)
          · replace h := ift h (ct hb213)
            refine wp_seq ?_
            refine cw_region ?_
            refine s_as (v := .bool false) rfl ?_
            refine done ?_
            refine then_norm ?_
            refine wp_ret (then_ret ?_)
            refine ret1 (fn := Try.f10) rfl ?_ ⟨false, rfl, h, hC.below⟩ (.inl rfl)
            exact res_tmp rfl
          · replace h := iff_ h (cf hb213)
            refine wp_skip ?_
            refine then_norm ?_
            refine wp_seq ?_
            refine wp_seq ?_
            refine cw_region ?_
            refine s_mv (v := u163) rfl ?_
            refine s_mv (v := u0_0) h0_ ?_
            refine s_call [u0_0] _ Try.func14 rfl rfl rfl (c_laws_toInt64S a0 h _ (hC.getP 1 rfl)) (fun ret214 w216 hR215 => ?_)
            obtain ⟨r217, u218, f219, rfl, h, hr220, hf221, hB222⟩ := hR215
            refine ⟨_, rfl, ?_⟩
            replace hC := hC.push hB222 (Tr.item (Tr.sl 2 ((EI .i64).tr)) r217 [u218] f219) hr220 hf221
            obtain ⟨ho224, hf225⟩ := flat_tr (hC.getM 0 rfl).1
            subst hf225
            replace hC := hC.recast (c := own 2 1 u218 r217.length ((EI .i64).encs r217)) (fun _ h_ => h_) (fun _ => ho224)
            refine s_call [u163, u218] _ Try.func18 rfl rfl rfl (c_laws_eqInt64S r162 r217 h _ (own_repE (hC.getM 5 rfl)) (own_repE (hC.getM 0 rfl))) (fun ret227 w229 hR228 => ?_)
            obtain ⟨r230, rfl, h, hB231⟩ := hR228
            refine ⟨_, rfl, ?_⟩
            replace hC := hC.grow hB231
            refine s_not rfl ?_
            refine done ?_
            refine then_norm ?_
            refine cw_cond rfl (fun hb232 => ?_) (fun hb232 => ?_)
            · replace h := ift h (ne_t (not_t hb232))
              refine wp_seq ?_
              refine cw_region ?_
              refine s_as (v := .bool false) rfl ?_
              refine done ?_
              refine then_norm ?_
              refine wp_ret (then_ret ?_)
              refine ret1 (fn := Try.f10) rfl ?_ ⟨false, rfl, h, hC.below⟩ (.inl rfl)
              exact res_tmp rfl
            · replace h := iff_ h (not_not_intro ((not_f hb232)))
              refine wp_skip ?_
              refine then_norm ?_
              refine wp_seq ?_
              refine wp_seq ?_
              refine cw_draw 3 mixed [0, 0, 2, 7, 15] [0, 1] [] (by kernel_rfl) (by kernel_rfl) (by kernel_rfl) (fun hM234 hM235 w233 hB_ => ?_)
              replace hC := hC.grow hB_
              refine ae_look 0 (.agg #[u176]) rfl rfl (by kernel_rfl) (hM234 0 rfl) (fun w_ hB_ => .inl ⟨rfl, by exact r_loadA (hC.grow hB_) 3 [u176] rfl ag51 rfl rfl rfl⟩) (listed' := (List.toArray [true, false, false, false, false])) rfl ?_
              refine ae_look 1 (.agg #[u2_0]) rfl rfl (by kernel_rfl) (hM234 1 rfl) (fun w_ hB_ => .inl ⟨rfl, by exact r_loadA (hC.grow hB_) 8 [u2_0] rfl ag60 h5_ rfl rfl⟩) (listed' := (List.toArray [true, true, false, false, false])) rfl ?_
              refine ae_one 2 rfl (by kernel_rfl) ?_
              refine s_call [.agg #[u2_0]] _ Try.func41 rfl rfl rfl (c_laws_toForm a2 h _ (form_mk (hC.getP 0 rfl))) (fun ret236 w238 hR237 => ?_)
              obtain ⟨r239, u240, f241, rfl, h, hr242, hf243, hB244⟩ := hR237
              refine ⟨_, rfl, ?_⟩
              replace hC := hC.push hB244 (Tr.item (TrForm 93) r239 [u240] f241) hr242 hf243
              obtain ⟨ho246, hf247⟩ := form_split (hC.getM 0 rfl)
              subst hf247
              replace hC := hC.recast (c := own 93 9 u240 r239.terms.length (ETerm.encs r239.terms)) (fun _ h_ => h_) (fun _ => ho246)
              refine done ?_
              refine ak_intro (by assumption) (listed' := (List.toArray [true, true, true, false, false])) rfl ?_
              refine ae_tail 3 (by decide) (by decide) (by kernel_rfl) rfl rfl ?_
              refine s_call [.agg #[u176], .agg #[u240]] _ Try.func43 rfl rfl rfl (c_laws_eqForm r175 r239 h _ (form_mk (own_repE (hC.getM 5 rfl))) (form_mk (own_repE (hC.getM 0 rfl)))) (fun ret249 w251 hR250 => ?_)
              obtain ⟨r252, rfl, h, hB253⟩ := hR250
              refine ⟨_, rfl, ?_⟩
              replace hC := hC.grow hB253
              refine s_not rfl ?_
              refine done ?_
              refine qn_norm ?_
              refine then_norm ?_
              refine cw_cond rfl (fun hb254 => ?_) (fun hb254 => ?_)
              · replace h := ift h (ne_t (not_t hb254))
                refine wp_seq ?_
                refine cw_region ?_
                refine s_as (v := .bool false) rfl ?_
                refine done ?_
                refine then_norm ?_
                refine wp_ret (then_ret ?_)
                refine ret1 (fn := Try.f10) rfl ?_ ⟨false, rfl, h, hC.below⟩ (.inl rfl)
                exact res_tmp rfl
              · replace h := iff_ h (not_not_intro ((not_f hb254)))
                refine wp_skip ?_
                refine then_norm ?_
                refine wp_seq ?_
                refine cw_region ?_
                refine s_as (v := .int .i64 1) rfl ?_
                refine done ?_
                refine then_norm ?_
                refine wp_seq ?_
                refine cw_region ?_
                refine s_mv (v := u163) rfl ?_
                refine s_mv (v := .int .i64 1) rfl ?_
                refine s_call [u163, .int .i64 1] _ Try.func27 rfl rfl rfl (c_laws_markInt64S r162 1 h _ (hC.getM 6 rfl)) (fun ret255 w257 hR256 => ?_)
                obtain ⟨r258, m260, rfl, h, hm261, hB259⟩ := hR256
                refine ⟨_, rfl, ?_⟩
                replace hC := hC.turnL hB259 (M' := [own 93 9 u240 r239.terms.length (ETerm.encs r239.terms), own 2 1 u218 r217.length ((EI .i64).encs r217), blk b203 51 [u193], own 93 9 u193 r192.terms.length (ETerm.encs r192.terms), blk b185 51 [u176], own 93 9 u176 r175.terms.length (ETerm.encs r175.terms), own 2 1 u163 m260.length ((EI .i64).encs m260), blk b61 51 [u51], own 93 9 u51 r50.terms.length (ETerm.encs r50.terms), blk b5 60 [u2_0]]) rfl (fun x_ hx_ => ⟨_, List.mem_of_getElem? (i := 6) rfl, hx_⟩) (by simp only [List.mem_cons, List.not_mem_nil, or_false, forall_eq_or_imp, forall_eq]; exact ⟨(hC.stay 0 rfl hB259 (fun x_ hq_ hx_ => hC.mm 0 6 rfl rfl (by decide) x_ hq_ hx_)), (hC.stay 1 rfl hB259 (fun x_ hq_ hx_ => hC.mm 1 6 rfl rfl (by decide) x_ hq_ hx_)), (hC.stay 2 rfl hB259 (fun x_ hq_ hx_ => hC.mm 2 6 rfl rfl (by decide) x_ hq_ hx_)), (hC.stay 3 rfl hB259 (fun x_ hq_ hx_ => hC.mm 3 6 rfl rfl (by decide) x_ hq_ hx_)), (hC.stay 4 rfl hB259 (fun x_ hq_ hx_ => hC.mm 4 6 rfl rfl (by decide) x_ hq_ hx_)), (hC.stay 5 rfl hB259 (fun x_ hq_ hx_ => hC.mm 5 6 rfl rfl (by decide) x_ hq_ hx_)), hm261, (hC.stay 7 rfl hB259 (fun x_ hq_ hx_ => hC.mm 7 6 rfl rfl (by decide) x_ hq_ hx_)), (hC.stay 8 rfl hB259 (fun x_ hq_ hx_ => hC.mm 8 6 rfl rfl (by decide) x_ hq_ hx_)), (hC.stay 9 rfl hB259 (fun x_ hq_ hx_ => hC.mm 9 6 rfl rfl (by decide) x_ hq_ hx_))⟩)
                refine s_as (v := .int .i64 r258) rfl ?_
                refine done ?_
                refine then_norm ?_
                refine wp_seq ?_
                refine cw_region ?_
                refine s_loadA hC 4 [u176] rfl ag51 rfl rfl rfl ?_
                refine s_mv (v := .int .i64 r258) rfl ?_
                refine s_call [.agg #[u176], .int .i64 r258] _ Try.func44 rfl rfl rfl (c_laws_markForm (⟨r175.terms⟩ : Vc.Form) r258 h _ (hC.getM 5 rfl)) (fun ret262 w264 hR263 => ?_)
                obtain ⟨r265, m267, rfl, h, hm268, hB266⟩ := hR263
                refine ⟨_, rfl, ?_⟩
                replace hC := hC.turnL hB266 (M' := [own 93 9 u240 r239.terms.length (ETerm.encs r239.terms), own 2 1 u218 r217.length ((EI .i64).encs r217), blk b203 51 [u193], own 93 9 u193 r192.terms.length (ETerm.encs r192.terms), blk b185 51 [u176], own 93 9 u176 m267.terms.length (ETerm.encs m267.terms), own 2 1 u163 m260.length ((EI .i64).encs m260), blk b61 51 [u51], own 93 9 u51 r50.terms.length (ETerm.encs r50.terms), blk b5 60 [u2_0]]) rfl (fun x_ hx_ => ⟨_, List.mem_of_getElem? (i := 5) rfl, hx_⟩) (by simp only [List.mem_cons, List.not_mem_nil, or_false, forall_eq_or_imp, forall_eq]; exact ⟨(hC.stay 0 rfl hB266 (fun x_ hq_ hx_ => hC.mm 0 5 rfl rfl (by decide) x_ hq_ hx_)), (hC.stay 1 rfl hB266 (fun x_ hq_ hx_ => hC.mm 1 5 rfl rfl (by decide) x_ hq_ hx_)), (hC.stay 2 rfl hB266 (fun x_ hq_ hx_ => hC.mm 2 5 rfl rfl (by decide) x_ hq_ hx_)), (hC.stay 3 rfl hB266 (fun x_ hq_ hx_ => hC.mm 3 5 rfl rfl (by decide) x_ hq_ hx_)), (hC.stay 4 rfl hB266 (fun x_ hq_ hx_ => hC.mm 4 5 rfl rfl (by decide) x_ hq_ hx_)), hm268, (hC.stay 6 rfl hB266 (fun x_ hq_ hx_ => hC.mm 6 5 rfl rfl (by decide) x_ hq_ hx_)), (hC.stay 7 rfl hB266 (fun x_ hq_ hx_ => hC.mm 7 5 rfl rfl (by decide) x_ hq_ hx_)), (hC.stay 8 rfl hB266 (fun x_ hq_ hx_ => hC.mm 8 5 rfl rfl (by decide) x_ hq_ hx_)), (hC.stay 9 rfl hB266 (fun x_ hq_ hx_ => hC.mm 9 5 rfl rfl (by decide) x_ hq_ hx_))⟩)
                refine s_as (v := .int .i64 r265) rfl ?_
                refine done ?_
                refine then_norm ?_
                refine wp_seq ?_
                refine wp_seq ?_
                refine cw_region ?_
                refine s_mv (v := .int .i64 r265) rfl ?_
                refine s_lss rfl rfl ?_
                refine s_mv (v := .bool (decide (r265 < 0))) rfl ?_
                refine bsplit (decide (r265 < 0)) (fun hb269 => ?_) (fun hb269 => ?_)
                · replace h := ift h (ct hb269)
                  refine guardOff (b := true) 2 74 rfl (tr rfl (congrArg _ hb269)) (by decide) ?_
                  refine guardOff (b := true) 2 74 rfl (tr rfl (congrArg _ hb269)) (by decide) ?_
                  refine guardOff (b := true) 2 74 rfl (tr rfl (congrArg _ hb269)) (by decide) ?_
                  refine guardOff (b := true) 2 74 rfl (tr rfl (congrArg _ hb269)) (by decide) ?_
                  refine s_pick (v := .bool true) (b := true) (tr rfl (congrArg _ hb269)) rfl ?_
                  refine s_mv (v := .bool true) rfl ?_
                  refine guardOff (b := true) 8 80 rfl (tr rfl (congrArg _ rfl)) (by decide) ?_
                  refine guardOff (b := true) 8 80 rfl (tr rfl (congrArg _ rfl)) (by decide) ?_
                  refine guardOff (b := true) 8 80 rfl (tr rfl (congrArg _ rfl)) (by decide) ?_
                  refine s_pick (v := .bool true) (b := true) rfl rfl ?_
                  refine done ?_
                  refine then_norm ?_
                  refine cw_true rfl rfl ?_
                  refine wp_seq ?_
                  refine cw_region ?_
                  refine s_as (v := .bool false) rfl ?_
                  refine done ?_
                  refine then_norm ?_
                  refine wp_ret (then_ret ?_)
                  refine ret1 (fn := Try.f10) rfl ?_ ⟨false, rfl, h, hC.below⟩ (.inl rfl)
                  exact res_tmp rfl
                · replace h := iff_ h (cf hb269)
                  refine guardOn 2 74 rfl rfl hb269 ?_
                  refine s_loadA hC 2 [u193] rfl ag51 rfl rfl rfl ?_
                  refine guardOn 2 74 rfl rfl hb269 ?_
                  refine s_loadA hC 7 [u51] rfl ag51 h8_ rfl rfl ?_
                  refine guardOn 2 74 rfl rfl hb269 ?_
                  refine s_call [.agg #[u193], .agg #[u51]] _ Try.func43 rfl rfl rfl (c_laws_eqForm (⟨r192.terms⟩ : Vc.Form) (⟨r50.terms⟩ : Vc.Form) h _ (form_mk (own_repE (hC.getM 3 rfl))) (form_mk (own_repE (hC.getM 8 rfl)))) (fun ret270 w272 hR271 => ?_)
                  obtain ⟨r273, rfl, h, hB274⟩ := hR271
                  refine ⟨_, rfl, ?_⟩
                  replace hC := hC.grow hB274
                  refine guardOn 2 74 rfl rfl hb269 ?_
                  refine s_not rfl ?_
                  refine s_pick (v := .bool (!r273)) (b := false) (tr rfl (congrArg _ hb269)) rfl ?_
                  refine s_mv (v := .bool (!r273)) rfl ?_
                  refine bsplit (!r273) (fun hb275 => ?_) (fun hb275 => ?_)
                  · replace h := ift h (ne_t (not_t hb275))
                    refine guardOff (b := true) 8 80 rfl (tr rfl (congrArg _ hb275)) (by decide) ?_
                    refine guardOff (b := true) 8 80 rfl (tr rfl (congrArg _ hb275)) (by decide) ?_
                    refine guardOff (b := true) 8 80 rfl (tr rfl (congrArg _ hb275)) (by decide) ?_
                    refine s_pick (v := .bool true) (b := true) (tr rfl (congrArg _ hb275)) rfl ?_
                    refine done ?_
                    refine then_norm ?_
                    refine cw_true rfl rfl ?_
                    refine wp_seq ?_
                    refine cw_region ?_
                    refine s_as (v := .bool false) rfl ?_
                    refine done ?_
                    refine then_norm ?_
                    refine wp_ret (then_ret ?_)
                    refine ret1 (fn := Try.f10) rfl ?_ ⟨false, rfl, h, hC.below⟩ (.inl rfl)
                    exact res_tmp rfl
                  · replace h := iff_ h (not_not_intro ((not_f hb275)))
                    refine guardOn 8 80 rfl rfl hb275 ?_
                    refine s_mv (v := .int .i64 r197) rfl ?_
                    refine guardOn 8 80 rfl rfl hb275 ?_
                    refine s_mv (v := .int .i64 r55) h9_ ?_
                    refine guardOn 8 80 rfl rfl hb275 ?_
                    refine s_neq rfl rfl ?_
                    refine s_pick (v := .bool (decide (r197 ≠ r55))) (b := false) (tr rfl (congrArg _ hb275)) rfl ?_
                    refine done ?_
                    refine then_norm ?_
                    refine cw_false rfl hb213 ?_
                    refine wp_skip ?_
                    refine then_norm ?_
                    refine wp_seq ?_
                    refine cw_region ?_
                    refine s_as (v := .int .i64 1) rfl ?_
                    refine done ?_
                    refine then_norm ?_
                    refine wp_seq ?_
                    refine cw_region ?_
                    refine s_loadA hC 2 [u193] rfl ag51 rfl rfl rfl ?_
                    refine s_mv (v := .int .i64 1) rfl ?_
                    refine s_call [.agg #[u193], .int .i64 1] _ Try.func44 rfl rfl rfl (c_laws_markForm (⟨r192.terms⟩ : Vc.Form) 1 h _ (hC.getM 3 rfl)) (fun ret276 w278 hR277 => ?_)
                    obtain ⟨r279, m281, rfl, h, hm282, hB280⟩ := hR277
                    refine ⟨_, rfl, ?_⟩
                    replace hC := hC.turnL hB280 (M' := [own 93 9 u240 r239.terms.length (ETerm.encs r239.terms), own 2 1 u218 r217.length ((EI .i64).encs r217), blk b203 51 [u193], own 93 9 u193 m281.terms.length (ETerm.encs m281.terms), blk b185 51 [u176], own 93 9 u176 m267.terms.length (ETerm.encs m267.terms), own 2 1 u163 m260.length ((EI .i64).encs m260), blk b61 51 [u51], own 93 9 u51 r50.terms.length (ETerm.encs r50.terms), blk b5 60 [u2_0]]) rfl (fun x_ hx_ => ⟨_, List.mem_of_getElem? (i := 3) rfl, hx_⟩) (by simp only [List.mem_cons, List.not_mem_nil, or_false, forall_eq_or_imp, forall_eq]; exact ⟨(hC.stay 0 rfl hB280 (fun x_ hq_ hx_ => hC.mm 0 3 rfl rfl (by decide) x_ hq_ hx_)), (hC.stay 1 rfl hB280 (fun x_ hq_ hx_ => hC.mm 1 3 rfl rfl (by decide) x_ hq_ hx_)), (hC.stay 2 rfl hB280 (fun x_ hq_ hx_ => hC.mm 2 3 rfl rfl (by decide) x_ hq_ hx_)), hm282, (hC.stay 4 rfl hB280 (fun x_ hq_ hx_ => hC.mm 4 3 rfl rfl (by decide) x_ hq_ hx_)), (hC.stay 5 rfl hB280 (fun x_ hq_ hx_ => hC.mm 5 3 rfl rfl (by decide) x_ hq_ hx_)), (hC.stay 6 rfl hB280 (fun x_ hq_ hx_ => hC.mm 6 3 rfl rfl (by decide) x_ hq_ hx_)), (hC.stay 7 rfl hB280 (fun x_ hq_ hx_ => hC.mm 7 3 rfl rfl (by decide) x_ hq_ hx_)), (hC.stay 8 rfl hB280 (fun x_ hq_ hx_ => hC.mm 8 3 rfl rfl (by decide) x_ hq_ hx_)), (hC.stay 9 rfl hB280 (fun x_ hq_ hx_ => hC.mm 9 3 rfl rfl (by decide) x_ hq_ hx_))⟩)
                    refine s_as (v := .int .i64 r279) rfl ?_
                    refine done ?_
                    refine then_norm ?_
                    refine wp_seq ?_
                    refine cw_region ?_
                    refine s_as (v := .int .i64 1) rfl ?_
                    refine done ?_
                    refine then_norm ?_
                    refine wp_seq ?_
                    refine cw_region ?_
                    refine s_loadA hC 2 [u193] rfl ag51 rfl rfl rfl ?_
                    refine s_mv (v := .int .i64 1) rfl ?_
                    refine s_call [.agg #[u193], .int .i64 1] _ Try.func45 rfl rfl rfl (c_laws_heldForm (⟨m281.terms⟩ : Vc.Form) 1 h _ (form_mk (own_repE (hC.getM 3 rfl)))) (fun ret283 w285 hR284 => ?_)
                    obtain ⟨r286, rfl, h, hB287⟩ := hR284
                    refine ⟨_, rfl, ?_⟩
                    replace hC := hC.grow hB287
                    refine s_as (v := .int .i64 r286) rfl ?_
                    refine done ?_
                    refine then_norm ?_
                    refine wp_seq ?_
                    refine wp_seq ?_
                    refine cw_region ?_
                    refine s_mv (v := .int .i64 r286) rfl ?_
                    refine s_lss rfl rfl ?_
                    refine done ?_
                    refine then_norm ?_
                    refine cw_cond rfl (fun hb288 => ?_) (fun hb288 => ?_)
                    · replace h := ift h (ct hb288)
                      refine wp_seq ?_
                      refine cw_region ?_
                      refine s_as (v := .bool false) rfl ?_
                      refine done ?_
                      refine then_norm ?_
                      refine wp_ret (then_ret ?_)
                      refine ret1 (fn := Try.f10) rfl ?_ ⟨false, rfl, h, hC.below⟩ (.inl rfl)
                      exact res_tmp rfl
                    · replace h := iff_ h (cf hb288)
                      refine wp_skip ?_
                      refine then_norm ?_
                      refine wp_seq ?_
                      refine wp_seq ?_
                      refine cw_region ?_
                      refine s_mv (v := .int .i64 r286) rfl ?_
                      refine s_mv (v := .int .i64 r279) rfl ?_
                      refine s_neq rfl rfl ?_
                      refine done ?_
                      refine then_norm ?_
                      refine cw_cond rfl (fun hb289 => ?_) (fun hb289 => ?_)
                      · replace h := ift h (ct hb289)
                        refine wp_seq ?_
                        refine cw_region ?_
                        refine s_as (v := .bool false) rfl ?_
                        refine done ?_
                        refine then_norm ?_
                        refine wp_ret (then_ret ?_)
                        refine ret1 (fn := Try.f10) rfl ?_ ⟨false, rfl, h, hC.below⟩ (.inl rfl)
                        exact res_tmp rfl
                      · replace h := iff_ h (cf hb289)
                        refine wp_skip ?_
                        refine then_norm ?_
                        refine wp_seq ?_
                        refine cw_draw 10 mixed [0, 1, 0, 0, 11, 31, 63, 127, 127, 0, 767, 2047] [3] [0, 2, 6, 7, 8] (by kernel_rfl) (by kernel_rfl) (by kernel_rfl) (fun hM291 hM292 w290 hB_ => ?_)
                        replace hC := hC.grow hB_
                        refine ae_lookF 0 (u0_0) rfl rfl (by kernel_rfl) (hM292 0 rfl) (fun w_ => .inl ⟨rfl, by exact r_mv (v := u0_0) h0_⟩) (listed' := (List.toArray [true, false, false, false, false, false, false, false, false, false, false, false])) rfl ?_
                        refine ae_lookF 2 (.int .i64 a1) rfl rfl (by kernel_rfl) (hM292 2 rfl) (fun w_ => .inl ⟨rfl, by exact r_mv (v := .int .i64 a1) h1_⟩) (listed' := (List.toArray [true, false, true, false, false, false, false, false, false, false, false, false])) rfl ?_
                        refine ae_look 3 (.agg #[u2_0]) rfl rfl (by kernel_rfl) (hM291 3 rfl) (fun w_ hB_ => .inl ⟨rfl, by exact r_loadA (hC.grow hB_) 9 [u2_0] rfl ag60 h5_ rfl rfl⟩) (listed' := (List.toArray [true, false, true, true, false, false, false, false, false, false, false, false])) rfl ?_
                        refine ae_join (fun e_ w_ => ∃ (b333 : Nat), ∃ (u323 : Value), ∃ (r322 : Vc.Form), ∃ (r327 : Int), e_ 6 = .bool false ∧ e_ 8 = .pointer (some ⟨b61, 0, none⟩) ∧ e_ 9 = .int .i64 r55 ∧ e_ 12 = .pointer (some ⟨b203, 0, none⟩) ∧ e_ 15 = .int .i64 r279 ∧ e_ 16 = .int .i64 r286 ∧ e_ 17 = .pointer (some ⟨b333, 0, none⟩) ∧ e_ 18 = .int .i64 r327 ∧ Ctx Nox w0 w_ [blk b333 51 [u323], own 93 9 u323 r322.terms.length (ETerm.encs r322.terms), blk b203 51 [u193], own 93 9 u193 m281.terms.length (ETerm.encs m281.terms), blk b61 51 [u51], own 93 9 u51 r50.terms.length (ETerm.encs r50.terms)] [Ty.item ETerm.ty.sl a2.terms [u2_0] fp2, Ty.item ((EI .i64).ty.sl) a0 [u0_0] fp0, Ty.item TForm a2 [u2_0] fp2] ∧ (f_laws_eqForm r322 (⟨r50.terms⟩ : Vc.Form) (fun r434 => (if ¬ (r434 = true) then K false else (if r327 ≠ r55 then K false else f_laws_heldForm (⟨m281.terms⟩ : Vc.Form) 1 (fun r441 => (if r441 < 0 then K false else (if r441 ≠ r279 then K false else K true)))))))) ?_ ?_
                        · clear hC h
                          rintro e_ w430 ⟨b333, u323, r322, r327, h6_, h8_, h9_, h12_, h15_, h16_, h17_, h18_, hC, h⟩
                          refine then_norm ?_
                          refine wp_seq ?_
                          refine wp_seq ?_
                          refine cw_region ?_
                          refine s_loadA hC 0 [u323] rfl ag51 h17_ rfl rfl ?_
                          refine s_loadA hC 4 [u51] rfl ag51 h8_ rfl rfl ?_
                          refine s_call [.agg #[u323], .agg #[u51]] _ Try.func43 rfl rfl rfl (c_laws_eqForm r322 (⟨r50.terms⟩ : Vc.Form) h _ (form_mk (own_repE (hC.getM 1 rfl))) (form_mk (own_repE (hC.getM 5 rfl)))) (fun ret431 w433 hR432 => ?_)
                          obtain ⟨r434, rfl, h, hB435⟩ := hR432
                          refine ⟨_, rfl, ?_⟩
                          replace hC := hC.grow hB435
                          refine s_not rfl ?_
                          refine s_mv (v := .bool (!r434)) rfl ?_
                          refine bsplit (!r434) (fun hb436 => ?_) (fun hb436 => ?_)
                          · replace h := ift h (ne_t (not_t hb436))
                            refine guardOff (b := true) 4 109 rfl (tr rfl (congrArg _ hb436)) (by decide) ?_
                            refine guardOff (b := true) 4 109 rfl (tr rfl (congrArg _ hb436)) (by decide) ?_
                            refine guardOff (b := true) 4 109 rfl (tr rfl (congrArg _ hb436)) (by decide) ?_
                            refine s_pick (v := .bool true) (b := true) (tr rfl (congrArg _ hb436)) rfl ?_
                            refine done ?_
                            refine then_norm ?_
                            refine cw_true rfl rfl ?_
                            refine wp_seq ?_
                            refine cw_region ?_
                            refine s_as (v := .bool false) rfl ?_
                            refine done ?_
                            refine then_norm ?_
                            refine wp_ret (then_ret ?_)
                            refine ret1 (fn := Try.f10) rfl ?_ ⟨false, rfl, h, hC.below⟩ (.inl rfl)
                            exact res_tmp rfl
                          · replace h := iff_ h (not_not_intro ((not_f hb436)))
                            refine guardOn 4 109 rfl rfl hb436 ?_
                            refine s_mv (v := .int .i64 r327) h18_ ?_
                            refine guardOn 4 109 rfl rfl hb436 ?_
                            refine s_mv (v := .int .i64 r55) h9_ ?_
                            refine guardOn 4 109 rfl rfl hb436 ?_
                            refine s_neq rfl rfl ?_
                            refine s_pick (v := .bool (decide (r327 ≠ r55))) (b := false) (tr rfl (congrArg _ hb436)) rfl ?_
                            refine done ?_
                            refine then_norm ?_
                            refine cw_cond rfl (fun hb437 => ?_) (fun hb437 => ?_)
                            · replace h := ift h (ct hb437)
                              refine wp_seq ?_
                              refine cw_region ?_
                              refine s_as (v := .bool false) rfl ?_
                              refine done ?_
                              refine then_norm ?_
                              refine wp_ret (then_ret ?_)
                              refine ret1 (fn := Try.f10) rfl ?_ ⟨false, rfl, h, hC.below⟩ (.inl rfl)
                              exact res_tmp rfl
                            · replace h := iff_ h (cf hb437)
                              refine wp_skip ?_
                              refine then_norm ?_
                              refine wp_seq ?_
                              refine cw_region ?_
                              refine s_as (v := .int .i64 1) rfl ?_
                              refine done ?_
                              refine then_norm ?_
                              refine wp_seq ?_
                              refine cw_region ?_
                              refine s_loadA hC 2 [u193] rfl ag51 h12_ rfl rfl ?_
                              refine s_mv (v := .int .i64 1) rfl ?_
                              refine s_call [.agg #[u193], .int .i64 1] _ Try.func45 rfl rfl rfl (c_laws_heldForm (⟨m281.terms⟩ : Vc.Form) 1 h _ (form_mk (own_repE (hC.getM 3 rfl)))) (fun ret438 w440 hR439 => ?_)
                              obtain ⟨r441, rfl, h, hB442⟩ := hR439
                              refine ⟨_, rfl, ?_⟩
                              replace hC := hC.grow hB442
                              refine s_as (v := .int .i64 r441) rfl ?_
                              refine done ?_
                              refine then_norm ?_
                              refine wp_seq ?_
                              refine wp_seq ?_
                              refine cw_region ?_
                              refine s_mv (v := .int .i64 r441) rfl ?_
                              refine s_lss rfl rfl ?_
                              refine done ?_
                              refine then_norm ?_
                              refine cw_cond rfl (fun hb443 => ?_) (fun hb443 => ?_)
                              · replace h := ift h (ct hb443)
                                refine wp_seq ?_
                                refine cw_region ?_
                                refine s_as (v := .bool false) rfl ?_
                                refine done ?_
                                refine then_norm ?_
                                refine wp_ret (then_ret ?_)
                                refine ret1 (fn := Try.f10) rfl ?_ ⟨false, rfl, h, hC.below⟩ (.inl rfl)
                                exact res_tmp rfl
                              · replace h := iff_ h (cf hb443)
                                refine wp_skip ?_
                                refine then_norm ?_
                                refine wp_seq ?_
                                refine wp_seq ?_
                                refine cw_region ?_
                                refine s_mv (v := .int .i64 r441) rfl ?_
                                refine s_mv (v := .int .i64 r279) h15_ ?_
                                refine s_neq rfl rfl ?_
                                refine done ?_
                                refine then_norm ?_
                                refine cw_cond rfl (fun hb444 => ?_) (fun hb444 => ?_)
                                · replace h := ift h (ct hb444)
                                  refine wp_seq ?_
                                  refine cw_region ?_
                                  refine s_as (v := .bool false) rfl ?_
                                  refine done ?_
                                  refine then_norm ?_
                                  refine wp_ret (then_ret ?_)
                                  refine ret1 (fn := Try.f10) rfl ?_ ⟨false, rfl, h, hC.below⟩ (.inl rfl)
                                  exact res_tmp rfl
                                · replace h := iff_ h (cf hb444)
                                  refine wp_skip ?_
                                  refine then_norm ?_
                                  refine wp_seq ?_
                                  refine cw_region ?_
                                  refine s_as (v := .bool true) rfl ?_
                                  refine done ?_
                                  refine then_norm ?_
                                  refine wp_ret ?_
                                  refine ret1 (fn := Try.f10) rfl ?_ ⟨true, rfl, h, hC.below⟩ (.inl rfl)
                                  exact res_tmp rfl
                        refine ae_two 1 9 rfl rfl (by kernel_rfl) ?_ ?_
                        · skip
                          refine s_call [u0_0] _ Try.func14 rfl rfl rfl (c_laws_toInt64S a0 h _ (hC.getP 1 rfl)) (fun ret445 w447 hR446 => ?_)
                          obtain ⟨r448, u449, f450, rfl, h, hr451, hf452, hB453⟩ := hR446
                          refine ⟨_, rfl, ?_⟩
                          replace hC := hC.push hB453 (Tr.item (Tr.sl 2 ((EI .i64).tr)) r448 [u449] f450) hr451 hf452
                          obtain ⟨ho455, hf456⟩ := flat_tr (hC.getM 0 rfl).1
                          subst hf456
                          replace hC := hC.recast (c := own 2 1 u449 r448.length ((EI .i64).encs r448)) (fun _ h_ => h_) (fun _ => ho455)
                          refine done ?_
                          refine ak_intro (by assumption) (listed' := (List.toArray [true, true, true, true, false, false, false, false, false, false, false, false])) rfl ?_
                          refine ae_two 4 9 rfl rfl (by kernel_rfl) ?_ ?_
                          · skip
                            refine s_call [.agg #[u2_0]] _ Try.func41 rfl rfl rfl (c_laws_toForm (⟨a2.terms⟩ : Vc.Form) h _ (form_mk (hC.getP 0 rfl))) (fun ret458 w460 hR459 => ?_)
                            obtain ⟨r461, u462, f463, rfl, h, hr464, hf465, hB466⟩ := hR459
                            refine ⟨_, rfl, ?_⟩
                            replace hC := hC.push hB466 (Tr.item (TrForm 93) r461 [u462] f463) hr464 hf465
                            obtain ⟨ho468, hf469⟩ := form_split (hC.getM 0 rfl)
                            subst hf469
                            replace hC := hC.recast (c := own 93 9 u462 r461.terms.length (ETerm.encs r461.terms)) (fun _ h_ => h_) (fun _ => ho468)
                            refine done ?_
                            refine ak_intro (by assumption) (listed' := (List.toArray [true, true, true, true, true, false, false, false, false, false, false, false])) rfl ?_
                            refine ae_two 5 9 rfl rfl (by kernel_rfl) ?_ ?_
                            · skip
                              refine s_call [u449, .int .i64 a1, .agg #[u462]] _ Try.func47 rfl rfl rfl (c_impl_ScaleForm r448 a1 r461 h _ (own_repE (hC.getM 1 rfl)) (form_mk (own_repE (hC.getM 0 rfl)))) (fun ret471 w473 hR472 => ?_)
                              obtain ⟨r474, u475, f476, r479, rfl, h, hr477, hf478, hB480⟩ := hR472
                              refine ⟨_, rfl, ?_⟩
                              replace hC := hC.push hB480 (Tr.item (TrForm 93) r474 [u475] f476) hr477 hf478
                              obtain ⟨ho482, hf483⟩ := form_split (hC.getM 0 rfl)
                              subst hf483
                              replace hC := hC.recast (c := own 93 9 u475 r474.terms.length (ETerm.encs r474.terms)) (fun _ h_ => h_) (fun _ => ho482)
                              refine done ?_
                              refine ak_intro (by assumption) (listed' := (List.toArray [true, true, true, true, true, true, false, false, false, false, false, false])) rfl ?_
                              refine ae_lookF 6 (.tuple #[.agg #[u475], .int .i64 r479]) rfl rfl (by kernel_rfl) (hM292 6 rfl) (fun w_ => .inl ⟨rfl, by exact r_mv (v := .tuple #[.agg #[u475], .int .i64 r479]) rfl⟩) (listed' := (List.toArray [true, true, true, true, true, true, true, false, false, false, false, false])) rfl ?_
                              refine ae_lookF 7 (.agg #[u475]) rfl rfl (by kernel_rfl) (hM292 7 rfl) (fun w_ => .inl ⟨rfl, by exact r_ext (v := .agg #[u475]) rfl rfl⟩) (listed' := (List.toArray [true, true, true, true, true, true, true, true, false, false, false, false])) rfl ?_
                              refine ae_lookF 8 (.int .i64 r479) rfl rfl (by kernel_rfl) (hM292 8 rfl) (fun w_ => .inl ⟨rfl, by exact r_ext (v := .int .i64 r479) rfl rfl⟩) (listed' := (List.toArray [true, true, true, true, true, true, true, true, true, false, false, false])) rfl ?_
                              refine ae_one 9 rfl (by kernel_rfl) ?_
                              refine s_alloc hC [.slice none 0 0] z51 rfl fun b485 w487 hB_ hC => ?_
                              refine done ?_
                              refine ak_intro (by assumption) (listed' := (List.toArray [true, true, true, true, true, true, true, true, true, true, false, false])) rfl ?_
                              refine ae_one 10 rfl (by kernel_rfl) ?_
                              refine s_store (v := .agg #[u475]) hC 0 [u475] [u475] rfl ag51.size rfl rfl rfl rfl (all_c (own_oneC (hC.getM 1 rfl)) rfl) (Nat.le_of_ble_eq_true rfl) rfl fun w488 hC => ?_
                              refine done ?_
                              refine ak_introN (by decide) (listed' := (List.toArray [true, true, true, true, true, true, true, true, true, true, true, false])) rfl ?_
                              refine ae_tail 11 (by decide) (by decide) (by kernel_rfl) rfl rfl ?_
                              refine s_as (v := .int .i64 r479) rfl ?_
                              refine done ?_
                              refine qn_norm ?_
                              replace hC := hC.sel [0, 1, 6, 7, 11, 12] [0, 1, 2] (M' := [blk b485 51 [u475], own 93 9 u475 r474.terms.length (ETerm.encs r474.terms), blk b203 51 [u193], own 93 9 u193 m281.terms.length (ETerm.encs m281.terms), blk b61 51 [u51], own 93 9 u51 r50.terms.length (ETerm.encs r50.terms)]) (Ps' := [Ty.item ETerm.ty.sl a2.terms [u2_0] fp2, Ty.item ((EI .i64).ty.sl) a0 [u0_0] fp0, Ty.item TForm a2 [u2_0] fp2]) (by decide) rfl rfl
                              exact ⟨rfl, _, rfl, ⟨b485, u475, r474, r479, h6_, h8_, h9_, rfl, rfl, rfl, rfl, rfl, hC, h⟩⟩
                            · skip
                              refine s_alloc hC [.slice none 0 0] z51 rfl fun b489 w491 hB_ hC => ?_
                              refine done ?_
                              refine ak_intro (by assumption) (listed' := (List.toArray [true, true, true, true, true, false, false, false, false, true, false, false])) rfl ?_
                              refine ae_one 5 rfl (by kernel_rfl) ?_
                              refine s_call [u449, .int .i64 a1, .agg #[u462]] _ Try.func47 rfl rfl rfl (c_impl_ScaleForm r448 a1 r461 h _ (own_repE (hC.getM 2 rfl)) (form_mk (own_repE (hC.getM 1 rfl)))) (fun ret492 w494 hR493 => ?_)
                              obtain ⟨r495, u496, f497, r500, rfl, h, hr498, hf499, hB501⟩ := hR493
                              refine ⟨_, rfl, ?_⟩
                              replace hC := hC.push hB501 (Tr.item (TrForm 93) r495 [u496] f497) hr498 hf499
                              obtain ⟨ho503, hf504⟩ := form_split (hC.getM 0 rfl)
                              subst hf504
                              replace hC := hC.recast (c := own 93 9 u496 r495.terms.length (ETerm.encs r495.terms)) (fun _ h_ => h_) (fun _ => ho503)
                              refine done ?_
                              refine ak_intro (by assumption) (listed' := (List.toArray [true, true, true, true, true, true, false, false, false, true, false, false])) rfl ?_
                              refine ae_lookF 6 (.tuple #[.agg #[u496], .int .i64 r500]) rfl rfl (by kernel_rfl) (hM292 6 rfl) (fun w_ => .inl ⟨rfl, by exact r_mv (v := .tuple #[.agg #[u496], .int .i64 r500]) rfl⟩) (listed' := (List.toArray [true, true, true, true, true, true, true, false, false, true, false, false])) rfl ?_
                              refine ae_lookF 7 (.agg #[u496]) rfl rfl (by kernel_rfl) (hM292 7 rfl) (fun w_ => .inl ⟨rfl, by exact r_ext (v := .agg #[u496]) rfl rfl⟩) (listed' := (List.toArray [true, true, true, true, true, true, true, true, false, true, false, false])) rfl ?_
                              refine ae_lookF 8 (.int .i64 r500) rfl rfl (by kernel_rfl) (hM292 8 rfl) (fun w_ => .inl ⟨rfl, by exact r_ext (v := .int .i64 r500) rfl rfl⟩) (listed' := (List.toArray [true, true, true, true, true, true, true, true, true, true, false, false])) rfl ?_
                              refine ae_one 10 rfl (by kernel_rfl) ?_
                              refine s_store (v := .agg #[u496]) hC 1 [u496] [u496] rfl ag51.size rfl rfl rfl rfl (all_c (own_oneC (hC.getM 0 rfl)) rfl) (Nat.le_of_ble_eq_true rfl) rfl fun w506 hC => ?_
                              refine done ?_
                              refine ak_introN (by decide) (listed' := (List.toArray [true, true, true, true, true, true, true, true, true, true, true, false])) rfl ?_
                              refine ae_tail 11 (by decide) (by decide) (by kernel_rfl) rfl rfl ?_
                              refine s_as (v := .int .i64 r500) rfl ?_
                              refine done ?_
                              refine qn_norm ?_
                              replace hC := hC.sel [1, 0, 6, 7, 11, 12] [0, 1, 2] (M' := [blk b489 51 [u496], own 93 9 u496 r495.terms.length (ETerm.encs r495.terms), blk b203 51 [u193], own 93 9 u193 m281.terms.length (ETerm.encs m281.terms), blk b61 51 [u51], own 93 9 u51 r50.terms.length (ETerm.encs r50.terms)]) (Ps' := [Ty.item ETerm.ty.sl a2.terms [u2_0] fp2, Ty.item ((EI .i64).ty.sl) a0 [u0_0] fp0, Ty.item TForm a2 [u2_0] fp2]) (by decide) rfl rfl
                              exact ⟨rfl, _, rfl, ⟨b489, u496, r495, r500, h6_, h8_, h9_, rfl, rfl, rfl, rfl, rfl, hC, h⟩⟩
                          · skip
                            refine s_alloc hC [.slice none 0 0] z51 rfl fun b507 w509 hB_ hC => ?_
                            refine done ?_
                            refine ak_intro (by assumption) (listed' := (List.toArray [true, true, true, true, false, false, false, false, false, true, false, false])) rfl ?_
                            refine ae_one 4 rfl (by kernel_rfl) ?_
                            refine s_call [.agg #[u2_0]] _ Try.func41 rfl rfl rfl (c_laws_toForm (⟨a2.terms⟩ : Vc.Form) h _ (form_mk (hC.getP 0 rfl))) (fun ret510 w512 hR511 => ?_)
                            obtain ⟨r513, u514, f515, rfl, h, hr516, hf517, hB518⟩ := hR511
                            refine ⟨_, rfl, ?_⟩
                            replace hC := hC.push hB518 (Tr.item (TrForm 93) r513 [u514] f515) hr516 hf517
                            obtain ⟨ho520, hf521⟩ := form_split (hC.getM 0 rfl)
                            subst hf521
                            replace hC := hC.recast (c := own 93 9 u514 r513.terms.length (ETerm.encs r513.terms)) (fun _ h_ => h_) (fun _ => ho520)
                            refine done ?_
                            refine ak_intro (by assumption) (listed' := (List.toArray [true, true, true, true, true, false, false, false, false, true, false, false])) rfl ?_
                            refine ae_one 5 rfl (by kernel_rfl) ?_
                            refine s_call [u449, .int .i64 a1, .agg #[u514]] _ Try.func47 rfl rfl rfl (c_impl_ScaleForm r448 a1 r513 h _ (own_repE (hC.getM 2 rfl)) (form_mk (own_repE (hC.getM 0 rfl)))) (fun ret523 w525 hR524 => ?_)
                            obtain ⟨r526, u527, f528, r531, rfl, h, hr529, hf530, hB532⟩ := hR524
                            refine ⟨_, rfl, ?_⟩
                            replace hC := hC.push hB532 (Tr.item (TrForm 93) r526 [u527] f528) hr529 hf530
                            obtain ⟨ho534, hf535⟩ := form_split (hC.getM 0 rfl)
                            subst hf535
                            replace hC := hC.recast (c := own 93 9 u527 r526.terms.length (ETerm.encs r526.terms)) (fun _ h_ => h_) (fun _ => ho534)
                            refine done ?_
                            refine ak_intro (by assumption) (listed' := (List.toArray [true, true, true, true, true, true, false, false, false, true, false, false])) rfl ?_
                            refine ae_lookF 6 (.tuple #[.agg #[u527], .int .i64 r531]) rfl rfl (by kernel_rfl) (hM292 6 rfl) (fun w_ => .inl ⟨rfl, by exact r_mv (v := .tuple #[.agg #[u527], .int .i64 r531]) rfl⟩) (listed' := (List.toArray [true, true, true, true, true, true, true, false, false, true, false, false])) rfl ?_
                            refine ae_lookF 7 (.agg #[u527]) rfl rfl (by kernel_rfl) (hM292 7 rfl) (fun w_ => .inl ⟨rfl, by exact r_ext (v := .agg #[u527]) rfl rfl⟩) (listed' := (List.toArray [true, true, true, true, true, true, true, true, false, true, false, false])) rfl ?_
                            refine ae_lookF 8 (.int .i64 r531) rfl rfl (by kernel_rfl) (hM292 8 rfl) (fun w_ => .inl ⟨rfl, by exact r_ext (v := .int .i64 r531) rfl rfl⟩) (listed' := (List.toArray [true, true, true, true, true, true, true, true, true, true, false, false])) rfl ?_
                            refine ae_one 10 rfl (by kernel_rfl) ?_
                            refine s_store (v := .agg #[u527]) hC 2 [u527] [u527] rfl ag51.size rfl rfl rfl rfl (all_c (own_oneC (hC.getM 0 rfl)) rfl) (Nat.le_of_ble_eq_true rfl) rfl fun w537 hC => ?_
                            refine done ?_
                            refine ak_introN (by decide) (listed' := (List.toArray [true, true, true, true, true, true, true, true, true, true, true, false])) rfl ?_
                            refine ae_tail 11 (by decide) (by decide) (by kernel_rfl) rfl rfl ?_
                            refine s_as (v := .int .i64 r531) rfl ?_
                            refine done ?_
                            refine qn_norm ?_
                            replace hC := hC.sel [2, 0, 6, 7, 11, 12] [0, 1, 2] (M' := [blk b507 51 [u527], own 93 9 u527 r526.terms.length (ETerm.encs r526.terms), blk b203 51 [u193], own 93 9 u193 m281.terms.length (ETerm.encs m281.terms), blk b61 51 [u51], own 93 9 u51 r50.terms.length (ETerm.encs r50.terms)]) (Ps' := [Ty.item ETerm.ty.sl a2.terms [u2_0] fp2, Ty.item ((EI .i64).ty.sl) a0 [u0_0] fp0, Ty.item TForm a2 [u2_0] fp2]) (by decide) rfl rfl
                            exact ⟨rfl, _, rfl, ⟨b507, u527, r526, r531, h6_, h8_, h9_, rfl, rfl, rfl, rfl, rfl, hC, h⟩⟩
                        · skip
                          refine s_alloc hC [.slice none 0 0] z51 rfl fun b538 w540 hB_ hC => ?_
                          refine done ?_
                          refine ak_intro (by assumption) (listed' := (List.toArray [true, false, true, true, false, false, false, false, false, true, false, false])) rfl ?_
                          refine ae_one 1 rfl (by kernel_rfl) ?_
                          refine s_call [u0_0] _ Try.func14 rfl rfl rfl (c_laws_toInt64S a0 h _ (hC.getP 1 rfl)) (fun ret541 w543 hR542 => ?_)
                          obtain ⟨r544, u545, f546, rfl, h, hr547, hf548, hB549⟩ := hR542
                          refine ⟨_, rfl, ?_⟩
                          replace hC := hC.push hB549 (Tr.item (Tr.sl 2 ((EI .i64).tr)) r544 [u545] f546) hr547 hf548
                          obtain ⟨ho551, hf552⟩ := flat_tr (hC.getM 0 rfl).1
                          subst hf552
                          replace hC := hC.recast (c := own 2 1 u545 r544.length ((EI .i64).encs r544)) (fun _ h_ => h_) (fun _ => ho551)
                          refine done ?_
                          refine ak_intro (by assumption) (listed' := (List.toArray [true, true, true, true, false, false, false, false, false, true, false, false])) rfl ?_
                          refine ae_one 4 rfl (by kernel_rfl) ?_
                          refine s_call [.agg #[u2_0]] _ Try.func41 rfl rfl rfl (c_laws_toForm (⟨a2.terms⟩ : Vc.Form) h _ (form_mk (hC.getP 0 rfl))) (fun ret554 w556 hR555 => ?_)
                          obtain ⟨r557, u558, f559, rfl, h, hr560, hf561, hB562⟩ := hR555
                          refine ⟨_, rfl, ?_⟩
                          replace hC := hC.push hB562 (Tr.item (TrForm 93) r557 [u558] f559) hr560 hf561
                          obtain ⟨ho564, hf565⟩ := form_split (hC.getM 0 rfl)
                          subst hf565
                          replace hC := hC.recast (c := own 93 9 u558 r557.terms.length (ETerm.encs r557.terms)) (fun _ h_ => h_) (fun _ => ho564)
                          refine done ?_
                          refine ak_intro (by assumption) (listed' := (List.toArray [true, true, true, true, true, false, false, false, false, true, false, false])) rfl ?_
                          refine ae_one 5 rfl (by kernel_rfl) ?_
                          refine s_call [u545, .int .i64 a1, .agg #[u558]] _ Try.func47 rfl rfl rfl (c_impl_ScaleForm r544 a1 r557 h _ (own_repE (hC.getM 1 rfl)) (form_mk (own_repE (hC.getM 0 rfl)))) (fun ret567 w569 hR568 => ?_)
                          obtain ⟨r570, u571, f572, r575, rfl, h, hr573, hf574, hB576⟩ := hR568
                          refine ⟨_, rfl, ?_⟩
                          replace hC := hC.push hB576 (Tr.item (TrForm 93) r570 [u571] f572) hr573 hf574
                          obtain ⟨ho578, hf579⟩ := form_split (hC.getM 0 rfl)
                          subst hf579
                          replace hC := hC.recast (c := own 93 9 u571 r570.terms.length (ETerm.encs r570.terms)) (fun _ h_ => h_) (fun _ => ho578)
                          refine done ?_
                          refine ak_intro (by assumption) (listed' := (List.toArray [true, true, true, true, true, true, false, false, false, true, false, false])) rfl ?_
                          refine ae_lookF 6 (.tuple #[.agg #[u571], .int .i64 r575]) rfl rfl (by kernel_rfl) (hM292 6 rfl) (fun w_ => .inl ⟨rfl, by exact r_mv (v := .tuple #[.agg #[u571], .int .i64 r575]) rfl⟩) (listed' := (List.toArray [true, true, true, true, true, true, true, false, false, true, false, false])) rfl ?_
                          refine ae_lookF 7 (.agg #[u571]) rfl rfl (by kernel_rfl) (hM292 7 rfl) (fun w_ => .inl ⟨rfl, by exact r_ext (v := .agg #[u571]) rfl rfl⟩) (listed' := (List.toArray [true, true, true, true, true, true, true, true, false, true, false, false])) rfl ?_
                          refine ae_lookF 8 (.int .i64 r575) rfl rfl (by kernel_rfl) (hM292 8 rfl) (fun w_ => .inl ⟨rfl, by exact r_ext (v := .int .i64 r575) rfl rfl⟩) (listed' := (List.toArray [true, true, true, true, true, true, true, true, true, true, false, false])) rfl ?_
                          refine ae_one 10 rfl (by kernel_rfl) ?_
                          refine s_store (v := .agg #[u571]) hC 3 [u571] [u571] rfl ag51.size rfl rfl rfl rfl (all_c (own_oneC (hC.getM 0 rfl)) rfl) (Nat.le_of_ble_eq_true rfl) rfl fun w581 hC => ?_
                          refine done ?_
                          refine ak_introN (by decide) (listed' := (List.toArray [true, true, true, true, true, true, true, true, true, true, true, false])) rfl ?_
                          refine ae_tail 11 (by decide) (by decide) (by kernel_rfl) rfl rfl ?_
                          refine s_as (v := .int .i64 r575) rfl ?_
                          refine done ?_
                          refine qn_norm ?_
                          replace hC := hC.sel [3, 0, 6, 7, 11, 12] [0, 1, 2] (M' := [blk b538 51 [u571], own 93 9 u571 r570.terms.length (ETerm.encs r570.terms), blk b203 51 [u193], own 93 9 u193 m281.terms.length (ETerm.encs m281.terms), blk b61 51 [u51], own 93 9 u51 r50.terms.length (ETerm.encs r50.terms)]) (Ps' := [Ty.item ETerm.ty.sl a2.terms [u2_0] fp2, Ty.item ((EI .i64).ty.sl) a0 [u0_0] fp0, Ty.item TForm a2 [u2_0] fp2]) (by decide) rfl rfl
                          exact ⟨rfl, _, rfl, ⟨b538, u571, r570, r575, h6_, h8_, h9_, rfl, rfl, rfl, rfl, rfl, hC, h⟩⟩
      refine ae_two 1 9 rfl rfl (by kernel_rfl) ?_ ?_
      · skip
        refine s_call [u0_0] _ Try.func14 rfl rfl rfl (c_laws_toInt64S a0 h _ (hC.getP 1 rfl)) (fun ret582 w584 hR583 => ?_)
        obtain ⟨r585, u586, f587, rfl, h, hr588, hf589, hB590⟩ := hR583
        refine ⟨_, rfl, ?_⟩
        replace hC := hC.push hB590 (Tr.item (Tr.sl 2 ((EI .i64).tr)) r585 [u586] f587) hr588 hf589
        obtain ⟨ho592, hf593⟩ := flat_tr (hC.getM 0 rfl).1
        subst hf593
        replace hC := hC.recast (c := own 2 1 u586 r585.length ((EI .i64).encs r585)) (fun _ h_ => h_) (fun _ => ho592)
        refine done ?_
        refine ak_intro (by assumption) (listed' := (List.toArray [true, true, true, true, false, false, false, false, false, false, false, false])) rfl ?_
        refine ae_two 4 9 rfl rfl (by kernel_rfl) ?_ ?_
        · skip
          refine s_call [.agg #[u2_0]] _ Try.func41 rfl rfl rfl (c_laws_toForm a2 h _ (form_mk (hC.getP 0 rfl))) (fun ret595 w597 hR596 => ?_)
          obtain ⟨r598, u599, f600, rfl, h, hr601, hf602, hB603⟩ := hR596
          refine ⟨_, rfl, ?_⟩
          replace hC := hC.push hB603 (Tr.item (TrForm 93) r598 [u599] f600) hr601 hf602
          obtain ⟨ho605, hf606⟩ := form_split (hC.getM 0 rfl)
          subst hf606
          replace hC := hC.recast (c := own 93 9 u599 r598.terms.length (ETerm.encs r598.terms)) (fun _ h_ => h_) (fun _ => ho605)
          refine done ?_
          refine ak_intro (by assumption) (listed' := (List.toArray [true, true, true, true, true, false, false, false, false, false, false, false])) rfl ?_
          refine ae_two 5 9 rfl rfl (by kernel_rfl) ?_ ?_
          · skip
            refine s_call [u586, .int .i64 a1, .agg #[u599]] _ Try.func46 rfl rfl rfl (c_spec_ScaleForm r585 a1 r598 h _ (own_repE (hC.getM 1 rfl)) (form_mk (own_repE (hC.getM 0 rfl)))) (fun ret608 w610 hR609 => ?_)
            obtain ⟨r611, u612, f613, r616, rfl, h, hr614, hf615, hB617⟩ := hR609
            refine ⟨_, rfl, ?_⟩
            replace hC := hC.push hB617 (Tr.item (TrForm 93) r611 [u612] f613) hr614 hf615
            obtain ⟨ho619, hf620⟩ := form_split (hC.getM 0 rfl)
            subst hf620
            replace hC := hC.recast (c := own 93 9 u612 r611.terms.length (ETerm.encs r611.terms)) (fun _ h_ => h_) (fun _ => ho619)
            refine done ?_
            refine ak_intro (by assumption) (listed' := (List.toArray [true, true, true, true, true, true, false, false, false, false, false, false])) rfl ?_
            refine ae_lookF 6 (.tuple #[.agg #[u612], .int .i64 r616]) rfl rfl (by kernel_rfl) (hM20 6 rfl) (fun w_ => .inl ⟨rfl, by exact r_mv (v := .tuple #[.agg #[u612], .int .i64 r616]) rfl⟩) (listed' := (List.toArray [true, true, true, true, true, true, true, false, false, false, false, false])) rfl ?_
            refine ae_lookF 7 (.agg #[u612]) rfl rfl (by kernel_rfl) (hM20 7 rfl) (fun w_ => .inl ⟨rfl, by exact r_ext (v := .agg #[u612]) rfl rfl⟩) (listed' := (List.toArray [true, true, true, true, true, true, true, true, false, false, false, false])) rfl ?_
            refine ae_lookF 8 (.int .i64 r616) rfl rfl (by kernel_rfl) (hM20 8 rfl) (fun w_ => .inl ⟨rfl, by exact r_ext (v := .int .i64 r616) rfl rfl⟩) (listed' := (List.toArray [true, true, true, true, true, true, true, true, true, false, false, false])) rfl ?_
            refine ae_one 9 rfl (by kernel_rfl) ?_
            refine s_alloc hC [.slice none 0 0] z51 rfl fun b622 w624 hB_ hC => ?_
            refine done ?_
            refine ak_intro (by assumption) (listed' := (List.toArray [true, true, true, true, true, true, true, true, true, true, false, false])) rfl ?_
            refine ae_one 10 rfl (by kernel_rfl) ?_
            refine s_store (v := .agg #[u612]) hC 0 [u612] [u612] rfl ag51.size rfl rfl rfl rfl (all_c (own_oneC (hC.getM 1 rfl)) rfl) (Nat.le_of_ble_eq_true rfl) rfl fun w625 hC => ?_
            refine done ?_
            refine ak_introN (by decide) (listed' := (List.toArray [true, true, true, true, true, true, true, true, true, true, true, false])) rfl ?_
            refine ae_tail 11 (by decide) (by decide) (by kernel_rfl) rfl rfl ?_
            refine s_as (v := .int .i64 r616) rfl ?_
            refine done ?_
            refine qn_norm ?_
            replace hC := hC.sel [0, 1, 4] [0, 1, 2] (M' := [blk b622 51 [u612], own 93 9 u612 r611.terms.length (ETerm.encs r611.terms), blk b5 60 [u2_0]]) (Ps' := [Ty.item ETerm.ty.sl a2.terms [u2_0] fp2, Ty.item ((EI .i64).ty.sl) a0 [u0_0] fp0, Ty.item TForm a2 [u2_0] fp2]) (by decide) rfl rfl
            exact ⟨rfl, _, rfl, ⟨b622, u612, r611, r616, rfl, rfl, rfl, rfl, rfl, rfl, hC, h⟩⟩
          · skip
            refine s_alloc hC [.slice none 0 0] z51 rfl fun b626 w628 hB_ hC => ?_
            refine done ?_
            refine ak_intro (by assumption) (listed' := (List.toArray [true, true, true, true, true, false, false, false, false, true, false, false])) rfl ?_
            refine ae_one 5 rfl (by kernel_rfl) ?_
            refine s_call [u586, .int .i64 a1, .agg #[u599]] _ Try.func46 rfl rfl rfl (c_spec_ScaleForm r585 a1 r598 h _ (own_repE (hC.getM 2 rfl)) (form_mk (own_repE (hC.getM 1 rfl)))) (fun ret629 w631 hR630 => ?_)
            obtain ⟨r632, u633, f634, r637, rfl, h, hr635, hf636, hB638⟩ := hR630
            refine ⟨_, rfl, ?_⟩
            replace hC := hC.push hB638 (Tr.item (TrForm 93) r632 [u633] f634) hr635 hf636
            obtain ⟨ho640, hf641⟩ := form_split (hC.getM 0 rfl)
            subst hf641
            replace hC := hC.recast (c := own 93 9 u633 r632.terms.length (ETerm.encs r632.terms)) (fun _ h_ => h_) (fun _ => ho640)
            refine done ?_
            refine ak_intro (by assumption) (listed' := (List.toArray [true, true, true, true, true, true, false, false, false, true, false, false])) rfl ?_
            refine ae_lookF 6 (.tuple #[.agg #[u633], .int .i64 r637]) rfl rfl (by kernel_rfl) (hM20 6 rfl) (fun w_ => .inl ⟨rfl, by exact r_mv (v := .tuple #[.agg #[u633], .int .i64 r637]) rfl⟩) (listed' := (List.toArray [true, true, true, true, true, true, true, false, false, true, false, false])) rfl ?_
            refine ae_lookF 7 (.agg #[u633]) rfl rfl (by kernel_rfl) (hM20 7 rfl) (fun w_ => .inl ⟨rfl, by exact r_ext (v := .agg #[u633]) rfl rfl⟩) (listed' := (List.toArray [true, true, true, true, true, true, true, true, false, true, false, false])) rfl ?_
            refine ae_lookF 8 (.int .i64 r637) rfl rfl (by kernel_rfl) (hM20 8 rfl) (fun w_ => .inl ⟨rfl, by exact r_ext (v := .int .i64 r637) rfl rfl⟩) (listed' := (List.toArray [true, true, true, true, true, true, true, true, true, true, false, false])) rfl ?_
            refine ae_one 10 rfl (by kernel_rfl) ?_
            refine s_store (v := .agg #[u633]) hC 1 [u633] [u633] rfl ag51.size rfl rfl rfl rfl (all_c (own_oneC (hC.getM 0 rfl)) rfl) (Nat.le_of_ble_eq_true rfl) rfl fun w643 hC => ?_
            refine done ?_
            refine ak_introN (by decide) (listed' := (List.toArray [true, true, true, true, true, true, true, true, true, true, true, false])) rfl ?_
            refine ae_tail 11 (by decide) (by decide) (by kernel_rfl) rfl rfl ?_
            refine s_as (v := .int .i64 r637) rfl ?_
            refine done ?_
            refine qn_norm ?_
            replace hC := hC.sel [1, 0, 4] [0, 1, 2] (M' := [blk b626 51 [u633], own 93 9 u633 r632.terms.length (ETerm.encs r632.terms), blk b5 60 [u2_0]]) (Ps' := [Ty.item ETerm.ty.sl a2.terms [u2_0] fp2, Ty.item ((EI .i64).ty.sl) a0 [u0_0] fp0, Ty.item TForm a2 [u2_0] fp2]) (by decide) rfl rfl
            exact ⟨rfl, _, rfl, ⟨b626, u633, r632, r637, rfl, rfl, rfl, rfl, rfl, rfl, hC, h⟩⟩
        · skip
          refine s_alloc hC [.slice none 0 0] z51 rfl fun b644 w646 hB_ hC => ?_
          refine done ?_
          refine ak_intro (by assumption) (listed' := (List.toArray [true, true, true, true, false, false, false, false, false, true, false, false])) rfl ?_
          refine ae_one 4 rfl (by kernel_rfl) ?_
          refine s_call [.agg #[u2_0]] _ Try.func41 rfl rfl rfl (c_laws_toForm a2 h _ (form_mk (hC.getP 0 rfl))) (fun ret647 w649 hR648 => ?_)
          obtain ⟨r650, u651, f652, rfl, h, hr653, hf654, hB655⟩ := hR648
          refine ⟨_, rfl, ?_⟩
          replace hC := hC.push hB655 (Tr.item (TrForm 93) r650 [u651] f652) hr653 hf654
          obtain ⟨ho657, hf658⟩ := form_split (hC.getM 0 rfl)
          subst hf658
          replace hC := hC.recast (c := own 93 9 u651 r650.terms.length (ETerm.encs r650.terms)) (fun _ h_ => h_) (fun _ => ho657)
          refine done ?_
          refine ak_intro (by assumption) (listed' := (List.toArray [true, true, true, true, true, false, false, false, false, true, false, false])) rfl ?_
          refine ae_one 5 rfl (by kernel_rfl) ?_
          refine s_call [u586, .int .i64 a1, .agg #[u651]] _ Try.func46 rfl rfl rfl (c_spec_ScaleForm r585 a1 r650 h _ (own_repE (hC.getM 2 rfl)) (form_mk (own_repE (hC.getM 0 rfl)))) (fun ret660 w662 hR661 => ?_)
          obtain ⟨r663, u664, f665, r668, rfl, h, hr666, hf667, hB669⟩ := hR661
          refine ⟨_, rfl, ?_⟩
          replace hC := hC.push hB669 (Tr.item (TrForm 93) r663 [u664] f665) hr666 hf667
          obtain ⟨ho671, hf672⟩ := form_split (hC.getM 0 rfl)
          subst hf672
          replace hC := hC.recast (c := own 93 9 u664 r663.terms.length (ETerm.encs r663.terms)) (fun _ h_ => h_) (fun _ => ho671)
          refine done ?_
          refine ak_intro (by assumption) (listed' := (List.toArray [true, true, true, true, true, true, false, false, false, true, false, false])) rfl ?_
          refine ae_lookF 6 (.tuple #[.agg #[u664], .int .i64 r668]) rfl rfl (by kernel_rfl) (hM20 6 rfl) (fun w_ => .inl ⟨rfl, by exact r_mv (v := .tuple #[.agg #[u664], .int .i64 r668]) rfl⟩) (listed' := (List.toArray [true, true, true, true, true, true, true, false, false, true, false, false])) rfl ?_
          refine ae_lookF 7 (.agg #[u664]) rfl rfl (by kernel_rfl) (hM20 7 rfl) (fun w_ => .inl ⟨rfl, by exact r_ext (v := .agg #[u664]) rfl rfl⟩) (listed' := (List.toArray [true, true, true, true, true, true, true, true, false, true, false, false])) rfl ?_
          refine ae_lookF 8 (.int .i64 r668) rfl rfl (by kernel_rfl) (hM20 8 rfl) (fun w_ => .inl ⟨rfl, by exact r_ext (v := .int .i64 r668) rfl rfl⟩) (listed' := (List.toArray [true, true, true, true, true, true, true, true, true, true, false, false])) rfl ?_
          refine ae_one 10 rfl (by kernel_rfl) ?_
          refine s_store (v := .agg #[u664]) hC 2 [u664] [u664] rfl ag51.size rfl rfl rfl rfl (all_c (own_oneC (hC.getM 0 rfl)) rfl) (Nat.le_of_ble_eq_true rfl) rfl fun w674 hC => ?_
          refine done ?_
          refine ak_introN (by decide) (listed' := (List.toArray [true, true, true, true, true, true, true, true, true, true, true, false])) rfl ?_
          refine ae_tail 11 (by decide) (by decide) (by kernel_rfl) rfl rfl ?_
          refine s_as (v := .int .i64 r668) rfl ?_
          refine done ?_
          refine qn_norm ?_
          replace hC := hC.sel [2, 0, 4] [0, 1, 2] (M' := [blk b644 51 [u664], own 93 9 u664 r663.terms.length (ETerm.encs r663.terms), blk b5 60 [u2_0]]) (Ps' := [Ty.item ETerm.ty.sl a2.terms [u2_0] fp2, Ty.item ((EI .i64).ty.sl) a0 [u0_0] fp0, Ty.item TForm a2 [u2_0] fp2]) (by decide) rfl rfl
          exact ⟨rfl, _, rfl, ⟨b644, u664, r663, r668, rfl, rfl, rfl, rfl, rfl, rfl, hC, h⟩⟩
      · skip
        refine s_alloc hC [.slice none 0 0] z51 rfl fun b675 w677 hB_ hC => ?_
        refine done ?_
        refine ak_intro (by assumption) (listed' := (List.toArray [true, false, true, true, false, false, false, false, false, true, false, false])) rfl ?_
        refine ae_one 1 rfl (by kernel_rfl) ?_
        refine s_call [u0_0] _ Try.func14 rfl rfl rfl (c_laws_toInt64S a0 h _ (hC.getP 1 rfl)) (fun ret678 w680 hR679 => ?_)
        obtain ⟨r681, u682, f683, rfl, h, hr684, hf685, hB686⟩ := hR679
        refine ⟨_, rfl, ?_⟩
        replace hC := hC.push hB686 (Tr.item (Tr.sl 2 ((EI .i64).tr)) r681 [u682] f683) hr684 hf685
        obtain ⟨ho688, hf689⟩ := flat_tr (hC.getM 0 rfl).1
        subst hf689
        replace hC := hC.recast (c := own 2 1 u682 r681.length ((EI .i64).encs r681)) (fun _ h_ => h_) (fun _ => ho688)
        refine done ?_
        refine ak_intro (by assumption) (listed' := (List.toArray [true, true, true, true, false, false, false, false, false, true, false, false])) rfl ?_
        refine ae_one 4 rfl (by kernel_rfl) ?_
        refine s_call [.agg #[u2_0]] _ Try.func41 rfl rfl rfl (c_laws_toForm a2 h _ (form_mk (hC.getP 0 rfl))) (fun ret691 w693 hR692 => ?_)
        obtain ⟨r694, u695, f696, rfl, h, hr697, hf698, hB699⟩ := hR692
        refine ⟨_, rfl, ?_⟩
        replace hC := hC.push hB699 (Tr.item (TrForm 93) r694 [u695] f696) hr697 hf698
        obtain ⟨ho701, hf702⟩ := form_split (hC.getM 0 rfl)
        subst hf702
        replace hC := hC.recast (c := own 93 9 u695 r694.terms.length (ETerm.encs r694.terms)) (fun _ h_ => h_) (fun _ => ho701)
        refine done ?_
        refine ak_intro (by assumption) (listed' := (List.toArray [true, true, true, true, true, false, false, false, false, true, false, false])) rfl ?_
        refine ae_one 5 rfl (by kernel_rfl) ?_
        refine s_call [u682, .int .i64 a1, .agg #[u695]] _ Try.func46 rfl rfl rfl (c_spec_ScaleForm r681 a1 r694 h _ (own_repE (hC.getM 1 rfl)) (form_mk (own_repE (hC.getM 0 rfl)))) (fun ret704 w706 hR705 => ?_)
        obtain ⟨r707, u708, f709, r712, rfl, h, hr710, hf711, hB713⟩ := hR705
        refine ⟨_, rfl, ?_⟩
        replace hC := hC.push hB713 (Tr.item (TrForm 93) r707 [u708] f709) hr710 hf711
        obtain ⟨ho715, hf716⟩ := form_split (hC.getM 0 rfl)
        subst hf716
        replace hC := hC.recast (c := own 93 9 u708 r707.terms.length (ETerm.encs r707.terms)) (fun _ h_ => h_) (fun _ => ho715)
        refine done ?_
        refine ak_intro (by assumption) (listed' := (List.toArray [true, true, true, true, true, true, false, false, false, true, false, false])) rfl ?_
        refine ae_lookF 6 (.tuple #[.agg #[u708], .int .i64 r712]) rfl rfl (by kernel_rfl) (hM20 6 rfl) (fun w_ => .inl ⟨rfl, by exact r_mv (v := .tuple #[.agg #[u708], .int .i64 r712]) rfl⟩) (listed' := (List.toArray [true, true, true, true, true, true, true, false, false, true, false, false])) rfl ?_
        refine ae_lookF 7 (.agg #[u708]) rfl rfl (by kernel_rfl) (hM20 7 rfl) (fun w_ => .inl ⟨rfl, by exact r_ext (v := .agg #[u708]) rfl rfl⟩) (listed' := (List.toArray [true, true, true, true, true, true, true, true, false, true, false, false])) rfl ?_
        refine ae_lookF 8 (.int .i64 r712) rfl rfl (by kernel_rfl) (hM20 8 rfl) (fun w_ => .inl ⟨rfl, by exact r_ext (v := .int .i64 r712) rfl rfl⟩) (listed' := (List.toArray [true, true, true, true, true, true, true, true, true, true, false, false])) rfl ?_
        refine ae_one 10 rfl (by kernel_rfl) ?_
        refine s_store (v := .agg #[u708]) hC 3 [u708] [u708] rfl ag51.size rfl rfl rfl rfl (all_c (own_oneC (hC.getM 0 rfl)) rfl) (Nat.le_of_ble_eq_true rfl) rfl fun w718 hC => ?_
        refine done ?_
        refine ak_introN (by decide) (listed' := (List.toArray [true, true, true, true, true, true, true, true, true, true, true, false])) rfl ?_
        refine ae_tail 11 (by decide) (by decide) (by kernel_rfl) rfl rfl ?_
        refine s_as (v := .int .i64 r712) rfl ?_
        refine done ?_
        refine qn_norm ?_
        replace hC := hC.sel [3, 0, 4] [0, 1, 2] (M' := [blk b675 51 [u708], own 93 9 u708 r707.terms.length (ETerm.encs r707.terms), blk b5 60 [u2_0]]) (Ps' := [Ty.item ETerm.ty.sl a2.terms [u2_0] fp2, Ty.item ((EI .i64).ty.sl) a0 [u0_0] fp0, Ty.item TForm a2 [u2_0] fp2]) (by decide) rfl rfl
        exact ⟨rfl, _, rfl, ⟨b675, u708, r707, r712, rfl, rfl, rfl, rfl, rfl, rfl, hC, h⟩⟩
end Go.Proofs.Ytjngkbalaipdbaa
