/- Printed by vcgen.py: functions of the program as predicates, and that the machine's calls meet them. -/
import Derived.Test.YtgmldfmfpodgiaaGL3a
set_option linter.unusedVariables false
set_option linter.unusedSimpArgs false
set_option maxRecDepth 4000
set_option maxHeartbeats 4000000
namespace Go.Proofs.Ytgmldfmfpodgiaa
open Go Go.RowKit Vc
def f_impl_FibrationOver (a0 : Alg) (a1 : List Int) (a2 : List Vc.Form) (K : Alg → Int → Prop) : Prop :=
 f_impl_algebraCode a0 [] (fun r16 => f_impl_when (decide ((a1.length : Int) ≠ (a2.length : Int))) 2 (fun r27 => f_impl_first [r16, r27] (fun r35 => (if r35 ≠ 0 then K (⟨[], []⟩ : Alg) r35 else f_impl_Algebra_copied a0 (fun r42 r48 => forN (fun i313 (s314 : (List Int) × (List Vc.Form)) next321 => ((0 ≤ (i313 : Int) ∧ (i313 : Int) < (a2.length : Int)) ∧ f_impl_WithGenerator (⟨s314.1, s314.2⟩ : Alg) (a1.getD i313 default) (a2.getD i313 default) (fun r398 r404 => (if r404 ≠ 0 then K (⟨[], []⟩ : Alg) r404 else next321 (r398.degrees, r398.images))))) (fun (s314 : (List Int) × (List Vc.Form)) => K (⟨s314.1, s314.2⟩ : Alg) 0) a1.length 0 (r42.degrees, r42.images))))))
theorem c_impl_FibrationOver (a0 : Alg) (a1 : List Int) (a2 : List Vc.Form) {u0_0 : Value} {u0_1 : Value} {u1_0 : Value} {u2_0 : Value} {fp0 : List Nat} {fp1 : List Nat} {fp2 : List Nat} {K : Alg → Int → Prop} (h : f_impl_FibrationOver a0 a1 a2 K) (w0 : World) (q0 : TAlg.rep a0 [u0_0, u0_1] fp0 w0) (q1 : ((EI .i64).ty.sl).rep a1 [u1_0] fp1 w0) (q2 : TForm.sl.rep a2 [u2_0] fp2 w0) :
  Calls Try.prog 12 #[.agg #[u0_0, u0_1], u1_0, u2_0] w0 fun e w' => ∃ (r0 : Alg) (z0_0 : Value) (z0_1 : Value) (fz0 : List Nat) (r1 : Int), 
   e = .returned (.tuple #[.agg #[z0_0, z0_1], .int .i64 r1]) ∧ K r0 r1 ∧ (Tr.item (TrAlg 2 76 59) r0 [z0_0, z0_1] fz0).holds w' ∧ (∀ b, b ∈ fz0 → w0.heap.size ≤ b) ∧ Bel w0 w' := by
 unfold f_impl_FibrationOver at h
 refine calls_of (args := [.agg #[u0_0, u0_1], u1_0, u2_0]) Try.func12 rfl 56 Try.ntmps12 (Nat.le_of_ble_eq_true rfl) ?_
 have hC := Ctx.start (X := Nox) w0 [Ty.item TAlg a0 [u0_0, u0_1] fp0, Ty.item ((EI .i64).ty.sl) a1 [u1_0] fp1, Ty.item TForm.sl a2 [u2_0] fp2] (by simp only [List.mem_cons, List.not_mem_nil, or_false, forall_eq_or_imp, forall_eq]; exact ⟨q0, q1, q2⟩)
 have hp4 := (hC.getP 0 rfl)
 replace hC := hC.derive 0 rfl (Ty.item ((EI .i64).ty.sl) a0.degrees [u0_0] fp0) (fun _ => (alg_parts hp4).1) (fun _ hb_ => hb_)
 replace hC := hC.derive 1 rfl (Ty.item TForm.sl a0.images [u0_1] fp0) (fun _ => (alg_parts hp4).2) (fun _ hb_ => hb_)
 refine sr ?_
 refine s_box (v := .agg #[u0_0, u0_1]) hC [u0_0, u0_1] rfl rfl fun b7 w9 hB_ hC => ?_
 refine s_alloc hC [.slice none 0 0, .slice none 0 0] z30 rfl fun b10 w12 hB_ hC => ?_
 refine s_as (v := .int .i64 0) rfl ?_
 refine dn ?_
 refine wp_seq ?_
 refine sr ?_
 refine s_call [.pointer (some ⟨b7, 0, none⟩), .slice none 0 0] _ Try.func34 rfl rfl rfl (c_impl_algebraCode a0 [] h _ (alg_mk (hC.getP 1 rfl) (hC.getP 0 rfl)) (hC.getM 1 rfl) (rep_nil _ _)) (fun ret13 w15 hR14 => ?_)
 obtain ⟨r16, rfl, h, hB17⟩ := hR14
 refine ⟨_, rfl, ?_⟩
 replace hC := hC.grow hB17
 refine s_mv (v := u1_0) rfl ?_
 obtain ⟨Ad18, c19, hv20⟩ := sl_len (hC.getP 3 rfl)
 refine s_len Try.underlying22 (tr rfl hv20) ?_
 refine s_mv (v := u2_0) rfl ?_
 obtain ⟨Ad21, c22, hv23⟩ := sl_len (hC.getP 4 rfl)
 refine s_len Try.underlying28 (tr rfl hv23) ?_
 refine s_neq rfl rfl ?_
 refine s_call [.bool (decide ((a1.length : Int) ≠ (a2.length : Int))), .int .i64 2] _ Try.func35 rfl rfl rfl (c_impl_when (decide ((a1.length : Int) ≠ (a2.length : Int))) 2 h _) (fun ret24 w26 hR25 => ?_)
 obtain ⟨r27, rfl, h, hB28⟩ := hR25
 refine ⟨_, rfl, ?_⟩
 replace hC := hC.grow hB28
 refine s_bslice (sz := 1) hC [(0, .int .i64 r16), (1, .int .i64 r27)] ((EI .i64).encs [r16, r27]) rfl (fun _ => bs22_2 r16 r27 _) rfl (by decide) fun b29 w30 hB_ hC => ?_
 refine s_call [.slice (some ⟨b29, 0, none⟩) 2 2] _ Try.func33 rfl rfl rfl (c_impl_first [r16, r27] h _ (own_repE (hC.getM 0 rfl))) (fun ret32 w34 hR33 => ?_)
 obtain ⟨r35, rfl, h, hB36⟩ := hR33
 refine ⟨_, rfl, ?_⟩
 replace hC := hC.grow hB36
 refine s_as (v := .int .i64 r35) rfl ?_
 refine dn ?_
 refine sr ?_
 refine s_mv (v := .int .i64 r35) rfl ?_
 refine s_neq rfl rfl ?_
 refine dn ?_
 refine cw_cond rfl (fun hb37 => ?_) (fun hb37 => ?_)
 ·replace h := ift h (ct hb37)
  refine sr ?_
  refine s_build [] rfl (bl30   _) ?_
  refine s_mv (v := .int .i64 r35) rfl ?_
  refine s_store (v := .agg #[.slice none 0 0, .slice none 0 0]) hC 1 [.slice none 0 0, .slice none 0 0] [.slice none 0 0, .slice none 0 0] rfl ag30.size rfl rfl rfl rfl rfl (Nat.le_of_ble_eq_true rfl) rfl fun w38 hC => ?_
  refine s_as (v := .int .i64 r35) rfl ?_
  refine dn ?_
  refine wp_ret (then_ret ?_)
  refine ret2 (fn := Try.f12) rfl ?_ ?_ ⟨(⟨[], []⟩ : Alg), .slice none 0 0, .slice none 0 0, ([] ++ []), r35, rfl, h, (alg_join (nil_item _ _ _) (nil_item _ _ _) (fun x hx => absurd hx (by simp))), (fun b hb => (List.mem_append.1 hb).elim (fun hb => (fun b hb => absurd hb (by simp)) b hb) (fun hb => (fun b hb => absurd hb (by simp)) b hb)), hC.below⟩ (.inl rfl)
  ·exact res_cellA hC 1 rfl ag30 rfl rfl
  ·exact res_tmp rfl
 ·replace h := iff_ h (cf hb37)
  refine wp_skip ?_
  refine then_norm ?_
  refine sr ?_
  refine s_call [.pointer (some ⟨b7, 0, none⟩)] _ Try.func36 rfl rfl rfl (c_impl_Algebra_copied a0 h _ (alg_mk (hC.getP 1 rfl) (hC.getP 0 rfl)) (hC.getM 2 rfl)) (fun ret39 w41 hR40 => ?_)
  obtain ⟨r42, u43, u44, f45, r48, rfl, h, hr46, hf47, hB49⟩ := hR40
  refine ⟨_, rfl, ?_⟩
  replace hC := hC.push hB49 (Tr.item (TrAlg 2 76 59) r42 [u43, u44] f45) hr46 hf47
  obtain ⟨f51, ho52, ho53, hs54, hs55, hd56⟩ := alg_split (hC.getM 0 rfl)
  replace hC := hC.split (a := own 2 1 u43 r42.degrees.length ((EI .i64).encs r42.degrees)) (b := Tr.item (Tr.sl 59 (TrForm 76)) r42.images [u44] f51) hs54 hs55 ⟨ho52, ho53, hd56⟩
  refine s_mv (v := .tuple #[.agg #[u43, u44], .int .i64 r48]) rfl ?_
  refine s_ext (v := .agg #[u43, u44]) rfl rfl ?_
  refine s_ext (v := .int .i64 r48) rfl rfl ?_
  refine s_alloc hC [.slice none 0 0, .slice none 0 0] z30 rfl fun b59 w61 hB_ hC => ?_
  refine s_store (v := .agg #[u43, u44]) hC 0 [u43, u44] [u43, u44] rfl ag30.size rfl rfl rfl rfl (all_c (own_oneC (hC.getM 1 rfl)) (all_c (rep_oneC (Tr.trep _ (hC.getM 2 rfl).1)) rfl)) (Nat.le_of_ble_eq_true rfl) rfl fun w62 hC => ?_
  refine s_as (v := .int .i64 r48) rfl ?_
  refine dn ?_
  refine wp_seq ?_
  refine sr ?_
  refine s_mv (v := u1_0) rfl ?_
  obtain ⟨Ad63, c64, hv65⟩ := sl_len (hC.getP 3 rfl)
  refine s_len Try.underlying22 (tr rfl hv65) ?_
  refine s_mv (v := .int .i64 0) rfl ?_
  refine dn ?_
  refine wp_block ?_
  have hN320 : a1.length ≤ 9223372036854775807 := sl_max (hC.getP 3 rfl)
  refine loopN (S := (List Int) × (List Vc.Form)) _ _ (fun i313 s314 e_ w_ => ∃ (v315 : Value), ∃ (v317 : Value), ∃ (f319 : List Nat), Slots e_ [(2, u2_0), (6, .pointer (some ⟨b10, 0, none⟩)), (7, .int .i64 0), (9, .pointer (some ⟨b59, 0, none⟩)), (32, u1_0), (33, .int .i64 (a1.length : Int)), (34, .int .i64 (i313 : Int))] ∧ Ctx Nox w0 w_ [Tr.item (Tr.sl 59 (TrForm 76)) s314.2 [v317] f319, own 2 1 v315 s314.1.length ((EI .i64).encs s314.1), blk b59 30 [v315, v317], blk b10 30 [.slice none 0 0, .slice none 0 0]] [Ty.item TForm.sl a0.images [u0_1] fp0, Ty.item ((EI .i64).ty.sl) a0.degrees [u0_0] fp0, Ty.item TAlg a0 [u0_0, u0_1] fp0, Ty.item ((EI .i64).ty.sl) a1 [u1_0] fp1, Ty.item TForm.sl a2 [u2_0] fp2]) a1.length ?_ ?_ (s0 := (r42.degrees, r42.images)) ?_ h
  ·clear hC h
   rintro i313 s314 e_ w325 next321 K322 hi324 ⟨v315, v317, f319, hS_, hC⟩ h hK323
   refine sr ?_
   refine s_lss (sx hS_ 6 rfl) (sx hS_ 5 rfl) ?_
   refine dn ?_
   refine wp_seq ?_
   refine cw_true rfl (decide_eq_true (by omega)) ?_
   refine wp_skip ?_
   refine then_norm ?_
   refine wp_seq ?_
   refine wp_block ?_
   refine sr ?_
   refine s_mv (v := .int .i64 (i313 : Int)) (sx hS_ 6 rfl) ?_
   obtain ⟨Ad326, c327, hv328⟩ := sl_form (hC.getP 3 rfl) i313 hi324
   refine s_iaddrS (len := a1.length) Try.underlying22 sc2.size (tr (sx hS_ 4 rfl) hv328) (sx hS_ 6 rfl) (Int.natCast_nonneg _) (Int.ofNat_lt.2 hi324) ?_
   refine s_loadCS (.int .i64 (a1.getD i313 default)) (sl_cellsE (hC.getP 3 rfl) hv328 i313 hi324) sc2 rfl ?_
   refine s_as (v := .int .i64 (i313 : Int)) rfl ?_
   refine s_as (v := .int .i64 (a1.getD i313 default)) rfl ?_
   refine dn ?_
   refine wp_seq ?_
   refine cw_draw 11 mixed [0, 0, 0, 0, 12, 28, 63, 127, 255, 255, 0, 1535, 4095] [0, 4, 5] [1, 2, 3, 7, 8, 9] (by kernel_rfl) (by kernel_rfl) (by kernel_rfl) (fun hM330 hM331 w329 hB_ => ?_)
   replace hC := hC.grow hB_
   refine aL 0 (.agg #[v315, v317]) rfl rfl (hM330 0 rfl) (rfl) (fun _ hB_ => by exact r_loadA (hC.grow hB_) 2 [v315, v317] rfl ag30 (sx hS_ 3 rfl) rfl rfl) (dbits 13 1) ?_
   refine aF 1 (.int .i64 (a1.getD i313 default)) rfl rfl (hM331 1 rfl) (rfl) (fun _ => by exact r_mv (v := .int .i64 (a1.getD i313 default)) rfl) (dbits 13 3) ?_
   refine aF 2 (u2_0) rfl rfl (hM331 2 rfl) (rfl) (fun _ => by exact r_mv (v := u2_0) (sx hS_ 0 rfl)) (dbits 13 7) ?_
   refine aF 3 (.int .i64 (i313 : Int)) rfl rfl (hM331 3 rfl) (rfl) (fun _ => by exact r_mv (v := .int .i64 (i313 : Int)) rfl) (dbits 13 15) ?_
   obtain ⟨⟨h0_332, h1_333⟩, h⟩ := h
   obtain ⟨Ad334, c335, hv336⟩ := sl_form (hC.getP 4 rfl) i313 (show i313 < a2.length by omega)
   refine aL 4 (.pointer (some (Ad334.add (i313 * 1)))) rfl rfl (hM330 4 rfl) (rfl) (fun _ hB_ => by exact r_iaddrS (len := a2.length) Try.underlying28 ag59.size (by exact tr rfl hv336) rfl h0_332 h1_333) (dbits 13 31) ?_
   obtain ⟨cs_, hl338, hc339, hr340⟩ := sl_cells (hC.getP 4 rfl) hv336 i313 (show i313 < a2.length by omega)
   obtain ⟨u337, rfl⟩ := List.length_eq_one_iff.1 hl338
   clear hl338
   rw [getD_eq _ _ (show i313 < a2.length by omega)] at hr340
   have hp341 := hr340
   replace hC := hC.derive 4 rfl (Ty.item ETerm.ty.sl ((a2.getD i313 default).terms) [u337] fp2) (fun _ => (form_parts hp341)) (fun _ hb_ => hb_)
   refine aL 5 (.agg #[u337]) rfl rfl (hM330 5 rfl) (rfl) (fun _ hB_ => by exact r_loadCA [u337] (cellsAt_bel hB_ hc339) ag59 rfl rfl) (dbits 13 63) ?_
   refine ae_join (fun e_ w_ => ∃ (b363 : Nat), ∃ (u347 : Value), ∃ (u348 : Value), ∃ (r346 : Alg), ∃ (f355 : List Nat), ∃ (r352 : Int), Slots e_ [(2, u2_0), (6, .pointer (some ⟨b10, 0, none⟩)), (7, .int .i64 0), (9, .pointer (some ⟨b59, 0, none⟩)), (11, .int .i64 (i313 : Int)), (12, .int .i64 (a1.getD i313 default)), (13, .pointer (some ⟨b363, 0, none⟩)), (14, .int .i64 r352), (32, u1_0), (33, .int .i64 (a1.length : Int)), (34, .int .i64 (i313 : Int)), (35, .bool (decide ((i313 : Int) < (a1.length : Int)))), (36, .int .i64 (i313 : Int)), (37, .pointer (some (Ad326.add (i313 * 1)))), (38, .int .i64 (a1.getD i313 default)), (39, .tuple #[.agg #[u347, u348], .int .i64 r352]), (40, .agg #[v315, v317]), (41, .int .i64 (a1.getD i313 default)), (42, u2_0), (43, .int .i64 (i313 : Int)), (44, .pointer (some (Ad334.add (i313 * 1)))), (45, .agg #[u337]), (46, .tuple #[.agg #[u347, u348], .int .i64 r352]), (47, .agg #[u347, u348]), (48, .int .i64 r352)] ∧ Ctx Nox w0 w_ [blk b363 30 [u347, u348], own 2 1 u347 r346.degrees.length ((EI .i64).encs r346.degrees), Tr.item (Tr.sl 59 (TrForm 76)) r346.images [u348] f355, Tr.item (Tr.sl 59 (TrForm 76)) s314.2 [v317] f319, own 2 1 v315 s314.1.length ((EI .i64).encs s314.1), blk b59 30 [v315, v317], blk b10 30 [.slice none 0 0, .slice none 0 0]] [Ty.item ETerm.ty.sl ((a2.getD i313 default).terms) [u337] fp2, Ty.item TForm.sl a0.images [u0_1] fp0, Ty.item ((EI .i64).ty.sl) a0.degrees [u0_0] fp0, Ty.item TAlg a0 [u0_0, u0_1] fp0, Ty.item ((EI .i64).ty.sl) a1 [u1_0] fp1, Ty.item TForm.sl a2 [u2_0] fp2] ∧ (if r352 ≠ 0 then K (⟨[], []⟩ : Alg) r352 else next321 (r346.degrees, r346.images))) ?_ ?_
   ·clear hC h
    rintro e_ w391 ⟨b363, u347, u348, r346, f355, r352, hS_, hC, h⟩
    refine then_norm ?_
    refine wp_seq ?_
    refine sr ?_
    refine s_mv (v := .int .i64 r352) (sx hS_ 7 rfl) ?_
    refine s_neq rfl rfl ?_
    refine dn ?_
    refine cw_cond rfl (fun hb392 => ?_) (fun hb392 => ?_)
    ·replace h := ift h (ct hb392)
     refine sr ?_
     refine s_build [] rfl (bl30   _) ?_
     refine s_mv (v := .int .i64 r352) (sx hS_ 7 rfl) ?_
     refine s_store (v := .agg #[.slice none 0 0, .slice none 0 0]) hC 6 [.slice none 0 0, .slice none 0 0] [.slice none 0 0, .slice none 0 0] rfl ag30.size (sx hS_ 1 rfl) rfl rfl rfl rfl (Nat.le_of_ble_eq_true rfl) rfl fun w393 hC => ?_
     refine s_as (v := .int .i64 r352) rfl ?_
     refine dn ?_
     refine wp_ret (then_ret (blk_ret (then_ret (then_ret (blk_ret (then_ret ?_))))))
     refine ret2 (fn := Try.f12) rfl ?_ ?_ ⟨(⟨[], []⟩ : Alg), .slice none 0 0, .slice none 0 0, ([] ++ []), r352, rfl, h, (alg_join (nil_item _ _ _) (nil_item _ _ _) (fun x hx => absurd hx (by simp))), (fun b hb => (List.mem_append.1 hb).elim (fun hb => (fun b hb => absurd hb (by simp)) b hb) (fun hb => (fun b hb => absurd hb (by simp)) b hb)), hC.below⟩ (.inl rfl)
     ·exact res_cellA hC 6 rfl ag30 (sx hS_ 1 rfl) rfl
     ·exact res_tmp rfl
    ·replace h := iff_ h (cf hb392)
     refine wp_skip ?_
     refine then_norm ?_
     refine cw_region ?_
     refine s_loadA hC 0 [u347, u348] rfl ag30 (sx hS_ 6 rfl) rfl rfl ?_
     refine s_store (v := .agg #[u347, u348]) hC 5 [u347, u348] [u347, u348] rfl ag30.size (sx hS_ 3 rfl) rfl rfl rfl (all_c (own_oneC (hC.getM 1 rfl)) (all_c (rep_oneC (Tr.trep _ (hC.getM 2 rfl).1)) rfl)) (Nat.le_of_ble_eq_true rfl) rfl fun w394 hC => ?_
     refine done ?_
     refine blk_norm ?_
     refine then_norm ?_
     refine cw_region ?_
     refine s_add (sx hS_ 10 rfl) rfl ?_
     refine s_mv (v := .int .i64 (IntKind.i64.wrap ((i313 : Int) + 1))) rfl ?_
     refine done ?_
     replace hC := hC.sM [2, 1, 5, 6] (M' := [Tr.item (Tr.sl 59 (TrForm 76)) r346.images [u348] f355, own 2 1 u347 r346.degrees.length ((EI .i64).encs r346.degrees), blk b59 30 [u347, u348], blk b10 30 [.slice none 0 0, .slice none 0 0]]) (by decide) rfl
     replace hC := hC.sP [1, 2, 3, 4, 5] (Ps' := [Ty.item TForm.sl a0.images [u0_1] fp0, Ty.item ((EI .i64).ty.sl) a0.degrees [u0_0] fp0, Ty.item TAlg a0 [u0_0, u0_1] fp0, Ty.item ((EI .i64).ty.sl) a1 [u1_0] fp1, Ty.item TForm.sl a2 [u2_0] fp2]) rfl
     exact hK323 (r346.degrees, r346.images) _ _ ⟨u347, u348, f355, (sk (sx hS_ 0 rfl) (sk (sx hS_ 1 rfl) (sk (sx hS_ 2 rfl) (sk (sx hS_ 3 rfl) (sk (sx hS_ 8 rfl) (sk (sx hS_ 9 rfl) (sk (tr rfl (congrArg _ (wrap64_nat hi324 hN320))) sn))))))), hC⟩ h
   refine ae_two 6 10 rfl rfl (by kernel_rfl) ?_ ?_
   ·skip
    refine s_call [.agg #[v315, v317], .int .i64 (a1.getD i313 default), .agg #[u337]] _ Try.func37 rfl rfl rfl (c_impl_WithGenerator (⟨s314.1, s314.2⟩ : Alg) (a1.getD i313 default) (a2.getD i313 default) h _ (alg_mk (own_repE (hC.getM 1 rfl)) (Tr.trep _ (hC.getM 0 rfl).1)) (form_mk (hC.getP 0 rfl))) (fun ret395 w397 hR396 => ?_)
    obtain ⟨r398, u399, u400, f401, r404, rfl, h, hr402, hf403, hB405⟩ := hR396
    refine ⟨_, rfl, ?_⟩
    replace hC := hC.push hB405 (Tr.item (TrAlg 2 76 59) r398 [u399, u400] f401) hr402 hf403
    obtain ⟨f407, ho408, ho409, hs410, hs411, hd412⟩ := alg_split (hC.getM 0 rfl)
    replace hC := hC.split (a := own 2 1 u399 r398.degrees.length ((EI .i64).encs r398.degrees)) (b := Tr.item (Tr.sl 59 (TrForm 76)) r398.images [u400] f407) hs410 hs411 ⟨ho408, ho409, hd412⟩
    refine done ?_
    refine aK (by assumption) (dbits 13 127) ?_
    refine aF 7 (.tuple #[.agg #[u399, u400], .int .i64 r404]) rfl rfl (hM331 7 rfl) (rfl) (fun _ => by exact r_mv (v := .tuple #[.agg #[u399, u400], .int .i64 r404]) rfl) (dbits 13 255) ?_
    refine aF 8 (.agg #[u399, u400]) rfl rfl (hM331 8 rfl) (rfl) (fun _ => by exact r_ext (v := .agg #[u399, u400]) rfl rfl) (dbits 13 511) ?_
    refine aF 9 (.int .i64 r404) rfl rfl (hM331 9 rfl) (rfl) (fun _ => by exact r_ext (v := .int .i64 r404) rfl rfl) (dbits 13 1023) ?_
    refine aO 10 rfl ?_
    refine s_alloc hC [.slice none 0 0, .slice none 0 0] z30 rfl fun b415 w417 hB_ hC => ?_
    refine done ?_
    refine aK (by assumption) (dbits 13 2047) ?_
    refine aO 11 rfl ?_
    refine s_store (v := .agg #[u399, u400]) hC 0 [u399, u400] [u399, u400] rfl ag30.size rfl rfl rfl rfl (all_c (own_oneC (hC.getM 1 rfl)) (all_c (rep_oneC (Tr.trep _ (hC.getM 2 rfl).1)) rfl)) (Nat.le_of_ble_eq_true rfl) rfl fun w418 hC => ?_
    refine done ?_
    refine ak_introN (by decide) (l9 := (dbits 13 4095)) (by kernel_rfl) ?_
    refine ae_tail 12 (by decide) (by decide) (by kernel_rfl) (by kernel_rfl) rfl ?_
    refine s_as (v := .int .i64 r404) rfl ?_
    refine done ?_
    refine qn_norm ?_
    exact ⟨rfl, _, rfl, ⟨b415, u399, u400, r398, f407, r404, (sk (sx hS_ 0 rfl) (sk (sx hS_ 1 rfl) (sk (sx hS_ 2 rfl) (sk (sx hS_ 3 rfl) (sk rfl (sk rfl (sk rfl (sk rfl (sk (sx hS_ 4 rfl) (sk (sx hS_ 5 rfl) (sk (sx hS_ 6 rfl) (sk rfl (sk rfl (sk rfl (sk rfl (sk rfl (sk rfl (sk rfl (sk rfl (sk rfl (sk rfl (sk rfl (sk rfl (sk rfl (sk rfl sn))))))))))))))))))))))))), hC, h⟩⟩
   ·skip
    refine s_alloc hC [.slice none 0 0, .slice none 0 0] z30 rfl fun b419 w421 hB_ hC => ?_
    refine done ?_
    refine aK (by assumption) (dbits 13 1087) ?_
    refine aO 6 rfl ?_
    refine s_call [.agg #[v315, v317], .int .i64 (a1.getD i313 default), .agg #[u337]] _ Try.func37 rfl rfl rfl (c_impl_WithGenerator (⟨s314.1, s314.2⟩ : Alg) (a1.getD i313 default) (a2.getD i313 default) h _ (alg_mk (own_repE (hC.getM 2 rfl)) (Tr.trep _ (hC.getM 1 rfl).1)) (form_mk (hC.getP 0 rfl))) (fun ret422 w424 hR423 => ?_)
    obtain ⟨r425, u426, u427, f428, r431, rfl, h, hr429, hf430, hB432⟩ := hR423
    refine ⟨_, rfl, ?_⟩
    replace hC := hC.push hB432 (Tr.item (TrAlg 2 76 59) r425 [u426, u427] f428) hr429 hf430
    obtain ⟨f434, ho435, ho436, hs437, hs438, hd439⟩ := alg_split (hC.getM 0 rfl)
    replace hC := hC.split (a := own 2 1 u426 r425.degrees.length ((EI .i64).encs r425.degrees)) (b := Tr.item (Tr.sl 59 (TrForm 76)) r425.images [u427] f434) hs437 hs438 ⟨ho435, ho436, hd439⟩
    refine done ?_
    refine aK (by assumption) (dbits 13 1151) ?_
    refine aF 7 (.tuple #[.agg #[u426, u427], .int .i64 r431]) rfl rfl (hM331 7 rfl) (rfl) (fun _ => by exact r_mv (v := .tuple #[.agg #[u426, u427], .int .i64 r431]) rfl) (dbits 13 1279) ?_
    refine aF 8 (.agg #[u426, u427]) rfl rfl (hM331 8 rfl) (rfl) (fun _ => by exact r_ext (v := .agg #[u426, u427]) rfl rfl) (dbits 13 1535) ?_
    refine aF 9 (.int .i64 r431) rfl rfl (hM331 9 rfl) (rfl) (fun _ => by exact r_ext (v := .int .i64 r431) rfl rfl) (dbits 13 2047) ?_
    refine aO 11 rfl ?_
    refine s_store (v := .agg #[u426, u427]) hC 2 [u426, u427] [u426, u427] rfl ag30.size rfl rfl rfl rfl (all_c (own_oneC (hC.getM 0 rfl)) (all_c (rep_oneC (Tr.trep _ (hC.getM 1 rfl).1)) rfl)) (Nat.le_of_ble_eq_true rfl) rfl fun w442 hC => ?_
    refine done ?_
    refine ak_introN (by decide) (l9 := (dbits 13 4095)) (by kernel_rfl) ?_
    refine ae_tail 12 (by decide) (by decide) (by kernel_rfl) (by kernel_rfl) rfl ?_
    refine s_as (v := .int .i64 r431) rfl ?_
    refine done ?_
    refine qn_norm ?_
    replace hC := hC.sM [2, 0, 1, 3, 4, 5, 6] (M' := [blk b419 30 [u426, u427], own 2 1 u426 r425.degrees.length ((EI .i64).encs r425.degrees), Tr.item (Tr.sl 59 (TrForm 76)) r425.images [u427] f434, Tr.item (Tr.sl 59 (TrForm 76)) s314.2 [v317] f319, own 2 1 v315 s314.1.length ((EI .i64).encs s314.1), blk b59 30 [v315, v317], blk b10 30 [.slice none 0 0, .slice none 0 0]]) (by decide) rfl
    exact ⟨rfl, _, rfl, ⟨b419, u426, u427, r425, f434, r431, (sk (sx hS_ 0 rfl) (sk (sx hS_ 1 rfl) (sk (sx hS_ 2 rfl) (sk (sx hS_ 3 rfl) (sk rfl (sk rfl (sk rfl (sk rfl (sk (sx hS_ 4 rfl) (sk (sx hS_ 5 rfl) (sk (sx hS_ 6 rfl) (sk rfl (sk rfl (sk rfl (sk rfl (sk rfl (sk rfl (sk rfl (sk rfl (sk rfl (sk rfl (sk rfl (sk rfl (sk rfl (sk rfl sn))))))))))))))))))))))))), hC, h⟩⟩
  ·clear hC h
   rintro s314 e_ w443 K322 ⟨v315, v317, f319, hS_, hC⟩ h
   refine sr ?_
   refine s_lss (sx hS_ 6 rfl) (sx hS_ 5 rfl) ?_
   refine dn ?_
   refine wp_seq ?_
   refine cw_false rfl (decide_eq_false (by omega)) ?_
   refine wp_exit (then_exit (then_exit (exit_in ?_)))
   refine then_norm ?_
   refine sr ?_
   refine s_loadA hC 2 [v315, v317] rfl ag30 (sx hS_ 3 rfl) rfl rfl ?_
   refine s_store (v := .agg #[v315, v317]) hC 3 [v315, v317] [v315, v317] rfl ag30.size (sx hS_ 1 rfl) rfl rfl rfl (all_c (own_oneC (hC.getM 1 rfl)) (all_c (rep_oneC (Tr.trep _ (hC.getM 0 rfl).1)) rfl)) (Nat.le_of_ble_eq_true rfl) rfl fun w444 hC => ?_
   refine s_as (v := .int .i64 0) rfl ?_
   refine dn ?_
   refine wp_ret ?_
   refine ret2 (fn := Try.f12) rfl ?_ ?_ ⟨(⟨s314.1, s314.2⟩ : Alg), v315, v317, ((Option.toList (Value.ownBlock v315)) ++ f319), 0, rfl, h, (alg_join (own_item (hC.getM 1 rfl)) (hC.getM 0 rfl) (fun x hx hx' => hC.mm 1 0 rfl rfl (by decide) x hx hx')), (fun b hb => (List.mem_append.1 hb).elim (fun hb => (own_fresh hC 1 rfl) b hb) (fun hb => (tr_fresh hC 0 rfl) b hb)), hC.below⟩ (.inl rfl)
   ·exact res_cellA hC 3 rfl ag30 (sx hS_ 1 rfl) rfl
   ·exact res_tmp rfl
  ·skip
   replace hC := hC.sM [2, 1, 0, 4] (M' := [Tr.item (Tr.sl 59 (TrForm 76)) r42.images [u44] f51, own 2 1 u43 r42.degrees.length ((EI .i64).encs r42.degrees), blk b59 30 [u43, u44], blk b10 30 [.slice none 0 0, .slice none 0 0]]) (by decide) rfl
   exact ⟨u43, u44, f51, (sk rfl (sk rfl (sk rfl (sk rfl (sk rfl (sk rfl (sk rfl sn))))))), hC⟩
def f_laws_FnExactFibrationOver (a0 : Alg) (a1 : List Int) (a2 : List Vc.Form) (K : Bool → Prop) : Prop :=
 (if (a1.length : Int) > 1048576 then K true else f_laws_szAlgebra a0 1048576 (fun r17 => (if r17 < 0 then K true else f_laws_szFormS a2 r17 (fun r23 => (if r23 < 0 then K true else f_laws_toAlgebra a0 (fun r29 => f_laws_toInt64S a1 (fun r48 => f_laws_toFormS a2 (fun r61 => f_spec_FibrationOver r29 r48 r61 (fun r72 r78 => f_laws_toAlgebra a0 (fun r96 => f_laws_toInt64S a1 (fun r119 => f_laws_toFormS a2 (fun r132 => f_impl_FibrationOver r96 r119 r132 (fun r143 r149 => f_laws_eqAlgebra r143 r72 (fun r167 => (if ¬ (r167 = true) then K false else (if r149 ≠ r78 then K false else f_laws_toAlgebra a0 (fun r177 => f_laws_eqAlgebra r96 r177 (fun r196 => (if ¬ (r196 = true) then K false else f_laws_toInt64S a1 (fun r202 => f_laws_eqInt64S r119 r202 (fun r215 => (if ¬ (r215 = true) then K false else f_laws_toFormS a2 (fun r221 => f_laws_eqFormS r132 r221 (fun r232 => (if ¬ (r232 = true) then K false else f_laws_markAlgebra r96 1 (fun r238 m240 => f_laws_markInt64S r119 r238 (fun r246 m248 => f_laws_markFormS r132 r246 (fun r253 m255 => (if r253 < 0 then K false else f_laws_eqAlgebra (⟨r143.degrees, r143.images⟩ : Alg) (⟨r72.degrees, r72.images⟩ : Alg) (fun r261 => (if ¬ (r261 = true) then K false else f_laws_markAlgebra (⟨r143.degrees, r143.images⟩ : Alg) 1 (fun r267 m269 => f_laws_heldAlgebra (⟨m269.degrees, m269.images⟩ : Alg) 1 (fun r275 => (if r275 < 0 then K false else (if r275 ≠ r267 then K false else f_laws_toAlgebra (⟨a0.degrees, a0.images⟩ : Alg) (fun r282 => f_laws_toInt64S a1 (fun r301 => f_laws_toFormS a2 (fun r314 => f_impl_FibrationOver r282 r301 r314 (fun r325 r331 => f_laws_eqAlgebra r325 (⟨r72.degrees, r72.images⟩ : Alg) (fun r349 => (if ¬ (r349 = true) then K false else (if r331 ≠ r78 then K false else f_laws_heldAlgebra (⟨m269.degrees, m269.images⟩ : Alg) 1 (fun r356 => (if r356 < 0 then K false else (if r356 ≠ r267 then K false else K true)))))))))))))))))))))))))))))))))))))))))))))
theorem c_laws_FnExactFibrationOver (a0 : Alg) (a1 : List Int) (a2 : List Vc.Form) {u0_0 : Value} {u0_1 : Value} {u1_0 : Value} {u2_0 : Value} {fp0 : List Nat} {fp1 : List Nat} {fp2 : List Nat} {K : Bool → Prop} (h : f_laws_FnExactFibrationOver a0 a1 a2 K) (w0 : World) (q0 : TAlg.rep a0 [u0_0, u0_1] fp0 w0) (q1 : ((EI .i64).ty.sl).rep a1 [u1_0] fp1 w0) (q2 : TForm.sl.rep a2 [u2_0] fp2 w0) :
  Calls Try.prog 3 #[.agg #[u0_0, u0_1], u1_0, u2_0] w0 fun e w' => ∃ (r0 : Bool), 
   e = .returned (.bool r0) ∧ K r0 ∧ Bel w0 w' := by
 unfold f_laws_FnExactFibrationOver at h
 refine calls_of (args := [.agg #[u0_0, u0_1], u1_0, u2_0]) Try.func3 rfl 140 Try.ntmps3 (Nat.le_of_ble_eq_true rfl) ?_
 have hC := Ctx.start (X := Nox) w0 [Ty.item TAlg a0 [u0_0, u0_1] fp0, Ty.item ((EI .i64).ty.sl) a1 [u1_0] fp1, Ty.item TForm.sl a2 [u2_0] fp2] (by simp only [List.mem_cons, List.not_mem_nil, or_false, forall_eq_or_imp, forall_eq]; exact ⟨q0, q1, q2⟩)
 have hp4 := (hC.getP 0 rfl)
 replace hC := hC.derive 0 rfl (Ty.item ((EI .i64).ty.sl) a0.degrees [u0_0] fp0) (fun _ => (alg_parts hp4).1) (fun _ hb_ => hb_)
 replace hC := hC.derive 1 rfl (Ty.item TForm.sl a0.images [u0_1] fp0) (fun _ => (alg_parts hp4).2) (fun _ hb_ => hb_)
 refine sr ?_
 refine s_box (v := .agg #[u0_0, u0_1]) hC [u0_0, u0_1] rfl rfl fun b7 w9 hB_ hC => ?_
 refine s_as (v := .bool false) rfl ?_
 refine dn ?_
 refine wp_seq ?_
 refine sr ?_
 refine s_mv (v := u1_0) rfl ?_
 obtain ⟨Ad10, c11, hv12⟩ := sl_len (hC.getP 3 rfl)
 refine s_len Try.underlying22 (tr rfl hv12) ?_
 refine s_gtr rfl rfl ?_
 refine dn ?_
 refine cw_cond rfl (fun hb13 => ?_) (fun hb13 => ?_)
 ·replace h := ift h (ct hb13)
  refine sr ?_
  refine s_as (v := .bool true) rfl ?_
  refine dn ?_
  refine wp_ret (then_ret ?_)
  refine ret1 (fn := Try.f3) rfl ?_ ⟨true, rfl, h, hC.below⟩ (.inl rfl)
  exact res_tmp rfl
 ·replace h := iff_ h (cf hb13)
  refine wp_skip ?_
  refine then_norm ?_
  refine sr ?_
  refine s_as (v := .int .i64 1048576) rfl ?_
  refine dn ?_
  refine sr ?_
  refine s_loadA hC 0 [u0_0, u0_1] rfl ag25 rfl rfl rfl ?_
  refine s_mv (v := .int .i64 1048576) rfl ?_
  refine s_call [.agg #[u0_0, u0_1], .int .i64 1048576] _ Try.func6 rfl rfl rfl (c_laws_szAlgebra a0 1048576 h _ (alg_mk (hC.getP 1 rfl) (hC.getP 0 rfl))) (fun ret14 w16 hR15 => ?_)
  obtain ⟨r17, rfl, h, hB18⟩ := hR15
  refine ⟨_, rfl, ?_⟩
  replace hC := hC.grow hB18
  refine s_as (v := .int .i64 r17) rfl ?_
  refine dn ?_
  refine wp_seq ?_
  refine sr ?_
  refine s_mv (v := .int .i64 r17) rfl ?_
  refine s_lss rfl rfl ?_
  refine dn ?_
  refine cw_cond rfl (fun hb19 => ?_) (fun hb19 => ?_)
  ·replace h := ift h (ct hb19)
   refine sr ?_
   refine s_as (v := .bool true) rfl ?_
   refine dn ?_
   refine wp_ret (then_ret ?_)
   refine ret1 (fn := Try.f3) rfl ?_ ⟨true, rfl, h, hC.below⟩ (.inl rfl)
   exact res_tmp rfl
  ·replace h := iff_ h (cf hb19)
   refine wp_skip ?_
   refine then_norm ?_
   refine sr ?_
   refine s_mv (v := u2_0) rfl ?_
   refine s_mv (v := .int .i64 r17) rfl ?_
   refine s_call [u2_0, .int .i64 r17] _ Try.func7 rfl rfl rfl (c_laws_szFormS a2 r17 h _ (hC.getP 4 rfl)) (fun ret20 w22 hR21 => ?_)
   obtain ⟨r23, rfl, h, hB24⟩ := hR21
   refine ⟨_, rfl, ?_⟩
   replace hC := hC.grow hB24
   refine s_as (v := .int .i64 r23) rfl ?_
   refine dn ?_
   refine wp_seq ?_
   refine sr ?_
   refine s_mv (v := .int .i64 r23) rfl ?_
   refine s_lss rfl rfl ?_
   refine dn ?_
   refine cw_cond rfl (fun hb25 => ?_) (fun hb25 => ?_)
   ·replace h := ift h (ct hb25)
    refine sr ?_
    refine s_as (v := .bool true) rfl ?_
    refine dn ?_
    refine wp_ret (then_ret ?_)
    refine ret1 (fn := Try.f3) rfl ?_ ⟨true, rfl, h, hC.below⟩ (.inl rfl)
    exact res_tmp rfl
   ·replace h := iff_ h (cf hb25)
    refine wp_skip ?_
    refine then_norm ?_
    refine sr ?_
    refine s_loadA hC 0 [u0_0, u0_1] rfl ag25 rfl rfl rfl ?_
    refine s_call [.agg #[u0_0, u0_1]] _ Try.func9 rfl rfl rfl (c_laws_toAlgebra a0 h _ (alg_mk (hC.getP 1 rfl) (hC.getP 0 rfl))) (fun ret26 w28 hR27 => ?_)
    obtain ⟨r29, u30, u31, f32, rfl, h, hr33, hf34, hB35⟩ := hR27
    refine ⟨_, rfl, ?_⟩
    replace hC := hC.push hB35 (Tr.item (TrAlg 2 76 59) r29 [u30, u31] f32) hr33 hf34
    obtain ⟨f37, ho38, ho39, hs40, hs41, hd42⟩ := alg_split (hC.getM 0 rfl)
    replace hC := hC.split (a := own 2 1 u30 r29.degrees.length ((EI .i64).encs r29.degrees)) (b := Tr.item (Tr.sl 59 (TrForm 76)) r29.images [u31] f37) hs40 hs41 ⟨ho38, ho39, hd42⟩
    refine s_mv (v := u1_0) rfl ?_
    refine s_call [u1_0] _ Try.func10 rfl rfl rfl (c_laws_toInt64S a1 h _ (hC.getP 3 rfl)) (fun ret45 w47 hR46 => ?_)
    obtain ⟨r48, u49, f50, rfl, h, hr51, hf52, hB53⟩ := hR46
    refine ⟨_, rfl, ?_⟩
    replace hC := hC.push hB53 (Tr.item (Tr.sl 2 ((EI .i64).tr)) r48 [u49] f50) hr51 hf52
    obtain ⟨ho55, hf56⟩ := flat_tr (hC.getM 0 rfl).1
    subst hf56
    replace hC := hC.recast (c := own 2 1 u49 r48.length ((EI .i64).encs r48)) (fun _ h_ => h_) (fun _ => ho55)
    refine s_mv (v := u2_0) rfl ?_
    refine s_call [u2_0] _ Try.func11 rfl rfl rfl (c_laws_toFormS a2 h _ (hC.getP 4 rfl)) (fun ret58 w60 hR59 => ?_)
    obtain ⟨r61, u62, f63, rfl, h, hr64, hf65, hB66⟩ := hR59
    refine ⟨_, rfl, ?_⟩
    replace hC := hC.push hB66 (Tr.item (Tr.sl 59 (TrForm 76)) r61 [u62] f63) hr64 hf65
    refine s_call [.agg #[u30, u31], u49, u62] _ Try.func8 rfl rfl rfl (c_spec_FibrationOver r29 r48 r61 h _ (alg_mk (own_repE (hC.getM 2 rfl)) (Tr.trep _ (hC.getM 3 rfl).1)) (own_repE (hC.getM 1 rfl)) (Tr.trep _ (hC.getM 0 rfl).1)) (fun ret69 w71 hR70 => ?_)
    obtain ⟨r72, u73, u74, f75, r78, rfl, h, hr76, hf77, hB79⟩ := hR70
    refine ⟨_, rfl, ?_⟩
    replace hC := hC.push hB79 (Tr.item (TrAlg 2 76 59) r72 [u73, u74] f75) hr76 hf77
    obtain ⟨f81, ho82, ho83, hs84, hs85, hd86⟩ := alg_split (hC.getM 0 rfl)
    replace hC := hC.split (a := own 2 1 u73 r72.degrees.length ((EI .i64).encs r72.degrees)) (b := Tr.item (Tr.sl 59 (TrForm 76)) r72.images [u74] f81) hs84 hs85 ⟨ho82, ho83, hd86⟩
    refine s_mv (v := .tuple #[.agg #[u73, u74], .int .i64 r78]) rfl ?_
    refine s_ext (v := .agg #[u73, u74]) rfl rfl ?_
    refine s_ext (v := .int .i64 r78) rfl rfl ?_
    refine s_alloc hC [.slice none 0 0, .slice none 0 0] z30 rfl fun b89 w91 hB_ hC => ?_
    refine s_store (v := .agg #[u73, u74]) hC 0 [u73, u74] [u73, u74] rfl ag30.size rfl rfl rfl rfl (all_c (own_oneC (hC.getM 1 rfl)) (all_c (rep_oneC (Tr.trep _ (hC.getM 2 rfl).1)) rfl)) (Nat.le_of_ble_eq_true rfl) rfl fun w92 hC => ?_
    refine s_as (v := .int .i64 r78) rfl ?_
    refine dn ?_
    refine sr ?_
    refine s_loadA hC 7 [u0_0, u0_1] rfl ag25 rfl rfl rfl ?_
    refine s_call [.agg #[u0_0, u0_1]] _ Try.func9 rfl rfl rfl (c_laws_toAlgebra a0 h _ (alg_mk (hC.getP 1 rfl) (hC.getP 0 rfl))) (fun ret93 w95 hR94 => ?_)
    obtain ⟨r96, u97, u98, f99, rfl, h, hr100, hf101, hB102⟩ := hR94
    refine ⟨_, rfl, ?_⟩
    replace hC := hC.push hB102 (Tr.item (TrAlg 2 76 59) r96 [u97, u98] f99) hr100 hf101
    obtain ⟨f104, ho105, ho106, hs107, hs108, hd109⟩ := alg_split (hC.getM 0 rfl)
    replace hC := hC.split (a := own 2 1 u97 r96.degrees.length ((EI .i64).encs r96.degrees)) (b := Tr.item (Tr.sl 59 (TrForm 76)) r96.images [u98] f104) hs107 hs108 ⟨ho105, ho106, hd109⟩
    refine s_alloc hC [.slice none 0 0, .slice none 0 0] z30 rfl fun b112 w114 hB_ hC => ?_
    refine s_store (v := .agg #[u97, u98]) hC 0 [u97, u98] [u97, u98] rfl ag30.size rfl rfl rfl rfl (all_c (own_oneC (hC.getM 1 rfl)) (all_c (rep_oneC (Tr.trep _ (hC.getM 2 rfl).1)) rfl)) (Nat.le_of_ble_eq_true rfl) rfl fun w115 hC => ?_
    refine dn ?_
    refine sr ?_
    refine s_mv (v := u1_0) rfl ?_
    refine s_call [u1_0] _ Try.func10 rfl rfl rfl (c_laws_toInt64S a1 h _ (hC.getP 3 rfl)) (fun ret116 w118 hR117 => ?_)
    obtain ⟨r119, u120, f121, rfl, h, hr122, hf123, hB124⟩ := hR117
    refine ⟨_, rfl, ?_⟩
    replace hC := hC.push hB124 (Tr.item (Tr.sl 2 ((EI .i64).tr)) r119 [u120] f121) hr122 hf123
    obtain ⟨ho126, hf127⟩ := flat_tr (hC.getM 0 rfl).1
    subst hf127
    replace hC := hC.recast (c := own 2 1 u120 r119.length ((EI .i64).encs r119)) (fun _ h_ => h_) (fun _ => ho126)
    refine s_as (v := u120) rfl ?_
    refine dn ?_
    refine sr ?_
    refine s_mv (v := u2_0) rfl ?_
    refine s_call [u2_0] _ Try.func11 rfl rfl rfl (c_laws_toFormS a2 h _ (hC.getP 4 rfl)) (fun ret129 w131 hR130 => ?_)
    obtain ⟨r132, u133, f134, rfl, h, hr135, hf136, hB137⟩ := hR130
    refine ⟨_, rfl, ?_⟩
    replace hC := hC.push hB137 (Tr.item (Tr.sl 59 (TrForm 76)) r132 [u133] f134) hr135 hf136
    refine s_as (v := u133) rfl ?_
    refine dn ?_
    refine sr ?_
    refine s_loadA hC 2 [u97, u98] rfl ag30 rfl rfl rfl ?_
    refine s_mv (v := u120) rfl ?_
    refine s_mv (v := u133) rfl ?_
    refine s_call [.agg #[u97, u98], u120, u133] _ Try.func12 rfl rfl rfl (c_impl_FibrationOver r96 r119 r132 h _ (alg_mk (own_repE (hC.getM 3 rfl)) (Tr.trep _ (hC.getM 4 rfl).1)) (own_repE (hC.getM 1 rfl)) (Tr.trep _ (hC.getM 0 rfl).1)) (fun ret140 w142 hR141 => ?_)
    obtain ⟨r143, u144, u145, f146, r149, rfl, h, hr147, hf148, hB150⟩ := hR141
    refine ⟨_, rfl, ?_⟩
    replace hC := hC.push hB150 (Tr.item (TrAlg 2 76 59) r143 [u144, u145] f146) hr147 hf148
    obtain ⟨f152, ho153, ho154, hs155, hs156, hd157⟩ := alg_split (hC.getM 0 rfl)
    replace hC := hC.split (a := own 2 1 u144 r143.degrees.length ((EI .i64).encs r143.degrees)) (b := Tr.item (Tr.sl 59 (TrForm 76)) r143.images [u145] f152) hs155 hs156 ⟨ho153, ho154, hd157⟩
    refine s_mv (v := .tuple #[.agg #[u144, u145], .int .i64 r149]) rfl ?_
    refine s_ext (v := .agg #[u144, u145]) rfl rfl ?_
    refine s_ext (v := .int .i64 r149) rfl rfl ?_
    refine s_alloc hC [.slice none 0 0, .slice none 0 0] z30 rfl fun b160 w162 hB_ hC => ?_
    refine s_store (v := .agg #[u144, u145]) hC 0 [u144, u145] [u144, u145] rfl ag30.size rfl rfl rfl rfl (all_c (own_oneC (hC.getM 1 rfl)) (all_c (rep_oneC (Tr.trep _ (hC.getM 2 rfl).1)) rfl)) (Nat.le_of_ble_eq_true rfl) rfl fun w163 hC => ?_
    refine s_as (v := .int .i64 r149) rfl ?_
    refine dn ?_
    refine wp_seq ?_
    refine sr ?_
    refine s_loadA hC 0 [u144, u145] rfl ag30 rfl rfl rfl ?_
    refine s_loadA hC 8 [u73, u74] rfl ag30 rfl rfl rfl ?_
    refine s_call [.agg #[u144, u145], .agg #[u73, u74]] _ Try.func13 rfl rfl rfl (c_laws_eqAlgebra r143 r72 h _ (alg_mk (own_repE (hC.getM 1 rfl)) (Tr.trep _ (hC.getM 2 rfl).1)) (alg_mk (own_repE (hC.getM 9 rfl)) (Tr.trep _ (hC.getM 10 rfl).1))) (fun ret164 w166 hR165 => ?_)
    obtain ⟨r167, rfl, h, hB168⟩ := hR165
    refine ⟨_, rfl, ?_⟩
    replace hC := hC.grow hB168
    refine s_not rfl ?_
    refine s_mv (v := .bool (!r167)) rfl ?_
    refine bsplit (!r167) (fun hb169 => ?_) (fun hb169 => ?_)
    ·replace h := ift h (ne_t (not_t hb169))
     refine guardOff (b := true) 4 60 rfl (tr rfl (congrArg _ hb169)) (by decide) ?_
     refine guardOff (b := true) 4 60 rfl (tr rfl (congrArg _ hb169)) (by decide) ?_
     refine guardOff (b := true) 4 60 rfl (tr rfl (congrArg _ hb169)) (by decide) ?_
     refine s_pick (v := .bool true) (b := true) (tr rfl (congrArg _ hb169)) rfl ?_
     refine dn ?_
     refine cw_true rfl rfl ?_
     refine sr ?_
     refine s_as (v := .bool false) rfl ?_
     refine dn ?_
     refine wp_ret (then_ret ?_)
     refine ret1 (fn := Try.f3) rfl ?_ ⟨false, rfl, h, hC.below⟩ (.inl rfl)
     exact res_tmp rfl
    ·replace h := iff_ h (not_not_intro ((not_f hb169)))
     refine guardOn 4 60 rfl rfl hb169 ?_
     refine s_mv (v := .int .i64 r149) rfl ?_
     refine guardOn 4 60 rfl rfl hb169 ?_
     refine s_mv (v := .int .i64 r78) rfl ?_
     refine guardOn 4 60 rfl rfl hb169 ?_
     refine s_neq rfl rfl ?_
     refine s_pick (v := .bool (decide (r149 ≠ r78))) (b := false) (tr rfl (congrArg _ hb169)) rfl ?_
     refine dn ?_
     refine cw_cond rfl (fun hb170 => ?_) (fun hb170 => ?_)
     ·replace h := ift h (ct hb170)
      refine sr ?_
      refine s_as (v := .bool false) rfl ?_
      refine dn ?_
      refine wp_ret (then_ret ?_)
      refine ret1 (fn := Try.f3) rfl ?_ ⟨false, rfl, h, hC.below⟩ (.inl rfl)
      exact res_tmp rfl
     ·replace h := iff_ h (cf hb170)
      refine wp_skip ?_
      refine then_norm ?_
      refine wp_seq ?_
      refine wp_seq ?_
      refine cw_draw 3 mixed [0, 0, 2, 7, 15] [0, 1] [] (by kernel_rfl) (by kernel_rfl) (by kernel_rfl) (fun hM172 hM173 w171 hB_ => ?_)
      replace hC := hC.grow hB_
      refine aL 0 (.agg #[u97, u98]) rfl rfl (hM172 0 rfl) (rfl) (fun _ hB_ => by exact r_loadA (hC.grow hB_) 5 [u97, u98] rfl ag30 rfl rfl rfl) (dbits 5 1) ?_
      refine aL 1 (.agg #[u0_0, u0_1]) rfl rfl (hM172 1 rfl) (rfl) (fun _ hB_ => by exact r_loadA (hC.grow hB_) 15 [u0_0, u0_1] rfl ag25 rfl rfl rfl) (dbits 5 3) ?_
      refine aO 2 rfl ?_
      refine s_call [.agg #[u0_0, u0_1]] _ Try.func9 rfl rfl rfl (c_laws_toAlgebra a0 h _ (alg_mk (hC.getP 1 rfl) (hC.getP 0 rfl))) (fun ret174 w176 hR175 => ?_)
      obtain ⟨r177, u178, u179, f180, rfl, h, hr181, hf182, hB183⟩ := hR175
      refine ⟨_, rfl, ?_⟩
      replace hC := hC.push hB183 (Tr.item (TrAlg 2 76 59) r177 [u178, u179] f180) hr181 hf182
      obtain ⟨f185, ho186, ho187, hs188, hs189, hd190⟩ := alg_split (hC.getM 0 rfl)
      replace hC := hC.split (a := own 2 1 u178 r177.degrees.length ((EI .i64).encs r177.degrees)) (b := Tr.item (Tr.sl 59 (TrForm 76)) r177.images [u179] f185) hs188 hs189 ⟨ho186, ho187, hd190⟩
      refine done ?_
      refine aK (by assumption) (dbits 5 7) ?_
      refine ae_tail 3 (by decide) (by decide) (by kernel_rfl) (by kernel_rfl) rfl ?_
      refine s_call [.agg #[u97, u98], .agg #[u178, u179]] _ Try.func13 rfl rfl rfl (c_laws_eqAlgebra r96 r177 h _ (alg_mk (own_repE (hC.getM 8 rfl)) (Tr.trep _ (hC.getM 9 rfl).1)) (alg_mk (own_repE (hC.getM 0 rfl)) (Tr.trep _ (hC.getM 1 rfl).1))) (fun ret193 w195 hR194 => ?_)
      obtain ⟨r196, rfl, h, hB197⟩ := hR194
      refine ⟨_, rfl, ?_⟩
      replace hC := hC.grow hB197
      refine s_not rfl ?_
      refine done ?_
      refine qn_norm ?_
      refine then_norm ?_
      refine cw_cond rfl (fun hb198 => ?_) (fun hb198 => ?_)
      ·replace h := ift h (ne_t (not_t hb198))
       refine sr ?_
       refine s_as (v := .bool false) rfl ?_
       refine dn ?_
       refine wp_ret (then_ret ?_)
       refine ret1 (fn := Try.f3) rfl ?_ ⟨false, rfl, h, hC.below⟩ (.inl rfl)
       exact res_tmp rfl
      ·replace h := iff_ h (not_not_intro ((not_f hb198)))
       refine wp_skip ?_
       refine then_norm ?_
       refine wp_seq ?_
       refine sr ?_
       refine s_mv (v := u120) rfl ?_
       refine s_mv (v := u1_0) rfl ?_
       refine s_call [u1_0] _ Try.func10 rfl rfl rfl (c_laws_toInt64S a1 h _ (hC.getP 3 rfl)) (fun ret199 w201 hR200 => ?_)
       obtain ⟨r202, u203, f204, rfl, h, hr205, hf206, hB207⟩ := hR200
       refine ⟨_, rfl, ?_⟩
       replace hC := hC.push hB207 (Tr.item (Tr.sl 2 ((EI .i64).tr)) r202 [u203] f204) hr205 hf206
       obtain ⟨ho209, hf210⟩ := flat_tr (hC.getM 0 rfl).1
       subst hf210
       replace hC := hC.recast (c := own 2 1 u203 r202.length ((EI .i64).encs r202)) (fun _ h_ => h_) (fun _ => ho209)
       refine s_call [u120, u203] _ Try.func14 rfl rfl rfl (c_laws_eqInt64S r119 r202 h _ (own_repE (hC.getM 7 rfl)) (own_repE (hC.getM 0 rfl))) (fun ret212 w214 hR213 => ?_)
       obtain ⟨r215, rfl, h, hB216⟩ := hR213
       refine ⟨_, rfl, ?_⟩
       replace hC := hC.grow hB216
       refine s_not rfl ?_
       refine dn ?_
       refine cw_cond rfl (fun hb217 => ?_) (fun hb217 => ?_)
       ·replace h := ift h (ne_t (not_t hb217))
        refine sr ?_
        refine s_as (v := .bool false) rfl ?_
        refine dn ?_
        refine wp_ret (then_ret ?_)
        refine ret1 (fn := Try.f3) rfl ?_ ⟨false, rfl, h, hC.below⟩ (.inl rfl)
        exact res_tmp rfl
       ·replace h := iff_ h (not_not_intro ((not_f hb217)))
        refine wp_skip ?_
        refine then_norm ?_
        refine wp_seq ?_
        refine sr ?_
        refine s_mv (v := u133) rfl ?_
        refine s_mv (v := u2_0) rfl ?_
        refine s_call [u2_0] _ Try.func11 rfl rfl rfl (c_laws_toFormS a2 h _ (hC.getP 4 rfl)) (fun ret218 w220 hR219 => ?_)
        obtain ⟨r221, u222, f223, rfl, h, hr224, hf225, hB226⟩ := hR219
        refine ⟨_, rfl, ?_⟩
        replace hC := hC.push hB226 (Tr.item (Tr.sl 59 (TrForm 76)) r221 [u222] f223) hr224 hf225
        refine s_call [u133, u222] _ Try.func15 rfl rfl rfl (c_laws_eqFormS r132 r221 h _ (Tr.trep _ (hC.getM 7 rfl).1) (Tr.trep _ (hC.getM 0 rfl).1)) (fun ret229 w231 hR230 => ?_)
        obtain ⟨r232, rfl, h, hB233⟩ := hR230
        refine ⟨_, rfl, ?_⟩
        replace hC := hC.grow hB233
        refine s_not rfl ?_
        refine dn ?_
        refine cw_cond rfl (fun hb234 => ?_) (fun hb234 => ?_)
        ·replace h := ift h (ne_t (not_t hb234))
         refine sr ?_
         refine s_as (v := .bool false) rfl ?_
         refine dn ?_
         refine wp_ret (then_ret ?_)
         refine ret1 (fn := Try.f3) rfl ?_ ⟨false, rfl, h, hC.below⟩ (.inl rfl)
         exact res_tmp rfl
        ·replace h := iff_ h (not_not_intro ((not_f hb234)))
         refine wp_skip ?_
         refine then_norm ?_
         refine sr ?_
         refine s_as (v := .int .i64 1) rfl ?_
         refine dn ?_
         refine sr ?_
         refine s_loadA hC 9 [u97, u98] rfl ag30 rfl rfl rfl ?_
         refine s_mv (v := .int .i64 1) rfl ?_
         refine s_call [.agg #[u97, u98], .int .i64 1] _ Try.func16 rfl rfl rfl (c_laws_markAlgebra r96 1 h _ (hC.getM 10 rfl) (hC.getM 11 rfl) (hC.mm 10 11 rfl rfl (by decide))) (fun ret235 w237 hR236 => ?_)
         obtain ⟨r238, m240, rfl, h, hm241, hm242, hB239⟩ := hR236
         refine ⟨_, rfl, ?_⟩
         replace hC := hC.turnL hB239 (M' := [Tr.item (Tr.sl 59 (TrForm 76)) r221 [u222] f223, own 2 1 u203 r202.length ((EI .i64).encs r202), own 2 1 u178 r177.degrees.length ((EI .i64).encs r177.degrees), Tr.item (Tr.sl 59 (TrForm 76)) r177.images [u179] f185, blk b160 30 [u144, u145], own 2 1 u144 r143.degrees.length ((EI .i64).encs r143.degrees), Tr.item (Tr.sl 59 (TrForm 76)) r143.images [u145] f152, Tr.item (Tr.sl 59 (TrForm 76)) r132 [u133] f134, own 2 1 u120 r119.length ((EI .i64).encs r119), blk b112 30 [u97, u98], own 2 1 u97 m240.degrees.length ((EI .i64).encs m240.degrees), Tr.item (Tr.sl 59 (TrForm 76)) m240.images [u98] f104, blk b89 30 [u73, u74], own 2 1 u73 r72.degrees.length ((EI .i64).encs r72.degrees), Tr.item (Tr.sl 59 (TrForm 76)) r72.images [u74] f81, Tr.item (Tr.sl 59 (TrForm 76)) r61 [u62] f63, own 2 1 u49 r48.length ((EI .i64).encs r48), own 2 1 u30 r29.degrees.length ((EI .i64).encs r29.degrees), Tr.item (Tr.sl 59 (TrForm 76)) r29.images [u31] f37, blk b7 25 [u0_0, u0_1]]) rfl (fun x_ hx_ => (List.mem_append.1 hx_).elim (fun hx_ => ⟨_, List.mem_of_getElem? (i := 10) rfl, hx_⟩) (fun hx_ => ⟨_, List.mem_of_getElem? (i := 11) rfl, hx_⟩)) (by simp only [List.mem_cons, List.not_mem_nil, or_false, forall_eq_or_imp, forall_eq]; exact ⟨(hC.stay 0 rfl hB239 (fun x_ hq_ hx_ => (List.mem_append.1 hx_).elim (fun hx_ => hC.mm 0 10 rfl rfl (by decide) x_ hq_ hx_) (fun hx_ => hC.mm 0 11 rfl rfl (by decide) x_ hq_ hx_))), (hC.stay 1 rfl hB239 (fun x_ hq_ hx_ => (List.mem_append.1 hx_).elim (fun hx_ => hC.mm 1 10 rfl rfl (by decide) x_ hq_ hx_) (fun hx_ => hC.mm 1 11 rfl rfl (by decide) x_ hq_ hx_))), (hC.stay 2 rfl hB239 (fun x_ hq_ hx_ => (List.mem_append.1 hx_).elim (fun hx_ => hC.mm 2 10 rfl rfl (by decide) x_ hq_ hx_) (fun hx_ => hC.mm 2 11 rfl rfl (by decide) x_ hq_ hx_))), (hC.stay 3 rfl hB239 (fun x_ hq_ hx_ => (List.mem_append.1 hx_).elim (fun hx_ => hC.mm 3 10 rfl rfl (by decide) x_ hq_ hx_) (fun hx_ => hC.mm 3 11 rfl rfl (by decide) x_ hq_ hx_))), (hC.stay 4 rfl hB239 (fun x_ hq_ hx_ => (List.mem_append.1 hx_).elim (fun hx_ => hC.mm 4 10 rfl rfl (by decide) x_ hq_ hx_) (fun hx_ => hC.mm 4 11 rfl rfl (by decide) x_ hq_ hx_))), (hC.stay 5 rfl hB239 (fun x_ hq_ hx_ => (List.mem_append.1 hx_).elim (fun hx_ => hC.mm 5 10 rfl rfl (by decide) x_ hq_ hx_) (fun hx_ => hC.mm 5 11 rfl rfl (by decide) x_ hq_ hx_))), (hC.stay 6 rfl hB239 (fun x_ hq_ hx_ => (List.mem_append.1 hx_).elim (fun hx_ => hC.mm 6 10 rfl rfl (by decide) x_ hq_ hx_) (fun hx_ => hC.mm 6 11 rfl rfl (by decide) x_ hq_ hx_))), (hC.stay 7 rfl hB239 (fun x_ hq_ hx_ => (List.mem_append.1 hx_).elim (fun hx_ => hC.mm 7 10 rfl rfl (by decide) x_ hq_ hx_) (fun hx_ => hC.mm 7 11 rfl rfl (by decide) x_ hq_ hx_))), (hC.stay 8 rfl hB239 (fun x_ hq_ hx_ => (List.mem_append.1 hx_).elim (fun hx_ => hC.mm 8 10 rfl rfl (by decide) x_ hq_ hx_) (fun hx_ => hC.mm 8 11 rfl rfl (by decide) x_ hq_ hx_))), (hC.stay 9 rfl hB239 (fun x_ hq_ hx_ => (List.mem_append.1 hx_).elim (fun hx_ => hC.mm 9 10 rfl rfl (by decide) x_ hq_ hx_) (fun hx_ => hC.mm 9 11 rfl rfl (by decide) x_ hq_ hx_))), hm241, hm242, (hC.stay 12 rfl hB239 (fun x_ hq_ hx_ => (List.mem_append.1 hx_).elim (fun hx_ => hC.mm 12 10 rfl rfl (by decide) x_ hq_ hx_) (fun hx_ => hC.mm 12 11 rfl rfl (by decide) x_ hq_ hx_))), (hC.stay 13 rfl hB239 (fun x_ hq_ hx_ => (List.mem_append.1 hx_).elim (fun hx_ => hC.mm 13 10 rfl rfl (by decide) x_ hq_ hx_) (fun hx_ => hC.mm 13 11 rfl rfl (by decide) x_ hq_ hx_))), (hC.stay 14 rfl hB239 (fun x_ hq_ hx_ => (List.mem_append.1 hx_).elim (fun hx_ => hC.mm 14 10 rfl rfl (by decide) x_ hq_ hx_) (fun hx_ => hC.mm 14 11 rfl rfl (by decide) x_ hq_ hx_))), (hC.stay 15 rfl hB239 (fun x_ hq_ hx_ => (List.mem_append.1 hx_).elim (fun hx_ => hC.mm 15 10 rfl rfl (by decide) x_ hq_ hx_) (fun hx_ => hC.mm 15 11 rfl rfl (by decide) x_ hq_ hx_))), (hC.stay 16 rfl hB239 (fun x_ hq_ hx_ => (List.mem_append.1 hx_).elim (fun hx_ => hC.mm 16 10 rfl rfl (by decide) x_ hq_ hx_) (fun hx_ => hC.mm 16 11 rfl rfl (by decide) x_ hq_ hx_))), (hC.stay 17 rfl hB239 (fun x_ hq_ hx_ => (List.mem_append.1 hx_).elim (fun hx_ => hC.mm 17 10 rfl rfl (by decide) x_ hq_ hx_) (fun hx_ => hC.mm 17 11 rfl rfl (by decide) x_ hq_ hx_))), (hC.stay 18 rfl hB239 (fun x_ hq_ hx_ => (List.mem_append.1 hx_).elim (fun hx_ => hC.mm 18 10 rfl rfl (by decide) x_ hq_ hx_) (fun hx_ => hC.mm 18 11 rfl rfl (by decide) x_ hq_ hx_))), (hC.stay 19 rfl hB239 (fun x_ hq_ hx_ => (List.mem_append.1 hx_).elim (fun hx_ => hC.mm 19 10 rfl rfl (by decide) x_ hq_ hx_) (fun hx_ => hC.mm 19 11 rfl rfl (by decide) x_ hq_ hx_)))⟩)
         refine s_as (v := .int .i64 r238) rfl ?_
         refine dn ?_
         refine sr ?_
         refine s_mv (v := u120) rfl ?_
         refine s_mv (v := .int .i64 r238) rfl ?_
         refine s_call [u120, .int .i64 r238] _ Try.func17 rfl rfl rfl (c_laws_markInt64S r119 r238 h _ (hC.getM 8 rfl)) (fun ret243 w245 hR244 => ?_)
         obtain ⟨r246, m248, rfl, h, hm249, hB247⟩ := hR244
         refine ⟨_, rfl, ?_⟩
         replace hC := hC.turnL hB247 (M' := [Tr.item (Tr.sl 59 (TrForm 76)) r221 [u222] f223, own 2 1 u203 r202.length ((EI .i64).encs r202), own 2 1 u178 r177.degrees.length ((EI .i64).encs r177.degrees), Tr.item (Tr.sl 59 (TrForm 76)) r177.images [u179] f185, blk b160 30 [u144, u145], own 2 1 u144 r143.degrees.length ((EI .i64).encs r143.degrees), Tr.item (Tr.sl 59 (TrForm 76)) r143.images [u145] f152, Tr.item (Tr.sl 59 (TrForm 76)) r132 [u133] f134, own 2 1 u120 m248.length ((EI .i64).encs m248), blk b112 30 [u97, u98], own 2 1 u97 m240.degrees.length ((EI .i64).encs m240.degrees), Tr.item (Tr.sl 59 (TrForm 76)) m240.images [u98] f104, blk b89 30 [u73, u74], own 2 1 u73 r72.degrees.length ((EI .i64).encs r72.degrees), Tr.item (Tr.sl 59 (TrForm 76)) r72.images [u74] f81, Tr.item (Tr.sl 59 (TrForm 76)) r61 [u62] f63, own 2 1 u49 r48.length ((EI .i64).encs r48), own 2 1 u30 r29.degrees.length ((EI .i64).encs r29.degrees), Tr.item (Tr.sl 59 (TrForm 76)) r29.images [u31] f37, blk b7 25 [u0_0, u0_1]]) rfl (fun x_ hx_ => ⟨_, List.mem_of_getElem? (i := 8) rfl, hx_⟩) (by simp only [List.mem_cons, List.not_mem_nil, or_false, forall_eq_or_imp, forall_eq]; exact ⟨(hC.stay 0 rfl hB247 (fun x_ hq_ hx_ => hC.mm 0 8 rfl rfl (by decide) x_ hq_ hx_)), (hC.stay 1 rfl hB247 (fun x_ hq_ hx_ => hC.mm 1 8 rfl rfl (by decide) x_ hq_ hx_)), (hC.stay 2 rfl hB247 (fun x_ hq_ hx_ => hC.mm 2 8 rfl rfl (by decide) x_ hq_ hx_)), (hC.stay 3 rfl hB247 (fun x_ hq_ hx_ => hC.mm 3 8 rfl rfl (by decide) x_ hq_ hx_)), (hC.stay 4 rfl hB247 (fun x_ hq_ hx_ => hC.mm 4 8 rfl rfl (by decide) x_ hq_ hx_)), (hC.stay 5 rfl hB247 (fun x_ hq_ hx_ => hC.mm 5 8 rfl rfl (by decide) x_ hq_ hx_)), (hC.stay 6 rfl hB247 (fun x_ hq_ hx_ => hC.mm 6 8 rfl rfl (by decide) x_ hq_ hx_)), (hC.stay 7 rfl hB247 (fun x_ hq_ hx_ => hC.mm 7 8 rfl rfl (by decide) x_ hq_ hx_)), hm249, (hC.stay 9 rfl hB247 (fun x_ hq_ hx_ => hC.mm 9 8 rfl rfl (by decide) x_ hq_ hx_)), (hC.stay 10 rfl hB247 (fun x_ hq_ hx_ => hC.mm 10 8 rfl rfl (by decide) x_ hq_ hx_)), (hC.stay 11 rfl hB247 (fun x_ hq_ hx_ => hC.mm 11 8 rfl rfl (by decide) x_ hq_ hx_)), (hC.stay 12 rfl hB247 (fun x_ hq_ hx_ => hC.mm 12 8 rfl rfl (by decide) x_ hq_ hx_)), (hC.stay 13 rfl hB247 (fun x_ hq_ hx_ => hC.mm 13 8 rfl rfl (by decide) x_ hq_ hx_)), (hC.stay 14 rfl hB247 (fun x_ hq_ hx_ => hC.mm 14 8 rfl rfl (by decide) x_ hq_ hx_)), (hC.stay 15 rfl hB247 (fun x_ hq_ hx_ => hC.mm 15 8 rfl rfl (by decide) x_ hq_ hx_)), (hC.stay 16 rfl hB247 (fun x_ hq_ hx_ => hC.mm 16 8 rfl rfl (by decide) x_ hq_ hx_)), (hC.stay 17 rfl hB247 (fun x_ hq_ hx_ => hC.mm 17 8 rfl rfl (by decide) x_ hq_ hx_)), (hC.stay 18 rfl hB247 (fun x_ hq_ hx_ => hC.mm 18 8 rfl rfl (by decide) x_ hq_ hx_)), (hC.stay 19 rfl hB247 (fun x_ hq_ hx_ => hC.mm 19 8 rfl rfl (by decide) x_ hq_ hx_))⟩)
         refine s_as (v := .int .i64 r246) rfl ?_
         refine dn ?_
         refine sr ?_
         refine s_mv (v := u133) rfl ?_
         refine s_mv (v := .int .i64 r246) rfl ?_
         refine s_call [u133, .int .i64 r246] _ Try.func18 rfl rfl rfl (c_laws_markFormS r132 r246 h _ (hC.getM 7 rfl)) (fun ret250 w252 hR251 => ?_)
         obtain ⟨r253, m255, rfl, h, hm256, hB254⟩ := hR251
         refine ⟨_, rfl, ?_⟩
         replace hC := hC.turnL hB254 (M' := [Tr.item (Tr.sl 59 (TrForm 76)) r221 [u222] f223, own 2 1 u203 r202.length ((EI .i64).encs r202), own 2 1 u178 r177.degrees.length ((EI .i64).encs r177.degrees), Tr.item (Tr.sl 59 (TrForm 76)) r177.images [u179] f185, blk b160 30 [u144, u145], own 2 1 u144 r143.degrees.length ((EI .i64).encs r143.degrees), Tr.item (Tr.sl 59 (TrForm 76)) r143.images [u145] f152, Tr.item (Tr.sl 59 (TrForm 76)) m255 [u133] f134, own 2 1 u120 m248.length ((EI .i64).encs m248), blk b112 30 [u97, u98], own 2 1 u97 m240.degrees.length ((EI .i64).encs m240.degrees), Tr.item (Tr.sl 59 (TrForm 76)) m240.images [u98] f104, blk b89 30 [u73, u74], own 2 1 u73 r72.degrees.length ((EI .i64).encs r72.degrees), Tr.item (Tr.sl 59 (TrForm 76)) r72.images [u74] f81, Tr.item (Tr.sl 59 (TrForm 76)) r61 [u62] f63, own 2 1 u49 r48.length ((EI .i64).encs r48), own 2 1 u30 r29.degrees.length ((EI .i64).encs r29.degrees), Tr.item (Tr.sl 59 (TrForm 76)) r29.images [u31] f37, blk b7 25 [u0_0, u0_1]]) rfl (fun x_ hx_ => ⟨_, List.mem_of_getElem? (i := 7) rfl, hx_⟩) (by simp only [List.mem_cons, List.not_mem_nil, or_false, forall_eq_or_imp, forall_eq]; exact ⟨(hC.stay 0 rfl hB254 (fun x_ hq_ hx_ => hC.mm 0 7 rfl rfl (by decide) x_ hq_ hx_)), (hC.stay 1 rfl hB254 (fun x_ hq_ hx_ => hC.mm 1 7 rfl rfl (by decide) x_ hq_ hx_)), (hC.stay 2 rfl hB254 (fun x_ hq_ hx_ => hC.mm 2 7 rfl rfl (by decide) x_ hq_ hx_)), (hC.stay 3 rfl hB254 (fun x_ hq_ hx_ => hC.mm 3 7 rfl rfl (by decide) x_ hq_ hx_)), (hC.stay 4 rfl hB254 (fun x_ hq_ hx_ => hC.mm 4 7 rfl rfl (by decide) x_ hq_ hx_)), (hC.stay 5 rfl hB254 (fun x_ hq_ hx_ => hC.mm 5 7 rfl rfl (by decide) x_ hq_ hx_)), (hC.stay 6 rfl hB254 (fun x_ hq_ hx_ => hC.mm 6 7 rfl rfl (by decide) x_ hq_ hx_)), hm256, (hC.stay 8 rfl hB254 (fun x_ hq_ hx_ => hC.mm 8 7 rfl rfl (by decide) x_ hq_ hx_)), (hC.stay 9 rfl hB254 (fun x_ hq_ hx_ => hC.mm 9 7 rfl rfl (by decide) x_ hq_ hx_)), (hC.stay 10 rfl hB254 (fun x_ hq_ hx_ => hC.mm 10 7 rfl rfl (by decide) x_ hq_ hx_)), (hC.stay 11 rfl hB254 (fun x_ hq_ hx_ => hC.mm 11 7 rfl rfl (by decide) x_ hq_ hx_)), (hC.stay 12 rfl hB254 (fun x_ hq_ hx_ => hC.mm 12 7 rfl rfl (by decide) x_ hq_ hx_)), (hC.stay 13 rfl hB254 (fun x_ hq_ hx_ => hC.mm 13 7 rfl rfl (by decide) x_ hq_ hx_)), (hC.stay 14 rfl hB254 (fun x_ hq_ hx_ => hC.mm 14 7 rfl rfl (by decide) x_ hq_ hx_)), (hC.stay 15 rfl hB254 (fun x_ hq_ hx_ => hC.mm 15 7 rfl rfl (by decide) x_ hq_ hx_)), (hC.stay 16 rfl hB254 (fun x_ hq_ hx_ => hC.mm 16 7 rfl rfl (by decide) x_ hq_ hx_)), (hC.stay 17 rfl hB254 (fun x_ hq_ hx_ => hC.mm 17 7 rfl rfl (by decide) x_ hq_ hx_)), (hC.stay 18 rfl hB254 (fun x_ hq_ hx_ => hC.mm 18 7 rfl rfl (by decide) x_ hq_ hx_)), (hC.stay 19 rfl hB254 (fun x_ hq_ hx_ => hC.mm 19 7 rfl rfl (by decide) x_ hq_ hx_))⟩)
         refine s_as (v := .int .i64 r253) rfl ?_
         refine dn ?_
         refine wp_seq ?_
         refine sr ?_
         refine s_mv (v := .int .i64 r253) rfl ?_
         refine s_lss rfl rfl ?_
         refine s_mv (v := .bool (decide (r253 < 0))) rfl ?_
         refine bsplit (decide (r253 < 0)) (fun hb257 => ?_) (fun hb257 => ?_)
         ·replace h := ift h (ct hb257)
          refine guardOff (b := true) 2 91 rfl (tr rfl (congrArg _ hb257)) (by decide) ?_
          refine guardOff (b := true) 2 91 rfl (tr rfl (congrArg _ hb257)) (by decide) ?_
          refine guardOff (b := true) 2 91 rfl (tr rfl (congrArg _ hb257)) (by decide) ?_
          refine guardOff (b := true) 2 91 rfl (tr rfl (congrArg _ hb257)) (by decide) ?_
          refine s_pick (v := .bool true) (b := true) (tr rfl (congrArg _ hb257)) rfl ?_
          refine s_mv (v := .bool true) rfl ?_
          refine guardOff (b := true) 8 97 rfl (tr rfl (congrArg _ rfl)) (by decide) ?_
          refine guardOff (b := true) 8 97 rfl (tr rfl (congrArg _ rfl)) (by decide) ?_
          refine guardOff (b := true) 8 97 rfl (tr rfl (congrArg _ rfl)) (by decide) ?_
          refine s_pick (v := .bool true) (b := true) rfl rfl ?_
          refine dn ?_
          refine cw_true rfl rfl ?_
          refine sr ?_
          refine s_as (v := .bool false) rfl ?_
          refine dn ?_
          refine wp_ret (then_ret ?_)
          refine ret1 (fn := Try.f3) rfl ?_ ⟨false, rfl, h, hC.below⟩ (.inl rfl)
          exact res_tmp rfl
         ·replace h := iff_ h (cf hb257)
          refine guardOn 2 91 rfl rfl hb257 ?_
          refine s_loadA hC 4 [u144, u145] rfl ag30 rfl rfl rfl ?_
          refine guardOn 2 91 rfl rfl hb257 ?_
          refine s_loadA hC 12 [u73, u74] rfl ag30 rfl rfl rfl ?_
          refine guardOn 2 91 rfl rfl hb257 ?_
          refine s_call [.agg #[u144, u145], .agg #[u73, u74]] _ Try.func13 rfl rfl rfl (c_laws_eqAlgebra (⟨r143.degrees, r143.images⟩ : Alg) (⟨r72.degrees, r72.images⟩ : Alg) h _ (alg_mk (own_repE (hC.getM 5 rfl)) (Tr.trep _ (hC.getM 6 rfl).1)) (alg_mk (own_repE (hC.getM 13 rfl)) (Tr.trep _ (hC.getM 14 rfl).1))) (fun ret258 w260 hR259 => ?_)
          obtain ⟨r261, rfl, h, hB262⟩ := hR259
          refine ⟨_, rfl, ?_⟩
          replace hC := hC.grow hB262
          refine guardOn 2 91 rfl rfl hb257 ?_
          refine s_not rfl ?_
          refine s_pick (v := .bool (!r261)) (b := false) (tr rfl (congrArg _ hb257)) rfl ?_
          refine s_mv (v := .bool (!r261)) rfl ?_
          refine bsplit (!r261) (fun hb263 => ?_) (fun hb263 => ?_)
          ·replace h := ift h (ne_t (not_t hb263))
           refine guardOff (b := true) 8 97 rfl (tr rfl (congrArg _ hb263)) (by decide) ?_
           refine guardOff (b := true) 8 97 rfl (tr rfl (congrArg _ hb263)) (by decide) ?_
           refine guardOff (b := true) 8 97 rfl (tr rfl (congrArg _ hb263)) (by decide) ?_
           refine s_pick (v := .bool true) (b := true) (tr rfl (congrArg _ hb263)) rfl ?_
           refine dn ?_
           refine cw_true rfl rfl ?_
           refine sr ?_
           refine s_as (v := .bool false) rfl ?_
           refine dn ?_
           refine wp_ret (then_ret ?_)
           refine ret1 (fn := Try.f3) rfl ?_ ⟨false, rfl, h, hC.below⟩ (.inl rfl)
           exact res_tmp rfl
          ·replace h := iff_ h (not_not_intro ((not_f hb263)))
           refine guardOn 8 97 rfl rfl hb263 ?_
           refine s_mv (v := .int .i64 r149) rfl ?_
           refine guardOn 8 97 rfl rfl hb263 ?_
           refine s_mv (v := .int .i64 r78) rfl ?_
           refine guardOn 8 97 rfl rfl hb263 ?_
           refine s_neq rfl rfl ?_
           refine s_pick (v := .bool (decide (r149 ≠ r78))) (b := false) (tr rfl (congrArg _ hb263)) rfl ?_
           refine dn ?_
           refine cw_false rfl hb170 ?_
           refine wp_skip ?_
           refine then_norm ?_
           refine sr ?_
           refine s_as (v := .int .i64 1) rfl ?_
           refine dn ?_
           refine sr ?_
           refine s_loadA hC 4 [u144, u145] rfl ag30 rfl rfl rfl ?_
           refine s_mv (v := .int .i64 1) rfl ?_
           refine s_call [.agg #[u144, u145], .int .i64 1] _ Try.func16 rfl rfl rfl (c_laws_markAlgebra (⟨r143.degrees, r143.images⟩ : Alg) 1 h _ (hC.getM 5 rfl) (hC.getM 6 rfl) (hC.mm 5 6 rfl rfl (by decide))) (fun ret264 w266 hR265 => ?_)
           obtain ⟨r267, m269, rfl, h, hm270, hm271, hB268⟩ := hR265
           refine ⟨_, rfl, ?_⟩
           replace hC := hC.turnL hB268 (M' := [Tr.item (Tr.sl 59 (TrForm 76)) r221 [u222] f223, own 2 1 u203 r202.length ((EI .i64).encs r202), own 2 1 u178 r177.degrees.length ((EI .i64).encs r177.degrees), Tr.item (Tr.sl 59 (TrForm 76)) r177.images [u179] f185, blk b160 30 [u144, u145], own 2 1 u144 m269.degrees.length ((EI .i64).encs m269.degrees), Tr.item (Tr.sl 59 (TrForm 76)) m269.images [u145] f152, Tr.item (Tr.sl 59 (TrForm 76)) m255 [u133] f134, own 2 1 u120 m248.length ((EI .i64).encs m248), blk b112 30 [u97, u98], own 2 1 u97 m240.degrees.length ((EI .i64).encs m240.degrees), Tr.item (Tr.sl 59 (TrForm 76)) m240.images [u98] f104, blk b89 30 [u73, u74], own 2 1 u73 r72.degrees.length ((EI .i64).encs r72.degrees), Tr.item (Tr.sl 59 (TrForm 76)) r72.images [u74] f81, Tr.item (Tr.sl 59 (TrForm 76)) r61 [u62] f63, own 2 1 u49 r48.length ((EI .i64).encs r48), own 2 1 u30 r29.degrees.length ((EI .i64).encs r29.degrees), Tr.item (Tr.sl 59 (TrForm 76)) r29.images [u31] f37, blk b7 25 [u0_0, u0_1]]) rfl (fun x_ hx_ => (List.mem_append.1 hx_).elim (fun hx_ => ⟨_, List.mem_of_getElem? (i := 5) rfl, hx_⟩) (fun hx_ => ⟨_, List.mem_of_getElem? (i := 6) rfl, hx_⟩)) (by simp only [List.mem_cons, List.not_mem_nil, or_false, forall_eq_or_imp, forall_eq]; exact ⟨(hC.stay 0 rfl hB268 (fun x_ hq_ hx_ => (List.mem_append.1 hx_).elim (fun hx_ => hC.mm 0 5 rfl rfl (by decide) x_ hq_ hx_) (fun hx_ => hC.mm 0 6 rfl rfl (by decide) x_ hq_ hx_))), (hC.stay 1 rfl hB268 (fun x_ hq_ hx_ => (List.mem_append.1 hx_).elim (fun hx_ => hC.mm 1 5 rfl rfl (by decide) x_ hq_ hx_) (fun hx_ => hC.mm 1 6 rfl rfl (by decide) x_ hq_ hx_))), (hC.stay 2 rfl hB268 (fun x_ hq_ hx_ => (List.mem_append.1 hx_).elim (fun hx_ => hC.mm 2 5 rfl rfl (by decide) x_ hq_ hx_) (fun hx_ => hC.mm 2 6 rfl rfl (by decide) x_ hq_ hx_))), (hC.stay 3 rfl hB268 (fun x_ hq_ hx_ => (List.mem_append.1 hx_).elim (fun hx_ => hC.mm 3 5 rfl rfl (by decide) x_ hq_ hx_) (fun hx_ => hC.mm 3 6 rfl rfl (by decide) x_ hq_ hx_))), (hC.stay 4 rfl hB268 (fun x_ hq_ hx_ => (List.mem_append.1 hx_).elim (fun hx_ => hC.mm 4 5 rfl rfl (by decide) x_ hq_ hx_) (fun hx_ => hC.mm 4 6 rfl rfl (by decide) x_ hq_ hx_))), hm270, hm271, (hC.stay 7 rfl hB268 (fun x_ hq_ hx_ => (List.mem_append.1 hx_).elim (fun hx_ => hC.mm 7 5 rfl rfl (by decide) x_ hq_ hx_) (fun hx_ => hC.mm 7 6 rfl rfl (by decide) x_ hq_ hx_))), (hC.stay 8 rfl hB268 (fun x_ hq_ hx_ => (List.mem_append.1 hx_).elim (fun hx_ => hC.mm 8 5 rfl rfl (by decide) x_ hq_ hx_) (fun hx_ => hC.mm 8 6 rfl rfl (by decide) x_ hq_ hx_))), (hC.stay 9 rfl hB268 (fun x_ hq_ hx_ => (List.mem_append.1 hx_).elim (fun hx_ => hC.mm 9 5 rfl rfl (by decide) x_ hq_ hx_) (fun hx_ => hC.mm 9 6 rfl rfl (by decide) x_ hq_ hx_))), (hC.stay 10 rfl hB268 (fun x_ hq_ hx_ => (List.mem_append.1 hx_).elim (fun hx_ => hC.mm 10 5 rfl rfl (by decide) x_ hq_ hx_) (fun hx_ => hC.mm 10 6 rfl rfl (by decide) x_ hq_ hx_))), (hC.stay 11 rfl hB268 (fun x_ hq_ hx_ => (List.mem_append.1 hx_).elim (fun hx_ => hC.mm 11 5 rfl rfl (by decide) x_ hq_ hx_) (fun hx_ => hC.mm 11 6 rfl rfl (by decide) x_ hq_ hx_))), (hC.stay 12 rfl hB268 (fun x_ hq_ hx_ => (List.mem_append.1 hx_).elim (fun hx_ => hC.mm 12 5 rfl rfl (by decide) x_ hq_ hx_) (fun hx_ => hC.mm 12 6 rfl rfl (by decide) x_ hq_ hx_))), (hC.stay 13 rfl hB268 (fun x_ hq_ hx_ => (List.mem_append.1 hx_).elim (fun hx_ => hC.mm 13 5 rfl rfl (by decide) x_ hq_ hx_) (fun hx_ => hC.mm 13 6 rfl rfl (by decide) x_ hq_ hx_))), (hC.stay 14 rfl hB268 (fun x_ hq_ hx_ => (List.mem_append.1 hx_).elim (fun hx_ => hC.mm 14 5 rfl rfl (by decide) x_ hq_ hx_) (fun hx_ => hC.mm 14 6 rfl rfl (by decide) x_ hq_ hx_))), (hC.stay 15 rfl hB268 (fun x_ hq_ hx_ => (List.mem_append.1 hx_).elim (fun hx_ => hC.mm 15 5 rfl rfl (by decide) x_ hq_ hx_) (fun hx_ => hC.mm 15 6 rfl rfl (by decide) x_ hq_ hx_))), (hC.stay 16 rfl hB268 (fun x_ hq_ hx_ => (List.mem_append.1 hx_).elim (fun hx_ => hC.mm 16 5 rfl rfl (by decide) x_ hq_ hx_) (fun hx_ => hC.mm 16 6 rfl rfl (by decide) x_ hq_ hx_))), (hC.stay 17 rfl hB268 (fun x_ hq_ hx_ => (List.mem_append.1 hx_).elim (fun hx_ => hC.mm 17 5 rfl rfl (by decide) x_ hq_ hx_) (fun hx_ => hC.mm 17 6 rfl rfl (by decide) x_ hq_ hx_))), (hC.stay 18 rfl hB268 (fun x_ hq_ hx_ => (List.mem_append.1 hx_).elim (fun hx_ => hC.mm 18 5 rfl rfl (by decide) x_ hq_ hx_) (fun hx_ => hC.mm 18 6 rfl rfl (by decide) x_ hq_ hx_))), (hC.stay 19 rfl hB268 (fun x_ hq_ hx_ => (List.mem_append.1 hx_).elim (fun hx_ => hC.mm 19 5 rfl rfl (by decide) x_ hq_ hx_) (fun hx_ => hC.mm 19 6 rfl rfl (by decide) x_ hq_ hx_)))⟩)
           refine s_as (v := .int .i64 r267) rfl ?_
           refine dn ?_
           refine sr ?_
           refine s_as (v := .int .i64 1) rfl ?_
           refine dn ?_
           refine sr ?_
           refine s_loadA hC 4 [u144, u145] rfl ag30 rfl rfl rfl ?_
           refine s_mv (v := .int .i64 1) rfl ?_
           refine s_call [.agg #[u144, u145], .int .i64 1] _ Try.func19 rfl rfl rfl (c_laws_heldAlgebra (⟨m269.degrees, m269.images⟩ : Alg) 1 h _ (alg_mk (own_repE (hC.getM 5 rfl)) (Tr.trep _ (hC.getM 6 rfl).1))) (fun ret272 w274 hR273 => ?_)
           obtain ⟨r275, rfl, h, hB276⟩ := hR273
           refine ⟨_, rfl, ?_⟩
           replace hC := hC.grow hB276
           refine s_as (v := .int .i64 r275) rfl ?_
           refine dn ?_
           refine wp_seq ?_
           refine sr ?_
           refine s_mv (v := .int .i64 r275) rfl ?_
           refine s_lss rfl rfl ?_
           refine dn ?_
           refine cw_cond rfl (fun hb277 => ?_) (fun hb277 => ?_)
           ·replace h := ift h (ct hb277)
            refine sr ?_
            refine s_as (v := .bool false) rfl ?_
            refine dn ?_
            refine wp_ret (then_ret ?_)
            refine ret1 (fn := Try.f3) rfl ?_ ⟨false, rfl, h, hC.below⟩ (.inl rfl)
            exact res_tmp rfl
           ·replace h := iff_ h (cf hb277)
            refine wp_skip ?_
            refine then_norm ?_
            refine wp_seq ?_
            refine sr ?_
            refine s_mv (v := .int .i64 r275) rfl ?_
            refine s_mv (v := .int .i64 r267) rfl ?_
            refine s_neq rfl rfl ?_
            refine dn ?_
            refine cw_cond rfl (fun hb278 => ?_) (fun hb278 => ?_)
            ·replace h := ift h (ct hb278)
             refine sr ?_
             refine s_as (v := .bool false) rfl ?_
             refine dn ?_
             refine wp_ret (then_ret ?_)
             refine ret1 (fn := Try.f3) rfl ?_ ⟨false, rfl, h, hC.below⟩ (.inl rfl)
             exact res_tmp rfl
            ·replace h := iff_ h (cf hb278)
             refine wp_skip ?_
             refine then_norm ?_
             refine sr ?_
             refine s_loadA hC 19 [u0_0, u0_1] rfl ag25 rfl rfl rfl ?_
             refine s_call [.agg #[u0_0, u0_1]] _ Try.func9 rfl rfl rfl (c_laws_toAlgebra (⟨a0.degrees, a0.images⟩ : Alg) h _ (alg_mk (hC.getP 1 rfl) (hC.getP 0 rfl))) (fun ret279 w281 hR280 => ?_)
             obtain ⟨r282, u283, u284, f285, rfl, h, hr286, hf287, hB288⟩ := hR280
             refine ⟨_, rfl, ?_⟩
             replace hC := hC.push hB288 (Tr.item (TrAlg 2 76 59) r282 [u283, u284] f285) hr286 hf287
             obtain ⟨f290, ho291, ho292, hs293, hs294, hd295⟩ := alg_split (hC.getM 0 rfl)
             replace hC := hC.split (a := own 2 1 u283 r282.degrees.length ((EI .i64).encs r282.degrees)) (b := Tr.item (Tr.sl 59 (TrForm 76)) r282.images [u284] f290) hs293 hs294 ⟨ho291, ho292, hd295⟩
             refine s_mv (v := u1_0) rfl ?_
             refine s_call [u1_0] _ Try.func10 rfl rfl rfl (c_laws_toInt64S a1 h _ (hC.getP 3 rfl)) (fun ret298 w300 hR299 => ?_)
             obtain ⟨r301, u302, f303, rfl, h, hr304, hf305, hB306⟩ := hR299
             refine ⟨_, rfl, ?_⟩
             replace hC := hC.push hB306 (Tr.item (Tr.sl 2 ((EI .i64).tr)) r301 [u302] f303) hr304 hf305
             obtain ⟨ho308, hf309⟩ := flat_tr (hC.getM 0 rfl).1
             subst hf309
             replace hC := hC.recast (c := own 2 1 u302 r301.length ((EI .i64).encs r301)) (fun _ h_ => h_) (fun _ => ho308)
             refine s_mv (v := u2_0) rfl ?_
             refine s_call [u2_0] _ Try.func11 rfl rfl rfl (c_laws_toFormS a2 h _ (hC.getP 4 rfl)) (fun ret311 w313 hR312 => ?_)
             obtain ⟨r314, u315, f316, rfl, h, hr317, hf318, hB319⟩ := hR312
             refine ⟨_, rfl, ?_⟩
             replace hC := hC.push hB319 (Tr.item (Tr.sl 59 (TrForm 76)) r314 [u315] f316) hr317 hf318
             refine s_call [.agg #[u283, u284], u302, u315] _ Try.func12 rfl rfl rfl (c_impl_FibrationOver r282 r301 r314 h _ (alg_mk (own_repE (hC.getM 2 rfl)) (Tr.trep _ (hC.getM 3 rfl).1)) (own_repE (hC.getM 1 rfl)) (Tr.trep _ (hC.getM 0 rfl).1)) (fun ret322 w324 hR323 => ?_)
             obtain ⟨r325, u326, u327, f328, r331, rfl, h, hr329, hf330, hB332⟩ := hR323
             refine ⟨_, rfl, ?_⟩
             replace hC := hC.push hB332 (Tr.item (TrAlg 2 76 59) r325 [u326, u327] f328) hr329 hf330
             obtain ⟨f334, ho335, ho336, hs337, hs338, hd339⟩ := alg_split (hC.getM 0 rfl)
             replace hC := hC.split (a := own 2 1 u326 r325.degrees.length ((EI .i64).encs r325.degrees)) (b := Tr.item (Tr.sl 59 (TrForm 76)) r325.images [u327] f334) hs337 hs338 ⟨ho335, ho336, hd339⟩
             refine s_mv (v := .tuple #[.agg #[u326, u327], .int .i64 r331]) rfl ?_
             refine s_ext (v := .agg #[u326, u327]) rfl rfl ?_
             refine s_ext (v := .int .i64 r331) rfl rfl ?_
             refine s_alloc hC [.slice none 0 0, .slice none 0 0] z30 rfl fun b342 w344 hB_ hC => ?_
             refine s_store (v := .agg #[u326, u327]) hC 0 [u326, u327] [u326, u327] rfl ag30.size rfl rfl rfl rfl (all_c (own_oneC (hC.getM 1 rfl)) (all_c (rep_oneC (Tr.trep _ (hC.getM 2 rfl).1)) rfl)) (Nat.le_of_ble_eq_true rfl) rfl fun w345 hC => ?_
             refine s_as (v := .int .i64 r331) rfl ?_
             refine dn ?_
             refine wp_seq ?_
             refine sr ?_
             refine s_loadA hC 0 [u326, u327] rfl ag30 rfl rfl rfl ?_
             refine s_loadA hC 19 [u73, u74] rfl ag30 rfl rfl rfl ?_
             refine s_call [.agg #[u326, u327], .agg #[u73, u74]] _ Try.func13 rfl rfl rfl (c_laws_eqAlgebra r325 (⟨r72.degrees, r72.images⟩ : Alg) h _ (alg_mk (own_repE (hC.getM 1 rfl)) (Tr.trep _ (hC.getM 2 rfl).1)) (alg_mk (own_repE (hC.getM 20 rfl)) (Tr.trep _ (hC.getM 21 rfl).1))) (fun ret346 w348 hR347 => ?_)
             obtain ⟨r349, rfl, h, hB350⟩ := hR347
             refine ⟨_, rfl, ?_⟩
             replace hC := hC.grow hB350
             refine s_not rfl ?_
             refine s_mv (v := .bool (!r349)) rfl ?_
             refine bsplit (!r349) (fun hb351 => ?_) (fun hb351 => ?_)
             ·replace h := ift h (ne_t (not_t hb351))
              refine guardOff (b := true) 4 127 rfl (tr rfl (congrArg _ hb351)) (by decide) ?_
              refine guardOff (b := true) 4 127 rfl (tr rfl (congrArg _ hb351)) (by decide) ?_
              refine guardOff (b := true) 4 127 rfl (tr rfl (congrArg _ hb351)) (by decide) ?_
              refine s_pick (v := .bool true) (b := true) (tr rfl (congrArg _ hb351)) rfl ?_
              refine dn ?_
              refine cw_true rfl rfl ?_
              refine sr ?_
              refine s_as (v := .bool false) rfl ?_
              refine dn ?_
              refine wp_ret (then_ret ?_)
              refine ret1 (fn := Try.f3) rfl ?_ ⟨false, rfl, h, hC.below⟩ (.inl rfl)
              exact res_tmp rfl
             ·replace h := iff_ h (not_not_intro ((not_f hb351)))
              refine guardOn 4 127 rfl rfl hb351 ?_
              refine s_mv (v := .int .i64 r331) rfl ?_
              refine guardOn 4 127 rfl rfl hb351 ?_
              refine s_mv (v := .int .i64 r78) rfl ?_
              refine guardOn 4 127 rfl rfl hb351 ?_
              refine s_neq rfl rfl ?_
              refine s_pick (v := .bool (decide (r331 ≠ r78))) (b := false) (tr rfl (congrArg _ hb351)) rfl ?_
              refine dn ?_
              refine cw_cond rfl (fun hb352 => ?_) (fun hb352 => ?_)
              ·replace h := ift h (ct hb352)
               refine sr ?_
               refine s_as (v := .bool false) rfl ?_
               refine dn ?_
               refine wp_ret (then_ret ?_)
               refine ret1 (fn := Try.f3) rfl ?_ ⟨false, rfl, h, hC.below⟩ (.inl rfl)
               exact res_tmp rfl
              ·replace h := iff_ h (cf hb352)
               refine wp_skip ?_
               refine then_norm ?_
               refine sr ?_
               refine s_as (v := .int .i64 1) rfl ?_
               refine dn ?_
               refine sr ?_
               refine s_loadA hC 11 [u144, u145] rfl ag30 rfl rfl rfl ?_
               refine s_mv (v := .int .i64 1) rfl ?_
               refine s_call [.agg #[u144, u145], .int .i64 1] _ Try.func19 rfl rfl rfl (c_laws_heldAlgebra (⟨m269.degrees, m269.images⟩ : Alg) 1 h _ (alg_mk (own_repE (hC.getM 12 rfl)) (Tr.trep _ (hC.getM 13 rfl).1))) (fun ret353 w355 hR354 => ?_)
               obtain ⟨r356, rfl, h, hB357⟩ := hR354
               refine ⟨_, rfl, ?_⟩
               replace hC := hC.grow hB357
               refine s_as (v := .int .i64 r356) rfl ?_
               refine dn ?_
               refine wp_seq ?_
               refine sr ?_
               refine s_mv (v := .int .i64 r356) rfl ?_
               refine s_lss rfl rfl ?_
               refine dn ?_
               refine cw_cond rfl (fun hb358 => ?_) (fun hb358 => ?_)
               ·replace h := ift h (ct hb358)
                refine sr ?_
                refine s_as (v := .bool false) rfl ?_
                refine dn ?_
                refine wp_ret (then_ret ?_)
                refine ret1 (fn := Try.f3) rfl ?_ ⟨false, rfl, h, hC.below⟩ (.inl rfl)
                exact res_tmp rfl
               ·replace h := iff_ h (cf hb358)
                refine wp_skip ?_
                refine then_norm ?_
                refine wp_seq ?_
                refine sr ?_
                refine s_mv (v := .int .i64 r356) rfl ?_
                refine s_mv (v := .int .i64 r267) rfl ?_
                refine s_neq rfl rfl ?_
                refine dn ?_
                refine cw_cond rfl (fun hb359 => ?_) (fun hb359 => ?_)
                ·replace h := ift h (ct hb359)
                 refine sr ?_
                 refine s_as (v := .bool false) rfl ?_
                 refine dn ?_
                 refine wp_ret (then_ret ?_)
                 refine ret1 (fn := Try.f3) rfl ?_ ⟨false, rfl, h, hC.below⟩ (.inl rfl)
                 exact res_tmp rfl
                ·replace h := iff_ h (cf hb359)
                 refine wp_skip ?_
                 refine then_norm ?_
                 refine sr ?_
                 refine s_as (v := .bool true) rfl ?_
                 refine dn ?_
                 refine wp_ret ?_
                 refine ret1 (fn := Try.f3) rfl ?_ ⟨true, rfl, h, hC.below⟩ (.inl rfl)
                 exact res_tmp rfl
end Go.Proofs.Ytgmldfmfpodgiaa
