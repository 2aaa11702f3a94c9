/- Printed by vcgen.py: functions of the program as predicates, and that the machine's calls meet them. -/
import Derived.Test.YtjngkbalaipdbaaGCa
set_option linter.unusedVariables false
set_option linter.unusedSimpArgs false
set_option maxRecDepth 4000
set_option maxHeartbeats 4000000
namespace Go.Proofs.Ytjngkbalaipdbaa
open Go Go.RowKit Vc
def f_impl_sum_times (a0 : List (A8 × Int)) (a1 : List Int) (a2 : List (A8 × Int)) (K : List (A8 × Int) → Prop) : Prop :=
 mapP (fun (q15 : A8 × Int) (s236 : (List (A8 × Int))) next237 => mapP (fun (q258 : A8 × Int) (s317 : (List (A8 × Int))) next318 => f_impl_power_times q15.1 a1 q258.1 (fun r334 r335 => (if r335 ≠ 0 then f_impl_sum_add s317 r334 (Int.tmod (IntKind.i64.wrap ((IntKind.i64.wrap (r335 * q15.2)) * q258.2)) 10007) (fun m346 => next318 m346) else next318 s317))) (fun (s317 : (List (A8 × Int))) => next237 s317) a2.length a2 s236) (fun (s236 : (List (A8 × Int))) => K s236) a0.length a0 ([] : List (A8 × Int))
theorem c_impl_sum_times (a0 : List (A8 × Int)) (a1 : List Int) (a2 : List (A8 × Int)) {b0 : Nat} {b2 : Nat} {u1_0 : Value} {fp1 : List Nat} {K : List (A8 × Int) → Prop} (h : f_impl_sum_times a0 a1 a2 K) (w0 : World) (q0 : (mapI (kvA .i64) (vvI .i64) b0 a0).holds w0) (q1 : ((EI .i64).ty.sl).rep a1 [u1_0] fp1 w0) (q2 : (mapI (kvA .i64) (vvI .i64) b2 a2).holds w0) :
  Calls Try.prog 112 #[.map (some b0), u1_0, .map (some b2)] w0 fun e w' => ∃ (r0 : List (A8 × Int)) (zb0 : Nat), 
   e = .returned (.map (some zb0)) ∧ K r0 ∧ (mapI (kvA .i64) (vvI .i64) zb0 r0).holds w' ∧ w0.heap.size ≤ zb0 ∧ Bel w0 w' := by
 unfold f_impl_sum_times at h
 refine calls_of (args := [.map (some b0), u1_0, .map (some b2)]) Try.func112 rfl 48 Try.ntmps112 (Nat.le_of_ble_eq_true rfl) ?_
 have hC := Ctx.start (X := Nox) w0 [Ty.item ((EI .i64).ty.sl) a1 [u1_0] fp1, mapI (kvA .i64) (vvI .i64) b0 a0, mapI (kvA .i64) (vvI .i64) b2 a2] (by simp only [List.mem_cons, List.not_mem_nil, or_false, forall_eq_or_imp, forall_eq]; exact ⟨q1, q0, q2⟩)
 refine sr ?_
 refine s_as (v := .map none) rfl ?_
 refine dn ?_
 refine sr ?_
 refine s_makeMap hC (kvA .i64) (vvI .i64) fun b4 w6 hB_ hC => ?_
 refine s_as (v := .map (some b4)) rfl ?_
 refine dn ?_
 refine wp_seq ?_
 refine sr ?_
 refine s_mv (v := .map (some b0)) rfl ?_
 refine s_range hC 1 rfl Try.underlying90 rfl fun r7 es8 ck9 w14 hB_ hn10 hbn11 hC => ?_
 refine dn ?_
 refine wp_block ?_
 refine loopM (S := (List (A8 × Int))) _ _ (fun l17 s236 e_ w_ => ∃ (la19 : Option MapEntry), Slots e_ [(1, u1_0), (2, .map (some b2)), (6, .map none), (7, .map (some b4)), (16, .pointer (some ⟨r7, 0, none⟩))] ∧ Ctx Nox w0 w_ [itI (kvA .i64) (vvI .i64) r7 b0 es8 ck9 la19 l17, mapI (kvA .i64) (vvI .i64) b4 s236] [mapE b0 es8 ck9, Ty.item ((EI .i64).ty.sl) a1 [u1_0] fp1, mapI (kvA .i64) (vvI .i64) b0 a0, mapI (kvA .i64) (vvI .i64) b2 a2]) ?_ (l0 := a0) (s0 := ([] : List (A8 × Int))) ?_ h
 ·clear hC h
  rintro l17 s236 e_ w240 next237 K238 ⟨la19, hS_, hC⟩ h hK239
  refine sr ?_
  refine s_next hC 0 0 rfl rfl hn10 hbn11 (sx hS_ 4 rfl) (fun hr241 => ?_) (fun q15 l16 ent242 w245 hp18 hk243 hv244 hC => ?_)
  ·replace h := h.1 hr241
   refine s_ext (v := .bool false) rfl rfl ?_
   refine dn ?_
   refine wp_seq ?_
   refine cw_false rfl rfl ?_
   refine wp_exit (then_exit (then_exit (exit_in ?_)))
   refine then_norm ?_
   refine sr ?_
   refine s_mv (v := .map (some b4)) (sx hS_ 3 rfl) ?_
   refine s_as (v := .map (some b4)) rfl ?_
   refine dn ?_
   refine wp_ret ?_
   refine ret1 (fn := Try.f112) rfl ?_ ⟨s236, b4, rfl, h, (hC.getM 1 rfl), (map_fresh hC 1 rfl), hC.below⟩ (.inl rfl)
   exact res_tmp rfl
  ·replace h := h.2 q15 l16 hp18
   refine s_ext (v := .bool true) rfl rfl ?_
   refine dn ?_
   refine wp_seq ?_
   refine cw_true rfl rfl ?_
   refine wp_skip ?_
   refine then_norm ?_
   refine wp_block ?_
   refine sr ?_
   refine s_entry hC 0 0 q15 rfl rfl hn10 (sx hS_ 4 rfl) hk243 hv244 ?_
   refine s_ext (v := .agg (List.toArray (A8.enc .i64 q15.1))) rfl rfl ?_
   refine s_ext (v := .int .i64 q15.2) rfl rfl ?_
   refine s_alloc hC (A8.enc .i64 A8.zero) z85 rfl fun b246 w248 hB_ hC => ?_
   refine s_store (v := .agg (List.toArray (A8.enc .i64 q15.1))) hC 0 (A8.enc .i64 q15.1) (A8.enc .i64 q15.1) rfl ag85.size rfl rfl rfl rfl rfl (Nat.le_of_ble_eq_true rfl) rfl fun w249 hC => ?_
   refine s_as (v := .int .i64 q15.2) rfl ?_
   refine dn ?_
   refine sr ?_
   refine s_mv (v := .map (some b2)) (sx hS_ 1 rfl) ?_
   refine s_range hC 3 rfl Try.underlying90 rfl fun r250 es251 ck252 w257 hB_ hn253 hbn254 hC => ?_
   refine dn ?_
   refine wp_block ?_
   refine loopM (S := (List (A8 × Int))) _ _ (fun l260 s317 e_ w_ => ∃ (la262 : Option MapEntry), Slots e_ [(1, u1_0), (2, .map (some b2)), (6, .map none), (7, .map (some b4)), (8, .pointer (some ⟨b246, 0, none⟩)), (9, .int .i64 q15.2), (16, .pointer (some ⟨r7, 0, none⟩)), (17, .tuple #[.bool true, .agg (List.toArray (A8.enc .i64 q15.1)), .int .i64 q15.2]), (18, .bool true), (19, .tuple #[.agg (List.toArray (A8.enc .i64 q15.1)), .int .i64 q15.2]), (20, .agg (List.toArray (A8.enc .i64 q15.1))), (21, .int .i64 q15.2), (22, .map (some b2)), (23, .pointer (some ⟨r250, 0, none⟩))] ∧ Ctx Nox w0 w_ [itI (kvA .i64) (vvI .i64) r250 b2 es251 ck252 la262 l260, blk b246 85 (A8.enc .i64 q15.1), itI (kvA .i64) (vvI .i64) r7 b0 es8 ck9 (some ent242) l16, mapI (kvA .i64) (vvI .i64) b4 s317] [mapE b2 es251 ck252, mapE b0 es8 ck9, Ty.item ((EI .i64).ty.sl) a1 [u1_0] fp1, mapI (kvA .i64) (vvI .i64) b0 a0, mapI (kvA .i64) (vvI .i64) b2 a2]) ?_ (l0 := a2) (s0 := s236) ?_ h
   ·clear hC h
    rintro l260 s317 e_ w321 next318 K319 ⟨la262, hS_, hC⟩ h hK320
    refine sr ?_
    refine s_next hC 0 0 rfl rfl hn253 hbn254 (sx hS_ 13 rfl) (fun hr322 => ?_) (fun q258 l259 ent323 w326 hp261 hk324 hv325 hC => ?_)
    ·replace h := h.1 hr322
     refine s_ext (v := .bool false) rfl rfl ?_
     refine dn ?_
     refine wp_seq ?_
     refine cw_false rfl rfl ?_
     refine wp_exit (then_exit (then_exit (exit_in ?_)))
     refine blk_norm ?_
     replace hC := hC.sel [2, 3] [1, 2, 3, 4] (M' := [itI (kvA .i64) (vvI .i64) r7 b0 es8 ck9 (some ent242) l16, mapI (kvA .i64) (vvI .i64) b4 s317]) (Ps' := [mapE b0 es8 ck9, Ty.item ((EI .i64).ty.sl) a1 [u1_0] fp1, mapI (kvA .i64) (vvI .i64) b0 a0, mapI (kvA .i64) (vvI .i64) b2 a2]) (by decide) rfl rfl
     exact hK239 q15 l16 s317 _ _ hp18 ⟨(some ent242), (sk (sx hS_ 0 rfl) (sk (sx hS_ 1 rfl) (sk (sx hS_ 2 rfl) (sk (sx hS_ 3 rfl) (sk (sx hS_ 6 rfl) sn))))), hC⟩ h
    ·replace h := h.2 q258 l259 hp261
     refine s_ext (v := .bool true) rfl rfl ?_
     refine dn ?_
     refine wp_seq ?_
     refine cw_true rfl rfl ?_
     refine wp_skip ?_
     refine then_norm ?_
     refine wp_block ?_
     refine sr ?_
     refine s_entry hC 0 0 q258 rfl rfl hn253 (sx hS_ 13 rfl) hk324 hv325 ?_
     refine s_ext (v := .agg (List.toArray (A8.enc .i64 q258.1))) rfl rfl ?_
     refine s_ext (v := .int .i64 q258.2) rfl rfl ?_
     refine s_alloc hC (A8.enc .i64 A8.zero) z85 rfl fun b327 w329 hB_ hC => ?_
     refine s_store (v := .agg (List.toArray (A8.enc .i64 q258.1))) hC 0 (A8.enc .i64 q258.1) (A8.enc .i64 q258.1) rfl ag85.size rfl rfl rfl rfl rfl (Nat.le_of_ble_eq_true rfl) rfl fun w330 hC => ?_
     refine s_as (v := .int .i64 q258.2) rfl ?_
     refine dn ?_
     refine sr ?_
     refine s_loadA hC 2 (A8.enc .i64 q15.1) rfl ag85 (sx hS_ 4 rfl) rfl rfl ?_
     refine s_mv (v := u1_0) (sx hS_ 0 rfl) ?_
     refine s_loadA hC 0 (A8.enc .i64 q258.1) rfl ag85 rfl rfl rfl ?_
     refine s_call [.agg (List.toArray (A8.enc .i64 q15.1)), u1_0, .agg (List.toArray (A8.enc .i64 q258.1))] _ Try.func65 rfl rfl rfl (c_impl_power_times q15.1 a1 q258.1 h _ (hC.getP 2 rfl)) (fun ret331 w333 hR332 => ?_)
     obtain ⟨r334, r335, rfl, h, hB336⟩ := hR332
     refine ⟨_, rfl, ?_⟩
     replace hC := hC.grow hB336
     refine s_mv (v := .tuple #[.agg (List.toArray (A8.enc .i64 r334)), .int .i64 r335]) rfl ?_
     refine s_ext (v := .agg (List.toArray (A8.enc .i64 r334))) rfl rfl ?_
     refine s_ext (v := .int .i64 r335) rfl rfl ?_
     refine s_alloc hC (A8.enc .i64 A8.zero) z85 rfl fun b337 w339 hB_ hC => ?_
     refine s_store (v := .agg (List.toArray (A8.enc .i64 r334))) hC 0 (A8.enc .i64 r334) (A8.enc .i64 r334) rfl ag85.size rfl rfl rfl rfl rfl (Nat.le_of_ble_eq_true rfl) rfl fun w340 hC => ?_
     refine s_as (v := .int .i64 r335) rfl ?_
     refine dn ?_
     refine sr ?_
     refine s_mv (v := .int .i64 r335) rfl ?_
     refine s_neq rfl rfl ?_
     refine dn ?_
     refine cw_cond rfl (fun hb341 => ?_) (fun hb341 => ?_)
     ·replace h := ift h (ct hb341)
      refine cw_region ?_
      refine s_mv (v := .map (some b4)) (sx hS_ 3 rfl) ?_
      refine s_loadA hC 0 (A8.enc .i64 r334) rfl ag85 rfl rfl rfl ?_
      refine s_mv (v := .int .i64 r335) rfl ?_
      refine s_mv (v := .int .i64 q15.2) (sx hS_ 5 rfl) ?_
      refine s_mul rfl rfl ?_
      refine s_mv (v := .int .i64 q258.2) rfl ?_
      refine s_mul rfl rfl ?_
      refine s_rem rfl rfl (by decide) ?_
      refine s_call [.map (some b4), .agg (List.toArray (A8.enc .i64 r334)), .int .i64 (Int.tmod (IntKind.i64.wrap ((IntKind.i64.wrap (r335 * q15.2)) * q258.2)) 10007)] _ Try.func123 rfl rfl rfl (c_impl_sum_add s317 r334 (Int.tmod (IntKind.i64.wrap ((IntKind.i64.wrap (r335 * q15.2)) * q258.2)) 10007) h _ (hC.getM 5 rfl)) (fun ret342 w344 hR343 => ?_)
      obtain ⟨m346, rfl, h, hm347, hB345⟩ := hR343
      refine ⟨_, rfl, ?_⟩
      replace hC := hC.turnB 5 rfl hB345 rfl rfl hm347
      refine done ?_
      refine blk_norm ?_
      replace hC := hC.sel [2, 3, 4, 5] [0, 1, 2, 3, 4] (M' := [itI (kvA .i64) (vvI .i64) r250 b2 es251 ck252 (some ent323) l259, blk b246 85 (A8.enc .i64 q15.1), itI (kvA .i64) (vvI .i64) r7 b0 es8 ck9 (some ent242) l16, mapI (kvA .i64) (vvI .i64) b4 m346]) (Ps' := [mapE b2 es251 ck252, mapE b0 es8 ck9, Ty.item ((EI .i64).ty.sl) a1 [u1_0] fp1, mapI (kvA .i64) (vvI .i64) b0 a0, mapI (kvA .i64) (vvI .i64) b2 a2]) (by decide) rfl rfl
      exact hK320 q258 l259 m346 _ _ hp261 ⟨(some ent323), (sk (sx hS_ 0 rfl) (sk (sx hS_ 1 rfl) (sk (sx hS_ 2 rfl) (sk (sx hS_ 3 rfl) (sk (sx hS_ 4 rfl) (sk (sx hS_ 5 rfl) (sk (sx hS_ 6 rfl) (sk (sx hS_ 7 rfl) (sk (sx hS_ 8 rfl) (sk (sx hS_ 9 rfl) (sk (sx hS_ 10 rfl) (sk (sx hS_ 11 rfl) (sk (sx hS_ 12 rfl) (sk (sx hS_ 13 rfl) sn)))))))))))))), hC⟩ h
     ·replace h := iff_ h (cf hb341)
      refine wp_skip ?_
      refine blk_norm ?_
      replace hC := hC.sel [2, 3, 4, 5] [0, 1, 2, 3, 4] (M' := [itI (kvA .i64) (vvI .i64) r250 b2 es251 ck252 (some ent323) l259, blk b246 85 (A8.enc .i64 q15.1), itI (kvA .i64) (vvI .i64) r7 b0 es8 ck9 (some ent242) l16, mapI (kvA .i64) (vvI .i64) b4 s317]) (Ps' := [mapE b2 es251 ck252, mapE b0 es8 ck9, Ty.item ((EI .i64).ty.sl) a1 [u1_0] fp1, mapI (kvA .i64) (vvI .i64) b0 a0, mapI (kvA .i64) (vvI .i64) b2 a2]) (by decide) rfl rfl
      exact hK320 q258 l259 s317 _ _ hp261 ⟨(some ent323), (sk (sx hS_ 0 rfl) (sk (sx hS_ 1 rfl) (sk (sx hS_ 2 rfl) (sk (sx hS_ 3 rfl) (sk (sx hS_ 4 rfl) (sk (sx hS_ 5 rfl) (sk (sx hS_ 6 rfl) (sk (sx hS_ 7 rfl) (sk (sx hS_ 8 rfl) (sk (sx hS_ 9 rfl) (sk (sx hS_ 10 rfl) (sk (sx hS_ 11 rfl) (sk (sx hS_ 12 rfl) (sk (sx hS_ 13 rfl) sn)))))))))))))), hC⟩ h
   ·skip
    exact ⟨none, (sk (sx hS_ 0 rfl) (sk (sx hS_ 1 rfl) (sk (sx hS_ 2 rfl) (sk (sx hS_ 3 rfl) (sk rfl (sk rfl (sk (sx hS_ 4 rfl) (sk rfl (sk rfl (sk rfl (sk rfl (sk rfl (sk rfl (sk rfl sn)))))))))))))), hC⟩
 ·skip
  exact ⟨none, (sk rfl (sk rfl (sk rfl (sk rfl (sk rfl sn))))), hC⟩
def f_spec_IsMonomial (a0 : List Int) (a1 : A8) (K : Bool → Prop) : Prop :=
 f_spec_l01Degrees a0 (fun r8 => (if r8 = true then f_spec_l01Mono a0 a1 (fun r14 => K r14) else K false))
theorem c_spec_IsMonomial (a0 : List Int) (a1 : A8) {u0_0 : Value} {fp0 : List Nat} {K : Bool → Prop} (h : f_spec_IsMonomial a0 a1 K) (w0 : World) (q0 : ((EI .i64).ty.sl).rep a0 [u0_0] fp0 w0) :
  Calls Try.prog 51 #[u0_0, .agg (List.toArray (A8.enc .u8 a1))] w0 fun e w' => ∃ (r0 : Bool), 
   e = .returned (.bool r0) ∧ K r0 ∧ Bel w0 w' := by
 unfold f_spec_IsMonomial at h
 refine calls_of (args := [u0_0, .agg (List.toArray (A8.enc .u8 a1))]) Try.func51 rfl 12 Try.ntmps51 (Nat.le_of_ble_eq_true rfl) ?_
 have hC := Ctx.start (X := Nox) w0 [Ty.item ((EI .i64).ty.sl) a0 [u0_0] fp0] (by simp only [List.mem_cons, List.not_mem_nil, or_false, forall_eq_or_imp, forall_eq]; exact q0)
 refine sr ?_
 refine s_box (v := .agg (List.toArray (A8.enc .u8 a1))) hC (A8.enc .u8 a1) rfl rfl fun b2 w4 hB_ hC => ?_
 refine s_as (v := .bool false) rfl ?_
 refine dn ?_
 refine sr ?_
 refine s_mv (v := u0_0) rfl ?_
 refine s_call [u0_0] _ Try.func61 rfl rfl rfl (c_spec_l01Degrees a0 h _ (hC.getP 0 rfl)) (fun ret5 w7 hR6 => ?_)
 obtain ⟨r8, rfl, h, hB9⟩ := hR6
 refine ⟨_, rfl, ?_⟩
 replace hC := hC.grow hB9
 refine s_mv (v := .bool r8) rfl ?_
 refine bsplit r8 (fun hb10 => ?_) (fun hb10 => ?_)
 ·replace h := ift h (hb10)
  refine guardOn 2 7 rfl rfl hb10 ?_
  refine s_mv (v := u0_0) rfl ?_
  refine guardOn 2 7 rfl rfl hb10 ?_
  refine s_loadA hC 0 (A8.enc .u8 a1) rfl ag24 rfl rfl rfl ?_
  refine guardOn 2 7 rfl rfl hb10 ?_
  refine s_call [u0_0, .agg (List.toArray (A8.enc .u8 a1))] _ Try.func62 rfl rfl rfl (c_spec_l01Mono a0 a1 h _ (hC.getP 0 rfl)) (fun ret11 w13 hR12 => ?_)
  obtain ⟨r14, rfl, h, hB15⟩ := hR12
  refine ⟨_, rfl, ?_⟩
  replace hC := hC.grow hB15
  refine s_pick (v := .bool r14) (b := true) (tr rfl (congrArg _ hb10)) rfl ?_
  refine s_as (v := .bool r14) rfl ?_
  refine dn ?_
  refine wp_ret ?_
  refine ret1 (fn := Try.f51) rfl ?_ ⟨r14, rfl, h, hC.below⟩ (.inl rfl)
  exact res_tmp rfl
 ·replace h := iff_ h (ne_t hb10)
  refine guardOff (b := false) 2 7 rfl (tr rfl (congrArg _ hb10)) (by decide) ?_
  refine guardOff (b := false) 2 7 rfl (tr rfl (congrArg _ hb10)) (by decide) ?_
  refine guardOff (b := false) 2 7 rfl (tr rfl (congrArg _ hb10)) (by decide) ?_
  refine s_pick (v := .bool false) (b := false) (tr rfl (congrArg _ hb10)) rfl ?_
  refine s_as (v := .bool false) rfl ?_
  refine dn ?_
  refine wp_ret ?_
  refine ret1 (fn := Try.f51) rfl ?_ ⟨false, rfl, h, hC.below⟩ (.inl rfl)
  exact res_tmp rfl
def f_impl_AddForms (a0 : List Int) (a1 : Vc.Form) (a2 : Vc.Form) (K : Vc.Form → Int → Prop) : Prop :=
 f_impl_IsForm a0 a1 (fun r20 => (if ¬ (r20 = true) then K (⟨[]⟩ : Vc.Form) 1 else f_impl_IsForm a0 a2 (fun r27 => (if ¬ (r27 = true) then K (⟨[]⟩ : Vc.Form) 1 else f_impl_sumOf a1 (fun r34 => f_impl_sumOf a2 (fun r43 => f_impl_sum_addAll r34 r43 1 (fun m53 => f_impl_sum_form m53 (fun r58 r63 => K r58 r63))))))))
theorem c_impl_AddForms (a0 : List Int) (a1 : Vc.Form) (a2 : Vc.Form) {u0_0 : Value} {u1_0 : Value} {u2_0 : Value} {fp0 : List Nat} {fp1 : List Nat} {fp2 : List Nat} {K : Vc.Form → Int → Prop} (h : f_impl_AddForms a0 a1 a2 K) (w0 : World) (q0 : ((EI .i64).ty.sl).rep a0 [u0_0] fp0 w0) (q1 : TForm.rep a1 [u1_0] fp1 w0) (q2 : TForm.rep a2 [u2_0] fp2 w0) :
  Calls Try.prog 42 #[u0_0, .agg #[u1_0], .agg #[u2_0]] w0 fun e w' => ∃ (r0 : Vc.Form) (z0_0 : Value) (fz0 : List Nat) (r1 : Int), 
   e = .returned (.tuple #[.agg #[z0_0], .int .i64 r1]) ∧ K r0 r1 ∧ (Tr.item (TrForm 93) r0 [z0_0] fz0).holds w' ∧ (∀ b, b ∈ fz0 → w0.heap.size ≤ b) ∧ Bel w0 w' := by
 unfold f_impl_AddForms at h
 refine calls_of (args := [u0_0, .agg #[u1_0], .agg #[u2_0]]) Try.func42 rfl 30 Try.ntmps42 (Nat.le_of_ble_eq_true rfl) ?_
 have hC := Ctx.start (X := Nox) w0 [Ty.item ((EI .i64).ty.sl) a0 [u0_0] fp0, Ty.item TForm a1 [u1_0] fp1, Ty.item TForm a2 [u2_0] fp2] (by simp only [List.mem_cons, List.not_mem_nil, or_false, forall_eq_or_imp, forall_eq]; exact ⟨q0, q1, q2⟩)
 have hp4 := (hC.getP 1 rfl)
 replace hC := hC.derive 1 rfl (Ty.item ETerm.ty.sl a1.terms [u1_0] fp1) (fun _ => (form_parts hp4)) (fun _ hb_ => hb_)
 have hp6 := (hC.getP 3 rfl)
 replace hC := hC.derive 3 rfl (Ty.item ETerm.ty.sl a2.terms [u2_0] fp2) (fun _ => (form_parts hp6)) (fun _ hb_ => hb_)
 refine sr ?_
 refine s_box (v := .agg #[u1_0]) hC [u1_0] rfl rfl fun b8 w10 hB_ hC => ?_
 refine s_box (v := .agg #[u2_0]) hC [u2_0] rfl rfl fun b11 w13 hB_ hC => ?_
 refine s_alloc hC [.slice none 0 0] z51 rfl fun b14 w16 hB_ hC => ?_
 refine s_as (v := .int .i64 0) rfl ?_
 refine dn ?_
 refine wp_seq ?_
 refine sr ?_
 refine s_mv (v := u0_0) rfl ?_
 refine s_loadA hC 2 [u1_0] rfl ag51 rfl rfl rfl ?_
 refine s_call [u0_0, .agg #[u1_0]] _ Try.func90 rfl rfl rfl (c_impl_IsForm a0 a1 h _ (hC.getP 2 rfl) (form_mk (hC.getP 1 rfl))) (fun ret17 w19 hR18 => ?_)
 obtain ⟨r20, rfl, h, hB21⟩ := hR18
 refine ⟨_, rfl, ?_⟩
 replace hC := hC.grow hB21
 refine s_not rfl ?_
 refine s_mv (v := .bool (!r20)) rfl ?_
 refine bsplit (!r20) (fun hb22 => ?_) (fun hb22 => ?_)
 ·replace h := ift h (ne_t (not_t hb22))
  refine guardOff (b := true) 4 13 rfl (tr rfl (congrArg _ hb22)) (by decide) ?_
  refine guardOff (b := true) 4 13 rfl (tr rfl (congrArg _ hb22)) (by decide) ?_
  refine guardOff (b := true) 4 13 rfl (tr rfl (congrArg _ hb22)) (by decide) ?_
  refine guardOff (b := true) 4 13 rfl (tr rfl (congrArg _ hb22)) (by decide) ?_
  refine s_pick (v := .bool true) (b := true) (tr rfl (congrArg _ hb22)) rfl ?_
  refine dn ?_
  refine cw_true rfl rfl ?_
  refine sr ?_
  refine s_build [] rfl (bl51   _) ?_
  refine s_store (v := .agg #[.slice none 0 0]) hC 0 [.slice none 0 0] [.slice none 0 0] rfl ag51.size rfl rfl rfl rfl rfl (Nat.le_of_ble_eq_true rfl) rfl fun w23 hC => ?_
  refine s_as (v := .int .i64 1) rfl ?_
  refine dn ?_
  refine wp_ret (then_ret ?_)
  refine ret2 (fn := Try.f42) rfl ?_ ?_ ⟨(⟨[]⟩ : Vc.Form), .slice none 0 0, [], 1, rfl, h, (form_join (nil_item _ _ _)), (fun b hb => absurd hb (by simp)), hC.below⟩ (.inl rfl)
  ·exact res_cellA hC 0 rfl ag51 rfl rfl
  ·exact res_tmp rfl
 ·replace h := iff_ h (not_not_intro ((not_f hb22)))
  refine guardOn 4 13 rfl rfl hb22 ?_
  refine s_mv (v := u0_0) rfl ?_
  refine guardOn 4 13 rfl rfl hb22 ?_
  refine s_loadA hC 1 [u2_0] rfl ag51 rfl rfl rfl ?_
  refine guardOn 4 13 rfl rfl hb22 ?_
  refine s_call [u0_0, .agg #[u2_0]] _ Try.func90 rfl rfl rfl (c_impl_IsForm a0 a2 h _ (hC.getP 2 rfl) (form_mk (hC.getP 0 rfl))) (fun ret24 w26 hR25 => ?_)
  obtain ⟨r27, rfl, h, hB28⟩ := hR25
  refine ⟨_, rfl, ?_⟩
  replace hC := hC.grow hB28
  refine guardOn 4 13 rfl rfl hb22 ?_
  refine s_not rfl ?_
  refine s_pick (v := .bool (!r27)) (b := false) (tr rfl (congrArg _ hb22)) rfl ?_
  refine dn ?_
  refine cw_cond rfl (fun hb29 => ?_) (fun hb29 => ?_)
  ·replace h := ift h (ne_t (not_t hb29))
   refine sr ?_
   refine s_build [] rfl (bl51   _) ?_
   refine s_store (v := .agg #[.slice none 0 0]) hC 0 [.slice none 0 0] [.slice none 0 0] rfl ag51.size rfl rfl rfl rfl rfl (Nat.le_of_ble_eq_true rfl) rfl fun w30 hC => ?_
   refine s_as (v := .int .i64 1) rfl ?_
   refine dn ?_
   refine wp_ret (then_ret ?_)
   refine ret2 (fn := Try.f42) rfl ?_ ?_ ⟨(⟨[]⟩ : Vc.Form), .slice none 0 0, [], 1, rfl, h, (form_join (nil_item _ _ _)), (fun b hb => absurd hb (by simp)), hC.below⟩ (.inl rfl)
   ·exact res_cellA hC 0 rfl ag51 rfl rfl
   ·exact res_tmp rfl
  ·replace h := iff_ h (not_not_intro ((not_f hb29)))
   refine wp_skip ?_
   refine then_norm ?_
   refine sr ?_
   refine s_loadA hC 2 [u1_0] rfl ag51 rfl rfl rfl ?_
   refine s_call [.agg #[u1_0]] _ Try.func91 rfl rfl rfl (c_impl_sumOf a1 h _ (form_mk (hC.getP 1 rfl))) (fun ret31 w33 hR32 => ?_)
   obtain ⟨r34, b35, rfl, h, hr36, hf37, hB38⟩ := hR32
   refine ⟨_, rfl, ?_⟩
   replace hC := hC.push hB38 (mapI (kvA .i64) (vvI .i64) b35 r34) hr36 (fun b_ hb_ => by obtain rfl := List.mem_singleton.1 hb_; exact hf37)
   refine s_as (v := .map (some b35)) rfl ?_
   refine dn ?_
   refine sr ?_
   refine s_mv (v := .map (some b35)) rfl ?_
   refine s_loadA hC 2 [u2_0] rfl ag51 rfl rfl rfl ?_
   refine s_call [.agg #[u2_0]] _ Try.func91 rfl rfl rfl (c_impl_sumOf a2 h _ (form_mk (hC.getP 0 rfl))) (fun ret40 w42 hR41 => ?_)
   obtain ⟨r43, b44, rfl, h, hr45, hf46, hB47⟩ := hR41
   refine ⟨_, rfl, ?_⟩
   replace hC := hC.push hB47 (mapI (kvA .i64) (vvI .i64) b44 r43) hr45 (fun b_ hb_ => by obtain rfl := List.mem_singleton.1 hb_; exact hf46)
   refine s_call [.map (some b35), .map (some b44), .int .i64 1] _ Try.func92 rfl rfl rfl (c_impl_sum_addAll r34 r43 1 h _ (hC.getM 1 rfl) (fun c_ hc_ e_ => hC.mm 0 1 rfl rfl (by decide) c_ hc_ (List.mem_singleton.2 e_)) (hC.getM 0 rfl)) (fun ret49 w51 hR50 => ?_)
   obtain ⟨m53, rfl, h, hm54, hB52⟩ := hR50
   refine ⟨_, rfl, ?_⟩
   replace hC := hC.turnB 1 rfl hB52 rfl rfl hm54
   refine dn ?_
   refine sr ?_
   refine s_mv (v := .map (some b35)) rfl ?_
   refine s_call [.map (some b35)] _ Try.func66 rfl rfl rfl (c_impl_sum_form m53 h _ (hC.getM 1 rfl)) (fun ret55 w57 hR56 => ?_)
   obtain ⟨r58, u59, f60, r63, rfl, h, hr61, hf62, hB64⟩ := hR56
   refine ⟨_, rfl, ?_⟩
   replace hC := hC.push hB64 (Tr.item (TrForm 93) r58 [u59] f60) hr61 hf62
   obtain ⟨ho66, hf67⟩ := form_split (hC.getM 0 rfl)
   subst hf67
   replace hC := hC.recast (c := own 93 9 u59 r58.terms.length (ETerm.encs r58.terms)) (fun _ h_ => h_) (fun _ => ho66)
   refine s_ext (v := .agg #[u59]) rfl rfl ?_
   refine s_ext (v := .int .i64 r63) rfl rfl ?_
   refine s_store (v := .agg #[u59]) hC 3 [u59] [u59] rfl ag51.size rfl rfl rfl rfl (all_c (own_oneC (hC.getM 0 rfl)) rfl) (Nat.le_of_ble_eq_true rfl) rfl fun w69 hC => ?_
   refine s_as (v := .int .i64 r63) rfl ?_
   refine dn ?_
   refine wp_ret ?_
   refine ret2 (fn := Try.f42) rfl ?_ ?_ ⟨r58, u59, (Option.toList (Value.ownBlock u59)), r63, rfl, h, (form_join (own_item (hC.getM 0 rfl))), (own_fresh hC 0 rfl), hC.below⟩ (.inl rfl)
   ·exact res_cellA hC 3 rfl ag51 rfl rfl
   ·exact res_tmp rfl
def f_spec_ScaleForm (a0 : List Int) (a1 : Int) (a2 : Vc.Form) (K : Vc.Form → Int → Prop) : Prop :=
 f_spec_IsForm a0 a2 (fun r14 => (if ¬ (r14 = true) then K (⟨[]⟩ : Vc.Form) 1 else f_spec_l01In a1 0 10006 (fun r21 => (if ¬ (r21 = true) then K (⟨[]⟩ : Vc.Form) 2 else f_spec_l01Add (⟨[]⟩ : Vc.Form) a2 a1 (fun r28 => K r28 0)))))
theorem c_spec_ScaleForm (a0 : List Int) (a1 : Int) (a2 : Vc.Form) {u0_0 : Value} {u2_0 : Value} {fp0 : List Nat} {fp2 : List Nat} {K : Vc.Form → Int → Prop} (h : f_spec_ScaleForm a0 a1 a2 K) (w0 : World) (q0 : ((EI .i64).ty.sl).rep a0 [u0_0] fp0 w0) (q2 : TForm.rep a2 [u2_0] fp2 w0) :
  Calls Try.prog 46 #[u0_0, .int .i64 a1, .agg #[u2_0]] w0 fun e w' => ∃ (r0 : Vc.Form) (z0_0 : Value) (fz0 : List Nat) (r1 : Int), 
   e = .returned (.tuple #[.agg #[z0_0], .int .i64 r1]) ∧ K r0 r1 ∧ (Tr.item (TrForm 93) r0 [z0_0] fz0).holds w' ∧ (∀ b, b ∈ fz0 → w0.heap.size ≤ b) ∧ Bel w0 w' := by
 unfold f_spec_ScaleForm at h
 refine calls_of (args := [u0_0, .int .i64 a1, .agg #[u2_0]]) Try.func46 rfl 23 Try.ntmps46 (Nat.le_of_ble_eq_true rfl) ?_
 have hC := Ctx.start (X := Nox) w0 [Ty.item ((EI .i64).ty.sl) a0 [u0_0] fp0, Ty.item TForm a2 [u2_0] fp2] (by simp only [List.mem_cons, List.not_mem_nil, or_false, forall_eq_or_imp, forall_eq]; exact ⟨q0, q2⟩)
 have hp3 := (hC.getP 1 rfl)
 replace hC := hC.derive 1 rfl (Ty.item ETerm.ty.sl a2.terms [u2_0] fp2) (fun _ => (form_parts hp3)) (fun _ hb_ => hb_)
 refine sr ?_
 refine s_box (v := .agg #[u2_0]) hC [u2_0] rfl rfl fun b5 w7 hB_ hC => ?_
 refine s_alloc hC [.slice none 0 0] z51 rfl fun b8 w10 hB_ hC => ?_
 refine s_as (v := .int .i64 0) rfl ?_
 refine dn ?_
 refine wp_seq ?_
 refine wp_block ?_
 refine sr ?_
 refine s_mv (v := u0_0) rfl ?_
 refine s_loadA hC 1 [u2_0] rfl ag51 rfl rfl rfl ?_
 refine s_call [u0_0, .agg #[u2_0]] _ Try.func96 rfl rfl rfl (c_spec_IsForm a0 a2 h _ (hC.getP 1 rfl) (form_mk (hC.getP 0 rfl))) (fun ret11 w13 hR12 => ?_)
 obtain ⟨r14, rfl, h, hB15⟩ := hR12
 refine ⟨_, rfl, ?_⟩
 replace hC := hC.grow hB15
 refine s_not rfl ?_
 refine s_as (v := .bool (!r14)) rfl ?_
 refine dn ?_
 refine cw_cond rfl (fun hb16 => ?_) (fun hb16 => ?_)
 ·replace h := ift h (ne_t (not_t hb16))
  refine sr ?_
  refine s_build [] rfl (bl51   _) ?_
  refine s_store (v := .agg #[.slice none 0 0]) hC 0 [.slice none 0 0] [.slice none 0 0] rfl ag51.size rfl rfl rfl rfl rfl (Nat.le_of_ble_eq_true rfl) rfl fun w17 hC => ?_
  refine s_as (v := .int .i64 1) rfl ?_
  refine dn ?_
  refine wp_ret (blk_ret (then_ret ?_))
  refine ret2 (fn := Try.f46) rfl ?_ ?_ ⟨(⟨[]⟩ : Vc.Form), .slice none 0 0, [], 1, rfl, h, (form_join (nil_item _ _ _)), (fun b hb => absurd hb (by simp)), hC.below⟩ (.inl rfl)
  ·exact res_cellA hC 0 rfl ag51 rfl rfl
  ·exact res_tmp rfl
 ·replace h := iff_ h (not_not_intro ((not_f hb16)))
  refine sr ?_
  refine s_mv (v := .int .i64 a1) rfl ?_
  refine s_call [.int .i64 a1, .int .i64 0, .int .i64 10006] _ Try.func67 rfl rfl rfl (c_spec_l01In a1 0 10006 h _) (fun ret18 w20 hR19 => ?_)
  obtain ⟨r21, rfl, h, hB22⟩ := hR19
  refine ⟨_, rfl, ?_⟩
  replace hC := hC.grow hB22
  refine s_not rfl ?_
  refine s_as (v := .bool (!r21)) rfl ?_
  refine dn ?_
  refine cw_cond rfl (fun hb23 => ?_) (fun hb23 => ?_)
  ·replace h := ift h (ne_t (not_t hb23))
   refine sr ?_
   refine s_build [] rfl (bl51   _) ?_
   refine s_store (v := .agg #[.slice none 0 0]) hC 0 [.slice none 0 0] [.slice none 0 0] rfl ag51.size rfl rfl rfl rfl rfl (Nat.le_of_ble_eq_true rfl) rfl fun w24 hC => ?_
   refine s_as (v := .int .i64 2) rfl ?_
   refine dn ?_
   refine wp_ret (blk_ret (then_ret ?_))
   refine ret2 (fn := Try.f46) rfl ?_ ?_ ⟨(⟨[]⟩ : Vc.Form), .slice none 0 0, [], 2, rfl, h, (form_join (nil_item _ _ _)), (fun b hb => absurd hb (by simp)), hC.below⟩ (.inl rfl)
   ·exact res_cellA hC 0 rfl ag51 rfl rfl
   ·exact res_tmp rfl
  ·replace h := iff_ h (not_not_intro ((not_f hb23)))
   refine wp_skip ?_
   refine blk_norm ?_
   refine then_norm ?_
   refine sr ?_
   refine s_build [] rfl (bl51   _) ?_
   refine s_loadA hC 1 [u2_0] rfl ag51 rfl rfl rfl ?_
   refine s_mv (v := .int .i64 a1) rfl ?_
   refine s_call [.agg #[.slice none 0 0], .agg #[u2_0], .int .i64 a1] _ Try.func82 rfl rfl rfl (c_spec_l01Add (⟨[]⟩ : Vc.Form) a2 a1 h _ (form_mk (rep_nil _ _)) (form_mk (hC.getP 0 rfl))) (fun ret25 w27 hR26 => ?_)
   obtain ⟨r28, u29, f30, rfl, h, hr31, hf32, hB33⟩ := hR26
   refine ⟨_, rfl, ?_⟩
   replace hC := hC.push hB33 (Tr.item (TrForm 93) r28 [u29] f30) hr31 hf32
   obtain ⟨ho35, hf36⟩ := form_split (hC.getM 0 rfl)
   subst hf36
   replace hC := hC.recast (c := own 93 9 u29 r28.terms.length (ETerm.encs r28.terms)) (fun _ h_ => h_) (fun _ => ho35)
   refine s_store (v := .agg #[u29]) hC 1 [u29] [u29] rfl ag51.size rfl rfl rfl rfl (all_c (own_oneC (hC.getM 0 rfl)) rfl) (Nat.le_of_ble_eq_true rfl) rfl fun w38 hC => ?_
   refine s_as (v := .int .i64 0) rfl ?_
   refine dn ?_
   refine wp_ret ?_
   refine ret2 (fn := Try.f46) rfl ?_ ?_ ⟨r28, u29, (Option.toList (Value.ownBlock u29)), 0, rfl, h, (form_join (own_item (hC.getM 0 rfl))), (own_fresh hC 0 rfl), hC.below⟩ (.inl rfl)
   ·exact res_cellA hC 1 rfl ag51 rfl rfl
   ·exact res_tmp rfl
def f_impl_ScaleForm (a0 : List Int) (a1 : Int) (a2 : Vc.Form) (K : Vc.Form → Int → Prop) : Prop :=
 f_impl_IsForm a0 a2 (fun r14 => f_impl_when (!r14) 1 (fun r19 => f_impl_within a1 0 10006 (fun r24 => f_impl_when (!r24) 2 (fun r29 => f_impl_first [r19, r29] (fun r37 => (if r37 ≠ 0 then K (⟨[]⟩ : Vc.Form) r37 else f_impl_sumOf a2 (fun r47 => f_impl_sum_addAll ([] : List (A8 × Int)) r47 a1 (fun m57 => f_impl_sum_form m57 (fun r62 r67 => K r62 r67)))))))))
theorem c_impl_ScaleForm (a0 : List Int) (a1 : Int) (a2 : Vc.Form) {u0_0 : Value} {u2_0 : Value} {fp0 : List Nat} {fp2 : List Nat} {K : Vc.Form → Int → Prop} (h : f_impl_ScaleForm a0 a1 a2 K) (w0 : World) (q0 : ((EI .i64).ty.sl).rep a0 [u0_0] fp0 w0) (q2 : TForm.rep a2 [u2_0] fp2 w0) :
  Calls Try.prog 47 #[u0_0, .int .i64 a1, .agg #[u2_0]] w0 fun e w' => ∃ (r0 : Vc.Form) (z0_0 : Value) (fz0 : List Nat) (r1 : Int), 
   e = .returned (.tuple #[.agg #[z0_0], .int .i64 r1]) ∧ K r0 r1 ∧ (Tr.item (TrForm 93) r0 [z0_0] fz0).holds w' ∧ (∀ b, b ∈ fz0 → w0.heap.size ≤ b) ∧ Bel w0 w' := by
 unfold f_impl_ScaleForm at h
 refine calls_of (args := [u0_0, .int .i64 a1, .agg #[u2_0]]) Try.func47 rfl 35 Try.ntmps47 (Nat.le_of_ble_eq_true rfl) ?_
 have hC := Ctx.start (X := Nox) w0 [Ty.item ((EI .i64).ty.sl) a0 [u0_0] fp0, Ty.item TForm a2 [u2_0] fp2] (by simp only [List.mem_cons, List.not_mem_nil, or_false, forall_eq_or_imp, forall_eq]; exact ⟨q0, q2⟩)
 have hp3 := (hC.getP 1 rfl)
 replace hC := hC.derive 1 rfl (Ty.item ETerm.ty.sl a2.terms [u2_0] fp2) (fun _ => (form_parts hp3)) (fun _ hb_ => hb_)
 refine sr ?_
 refine s_box (v := .agg #[u2_0]) hC [u2_0] rfl rfl fun b5 w7 hB_ hC => ?_
 refine s_alloc hC [.slice none 0 0] z51 rfl fun b8 w10 hB_ hC => ?_
 refine s_as (v := .int .i64 0) rfl ?_
 refine dn ?_
 refine wp_seq ?_
 refine sr ?_
 refine s_mv (v := u0_0) rfl ?_
 refine s_loadA hC 1 [u2_0] rfl ag51 rfl rfl rfl ?_
 refine s_call [u0_0, .agg #[u2_0]] _ Try.func90 rfl rfl rfl (c_impl_IsForm a0 a2 h _ (hC.getP 1 rfl) (form_mk (hC.getP 0 rfl))) (fun ret11 w13 hR12 => ?_)
 obtain ⟨r14, rfl, h, hB15⟩ := hR12
 refine ⟨_, rfl, ?_⟩
 replace hC := hC.grow hB15
 refine s_not rfl ?_
 refine s_call [.bool (!r14), .int .i64 1] _ Try.func77 rfl rfl rfl (c_impl_when (!r14) 1 h _) (fun ret16 w18 hR17 => ?_)
 obtain ⟨r19, rfl, h, hB20⟩ := hR17
 refine ⟨_, rfl, ?_⟩
 replace hC := hC.grow hB20
 refine s_mv (v := .int .i64 a1) rfl ?_
 refine s_call [.int .i64 a1, .int .i64 0, .int .i64 10006] _ Try.func69 rfl rfl rfl (c_impl_within a1 0 10006 h _) (fun ret21 w23 hR22 => ?_)
 obtain ⟨r24, rfl, h, hB25⟩ := hR22
 refine ⟨_, rfl, ?_⟩
 replace hC := hC.grow hB25
 refine s_not rfl ?_
 refine s_call [.bool (!r24), .int .i64 2] _ Try.func77 rfl rfl rfl (c_impl_when (!r24) 2 h _) (fun ret26 w28 hR27 => ?_)
 obtain ⟨r29, rfl, h, hB30⟩ := hR27
 refine ⟨_, rfl, ?_⟩
 replace hC := hC.grow hB30
 refine s_bslice (sz := 1) hC [(0, .int .i64 r19), (1, .int .i64 r29)] ((EI .i64).encs [r19, r29]) rfl (fun _ => bs22_2 r19 r29 _) rfl (by decide) fun b31 w32 hB_ hC => ?_
 refine s_call [.slice (some ⟨b31, 0, none⟩) 2 2] _ Try.func76 rfl rfl rfl (c_impl_first [r19, r29] h _ (own_repE (hC.getM 0 rfl))) (fun ret34 w36 hR35 => ?_)
 obtain ⟨r37, rfl, h, hB38⟩ := hR35
 refine ⟨_, rfl, ?_⟩
 replace hC := hC.grow hB38
 refine s_as (v := .int .i64 r37) rfl ?_
 refine dn ?_
 refine sr ?_
 refine s_mv (v := .int .i64 r37) rfl ?_
 refine s_neq rfl rfl ?_
 refine dn ?_
 refine cw_cond rfl (fun hb39 => ?_) (fun hb39 => ?_)
 ·replace h := ift h (ct hb39)
  refine sr ?_
  refine s_build [] rfl (bl51   _) ?_
  refine s_mv (v := .int .i64 r37) rfl ?_
  refine s_store (v := .agg #[.slice none 0 0]) hC 1 [.slice none 0 0] [.slice none 0 0] rfl ag51.size rfl rfl rfl rfl rfl (Nat.le_of_ble_eq_true rfl) rfl fun w40 hC => ?_
  refine s_as (v := .int .i64 r37) rfl ?_
  refine dn ?_
  refine wp_ret (then_ret ?_)
  refine ret2 (fn := Try.f47) rfl ?_ ?_ ⟨(⟨[]⟩ : Vc.Form), .slice none 0 0, [], r37, rfl, h, (form_join (nil_item _ _ _)), (fun b hb => absurd hb (by simp)), hC.below⟩ (.inl rfl)
  ·exact res_cellA hC 1 rfl ag51 rfl rfl
  ·exact res_tmp rfl
 ·replace h := iff_ h (cf hb39)
  refine wp_skip ?_
  refine then_norm ?_
  refine sr ?_
  refine s_makeMap hC (kvA .i64) (vvI .i64) fun b41 w43 hB_ hC => ?_
  refine s_as (v := .map (some b41)) rfl ?_
  refine dn ?_
  refine sr ?_
  refine s_mv (v := .map (some b41)) rfl ?_
  refine s_loadA hC 3 [u2_0] rfl ag51 rfl rfl rfl ?_
  refine s_call [.agg #[u2_0]] _ Try.func91 rfl rfl rfl (c_impl_sumOf a2 h _ (form_mk (hC.getP 0 rfl))) (fun ret44 w46 hR45 => ?_)
  obtain ⟨r47, b48, rfl, h, hr49, hf50, hB51⟩ := hR45
  refine ⟨_, rfl, ?_⟩
  replace hC := hC.push hB51 (mapI (kvA .i64) (vvI .i64) b48 r47) hr49 (fun b_ hb_ => by obtain rfl := List.mem_singleton.1 hb_; exact hf50)
  refine s_mv (v := .int .i64 a1) rfl ?_
  refine s_call [.map (some b41), .map (some b48), .int .i64 a1] _ Try.func92 rfl rfl rfl (c_impl_sum_addAll ([] : List (A8 × Int)) r47 a1 h _ (hC.getM 1 rfl) (fun c_ hc_ e_ => hC.mm 0 1 rfl rfl (by decide) c_ hc_ (List.mem_singleton.2 e_)) (hC.getM 0 rfl)) (fun ret53 w55 hR54 => ?_)
  obtain ⟨m57, rfl, h, hm58, hB56⟩ := hR54
  refine ⟨_, rfl, ?_⟩
  replace hC := hC.turnB 1 rfl hB56 rfl rfl hm58
  refine dn ?_
  refine sr ?_
  refine s_mv (v := .map (some b41)) rfl ?_
  refine s_call [.map (some b41)] _ Try.func66 rfl rfl rfl (c_impl_sum_form m57 h _ (hC.getM 1 rfl)) (fun ret59 w61 hR60 => ?_)
  obtain ⟨r62, u63, f64, r67, rfl, h, hr65, hf66, hB68⟩ := hR60
  refine ⟨_, rfl, ?_⟩
  replace hC := hC.push hB68 (Tr.item (TrForm 93) r62 [u63] f64) hr65 hf66
  obtain ⟨ho70, hf71⟩ := form_split (hC.getM 0 rfl)
  subst hf71
  replace hC := hC.recast (c := own 93 9 u63 r62.terms.length (ETerm.encs r62.terms)) (fun _ h_ => h_) (fun _ => ho70)
  refine s_ext (v := .agg #[u63]) rfl rfl ?_
  refine s_ext (v := .int .i64 r67) rfl rfl ?_
  refine s_store (v := .agg #[u63]) hC 4 [u63] [u63] rfl ag51.size rfl rfl rfl rfl (all_c (own_oneC (hC.getM 0 rfl)) rfl) (Nat.le_of_ble_eq_true rfl) rfl fun w73 hC => ?_
  refine s_as (v := .int .i64 r67) rfl ?_
  refine dn ?_
  refine wp_ret ?_
  refine ret2 (fn := Try.f47) rfl ?_ ?_ ⟨r62, u63, (Option.toList (Value.ownBlock u63)), r67, rfl, h, (form_join (own_item (hC.getM 0 rfl))), (own_fresh hC 0 rfl), hC.below⟩ (.inl rfl)
  ·exact res_cellA hC 4 rfl ag51 rfl rfl
  ·exact res_tmp rfl
def f_impl_MultiplyForms (a0 : List Int) (a1 : Vc.Form) (a2 : Vc.Form) (K : Vc.Form → Int → Prop) : Prop :=
 f_impl_IsForm a0 a1 (fun r20 => (if ¬ (r20 = true) then K (⟨[]⟩ : Vc.Form) 1 else f_impl_IsForm a0 a2 (fun r27 => (if ¬ (r27 = true) then K (⟨[]⟩ : Vc.Form) 1 else f_impl_sumOf a1 (fun r37 => f_impl_sumOf a2 (fun r46 => f_impl_sum_times r37 a0 r46 (fun r55 => f_impl_sum_form r55 (fun r64 r69 => K r64 r69))))))))
theorem c_impl_MultiplyForms (a0 : List Int) (a1 : Vc.Form) (a2 : Vc.Form) {u0_0 : Value} {u1_0 : Value} {u2_0 : Value} {fp0 : List Nat} {fp1 : List Nat} {fp2 : List Nat} {K : Vc.Form → Int → Prop} (h : f_impl_MultiplyForms a0 a1 a2 K) (w0 : World) (q0 : ((EI .i64).ty.sl).rep a0 [u0_0] fp0 w0) (q1 : TForm.rep a1 [u1_0] fp1 w0) (q2 : TForm.rep a2 [u2_0] fp2 w0) :
  Calls Try.prog 60 #[u0_0, .agg #[u1_0], .agg #[u2_0]] w0 fun e w' => ∃ (r0 : Vc.Form) (z0_0 : Value) (fz0 : List Nat) (r1 : Int), 
   e = .returned (.tuple #[.agg #[z0_0], .int .i64 r1]) ∧ K r0 r1 ∧ (Tr.item (TrForm 93) r0 [z0_0] fz0).holds w' ∧ (∀ b, b ∈ fz0 → w0.heap.size ≤ b) ∧ Bel w0 w' := by
 unfold f_impl_MultiplyForms at h
 refine calls_of (args := [u0_0, .agg #[u1_0], .agg #[u2_0]]) Try.func60 rfl 28 Try.ntmps60 (Nat.le_of_ble_eq_true rfl) ?_
 have hC := Ctx.start (X := Nox) w0 [Ty.item ((EI .i64).ty.sl) a0 [u0_0] fp0, Ty.item TForm a1 [u1_0] fp1, Ty.item TForm a2 [u2_0] fp2] (by simp only [List.mem_cons, List.not_mem_nil, or_false, forall_eq_or_imp, forall_eq]; exact ⟨q0, q1, q2⟩)
 have hp4 := (hC.getP 1 rfl)
 replace hC := hC.derive 1 rfl (Ty.item ETerm.ty.sl a1.terms [u1_0] fp1) (fun _ => (form_parts hp4)) (fun _ hb_ => hb_)
 have hp6 := (hC.getP 3 rfl)
 replace hC := hC.derive 3 rfl (Ty.item ETerm.ty.sl a2.terms [u2_0] fp2) (fun _ => (form_parts hp6)) (fun _ hb_ => hb_)
 refine sr ?_
 refine s_box (v := .agg #[u1_0]) hC [u1_0] rfl rfl fun b8 w10 hB_ hC => ?_
 refine s_box (v := .agg #[u2_0]) hC [u2_0] rfl rfl fun b11 w13 hB_ hC => ?_
 refine s_alloc hC [.slice none 0 0] z51 rfl fun b14 w16 hB_ hC => ?_
 refine s_as (v := .int .i64 0) rfl ?_
 refine dn ?_
 refine wp_seq ?_
 refine sr ?_
 refine s_mv (v := u0_0) rfl ?_
 refine s_loadA hC 2 [u1_0] rfl ag51 rfl rfl rfl ?_
 refine s_call [u0_0, .agg #[u1_0]] _ Try.func90 rfl rfl rfl (c_impl_IsForm a0 a1 h _ (hC.getP 2 rfl) (form_mk (hC.getP 1 rfl))) (fun ret17 w19 hR18 => ?_)
 obtain ⟨r20, rfl, h, hB21⟩ := hR18
 refine ⟨_, rfl, ?_⟩
 replace hC := hC.grow hB21
 refine s_not rfl ?_
 refine s_mv (v := .bool (!r20)) rfl ?_
 refine bsplit (!r20) (fun hb22 => ?_) (fun hb22 => ?_)
 ·replace h := ift h (ne_t (not_t hb22))
  refine guardOff (b := true) 4 12 rfl (tr rfl (congrArg _ hb22)) (by decide) ?_
  refine guardOff (b := true) 4 12 rfl (tr rfl (congrArg _ hb22)) (by decide) ?_
  refine guardOff (b := true) 4 12 rfl (tr rfl (congrArg _ hb22)) (by decide) ?_
  refine guardOff (b := true) 4 12 rfl (tr rfl (congrArg _ hb22)) (by decide) ?_
  refine s_pick (v := .bool true) (b := true) (tr rfl (congrArg _ hb22)) rfl ?_
  refine dn ?_
  refine cw_true rfl rfl ?_
  refine sr ?_
  refine s_build [] rfl (bl51   _) ?_
  refine s_store (v := .agg #[.slice none 0 0]) hC 0 [.slice none 0 0] [.slice none 0 0] rfl ag51.size rfl rfl rfl rfl rfl (Nat.le_of_ble_eq_true rfl) rfl fun w23 hC => ?_
  refine s_as (v := .int .i64 1) rfl ?_
  refine dn ?_
  refine wp_ret (then_ret ?_)
  refine ret2 (fn := Try.f60) rfl ?_ ?_ ⟨(⟨[]⟩ : Vc.Form), .slice none 0 0, [], 1, rfl, h, (form_join (nil_item _ _ _)), (fun b hb => absurd hb (by simp)), hC.below⟩ (.inl rfl)
  ·exact res_cellA hC 0 rfl ag51 rfl rfl
  ·exact res_tmp rfl
 ·replace h := iff_ h (not_not_intro ((not_f hb22)))
  refine guardOn 4 12 rfl rfl hb22 ?_
  refine s_mv (v := u0_0) rfl ?_
  refine guardOn 4 12 rfl rfl hb22 ?_
  refine s_loadA hC 1 [u2_0] rfl ag51 rfl rfl rfl ?_
  refine guardOn 4 12 rfl rfl hb22 ?_
  refine s_call [u0_0, .agg #[u2_0]] _ Try.func90 rfl rfl rfl (c_impl_IsForm a0 a2 h _ (hC.getP 2 rfl) (form_mk (hC.getP 0 rfl))) (fun ret24 w26 hR25 => ?_)
  obtain ⟨r27, rfl, h, hB28⟩ := hR25
  refine ⟨_, rfl, ?_⟩
  replace hC := hC.grow hB28
  refine guardOn 4 12 rfl rfl hb22 ?_
  refine s_not rfl ?_
  refine s_pick (v := .bool (!r27)) (b := false) (tr rfl (congrArg _ hb22)) rfl ?_
  refine dn ?_
  refine cw_cond rfl (fun hb29 => ?_) (fun hb29 => ?_)
  ·replace h := ift h (ne_t (not_t hb29))
   refine sr ?_
   refine s_build [] rfl (bl51   _) ?_
   refine s_store (v := .agg #[.slice none 0 0]) hC 0 [.slice none 0 0] [.slice none 0 0] rfl ag51.size rfl rfl rfl rfl rfl (Nat.le_of_ble_eq_true rfl) rfl fun w30 hC => ?_
   refine s_as (v := .int .i64 1) rfl ?_
   refine dn ?_
   refine wp_ret (then_ret ?_)
   refine ret2 (fn := Try.f60) rfl ?_ ?_ ⟨(⟨[]⟩ : Vc.Form), .slice none 0 0, [], 1, rfl, h, (form_join (nil_item _ _ _)), (fun b hb => absurd hb (by simp)), hC.below⟩ (.inl rfl)
   ·exact res_cellA hC 0 rfl ag51 rfl rfl
   ·exact res_tmp rfl
  ·replace h := iff_ h (not_not_intro ((not_f hb29)))
   refine wp_skip ?_
   refine then_norm ?_
   refine wp_seq ?_
   refine cw_draw 9 mixed [0, 1, 0, 0, 11, 31, 63, 127, 127, 511, 1023] [0, 3] [2, 7, 8] (by kernel_rfl) (by kernel_rfl) (by kernel_rfl) (fun hM32 hM33 w31 hB_ => ?_)
   replace hC := hC.grow hB_
   refine ae_look belPre 0 (.agg #[u1_0]) rfl rfl (by kernel_rfl) (hM32 0 rfl) (fun w_ hB_ => .inl ⟨rfl, by exact r_loadA (hC.grow hB_) 2 [u1_0] rfl ag51 rfl rfl rfl⟩) (listed' := (dbits 11 1)) (by kernel_rfl) ?_
   refine ae_lookF belPre 2 (u0_0) rfl rfl (by kernel_rfl) (hM33 2 rfl) (fun w_ => .inl ⟨rfl, by exact r_mv (v := u0_0) rfl⟩) (listed' := (dbits 11 5)) (by kernel_rfl) ?_
   refine ae_look belPre 3 (.agg #[u2_0]) rfl rfl (by kernel_rfl) (hM32 3 rfl) (fun w_ hB_ => .inl ⟨rfl, by exact r_loadA (hC.grow hB_) 1 [u2_0] rfl ag51 rfl rfl rfl⟩) (listed' := (dbits 11 13)) (by kernel_rfl) ?_
   refine ae_one 1 rfl (by kernel_rfl) ?_
   refine s_call [.agg #[u1_0]] _ Try.func91 rfl rfl rfl (c_impl_sumOf a1 h _ (form_mk (hC.getP 1 rfl))) (fun ret34 w36 hR35 => ?_)
   obtain ⟨r37, b38, rfl, h, hr39, hf40, hB41⟩ := hR35
   refine ⟨_, rfl, ?_⟩
   replace hC := hC.push hB41 (mapI (kvA .i64) (vvI .i64) b38 r37) hr39 (fun b_ hb_ => by obtain rfl := List.mem_singleton.1 hb_; exact hf40)
   refine done ?_
   refine ak_intro (by assumption) (listed' := (dbits 11 15)) (by kernel_rfl) ?_
   refine ae_one 4 rfl (by kernel_rfl) ?_
   refine s_call [.agg #[u2_0]] _ Try.func91 rfl rfl rfl (c_impl_sumOf a2 h _ (form_mk (hC.getP 0 rfl))) (fun ret43 w45 hR44 => ?_)
   obtain ⟨r46, b47, rfl, h, hr48, hf49, hB50⟩ := hR44
   refine ⟨_, rfl, ?_⟩
   replace hC := hC.push hB50 (mapI (kvA .i64) (vvI .i64) b47 r46) hr48 (fun b_ hb_ => by obtain rfl := List.mem_singleton.1 hb_; exact hf49)
   refine done ?_
   refine ak_intro (by assumption) (listed' := (dbits 11 31)) (by kernel_rfl) ?_
   refine ae_one 5 rfl (by kernel_rfl) ?_
   refine s_call [.map (some b38), u0_0, .map (some b47)] _ Try.func112 rfl rfl rfl (c_impl_sum_times r37 a0 r46 h _ (hC.getM 1 rfl) (hC.getP 2 rfl) (hC.getM 0 rfl)) (fun ret52 w54 hR53 => ?_)
   obtain ⟨r55, b56, rfl, h, hr57, hf58, hB59⟩ := hR53
   refine ⟨_, rfl, ?_⟩
   replace hC := hC.push hB59 (mapI (kvA .i64) (vvI .i64) b56 r55) hr57 (fun b_ hb_ => by obtain rfl := List.mem_singleton.1 hb_; exact hf58)
   refine done ?_
   refine ak_intro (by assumption) (listed' := (dbits 11 63)) (by kernel_rfl) ?_
   refine ae_one 6 rfl (by kernel_rfl) ?_
   refine s_call [.map (some b56)] _ Try.func66 rfl rfl rfl (c_impl_sum_form r55 h _ (hC.getM 0 rfl)) (fun ret61 w63 hR62 => ?_)
   obtain ⟨r64, u65, f66, r69, rfl, h, hr67, hf68, hB70⟩ := hR62
   refine ⟨_, rfl, ?_⟩
   replace hC := hC.push hB70 (Tr.item (TrForm 93) r64 [u65] f66) hr67 hf68
   obtain ⟨ho72, hf73⟩ := form_split (hC.getM 0 rfl)
   subst hf73
   replace hC := hC.recast (c := own 93 9 u65 r64.terms.length (ETerm.encs r64.terms)) (fun _ h_ => h_) (fun _ => ho72)
   refine done ?_
   refine ak_intro (by assumption) (listed' := (dbits 11 127)) (by kernel_rfl) ?_
   refine ae_lookF belPre 7 (.agg #[u65]) rfl rfl (by kernel_rfl) (hM33 7 rfl) (fun w_ => .inl ⟨rfl, by exact r_ext (v := .agg #[u65]) rfl rfl⟩) (listed' := (dbits 11 255)) (by kernel_rfl) ?_
   refine ae_lookF belPre 8 (.int .i64 r69) rfl rfl (by kernel_rfl) (hM33 8 rfl) (fun w_ => .inl ⟨rfl, by exact r_ext (v := .int .i64 r69) rfl rfl⟩) (listed' := (dbits 11 511)) (by kernel_rfl) ?_
   refine ae_tail 9 (by decide) (by decide) (by kernel_rfl) (by kernel_rfl) rfl ?_
   refine s_store (v := .agg #[u65]) hC 4 [u65] [u65] rfl ag51.size rfl rfl rfl rfl (all_c (own_oneC (hC.getM 0 rfl)) rfl) (Nat.le_of_ble_eq_true rfl) rfl fun w75 hC => ?_
   refine s_as (v := .int .i64 r69) rfl ?_
   refine done ?_
   refine qn_norm ?_
   refine then_norm ?_
   refine wp_ret ?_
   refine ret2 (fn := Try.f60) rfl ?_ ?_ ⟨r64, u65, (Option.toList (Value.ownBlock u65)), r69, rfl, h, (form_join (own_item (hC.getM 0 rfl))), (own_fresh hC 0 rfl), hC.below⟩ (.inl rfl)
   ·exact res_cellA hC 4 rfl ag51 rfl rfl
   ·exact res_tmp rfl
def f_spec_AddForms (a0 : List Int) (a1 : Vc.Form) (a2 : Vc.Form) (K : Vc.Form → Int → Prop) : Prop :=
 f_spec_l01Degrees a0 (fun r20 => (if ¬ (r20 = true) then K (⟨[]⟩ : Vc.Form) 1 else f_spec_l01Is a0 a1 (fun r27 => (if ¬ (r27 = true) then K (⟨[]⟩ : Vc.Form) 1 else f_spec_l01Is a0 a2 (fun r34 => (if ¬ (r34 = true) then K (⟨[]⟩ : Vc.Form) 1 else f_spec_l01Add a1 a2 1 (fun r41 => f_spec_l01Told a0 (⟨r41.terms⟩ : Vc.Form) (fun r59 r64 => K r59 r64))))))))
theorem c_spec_AddForms (a0 : List Int) (a1 : Vc.Form) (a2 : Vc.Form) {u0_0 : Value} {u1_0 : Value} {u2_0 : Value} {fp0 : List Nat} {fp1 : List Nat} {fp2 : List Nat} {K : Vc.Form → Int → Prop} (h : f_spec_AddForms a0 a1 a2 K) (w0 : World) (q0 : ((EI .i64).ty.sl).rep a0 [u0_0] fp0 w0) (q1 : TForm.rep a1 [u1_0] fp1 w0) (q2 : TForm.rep a2 [u2_0] fp2 w0) :
  Calls Try.prog 40 #[u0_0, .agg #[u1_0], .agg #[u2_0]] w0 fun e w' => ∃ (r0 : Vc.Form) (z0_0 : Value) (fz0 : List Nat) (r1 : Int), 
   e = .returned (.tuple #[.agg #[z0_0], .int .i64 r1]) ∧ K r0 r1 ∧ TForm.rep r0 [z0_0] fz0 w' ∧ (∀ b, b ∈ fz0 → w0.heap.size ≤ b ∨ b ∈ (fp0 ++ (fp1 ++ (fp2)))) ∧ Bel w0 w' := by
 unfold f_spec_AddForms at h
 refine calls_of (args := [u0_0, .agg #[u1_0], .agg #[u2_0]]) Try.func40 rfl 31 Try.ntmps40 (Nat.le_of_ble_eq_true rfl) ?_
 have hC := Ctx.start (X := Nox) w0 [Ty.item ((EI .i64).ty.sl) a0 [u0_0] fp0, Ty.item TForm a1 [u1_0] fp1, Ty.item TForm a2 [u2_0] fp2] (by simp only [List.mem_cons, List.not_mem_nil, or_false, forall_eq_or_imp, forall_eq]; exact ⟨q0, q1, q2⟩)
 have hp4 := (hC.getP 1 rfl)
 replace hC := hC.derive 1 rfl (Ty.item ETerm.ty.sl a1.terms [u1_0] fp1) (fun _ => (form_parts hp4)) (fun _ hb_ => hb_)
 have hp6 := (hC.getP 3 rfl)
 replace hC := hC.derive 3 rfl (Ty.item ETerm.ty.sl a2.terms [u2_0] fp2) (fun _ => (form_parts hp6)) (fun _ hb_ => hb_)
 refine sr ?_
 refine s_box (v := .agg #[u1_0]) hC [u1_0] rfl rfl fun b8 w10 hB_ hC => ?_
 refine s_box (v := .agg #[u2_0]) hC [u2_0] rfl rfl fun b11 w13 hB_ hC => ?_
 refine s_alloc hC [.slice none 0 0] z51 rfl fun b14 w16 hB_ hC => ?_
 refine s_as (v := .int .i64 0) rfl ?_
 refine dn ?_
 refine wp_seq ?_
 refine sr ?_
 refine s_mv (v := u0_0) rfl ?_
 refine s_call [u0_0] _ Try.func61 rfl rfl rfl (c_spec_l01Degrees a0 h _ (hC.getP 2 rfl)) (fun ret17 w19 hR18 => ?_)
 obtain ⟨r20, rfl, h, hB21⟩ := hR18
 refine ⟨_, rfl, ?_⟩
 replace hC := hC.grow hB21
 refine s_not rfl ?_
 refine s_mv (v := .bool (!r20)) rfl ?_
 refine bsplit (!r20) (fun hb22 => ?_) (fun hb22 => ?_)
 ·replace h := ift h (ne_t (not_t hb22))
  refine guardOff (b := true) 3 11 rfl (tr rfl (congrArg _ hb22)) (by decide) ?_
  refine guardOff (b := true) 3 11 rfl (tr rfl (congrArg _ hb22)) (by decide) ?_
  refine guardOff (b := true) 3 11 rfl (tr rfl (congrArg _ hb22)) (by decide) ?_
  refine guardOff (b := true) 3 11 rfl (tr rfl (congrArg _ hb22)) (by decide) ?_
  refine s_pick (v := .bool true) (b := true) (tr rfl (congrArg _ hb22)) rfl ?_
  refine s_mv (v := .bool true) rfl ?_
  refine guardOff (b := true) 9 17 rfl (tr rfl (congrArg _ rfl)) (by decide) ?_
  refine guardOff (b := true) 9 17 rfl (tr rfl (congrArg _ rfl)) (by decide) ?_
  refine guardOff (b := true) 9 17 rfl (tr rfl (congrArg _ rfl)) (by decide) ?_
  refine guardOff (b := true) 9 17 rfl (tr rfl (congrArg _ rfl)) (by decide) ?_
  refine s_pick (v := .bool true) (b := true) rfl rfl ?_
  refine dn ?_
  refine cw_true rfl rfl ?_
  refine sr ?_
  refine s_build [] rfl (bl51   _) ?_
  refine s_store (v := .agg #[.slice none 0 0]) hC 0 [.slice none 0 0] [.slice none 0 0] rfl ag51.size rfl rfl rfl rfl rfl (Nat.le_of_ble_eq_true rfl) rfl fun w23 hC => ?_
  refine s_as (v := .int .i64 1) rfl ?_
  refine dn ?_
  refine wp_ret (then_ret ?_)
  refine ret2 (fn := Try.f40) rfl ?_ ?_ ⟨(⟨[]⟩ : Vc.Form), .slice none 0 0, [], 1, rfl, h, (form_mk (rep_nil _ _)), (fun b hb => .inl ((fun b hb => absurd hb (by simp)) b hb)), hC.below⟩ (.inl rfl)
  ·exact res_cellA hC 0 rfl ag51 rfl rfl
  ·exact res_tmp rfl
 ·replace h := iff_ h (not_not_intro ((not_f hb22)))
  refine guardOn 3 11 rfl rfl hb22 ?_
  refine s_mv (v := u0_0) rfl ?_
  refine guardOn 3 11 rfl rfl hb22 ?_
  refine s_loadA hC 2 [u1_0] rfl ag51 rfl rfl rfl ?_
  refine guardOn 3 11 rfl rfl hb22 ?_
  refine s_call [u0_0, .agg #[u1_0]] _ Try.func87 rfl rfl rfl (c_spec_l01Is a0 a1 h _ (hC.getP 2 rfl) (form_mk (hC.getP 1 rfl))) (fun ret24 w26 hR25 => ?_)
  obtain ⟨r27, rfl, h, hB28⟩ := hR25
  refine ⟨_, rfl, ?_⟩
  replace hC := hC.grow hB28
  refine guardOn 3 11 rfl rfl hb22 ?_
  refine s_not rfl ?_
  refine s_pick (v := .bool (!r27)) (b := false) (tr rfl (congrArg _ hb22)) rfl ?_
  refine s_mv (v := .bool (!r27)) rfl ?_
  refine bsplit (!r27) (fun hb29 => ?_) (fun hb29 => ?_)
  ·replace h := ift h (ne_t (not_t hb29))
   refine guardOff (b := true) 9 17 rfl (tr rfl (congrArg _ hb29)) (by decide) ?_
   refine guardOff (b := true) 9 17 rfl (tr rfl (congrArg _ hb29)) (by decide) ?_
   refine guardOff (b := true) 9 17 rfl (tr rfl (congrArg _ hb29)) (by decide) ?_
   refine guardOff (b := true) 9 17 rfl (tr rfl (congrArg _ hb29)) (by decide) ?_
   refine s_pick (v := .bool true) (b := true) (tr rfl (congrArg _ hb29)) rfl ?_
   refine dn ?_
   refine cw_true rfl rfl ?_
   refine sr ?_
   refine s_build [] rfl (bl51   _) ?_
   refine s_store (v := .agg #[.slice none 0 0]) hC 0 [.slice none 0 0] [.slice none 0 0] rfl ag51.size rfl rfl rfl rfl rfl (Nat.le_of_ble_eq_true rfl) rfl fun w30 hC => ?_
   refine s_as (v := .int .i64 1) rfl ?_
   refine dn ?_
   refine wp_ret (then_ret ?_)
   refine ret2 (fn := Try.f40) rfl ?_ ?_ ⟨(⟨[]⟩ : Vc.Form), .slice none 0 0, [], 1, rfl, h, (form_mk (rep_nil _ _)), (fun b hb => .inl ((fun b hb => absurd hb (by simp)) b hb)), hC.below⟩ (.inl rfl)
   ·exact res_cellA hC 0 rfl ag51 rfl rfl
   ·exact res_tmp rfl
  ·replace h := iff_ h (not_not_intro ((not_f hb29)))
   refine guardOn 9 17 rfl rfl hb29 ?_
   refine s_mv (v := u0_0) rfl ?_
   refine guardOn 9 17 rfl rfl hb29 ?_
   refine s_loadA hC 1 [u2_0] rfl ag51 rfl rfl rfl ?_
   refine guardOn 9 17 rfl rfl hb29 ?_
   refine s_call [u0_0, .agg #[u2_0]] _ Try.func87 rfl rfl rfl (c_spec_l01Is a0 a2 h _ (hC.getP 2 rfl) (form_mk (hC.getP 0 rfl))) (fun ret31 w33 hR32 => ?_)
   obtain ⟨r34, rfl, h, hB35⟩ := hR32
   refine ⟨_, rfl, ?_⟩
   replace hC := hC.grow hB35
   refine guardOn 9 17 rfl rfl hb29 ?_
   refine s_not rfl ?_
   refine s_pick (v := .bool (!r34)) (b := false) (tr rfl (congrArg _ hb29)) rfl ?_
   refine dn ?_
   refine cw_cond rfl (fun hb36 => ?_) (fun hb36 => ?_)
   ·replace h := ift h (ne_t (not_t hb36))
    refine sr ?_
    refine s_build [] rfl (bl51   _) ?_
    refine s_store (v := .agg #[.slice none 0 0]) hC 0 [.slice none 0 0] [.slice none 0 0] rfl ag51.size rfl rfl rfl rfl rfl (Nat.le_of_ble_eq_true rfl) rfl fun w37 hC => ?_
    refine s_as (v := .int .i64 1) rfl ?_
    refine dn ?_
    refine wp_ret (then_ret ?_)
    refine ret2 (fn := Try.f40) rfl ?_ ?_ ⟨(⟨[]⟩ : Vc.Form), .slice none 0 0, [], 1, rfl, h, (form_mk (rep_nil _ _)), (fun b hb => .inl ((fun b hb => absurd hb (by simp)) b hb)), hC.below⟩ (.inl rfl)
    ·exact res_cellA hC 0 rfl ag51 rfl rfl
    ·exact res_tmp rfl
   ·replace h := iff_ h (not_not_intro ((not_f hb36)))
    refine wp_skip ?_
    refine then_norm ?_
    refine sr ?_
    refine s_mv (v := u0_0) rfl ?_
    refine s_loadA hC 2 [u1_0] rfl ag51 rfl rfl rfl ?_
    refine s_loadA hC 1 [u2_0] rfl ag51 rfl rfl rfl ?_
    refine s_call [.agg #[u1_0], .agg #[u2_0], .int .i64 1] _ Try.func82 rfl rfl rfl (c_spec_l01Add a1 a2 1 h _ (form_mk (hC.getP 1 rfl)) (form_mk (hC.getP 0 rfl))) (fun ret38 w40 hR39 => ?_)
    obtain ⟨r41, u42, f43, rfl, h, hr44, hf45, hB46⟩ := hR39
    refine ⟨_, rfl, ?_⟩
    replace hC := hC.push hB46 (Tr.item (TrForm 93) r41 [u42] f43) hr44 hf45
    obtain ⟨ho48, hf49⟩ := form_split (hC.getM 0 rfl)
    subst hf49
    replace hC := hC.recast (c := own 93 9 u42 r41.terms.length (ETerm.encs r41.terms)) (fun _ h_ => h_) (fun _ => ho48)
    have hs54 := own_fresh hC 0 rfl
    replace hC := hC.thaw 0 rfl (Ty.item ETerm.ty.sl r41.terms [u42] (Option.toList (Value.ownBlock u42))) own_repE (fun _ hb_ => hb_)
    refine s_call [u0_0, .agg #[u42]] _ Try.func88 rfl rfl rfl (c_spec_l01Told a0 (⟨r41.terms⟩ : Vc.Form) h _ (hC.getP 3 rfl) (form_mk (hC.getP 0 rfl))) (fun ret56 w58 hR57 => ?_)
    obtain ⟨r59, u60, f61, r64, rfl, h, hr62, hf63, hB65⟩ := hR57
    refine ⟨_, rfl, ?_⟩
    have hs66 : ∀ b, b ∈ f61 → w0.heap.size ≤ b ∨ b ∈ (fp0 ++ (fp1 ++ (fp2))) := (fun b hb => (hf63 b hb).elim (fun h_ => .inl (Nat.le_trans hC.size h_)) (fun hb => (List.mem_append.1 hb).elim (fun hb => .inr (List.mem_append_left _ hb)) (fun hb => .inl (hs54 b hb))))
    replace hC := hC.pushR hB65 (Ty.item TForm r59 [u60] f61) hr62 (fun b hb => (hf63 b hb).elim .inl (fun hb => .inr ((List.mem_append.1 hb).elim (fun hb => ⟨_, List.mem_of_getElem? (i := 3) rfl, hb⟩) (fun hb => ⟨_, List.mem_of_getElem? (i := 0) rfl, hb⟩))))
    have hp68 := (hC.getP 0 rfl)
    replace hC := hC.derive 0 rfl (Ty.item ETerm.ty.sl r59.terms [u60] f61) (fun _ => (form_parts hp68)) (fun _ hb_ => hb_)
    refine s_ext (v := .agg #[u60]) rfl rfl ?_
    refine s_ext (v := .int .i64 r64) rfl rfl ?_
    refine s_store (v := .agg #[u60]) hC 0 [u60] [u60] rfl ag51.size rfl rfl rfl rfl (all_c (rep_oneC (hC.getP 0 rfl)) rfl) (Nat.le_of_ble_eq_true rfl) rfl fun w70 hC => ?_
    refine s_as (v := .int .i64 r64) rfl ?_
    refine dn ?_
    refine wp_ret ?_
    refine ret2 (fn := Try.f40) rfl ?_ ?_ ⟨r59, u60, f61, r64, rfl, h, (form_mk (hC.getP 0 rfl)), (fun b hb => hs66 b hb), hC.below⟩ (.inl rfl)
    ·exact res_cellA hC 0 rfl ag51 rfl rfl
    ·exact res_tmp rfl
def f_spec_MultiplyForms (a0 : List Int) (a1 : Vc.Form) (a2 : Vc.Form) (K : Vc.Form → Int → Prop) : Prop :=
 f_spec_l01Degrees a0 (fun r20 => (if ¬ (r20 = true) then K (⟨[]⟩ : Vc.Form) 1 else f_spec_l01Is a0 a1 (fun r27 => (if ¬ (r27 = true) then K (⟨[]⟩ : Vc.Form) 1 else f_spec_l01Is a0 a2 (fun r34 => (if ¬ (r34 = true) then K (⟨[]⟩ : Vc.Form) 1 else f_spec_l01Times a0 a1 a2 (fun r41 => f_spec_l01Told a0 (⟨r41.terms⟩ : Vc.Form) (fun r59 r64 => K r59 r64))))))))
theorem c_spec_MultiplyForms (a0 : List Int) (a1 : Vc.Form) (a2 : Vc.Form) {u0_0 : Value} {u1_0 : Value} {u2_0 : Value} {fp0 : List Nat} {fp1 : List Nat} {fp2 : List Nat} {K : Vc.Form → Int → Prop} (h : f_spec_MultiplyForms a0 a1 a2 K) (w0 : World) (q0 : ((EI .i64).ty.sl).rep a0 [u0_0] fp0 w0) (q1 : TForm.rep a1 [u1_0] fp1 w0) (q2 : TForm.rep a2 [u2_0] fp2 w0) :
  Calls Try.prog 59 #[u0_0, .agg #[u1_0], .agg #[u2_0]] w0 fun e w' => ∃ (r0 : Vc.Form) (z0_0 : Value) (fz0 : List Nat) (r1 : Int), 
   e = .returned (.tuple #[.agg #[z0_0], .int .i64 r1]) ∧ K r0 r1 ∧ TForm.rep r0 [z0_0] fz0 w' ∧ (∀ b, b ∈ fz0 → w0.heap.size ≤ b ∨ b ∈ (fp0 ++ (fp1 ++ (fp2)))) ∧ Bel w0 w' := by
 unfold f_spec_MultiplyForms at h
 refine calls_of (args := [u0_0, .agg #[u1_0], .agg #[u2_0]]) Try.func59 rfl 32 Try.ntmps59 (Nat.le_of_ble_eq_true rfl) ?_
 have hC := Ctx.start (X := Nox) w0 [Ty.item ((EI .i64).ty.sl) a0 [u0_0] fp0, Ty.item TForm a1 [u1_0] fp1, Ty.item TForm a2 [u2_0] fp2] (by simp only [List.mem_cons, List.not_mem_nil, or_false, forall_eq_or_imp, forall_eq]; exact ⟨q0, q1, q2⟩)
 have hp4 := (hC.getP 1 rfl)
 replace hC := hC.derive 1 rfl (Ty.item ETerm.ty.sl a1.terms [u1_0] fp1) (fun _ => (form_parts hp4)) (fun _ hb_ => hb_)
 have hp6 := (hC.getP 3 rfl)
 replace hC := hC.derive 3 rfl (Ty.item ETerm.ty.sl a2.terms [u2_0] fp2) (fun _ => (form_parts hp6)) (fun _ hb_ => hb_)
 refine sr ?_
 refine s_box (v := .agg #[u1_0]) hC [u1_0] rfl rfl fun b8 w10 hB_ hC => ?_
 refine s_box (v := .agg #[u2_0]) hC [u2_0] rfl rfl fun b11 w13 hB_ hC => ?_
 refine s_alloc hC [.slice none 0 0] z51 rfl fun b14 w16 hB_ hC => ?_
 refine s_as (v := .int .i64 0) rfl ?_
 refine dn ?_
 refine wp_seq ?_
 refine sr ?_
 refine s_mv (v := u0_0) rfl ?_
 refine s_call [u0_0] _ Try.func61 rfl rfl rfl (c_spec_l01Degrees a0 h _ (hC.getP 2 rfl)) (fun ret17 w19 hR18 => ?_)
 obtain ⟨r20, rfl, h, hB21⟩ := hR18
 refine ⟨_, rfl, ?_⟩
 replace hC := hC.grow hB21
 refine s_not rfl ?_
 refine s_mv (v := .bool (!r20)) rfl ?_
 refine bsplit (!r20) (fun hb22 => ?_) (fun hb22 => ?_)
 ·replace h := ift h (ne_t (not_t hb22))
  refine guardOff (b := true) 3 11 rfl (tr rfl (congrArg _ hb22)) (by decide) ?_
  refine guardOff (b := true) 3 11 rfl (tr rfl (congrArg _ hb22)) (by decide) ?_
  refine guardOff (b := true) 3 11 rfl (tr rfl (congrArg _ hb22)) (by decide) ?_
  refine guardOff (b := true) 3 11 rfl (tr rfl (congrArg _ hb22)) (by decide) ?_
  refine s_pick (v := .bool true) (b := true) (tr rfl (congrArg _ hb22)) rfl ?_
  refine s_mv (v := .bool true) rfl ?_
  refine guardOff (b := true) 9 17 rfl (tr rfl (congrArg _ rfl)) (by decide) ?_
  refine guardOff (b := true) 9 17 rfl (tr rfl (congrArg _ rfl)) (by decide) ?_
  refine guardOff (b := true) 9 17 rfl (tr rfl (congrArg _ rfl)) (by decide) ?_
  refine guardOff (b := true) 9 17 rfl (tr rfl (congrArg _ rfl)) (by decide) ?_
  refine s_pick (v := .bool true) (b := true) rfl rfl ?_
  refine dn ?_
  refine cw_true rfl rfl ?_
  refine sr ?_
  refine s_build [] rfl (bl51   _) ?_
  refine s_store (v := .agg #[.slice none 0 0]) hC 0 [.slice none 0 0] [.slice none 0 0] rfl ag51.size rfl rfl rfl rfl rfl (Nat.le_of_ble_eq_true rfl) rfl fun w23 hC => ?_
  refine s_as (v := .int .i64 1) rfl ?_
  refine dn ?_
  refine wp_ret (then_ret ?_)
  refine ret2 (fn := Try.f59) rfl ?_ ?_ ⟨(⟨[]⟩ : Vc.Form), .slice none 0 0, [], 1, rfl, h, (form_mk (rep_nil _ _)), (fun b hb => .inl ((fun b hb => absurd hb (by simp)) b hb)), hC.below⟩ (.inl rfl)
  ·exact res_cellA hC 0 rfl ag51 rfl rfl
  ·exact res_tmp rfl
 ·replace h := iff_ h (not_not_intro ((not_f hb22)))
  refine guardOn 3 11 rfl rfl hb22 ?_
  refine s_mv (v := u0_0) rfl ?_
  refine guardOn 3 11 rfl rfl hb22 ?_
  refine s_loadA hC 2 [u1_0] rfl ag51 rfl rfl rfl ?_
  refine guardOn 3 11 rfl rfl hb22 ?_
  refine s_call [u0_0, .agg #[u1_0]] _ Try.func87 rfl rfl rfl (c_spec_l01Is a0 a1 h _ (hC.getP 2 rfl) (form_mk (hC.getP 1 rfl))) (fun ret24 w26 hR25 => ?_)
  obtain ⟨r27, rfl, h, hB28⟩ := hR25
  refine ⟨_, rfl, ?_⟩
  replace hC := hC.grow hB28
  refine guardOn 3 11 rfl rfl hb22 ?_
  refine s_not rfl ?_
  refine s_pick (v := .bool (!r27)) (b := false) (tr rfl (congrArg _ hb22)) rfl ?_
  refine s_mv (v := .bool (!r27)) rfl ?_
  refine bsplit (!r27) (fun hb29 => ?_) (fun hb29 => ?_)
  ·replace h := ift h (ne_t (not_t hb29))
   refine guardOff (b := true) 9 17 rfl (tr rfl (congrArg _ hb29)) (by decide) ?_
   refine guardOff (b := true) 9 17 rfl (tr rfl (congrArg _ hb29)) (by decide) ?_
   refine guardOff (b := true) 9 17 rfl (tr rfl (congrArg _ hb29)) (by decide) ?_
   refine guardOff (b := true) 9 17 rfl (tr rfl (congrArg _ hb29)) (by decide) ?_
   refine s_pick (v := .bool true) (b := true) (tr rfl (congrArg _ hb29)) rfl ?_
   refine dn ?_
   refine cw_true rfl rfl ?_
   refine sr ?_
   refine s_build [] rfl (bl51   _) ?_
   refine s_store (v := .agg #[.slice none 0 0]) hC 0 [.slice none 0 0] [.slice none 0 0] rfl ag51.size rfl rfl rfl rfl rfl (Nat.le_of_ble_eq_true rfl) rfl fun w30 hC => ?_
   refine s_as (v := .int .i64 1) rfl ?_
   refine dn ?_
   refine wp_ret (then_ret ?_)
   refine ret2 (fn := Try.f59) rfl ?_ ?_ ⟨(⟨[]⟩ : Vc.Form), .slice none 0 0, [], 1, rfl, h, (form_mk (rep_nil _ _)), (fun b hb => .inl ((fun b hb => absurd hb (by simp)) b hb)), hC.below⟩ (.inl rfl)
   ·exact res_cellA hC 0 rfl ag51 rfl rfl
   ·exact res_tmp rfl
  ·replace h := iff_ h (not_not_intro ((not_f hb29)))
   refine guardOn 9 17 rfl rfl hb29 ?_
   refine s_mv (v := u0_0) rfl ?_
   refine guardOn 9 17 rfl rfl hb29 ?_
   refine s_loadA hC 1 [u2_0] rfl ag51 rfl rfl rfl ?_
   refine guardOn 9 17 rfl rfl hb29 ?_
   refine s_call [u0_0, .agg #[u2_0]] _ Try.func87 rfl rfl rfl (c_spec_l01Is a0 a2 h _ (hC.getP 2 rfl) (form_mk (hC.getP 0 rfl))) (fun ret31 w33 hR32 => ?_)
   obtain ⟨r34, rfl, h, hB35⟩ := hR32
   refine ⟨_, rfl, ?_⟩
   replace hC := hC.grow hB35
   refine guardOn 9 17 rfl rfl hb29 ?_
   refine s_not rfl ?_
   refine s_pick (v := .bool (!r34)) (b := false) (tr rfl (congrArg _ hb29)) rfl ?_
   refine dn ?_
   refine cw_cond rfl (fun hb36 => ?_) (fun hb36 => ?_)
   ·replace h := ift h (ne_t (not_t hb36))
    refine sr ?_
    refine s_build [] rfl (bl51   _) ?_
    refine s_store (v := .agg #[.slice none 0 0]) hC 0 [.slice none 0 0] [.slice none 0 0] rfl ag51.size rfl rfl rfl rfl rfl (Nat.le_of_ble_eq_true rfl) rfl fun w37 hC => ?_
    refine s_as (v := .int .i64 1) rfl ?_
    refine dn ?_
    refine wp_ret (then_ret ?_)
    refine ret2 (fn := Try.f59) rfl ?_ ?_ ⟨(⟨[]⟩ : Vc.Form), .slice none 0 0, [], 1, rfl, h, (form_mk (rep_nil _ _)), (fun b hb => .inl ((fun b hb => absurd hb (by simp)) b hb)), hC.below⟩ (.inl rfl)
    ·exact res_cellA hC 0 rfl ag51 rfl rfl
    ·exact res_tmp rfl
   ·replace h := iff_ h (not_not_intro ((not_f hb36)))
    refine wp_skip ?_
    refine then_norm ?_
    refine sr ?_
    refine s_mv (v := u0_0) rfl ?_
    refine s_mv (v := u0_0) rfl ?_
    refine s_loadA hC 2 [u1_0] rfl ag51 rfl rfl rfl ?_
    refine s_loadA hC 1 [u2_0] rfl ag51 rfl rfl rfl ?_
    refine s_call [u0_0, .agg #[u1_0], .agg #[u2_0]] _ Try.func111 rfl rfl rfl (c_spec_l01Times a0 a1 a2 h _ (hC.getP 2 rfl) (form_mk (hC.getP 1 rfl)) (form_mk (hC.getP 0 rfl))) (fun ret38 w40 hR39 => ?_)
    obtain ⟨r41, u42, f43, rfl, h, hr44, hf45, hB46⟩ := hR39
    refine ⟨_, rfl, ?_⟩
    replace hC := hC.push hB46 (Tr.item (TrForm 93) r41 [u42] f43) hr44 hf45
    obtain ⟨ho48, hf49⟩ := form_split (hC.getM 0 rfl)
    subst hf49
    replace hC := hC.recast (c := own 93 9 u42 r41.terms.length (ETerm.encs r41.terms)) (fun _ h_ => h_) (fun _ => ho48)
    have hs54 := own_fresh hC 0 rfl
    replace hC := hC.thaw 0 rfl (Ty.item ETerm.ty.sl r41.terms [u42] (Option.toList (Value.ownBlock u42))) own_repE (fun _ hb_ => hb_)
    refine s_call [u0_0, .agg #[u42]] _ Try.func88 rfl rfl rfl (c_spec_l01Told a0 (⟨r41.terms⟩ : Vc.Form) h _ (hC.getP 3 rfl) (form_mk (hC.getP 0 rfl))) (fun ret56 w58 hR57 => ?_)
    obtain ⟨r59, u60, f61, r64, rfl, h, hr62, hf63, hB65⟩ := hR57
    refine ⟨_, rfl, ?_⟩
    have hs66 : ∀ b, b ∈ f61 → w0.heap.size ≤ b ∨ b ∈ (fp0 ++ (fp1 ++ (fp2))) := (fun b hb => (hf63 b hb).elim (fun h_ => .inl (Nat.le_trans hC.size h_)) (fun hb => (List.mem_append.1 hb).elim (fun hb => .inr (List.mem_append_left _ hb)) (fun hb => .inl (hs54 b hb))))
    replace hC := hC.pushR hB65 (Ty.item TForm r59 [u60] f61) hr62 (fun b hb => (hf63 b hb).elim .inl (fun hb => .inr ((List.mem_append.1 hb).elim (fun hb => ⟨_, List.mem_of_getElem? (i := 3) rfl, hb⟩) (fun hb => ⟨_, List.mem_of_getElem? (i := 0) rfl, hb⟩))))
    have hp68 := (hC.getP 0 rfl)
    replace hC := hC.derive 0 rfl (Ty.item ETerm.ty.sl r59.terms [u60] f61) (fun _ => (form_parts hp68)) (fun _ hb_ => hb_)
    refine s_ext (v := .agg #[u60]) rfl rfl ?_
    refine s_ext (v := .int .i64 r64) rfl rfl ?_
    refine s_store (v := .agg #[u60]) hC 0 [u60] [u60] rfl ag51.size rfl rfl rfl rfl (all_c (rep_oneC (hC.getP 0 rfl)) rfl) (Nat.le_of_ble_eq_true rfl) rfl fun w70 hC => ?_
    refine s_as (v := .int .i64 r64) rfl ?_
    refine dn ?_
    refine wp_ret ?_
    refine ret2 (fn := Try.f59) rfl ?_ ?_ ⟨r59, u60, f61, r64, rfl, h, (form_mk (hC.getP 0 rfl)), (fun b hb => hs66 b hb), hC.below⟩ (.inl rfl)
    ·exact res_cellA hC 0 rfl ag51 rfl rfl
    ·exact res_tmp rfl
def f_laws_szTermS (a0 : List Term) (a1 : Int) (K : Int → Prop) : Prop :=
 (if IntKind.i64.wrap (a1 - (a0.length : Int)) < 0 then K (-1) else K (IntKind.i64.wrap (a1 - (a0.length : Int))))
theorem c_laws_szTermS (a0 : List Term) (a1 : Int) {u0_0 : Value} {fp0 : List Nat} {K : Int → Prop} (h : f_laws_szTermS a0 a1 K) (w0 : World) (q0 : ETerm.ty.sl.rep a0 [u0_0] fp0 w0) :
  Calls Try.prog 86 #[u0_0, .int .i64 a1] w0 fun e w' => ∃ (r0 : Int), 
   e = .returned (.int .i64 r0) ∧ K r0 ∧ Bel w0 w' := by
 unfold f_laws_szTermS at h
 refine calls_of (args := [u0_0, .int .i64 a1]) Try.func86 rfl 12 Try.ntmps86 (Nat.le_of_ble_eq_true rfl) ?_
 have hC := Ctx.start (X := Nox) w0 [Ty.item ETerm.ty.sl a0 [u0_0] fp0] (by simp only [List.mem_cons, List.not_mem_nil, or_false, forall_eq_or_imp, forall_eq]; exact q0)
 refine sr ?_
 refine s_as (v := .int .i64 0) rfl ?_
 refine dn ?_
 refine sr ?_
 refine s_mv (v := .int .i64 a1) rfl ?_
 refine s_mv (v := u0_0) rfl ?_
 obtain ⟨Ad2, c3, hv4⟩ := sl_len (hC.getP 0 rfl)
 refine s_len Try.underlying58 (tr rfl hv4) ?_
 refine s_sub rfl rfl ?_
 refine s_as (v := .int .i64 (IntKind.i64.wrap (a1 - (a0.length : Int)))) rfl ?_
 refine dn ?_
 refine wp_seq ?_
 refine sr ?_
 refine s_mv (v := .int .i64 (IntKind.i64.wrap (a1 - (a0.length : Int)))) rfl ?_
 refine s_lss rfl rfl ?_
 refine dn ?_
 refine cw_cond rfl (fun hb5 => ?_) (fun hb5 => ?_)
 ·replace h := ift h (ct hb5)
  refine sr ?_
  refine s_as (v := .int .i64 (-1)) rfl ?_
  refine dn ?_
  refine wp_ret (then_ret ?_)
  refine ret1 (fn := Try.f86) rfl ?_ ⟨(-1), rfl, h, hC.below⟩ (.inl rfl)
  exact res_tmp rfl
 ·replace h := iff_ h (cf hb5)
  refine wp_skip ?_
  refine then_norm ?_
  refine sr ?_
  refine s_mv (v := .int .i64 (IntKind.i64.wrap (a1 - (a0.length : Int)))) rfl ?_
  refine s_as (v := .int .i64 (IntKind.i64.wrap (a1 - (a0.length : Int)))) rfl ?_
  refine dn ?_
  refine wp_ret ?_
  refine ret1 (fn := Try.f86) rfl ?_ ⟨IntKind.i64.wrap (a1 - (a0.length : Int)), rfl, h, hC.below⟩ (.inl rfl)
  exact res_tmp rfl
def f_laws_szForm (a0 : Vc.Form) (a1 : Int) (K : Int → Prop) : Prop :=
 f_laws_szTermS a0.terms a1 (fun r10 => (if r10 < 0 then K (-1) else K r10))
theorem c_laws_szForm (a0 : Vc.Form) (a1 : Int) {u0_0 : Value} {fp0 : List Nat} {K : Int → Prop} (h : f_laws_szForm a0 a1 K) (w0 : World) (q0 : TForm.rep a0 [u0_0] fp0 w0) :
  Calls Try.prog 39 #[.agg #[u0_0], .int .i64 a1] w0 fun e w' => ∃ (r0 : Int), 
   e = .returned (.int .i64 r0) ∧ K r0 ∧ Bel w0 w' := by
 unfold f_laws_szForm at h
 refine calls_of (args := [.agg #[u0_0], .int .i64 a1]) Try.func39 rfl 12 Try.ntmps39 (Nat.le_of_ble_eq_true rfl) ?_
 have hC := Ctx.start (X := Nox) w0 [Ty.item TForm a0 [u0_0] fp0] (by simp only [List.mem_cons, List.not_mem_nil, or_false, forall_eq_or_imp, forall_eq]; exact q0)
 have hp2 := (hC.getP 0 rfl)
 replace hC := hC.derive 0 rfl (Ty.item ETerm.ty.sl a0.terms [u0_0] fp0) (fun _ => (form_parts hp2)) (fun _ hb_ => hb_)
 refine sr ?_
 refine s_box (v := .agg #[u0_0]) hC [u0_0] rfl rfl fun b4 w6 hB_ hC => ?_
 refine s_as (v := .int .i64 0) rfl ?_
 refine dn ?_
 refine sr ?_
 refine s_faddrB 0 Try.underlying60 rfl sc58.size rfl rfl ?_
 refine s_loadS hC 0 (u0_0) rfl sc58 rfl rfl ?_
 refine s_mv (v := .int .i64 a1) rfl ?_
 refine s_call [u0_0, .int .i64 a1] _ Try.func86 rfl rfl rfl (c_laws_szTermS a0.terms a1 h _ (hC.getP 0 rfl)) (fun ret7 w9 hR8 => ?_)
 obtain ⟨r10, rfl, h, hB11⟩ := hR8
 refine ⟨_, rfl, ?_⟩
 replace hC := hC.grow hB11
 refine s_as (v := .int .i64 r10) rfl ?_
 refine dn ?_
 refine wp_seq ?_
 refine sr ?_
 refine s_mv (v := .int .i64 r10) rfl ?_
 refine s_lss rfl rfl ?_
 refine dn ?_
 refine cw_cond rfl (fun hb12 => ?_) (fun hb12 => ?_)
 ·replace h := ift h (ct hb12)
  refine sr ?_
  refine s_as (v := .int .i64 (-1)) rfl ?_
  refine dn ?_
  refine wp_ret (then_ret ?_)
  refine ret1 (fn := Try.f39) rfl ?_ ⟨(-1), rfl, h, hC.below⟩ (.inl rfl)
  exact res_tmp rfl
 ·replace h := iff_ h (cf hb12)
  refine wp_skip ?_
  refine then_norm ?_
  refine sr ?_
  refine s_mv (v := .int .i64 r10) rfl ?_
  refine s_as (v := .int .i64 r10) rfl ?_
  refine dn ?_
  refine wp_ret ?_
  refine ret1 (fn := Try.f39) rfl ?_ ⟨r10, rfl, h, hC.below⟩ (.inl rfl)
  exact res_tmp rfl
end Go.Proofs.Ytjngkbalaipdbaa
