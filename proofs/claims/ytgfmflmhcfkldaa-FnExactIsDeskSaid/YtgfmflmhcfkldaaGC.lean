/- Printed by vcgen.py: functions of the program as predicates, and that the machine's calls meet them. -/
import Derived.Test.YtgfmflmhcfkldaaGA
import Derived.Test.YtgfmflmhcfkldaaVn
import Derived.KernelRfl
set_option linter.unusedVariables false
set_option linter.unusedSimpArgs false
set_option maxRecDepth 4000
set_option maxHeartbeats 4000000
namespace Go.Proofs.Ytgfmflmhcfkldaa
open Go Go.RowKit Vc
theorem sc79 : ScaT Try.prog 79 := ⟨⟨_, Try.underlying79, rfl⟩, by kernel_rfl⟩
theorem ag39 : AggT Try.prog 39 1 := ⟨⟨_, Try.underlying39, rfl⟩, by kernel_rfl⟩
theorem sc23 : ScaT Try.prog 23 := ⟨⟨_, Try.underlying23, rfl⟩, by kernel_rfl⟩
theorem el46 : ElemT Try.prog 46 (.agg #[.slice none 0 0]) 1 24 := by unfold ElemT; kernel_rfl
theorem z31 : ZeroT Try.prog 31 (.agg #[.slice none 0 0, .slice none 0 0]) := by unfold ZeroT; kernel_rfl
def f_impl_IsAlgebra_1 (a0 : Vc.Form) (a1 : Alg) (K : Bool → Prop) : Prop :=
 f_impl_sumOf a0 (fun r15 => f_impl_Algebra_d a1 r15 (fun r24 => K (decide ((r24.length : Int) > 0))))
theorem c_impl_IsAlgebra_1 (a0 : Vc.Form) (a1 : Alg) {b1 : Nat} {u0_0 : Value} {u1_0 : Value} {u1_1 : Value} {fp0 : List Nat} {fp1 : List Nat} {K : Bool → Prop} (h : f_impl_IsAlgebra_1 a0 a1 K) (w0 : World) (q0 : TForm.rep a0 [u0_0] fp0 w0) (q1 : TAlg.rep a1 [u1_0, u1_1] fp1 w0) (qb1 : (blk b1 31 [u1_0, u1_1]).holds w0) :
  Calls Try.prog 90 #[.agg #[u0_0], .pointer (some ⟨b1, 0, none⟩)] w0 fun e w' => ∃ (r0 : Bool), 
   e = .returned (.bool r0) ∧ K r0 ∧ Bel w0 w' := by
 unfold f_impl_IsAlgebra_1 at h
 refine calls_of (args := [.agg #[u0_0], .pointer (some ⟨b1, 0, none⟩)]) Try.func90 rfl 9 Try.ntmps90 (Nat.le_of_ble_eq_true rfl) ?_
 have hC := Ctx.start (X := Nox) w0 [Ty.item TForm a0 [u0_0] fp0, Ty.item TAlg a1 [u1_0, u1_1] fp1, blk b1 31 [u1_0, u1_1]] (by simp only [List.mem_cons, List.not_mem_nil, or_false, forall_eq_or_imp, forall_eq]; exact ⟨q0, q1, qb1⟩)
 have hp4 := (hC.getP 0 rfl)
 replace hC := hC.derive 0 rfl (Ty.item ETerm.ty.sl a0.terms [u0_0] fp0) (fun _ => (form_parts hp4)) (fun _ hb_ => hb_)
 have hp6 := (hC.getP 2 rfl)
 replace hC := hC.derive 2 rfl (Ty.item ((EI .i64).ty.sl) a1.degrees [u1_0] fp1) (fun _ => (alg_parts hp6).1) (fun _ hb_ => hb_)
 replace hC := hC.derive 3 rfl (Ty.item TForm.sl a1.images [u1_1] fp1) (fun _ => (alg_parts hp6).2) (fun _ hb_ => hb_)
 refine sr ?_
 refine s_box (v := .agg #[u0_0]) hC [u0_0] rfl rfl fun b9 w11 hB_ hC => ?_
 refine s_as (v := .bool false) rfl ?_
 refine dn ?_
 refine sr ?_
 refine s_loadA hC 0 [u0_0] rfl ag46 rfl rfl rfl ?_
 refine s_call [.agg #[u0_0]] _ Try.func72 rfl rfl rfl (c_impl_sumOf a0 h _ (form_mk (hC.getP 2 rfl))) (fun ret12 w14 hR13 => ?_)
 obtain ⟨r15, b16, rfl, h, hr17, hf18, hB19⟩ := hR13
 refine ⟨_, rfl, ?_⟩
 replace hC := hC.push hB19 (mapI (kvA .i64) (vvI .i64) b16 r15) hr17 (fun b_ hb_ => by obtain rfl := List.mem_singleton.1 hb_; exact hf18)
 refine s_call [.pointer (some ⟨b1, 0, none⟩), .map (some b16)] _ Try.func71 rfl rfl rfl (c_impl_Algebra_d a1 r15 h _ (alg_mk (hC.getP 1 rfl) (hC.getP 0 rfl)) (hC.getP 5 rfl) (hC.getM 0 rfl)) (fun ret21 w23 hR22 => ?_)
 obtain ⟨r24, b25, rfl, h, hr26, hf27, hB28⟩ := hR22
 refine ⟨_, rfl, ?_⟩
 replace hC := hC.push hB28 (mapI (kvA .i64) (vvI .i64) b25 r24) hr26 (fun b_ hb_ => by obtain rfl := List.mem_singleton.1 hb_; exact hf27)
 refine s_maplen (hC.getM 0 rfl) Try.underlying104 rfl rfl ?_
 refine s_gtr rfl rfl ?_
 refine s_as (v := .bool (decide ((r24.length : Int) > 0))) rfl ?_
 refine dn ?_
 refine wp_ret ?_
 refine ret1 (fn := Try.f90) rfl ?_ ⟨decide ((r24.length : Int) > 0), rfl, h, hC.below⟩ (.inl rfl)
 exact res_tmp rfl
def f_slices_IndexFunc_impl_Form_impl_Form (a0 : List Vc.Form) (p1 : Vc.Form → (Bool → Prop) → Prop) (K : Int → Prop) : Prop :=
 forN (fun i23 (s24 : Unit) next26 => p1 (a0.getD i23 default) (fun r44 => (if r44 = true then K (i23 : Int) else next26 ()))) (fun (s24 : Unit) => K (-1)) a0.length 0 ()
theorem c_slices_IndexFunc_impl_Form_impl_Form (a0 : List Vc.Form) (p1 : Vc.Form → (Bool → Prop) → Prop) {u0_0 : Value} {fp0 : List Nat} {K : Int → Prop} (h : f_slices_IndexFunc_impl_Form_impl_Form a0 p1 K) (w0 : World) (q0 : TForm.sl.rep a0 [u0_0] fp0 w0) {g1 : Nat} {cp1 : List Value} {fn1 : Func} (hf1 : Try.prog.funcs[g1]? = some fn1) (hb1 : fn1.body.isNone = false) (hn1 : (fn1.name == "runtime.NumGoroutine") = false) (hp1 : ∀ (y0 : Vc.Form) (yu0_0 : Value) (yf0 : List Nat) (K_ : Bool → Prop) (w_ : World), Bel w0 w_ → TForm.rep y0 [yu0_0] yf0 w_ → p1 y0 K_ → Calls Try.prog g1 (List.toArray ([.agg #[yu0_0]] ++ cp1)) w_ fun e w' => ∃ (z0 : Bool), e = .returned (.bool z0) ∧ K_ z0 ∧ Bel w_ w') :
  Calls Try.prog 113 #[u0_0, .func (.func g1) #[] (List.toArray cp1)] w0 fun e w' => ∃ (r0 : Int), 
   e = .returned (.int .i64 r0) ∧ K r0 ∧ Bel w0 w' := by
 unfold f_slices_IndexFunc_impl_Form_impl_Form at h
 refine calls_of (args := [u0_0, .func (.func g1) #[] (List.toArray cp1)]) Try.func113 rfl 19 Try.ntmps113 (Nat.le_of_ble_eq_true rfl) ?_
 have hC := Ctx.start (X := Nox) w0 [Ty.item TForm.sl a0 [u0_0] fp0] (by simp only [List.mem_cons, List.not_mem_nil, or_false, forall_eq_or_imp, forall_eq]; exact q0)
 refine sr ?_
 refine s_as (v := .int .i64 0) rfl ?_
 refine dn ?_
 refine wp_seq ?_
 refine sr ?_
 refine s_mv (v := u0_0) rfl ?_
 obtain ⟨Ad2, c3, hv4⟩ := sl_len (hC.getP 0 rfl)
 refine s_len Try.underlying29 (tr rfl hv4) ?_
 refine s_mv (v := .int .i64 0) rfl ?_
 refine dn ?_
 refine wp_block ?_
 have hN25 : a0.length ≤ 9223372036854775807 := sl_max (hC.getP 0 rfl)
 refine loopN (S := Unit) _ _ (fun i23 s24 e_ w_ => Slots e_ [(0, u0_0), (1, .func (.func g1) #[] (List.toArray cp1)), (4, .int .i64 0), (7, .int .i64 (a0.length : Int)), (8, .int .i64 (i23 : Int))] ∧ Ctx Nox w0 w_ [] [Ty.item TForm.sl a0 [u0_0] fp0]) a0.length ?_ ?_ (s0 := ()) ?_ h
 ·clear hC h
  rintro i23 s24 e_ w30 next26 K27 hi29 ⟨hS_, hC⟩ h hK28
  refine sr ?_
  refine s_lss (sx hS_ 4 rfl) (sx hS_ 3 rfl) ?_
  refine dn ?_
  refine wp_seq ?_
  refine cw_true rfl (decide_eq_true (by omega)) ?_
  refine wp_skip ?_
  refine then_norm ?_
  refine wp_seq ?_
  refine wp_block ?_
  refine sr ?_
  refine s_mv (v := .int .i64 (i23 : Int)) (sx hS_ 4 rfl) ?_
  refine s_as (v := .int .i64 (i23 : Int)) rfl ?_
  refine dn ?_
  refine sr ?_
  refine s_mv (v := .func (.func g1) #[] (List.toArray cp1)) (sx hS_ 1 rfl) ?_
  refine s_mv (v := u0_0) (sx hS_ 0 rfl) ?_
  refine s_mv (v := .int .i64 (i23 : Int)) rfl ?_
  obtain ⟨Ad31, c32, hv33⟩ := sl_form (hC.getP 0 rfl) i23 hi29
  refine s_iaddrS (len := a0.length) Try.underlying29 ag46.size (tr rfl hv33) rfl (Int.natCast_nonneg _) (Int.ofNat_lt.2 hi29) ?_
  obtain ⟨cs_, hl35, hc36, hr37⟩ := sl_cells (hC.getP 0 rfl) hv33 i23 hi29
  obtain ⟨u34, rfl⟩ := List.length_eq_one_iff.1 hl35
  clear hl35
  rw [getD_eq _ _ hi29] at hr37
  have hp38 := hr37
  replace hC := hC.derive 0 rfl (Ty.item ETerm.ty.sl ((a0.getD i23 default).terms) [u34] fp0) (fun _ => (form_parts hp38)) (fun _ hb_ => hb_)
  refine s_loadCA [u34] hc36 ag46 rfl rfl ?_
  refine s_callv [.agg #[u34]] _ rfl hf1 hb1 hn1 rfl (hp1 _ _ _ _ _ hC.below (form_mk (hC.getP 0 rfl)) h) (fun ret40 w42 hR41 => ?_)
  obtain ⟨r44, rfl, h, hB43⟩ := hR41
  refine ⟨_, rfl, ?_⟩
  replace hC := hC.grow hB43
  refine dn ?_
  refine cw_cond rfl (fun hb45 => ?_) (fun hb45 => ?_)
  ·replace h := ift h (hb45)
   refine sr ?_
   refine s_mv (v := .int .i64 (i23 : Int)) rfl ?_
   refine s_as (v := .int .i64 (i23 : Int)) rfl ?_
   refine dn ?_
   refine wp_ret (blk_ret (then_ret (then_ret (blk_ret (then_ret ?_)))))
   refine ret1 (fn := Try.f113) rfl ?_ ⟨(i23 : Int), rfl, h, hC.below⟩ (.inl rfl)
   exact res_tmp rfl
  ·replace h := iff_ h (ne_t hb45)
   refine wp_skip ?_
   refine blk_norm ?_
   refine then_norm ?_
   refine cw_region ?_
   refine s_add (sx hS_ 4 rfl) rfl ?_
   refine s_mv (v := .int .i64 (IntKind.i64.wrap ((i23 : Int) + 1))) rfl ?_
   refine done ?_
   replace hC := hC.sel [] [1] (M' := []) (Ps' := [Ty.item TForm.sl a0 [u0_0] fp0]) (by decide) rfl rfl
   exact hK28 () _ _ ⟨(sk (sx hS_ 0 rfl) (sk (sx hS_ 1 rfl) (sk (sx hS_ 2 rfl) (sk (sx hS_ 3 rfl) (sk (tr rfl (congrArg _ (wrap64_nat hi29 hN25))) sn))))), hC⟩ h
 ·clear hC h
  rintro s24 e_ w46 K27 ⟨hS_, hC⟩ h
  refine sr ?_
  refine s_lss (sx hS_ 4 rfl) (sx hS_ 3 rfl) ?_
  refine dn ?_
  refine wp_seq ?_
  refine cw_false rfl (decide_eq_false (by omega)) ?_
  refine wp_exit (then_exit (then_exit (exit_in ?_)))
  refine then_norm ?_
  refine sr ?_
  refine s_as (v := .int .i64 (-1)) rfl ?_
  refine dn ?_
  refine wp_ret ?_
  refine ret1 (fn := Try.f113) rfl ?_ ⟨(-1), rfl, h, hC.below⟩ (.inl rfl)
  exact res_tmp rfl
 ·skip
  exact ⟨(sk rfl (sk rfl (sk rfl (sk rfl (sk rfl sn))))), hC⟩
def f_slices_ContainsFunc_impl_Form_impl_Form (a0 : List Vc.Form) (p1 : Vc.Form → (Bool → Prop) → Prop) (K : Bool → Prop) : Prop :=
 f_slices_IndexFunc_impl_Form_impl_Form a0 p1 (fun r5 => K (decide (r5 ≥ 0)))
theorem c_slices_ContainsFunc_impl_Form_impl_Form (a0 : List Vc.Form) (p1 : Vc.Form → (Bool → Prop) → Prop) {u0_0 : Value} {fp0 : List Nat} {K : Bool → Prop} (h : f_slices_ContainsFunc_impl_Form_impl_Form a0 p1 K) (w0 : World) (q0 : TForm.sl.rep a0 [u0_0] fp0 w0) {g1 : Nat} {cp1 : List Value} {fn1 : Func} (hf1 : Try.prog.funcs[g1]? = some fn1) (hb1 : fn1.body.isNone = false) (hn1 : (fn1.name == "runtime.NumGoroutine") = false) (hp1 : ∀ (y0 : Vc.Form) (yu0_0 : Value) (yf0 : List Nat) (K_ : Bool → Prop) (w_ : World), Bel w0 w_ → TForm.rep y0 [yu0_0] yf0 w_ → p1 y0 K_ → Calls Try.prog g1 (List.toArray ([.agg #[yu0_0]] ++ cp1)) w_ fun e w' => ∃ (z0 : Bool), e = .returned (.bool z0) ∧ K_ z0 ∧ Bel w_ w') :
  Calls Try.prog 82 #[u0_0, .func (.func g1) #[] (List.toArray cp1)] w0 fun e w' => ∃ (r0 : Bool), 
   e = .returned (.bool r0) ∧ K r0 ∧ Bel w0 w' := by
 unfold f_slices_ContainsFunc_impl_Form_impl_Form at h
 refine calls_of (args := [u0_0, .func (.func g1) #[] (List.toArray cp1)]) Try.func82 rfl 9 Try.ntmps82 (Nat.le_of_ble_eq_true rfl) ?_
 have hC := Ctx.start (X := Nox) w0 [Ty.item TForm.sl a0 [u0_0] fp0] (by simp only [List.mem_cons, List.not_mem_nil, or_false, forall_eq_or_imp, forall_eq]; exact q0)
 refine sr ?_
 refine s_as (v := .bool false) rfl ?_
 refine dn ?_
 refine sr ?_
 refine s_mv (v := u0_0) rfl ?_
 refine s_mv (v := .func (.func g1) #[] (List.toArray cp1)) rfl ?_
 refine s_call [u0_0, .func (.func g1) #[] (List.toArray cp1)] _ Try.func113 rfl rfl rfl (c_slices_IndexFunc_impl_Form_impl_Form a0 p1 h _ (hC.getP 0 rfl) hf1 hb1 hn1 (fun x0_ x1_ x2_ K_ w_ hb_ => hp1 x0_ x1_ x2_ K_ w_ (below_on hC.below hb_))) (fun ret2 w4 hR3 => ?_)
 obtain ⟨r5, rfl, h, hB6⟩ := hR3
 refine ⟨_, rfl, ?_⟩
 replace hC := hC.grow hB6
 refine s_geq rfl rfl ?_
 refine s_as (v := .bool (decide (r5 ≥ 0))) rfl ?_
 refine dn ?_
 refine wp_ret ?_
 refine ret1 (fn := Try.f82) rfl ?_ ⟨decide (r5 ≥ 0), rfl, h, hC.below⟩ (.inl rfl)
 exact res_tmp rfl
def f_impl_IsAlgebra (a0 : Alg) (K : Bool → Prop) : Prop :=
 f_impl_AreDegrees a0.degrees (fun r11 => (if ¬ (r11 = true) then K false else (if (a0.images.length : Int) ≠ (a0.degrees.length : Int) then K false else forN (fun i65 (s66 : Unit) next68 => f_impl_isForm a0.degrees (a0.images.getD i65 default) (fun r92 => (if ¬ (r92 = true) then K false else ((0 ≤ (i65 : Int) ∧ (i65 : Int) < (a0.degrees.length : Int)) ∧ f_impl_isOfDegree a0.degrees (a0.images.getD i65 default) (IntKind.i64.wrap ((a0.degrees.getD i65 default) + 1)) (fun r103 => (if ¬ (r103 = true) then K false else next68 ())))))) (fun (s66 : Unit) => f_slices_ContainsFunc_impl_Form_impl_Form a0.images (fun y0_ K_ => f_impl_IsAlgebra_1 y0_ a0 K_) (fun r110 => K (!r110))) a0.images.length 0 ())))
theorem c_impl_IsAlgebra (a0 : Alg) {u0_0 : Value} {u0_1 : Value} {fp0 : List Nat} {K : Bool → Prop} (h : f_impl_IsAlgebra a0 K) (w0 : World) (q0 : TAlg.rep a0 [u0_0, u0_1] fp0 w0) :
  Calls Try.prog 55 #[.agg #[u0_0, u0_1]] w0 fun e w' => ∃ (r0 : Bool), 
   e = .returned (.bool r0) ∧ K r0 ∧ Bel w0 w' := by
 unfold f_impl_IsAlgebra at h
 refine calls_of (args := [.agg #[u0_0, u0_1]]) Try.func55 rfl 50 Try.ntmps55 (Nat.le_of_ble_eq_true rfl) ?_
 have hC := Ctx.start (X := Nox) w0 [Ty.item TAlg a0 [u0_0, u0_1] fp0] (by simp only [List.mem_cons, List.not_mem_nil, or_false, forall_eq_or_imp, forall_eq]; exact q0)
 have hp2 := (hC.getP 0 rfl)
 replace hC := hC.derive 0 rfl (Ty.item ((EI .i64).ty.sl) a0.degrees [u0_0] fp0) (fun _ => (alg_parts hp2).1) (fun _ hb_ => hb_)
 replace hC := hC.derive 1 rfl (Ty.item TForm.sl a0.images [u0_1] fp0) (fun _ => (alg_parts hp2).2) (fun _ hb_ => hb_)
 refine sr ?_
 refine s_box (v := .agg #[u0_0, u0_1]) hC [u0_0, u0_1] rfl rfl fun b5 w7 hB_ hC => ?_
 refine s_as (v := .bool false) rfl ?_
 refine dn ?_
 refine wp_seq ?_
 refine sr ?_
 refine s_faddrB 0 Try.underlying31 rfl sc22.size rfl rfl ?_
 refine s_loadS hC 0 (u0_0) rfl sc22 rfl rfl ?_
 refine s_call [u0_0] _ Try.func88 rfl rfl rfl (c_impl_AreDegrees a0.degrees h _ (hC.getP 1 rfl)) (fun ret8 w10 hR9 => ?_)
 obtain ⟨r11, rfl, h, hB12⟩ := hR9
 refine ⟨_, rfl, ?_⟩
 replace hC := hC.grow hB12
 refine s_not rfl ?_
 refine s_mv (v := .bool (!r11)) rfl ?_
 refine bsplit (!r11) (fun hb13 => ?_) (fun hb13 => ?_)
 ·replace h := ift h (ne_t (not_t hb13))
  refine guardOff (b := true) 4 9 rfl (tr rfl (congrArg _ hb13)) (by decide) ?_
  refine guardOff (b := true) 4 9 rfl (tr rfl (congrArg _ hb13)) (by decide) ?_
  refine guardOff (b := true) 4 9 rfl (tr rfl (congrArg _ hb13)) (by decide) ?_
  refine guardOff (b := true) 4 9 rfl (tr rfl (congrArg _ hb13)) (by decide) ?_
  refine guardOff (b := true) 4 9 rfl (tr rfl (congrArg _ hb13)) (by decide) ?_
  refine guardOff (b := true) 4 9 rfl (tr rfl (congrArg _ hb13)) (by decide) ?_
  refine guardOff (b := true) 4 9 rfl (tr rfl (congrArg _ hb13)) (by decide) ?_
  refine s_pick (v := .bool true) (b := true) (tr rfl (congrArg _ hb13)) rfl ?_
  refine dn ?_
  refine cw_true rfl rfl ?_
  refine sr ?_
  refine s_as (v := .bool false) rfl ?_
  refine dn ?_
  refine wp_ret (then_ret ?_)
  refine ret1 (fn := Try.f55) rfl ?_ ⟨false, rfl, h, hC.below⟩ (.inl rfl)
  exact res_tmp rfl
 ·replace h := iff_ h (not_not_intro ((not_f hb13)))
  refine guardOn 4 9 rfl rfl hb13 ?_
  refine s_faddrB 1 Try.underlying31 rfl sc29.size rfl rfl ?_
  refine guardOn 4 9 rfl rfl hb13 ?_
  refine s_loadS hC 0 (u0_1) rfl sc29 rfl rfl ?_
  refine guardOn 4 9 rfl rfl hb13 ?_
  obtain ⟨Ad14, c15, hv16⟩ := sl_len (hC.getP 0 rfl)
  refine s_len Try.underlying29 (tr rfl hv16) ?_
  refine guardOn 4 9 rfl rfl hb13 ?_
  refine s_faddrB 0 Try.underlying31 rfl sc22.size rfl rfl ?_
  refine guardOn 4 9 rfl rfl hb13 ?_
  refine s_loadS hC 0 (u0_0) rfl sc22 rfl rfl ?_
  refine guardOn 4 9 rfl rfl hb13 ?_
  obtain ⟨Ad17, c18, hv19⟩ := sl_len (hC.getP 1 rfl)
  refine s_len Try.underlying22 (tr rfl hv19) ?_
  refine guardOn 4 9 rfl rfl hb13 ?_
  refine s_neq rfl rfl ?_
  refine s_pick (v := .bool (decide ((a0.images.length : Int) ≠ (a0.degrees.length : Int)))) (b := false) (tr rfl (congrArg _ hb13)) rfl ?_
  refine dn ?_
  refine cw_cond rfl (fun hb20 => ?_) (fun hb20 => ?_)
  ·replace h := ift h (ct hb20)
   refine sr ?_
   refine s_as (v := .bool false) rfl ?_
   refine dn ?_
   refine wp_ret (then_ret ?_)
   refine ret1 (fn := Try.f55) rfl ?_ ⟨false, rfl, h, hC.below⟩ (.inl rfl)
   exact res_tmp rfl
  ·replace h := iff_ h (cf hb20)
   refine wp_skip ?_
   refine then_norm ?_
   refine wp_seq ?_
   refine sr ?_
   refine s_faddrB 1 Try.underlying31 rfl sc29.size rfl rfl ?_
   refine s_loadS hC 0 (u0_1) rfl sc29 rfl rfl ?_
   obtain ⟨Ad21, c22, hv23⟩ := sl_len (hC.getP 0 rfl)
   refine s_len Try.underlying29 (tr rfl hv23) ?_
   refine s_mv (v := .int .i64 0) rfl ?_
   refine dn ?_
   refine wp_block ?_
   have hN67 : a0.images.length ≤ 9223372036854775807 := sl_max (hC.getP 0 rfl)
   refine loopN (S := Unit) _ _ (fun i65 s66 e_ w_ => Slots e_ [(1, .pointer (some ⟨b5, 0, none⟩)), (2, .bool false), (19, u0_1), (20, .int .i64 (a0.images.length : Int)), (21, .int .i64 (i65 : Int))] ∧ Ctx Nox w0 w_ [blk b5 31 [u0_0, u0_1]] [Ty.item TForm.sl a0.images [u0_1] fp0, Ty.item ((EI .i64).ty.sl) a0.degrees [u0_0] fp0, Ty.item TAlg a0 [u0_0, u0_1] fp0]) a0.images.length ?_ ?_ (s0 := ()) ?_ h
   ·clear hC h
    rintro i65 s66 e_ w72 next68 K69 hi71 ⟨hS_, hC⟩ h hK70
    refine sr ?_
    refine s_lss (sx hS_ 4 rfl) (sx hS_ 3 rfl) ?_
    refine dn ?_
    refine wp_seq ?_
    refine cw_true rfl (decide_eq_true (by omega)) ?_
    refine wp_skip ?_
    refine then_norm ?_
    refine wp_seq ?_
    refine wp_block ?_
    refine sr ?_
    refine s_mv (v := .int .i64 (i65 : Int)) (sx hS_ 4 rfl) ?_
    obtain ⟨Ad73, c74, hv75⟩ := sl_form (hC.getP 0 rfl) i65 hi71
    refine s_iaddrS (len := a0.images.length) Try.underlying29 ag46.size (tr (sx hS_ 2 rfl) hv75) (sx hS_ 4 rfl) (Int.natCast_nonneg _) (Int.ofNat_lt.2 hi71) ?_
    obtain ⟨cs_, hl77, hc78, hr79⟩ := sl_cells (hC.getP 0 rfl) hv75 i65 hi71
    obtain ⟨u76, rfl⟩ := List.length_eq_one_iff.1 hl77
    clear hl77
    rw [getD_eq _ _ hi71] at hr79
    have hp80 := hr79
    replace hC := hC.derive 0 rfl (Ty.item ETerm.ty.sl ((a0.images.getD i65 default).terms) [u76] fp0) (fun _ => (form_parts hp80)) (fun _ hb_ => hb_)
    refine s_loadCA [u76] hc78 ag46 rfl rfl ?_
    refine s_alloc hC [.slice none 0 0] z46 rfl fun b82 w84 hB_ hC => ?_
    refine s_as (v := .int .i64 (i65 : Int)) rfl ?_
    refine s_store (v := .agg #[u76]) hC 0 [u76] [u76] rfl ag46.size rfl rfl rfl rfl (all_c (rep_oneC (hC.getP 0 rfl)) rfl) (Nat.le_of_ble_eq_true rfl) rfl fun w85 hC => ?_
    refine dn ?_
    refine wp_seq ?_
    refine cw_draw 15 mixed [0, 1, 0, 7, 15, 31, 63, 127, 63, 63, 575, 63, 3647, 7743, 15935, 32767, 65535, 131071] [1, 2, 7, 8, 10, 12, 13] [0, 4, 5, 6, 7, 8, 9, 10, 11, 12, 13, 14] (by kernel_rfl) (by kernel_rfl) (by kernel_rfl) (fun hM87 hM88 w86 hB_ => ?_)
    replace hC := hC.grow hB_
    refine ae_lookF belPre 0 (.pointer (some ⟨b5, 0, none⟩)) rfl rfl (by kernel_rfl) (hM88 0 rfl) (fun w_ => .inl ⟨rfl, by exact r_faddrB 0 Try.underlying31 rfl sc22.size (sx hS_ 0 rfl) rfl⟩) (listed' := (dbits 18 1)) (by kernel_rfl) ?_
    refine ae_look belPre 1 (u0_0) rfl rfl (by kernel_rfl) (hM87 1 rfl) (fun w_ hB_ => .inl ⟨rfl, by exact r_loadS (hC.grow hB_) 1 (u0_0) rfl sc22 rfl rfl⟩) (listed' := (dbits 18 3)) (by kernel_rfl) ?_
    refine ae_look belPre 2 (.agg #[u76]) rfl rfl (by kernel_rfl) (hM87 2 rfl) (fun w_ hB_ => .inl ⟨rfl, by exact r_loadA (hC.grow hB_) 0 [u76] rfl ag46 rfl rfl rfl⟩) (listed' := (dbits 18 7)) (by kernel_rfl) ?_
    refine ae_one 3 rfl (by kernel_rfl) ?_
    refine s_call [u0_0, .agg #[u76]] _ Try.func56 rfl rfl rfl (c_impl_isForm a0.degrees (a0.images.getD i65 default) h _ (hC.getP 2 rfl) (form_mk (hC.getP 0 rfl))) (fun ret89 w91 hR90 => ?_)
    obtain ⟨r92, rfl, h, hB93⟩ := hR90
    refine ⟨_, rfl, ?_⟩
    replace hC := hC.grow hB93
    refine done ?_
    refine ak_intro (by assumption) (listed' := (dbits 18 15)) (by kernel_rfl) ?_
    refine ae_lookF belPre 4 (.bool (!r92)) rfl rfl (by kernel_rfl) (hM88 4 rfl) (fun w_ => .inl ⟨rfl, by exact r_not rfl⟩) (listed' := (dbits 18 31)) (by kernel_rfl) ?_
    refine ae_lookF belPre 5 (.bool (!r92)) rfl rfl (by kernel_rfl) (hM88 5 rfl) (fun w_ => .inl ⟨rfl, by exact r_mv (v := .bool (!r92)) rfl⟩) (listed' := (dbits 18 63)) (by kernel_rfl) ?_
    refine bsplit (!r92) (fun hb94 => ?_) (fun hb94 => ?_)
    ·replace h := ift h (ne_t (not_t hb94))
     refine ae_lookF belPre 6 undef rfl rfl (by kernel_rfl) (hM88 6 rfl) (fun w_ => .inr ⟨wanted_off (b := true) 5 31 rfl (tr rfl (congrArg _ hb94)) (by decide), rfl⟩) (listed' := (dbits 18 127)) (by kernel_rfl) ?_
     refine ae_lookF belPre 7 undef rfl rfl (by kernel_rfl) (hM88 7 rfl) (fun w_ => .inr ⟨wanted_off (b := true) 5 31 rfl (tr rfl (congrArg _ hb94)) (by decide), rfl⟩) (listed' := (dbits 18 255)) (by kernel_rfl) ?_
     refine ae_lookF belPre 8 undef rfl rfl (by kernel_rfl) (hM88 8 rfl) (fun w_ => .inr ⟨wanted_off (b := true) 5 31 rfl (tr rfl (congrArg _ hb94)) (by decide), rfl⟩) (listed' := (dbits 18 511)) (by kernel_rfl) ?_
     refine ae_lookF belPre 9 undef rfl rfl (by kernel_rfl) (hM88 9 rfl) (fun w_ => .inr ⟨wanted_off (b := true) 5 31 rfl (tr rfl (congrArg _ hb94)) (by decide), rfl⟩) (listed' := (dbits 18 1023)) (by kernel_rfl) ?_
     refine ae_lookF belPre 10 undef rfl rfl (by kernel_rfl) (hM88 10 rfl) (fun w_ => .inr ⟨wanted_off (b := true) 5 31 rfl (tr rfl (congrArg _ hb94)) (by decide), rfl⟩) (listed' := (dbits 18 2047)) (by kernel_rfl) ?_
     refine ae_lookF belPre 11 undef rfl rfl (by kernel_rfl) (hM88 11 rfl) (fun w_ => .inr ⟨wanted_off (b := true) 5 31 rfl (tr rfl (congrArg _ hb94)) (by decide), rfl⟩) (listed' := (dbits 18 4095)) (by kernel_rfl) ?_
     refine ae_lookF belPre 12 undef rfl rfl (by kernel_rfl) (hM88 12 rfl) (fun w_ => .inr ⟨wanted_off (b := true) 5 31 rfl (tr rfl (congrArg _ hb94)) (by decide), rfl⟩) (listed' := (dbits 18 8191)) (by kernel_rfl) ?_
     refine ae_lookF belPre 13 undef rfl rfl (by kernel_rfl) (hM88 13 rfl) (fun w_ => .inr ⟨wanted_off (b := true) 5 31 rfl (tr rfl (congrArg _ hb94)) (by decide), rfl⟩) (listed' := (dbits 18 16383)) (by kernel_rfl) ?_
     refine ae_lookF belPre 14 undef rfl rfl (by kernel_rfl) (hM88 14 rfl) (fun w_ => .inr ⟨wanted_off (b := true) 5 31 rfl (tr rfl (congrArg _ hb94)) (by decide), rfl⟩) (listed' := (dbits 18 32767)) (by kernel_rfl) ?_
     refine ae_tail 15 (by decide) (by decide) (by kernel_rfl) (by kernel_rfl) rfl ?_
     refine guardOff (b := true) 5 31 rfl (tr rfl (congrArg _ hb94)) (by decide) ?_
     refine guardOff (b := true) 5 31 rfl (tr rfl (congrArg _ hb94)) (by decide) ?_
     refine s_pick (v := .bool true) (b := true) (tr rfl (congrArg _ hb94)) rfl ?_
     refine done ?_
     refine qn_norm ?_
     refine then_norm ?_
     refine cw_true rfl rfl ?_
     refine sr ?_
     refine s_as (v := .bool false) rfl ?_
     refine dn ?_
     refine wp_ret (blk_ret (then_ret (then_ret (blk_ret (then_ret ?_)))))
     refine ret1 (fn := Try.f55) rfl ?_ ⟨false, rfl, h, hC.below⟩ (.inl rfl)
     exact res_tmp rfl
    ·replace h := iff_ h (not_not_intro ((not_f hb94)))
     refine ae_lookF belPre 6 (.pointer (some ⟨b5, 0, none⟩)) rfl rfl (by kernel_rfl) (hM88 6 rfl) (fun w_ => .inl ⟨wanted_on 5 31 rfl rfl hb94, by exact r_faddrB 0 Try.underlying31 rfl sc22.size (sx hS_ 0 rfl) rfl⟩) (listed' := (dbits 18 127)) (by kernel_rfl) ?_
     refine ae_look belPre 7 (u0_0) rfl rfl (by kernel_rfl) (hM87 7 rfl) (fun w_ hB_ => .inl ⟨wanted_on 5 31 rfl rfl hb94, by exact r_loadS (hC.grow hB_) 1 (u0_0) rfl sc22 rfl rfl⟩) (listed' := (dbits 18 255)) (by kernel_rfl) ?_
     refine ae_look belPre 8 (.agg #[u76]) rfl rfl (by kernel_rfl) (hM87 8 rfl) (fun w_ hB_ => .inl ⟨wanted_on 5 31 rfl rfl hb94, by exact r_loadA (hC.grow hB_) 0 [u76] rfl ag46 rfl rfl rfl⟩) (listed' := (dbits 18 511)) (by kernel_rfl) ?_
     refine ae_lookF belPre 9 (.pointer (some ⟨b5, 0, none⟩)) rfl rfl (by kernel_rfl) (hM88 9 rfl) (fun w_ => .inl ⟨wanted_on 5 31 rfl rfl hb94, by exact r_faddrB 0 Try.underlying31 rfl sc22.size (sx hS_ 0 rfl) rfl⟩) (listed' := (dbits 18 1023)) (by kernel_rfl) ?_
     refine ae_look belPre 10 (u0_0) rfl rfl (by kernel_rfl) (hM87 10 rfl) (fun w_ hB_ => .inl ⟨wanted_on 5 31 rfl rfl hb94, by exact r_loadS (hC.grow hB_) 1 (u0_0) rfl sc22 rfl rfl⟩) (listed' := (dbits 18 2047)) (by kernel_rfl) ?_
     refine ae_lookF belPre 11 (.int .i64 (i65 : Int)) rfl rfl (by kernel_rfl) (hM88 11 rfl) (fun w_ => .inl ⟨wanted_on 5 31 rfl rfl hb94, by exact r_mv (v := .int .i64 (i65 : Int)) rfl⟩) (listed' := (dbits 18 4095)) (by kernel_rfl) ?_
     obtain ⟨⟨h0_95, h1_96⟩, h⟩ := h
     obtain ⟨Ad97, c98, hv99⟩ := sl_form (hC.getP 2 rfl) i65 (show i65 < a0.degrees.length by omega)
     refine ae_look belPre 12 (.pointer (some (Ad97.add (i65 * 1)))) rfl rfl (by kernel_rfl) (hM87 12 rfl) (fun w_ hB_ => .inl ⟨wanted_on 5 31 rfl rfl hb94, by exact r_iaddrS (len := a0.degrees.length) Try.underlying22 sc2.size (by exact tr rfl hv99) rfl h0_95 h1_96⟩) (listed' := (dbits 18 8191)) (by kernel_rfl) ?_
     refine ae_look belPre 13 (.int .i64 (a0.degrees.getD i65 default)) rfl rfl (by kernel_rfl) (hM87 13 rfl) (fun w_ hB_ => .inl ⟨wanted_on 5 31 rfl rfl hb94, by exact r_loadCS (.int .i64 (a0.degrees.getD i65 default)) (sl_cellsE ((hC.grow hB_).getP 2 rfl) hv99 i65 (show i65 < a0.degrees.length by omega)) sc2 rfl⟩) (listed' := (dbits 18 16383)) (by kernel_rfl) ?_
     refine ae_lookF belPre 14 (.int .i64 (IntKind.i64.wrap ((a0.degrees.getD i65 default) + 1))) rfl rfl (by kernel_rfl) (hM88 14 rfl) (fun w_ => .inl ⟨wanted_on 5 31 rfl rfl hb94, by exact r_add rfl rfl⟩) (listed' := (dbits 18 32767)) (by kernel_rfl) ?_
     refine ae_tail 15 (by decide) (by decide) (by kernel_rfl) (by kernel_rfl) rfl ?_
     refine guardOn 5 31 rfl rfl hb94 ?_
     refine s_call [u0_0, .agg #[u76], .int .i64 (IntKind.i64.wrap ((a0.degrees.getD i65 default) + 1))] _ Try.func89 rfl rfl rfl (c_impl_isOfDegree a0.degrees (a0.images.getD i65 default) (IntKind.i64.wrap ((a0.degrees.getD i65 default) + 1)) h _ (hC.getP 2 rfl) (form_mk (hC.getP 0 rfl))) (fun ret100 w102 hR101 => ?_)
     obtain ⟨r103, rfl, h, hB104⟩ := hR101
     refine ⟨_, rfl, ?_⟩
     replace hC := hC.grow hB104
     refine guardOn 5 31 rfl rfl hb94 ?_
     refine s_not rfl ?_
     refine s_pick (v := .bool (!r103)) (b := false) (tr rfl (congrArg _ hb94)) rfl ?_
     refine done ?_
     refine qn_norm ?_
     refine then_norm ?_
     refine cw_cond rfl (fun hb105 => ?_) (fun hb105 => ?_)
     ·replace h := ift h (ne_t (not_t hb105))
      refine sr ?_
      refine s_as (v := .bool false) rfl ?_
      refine dn ?_
      refine wp_ret (blk_ret (then_ret (then_ret (blk_ret (then_ret ?_)))))
      refine ret1 (fn := Try.f55) rfl ?_ ⟨false, rfl, h, hC.below⟩ (.inl rfl)
      exact res_tmp rfl
     ·replace h := iff_ h (not_not_intro ((not_f hb105)))
      refine wp_skip ?_
      refine blk_norm ?_
      refine then_norm ?_
      refine cw_region ?_
      refine s_add (sx hS_ 4 rfl) rfl ?_
      refine s_mv (v := .int .i64 (IntKind.i64.wrap ((i65 : Int) + 1))) rfl ?_
      refine done ?_
      replace hC := hC.sel [1] [1, 2, 3] (M' := [blk b5 31 [u0_0, u0_1]]) (Ps' := [Ty.item TForm.sl a0.images [u0_1] fp0, Ty.item ((EI .i64).ty.sl) a0.degrees [u0_0] fp0, Ty.item TAlg a0 [u0_0, u0_1] fp0]) (by decide) rfl rfl
      exact hK70 () _ _ ⟨(sk (sx hS_ 0 rfl) (sk (sx hS_ 1 rfl) (sk (sx hS_ 2 rfl) (sk (sx hS_ 3 rfl) (sk (tr rfl (congrArg _ (wrap64_nat hi71 hN67))) sn))))), hC⟩ h
   ·clear hC h
    rintro s66 e_ w106 K69 ⟨hS_, hC⟩ h
    refine sr ?_
    refine s_lss (sx hS_ 4 rfl) (sx hS_ 3 rfl) ?_
    refine dn ?_
    refine wp_seq ?_
    refine cw_false rfl (decide_eq_false (by omega)) ?_
    refine wp_exit (then_exit (then_exit (exit_in ?_)))
    refine then_norm ?_
    refine sr ?_
    refine s_faddrB 1 Try.underlying31 rfl sc29.size (sx hS_ 0 rfl) rfl ?_
    refine s_loadS hC 0 (u0_1) rfl sc29 rfl rfl ?_
    refine s_mkfunc (g := 90) [.pointer (some ⟨b5, 0, none⟩)] (map_c (sx hS_ 0 rfl) rfl) ?_
    refine s_call [u0_1, .func (.func 90) #[] (List.toArray [.pointer (some ⟨b5, 0, none⟩)])] _ Try.func82 rfl rfl rfl (c_slices_ContainsFunc_impl_Form_impl_Form a0.images (fun y0_ K_ => f_impl_IsAlgebra_1 y0_ a0 K_) h _ (hC.getP 0 rfl) Try.func90 rfl rfl (fun y0_ yu0_0_ yf0_ K_ w_ hb_ rq0_ hq_ => c_impl_IsAlgebra_1 y0_ a0 hq_ w_ rq0_ (alg_mk ((hC.grow hb_).getP 1 rfl) ((hC.grow hb_).getP 0 rfl)) ((hC.grow hb_).getM 0 rfl))) (fun ret107 w109 hR108 => ?_)
    obtain ⟨r110, rfl, h, hB111⟩ := hR108
    refine ⟨_, rfl, ?_⟩
    replace hC := hC.grow hB111
    refine s_not rfl ?_
    refine s_as (v := .bool (!r110)) rfl ?_
    refine dn ?_
    refine wp_ret ?_
    refine ret1 (fn := Try.f55) rfl ?_ ⟨!r110, rfl, h, hC.below⟩ (.inl rfl)
    exact res_tmp rfl
   ·skip
    exact ⟨(sk rfl (sk rfl (sk rfl (sk rfl (sk rfl sn))))), hC⟩
def f_impl_algebraCode_1 (a0 : Vc.Form) (a1 : Alg) (K : Bool → Prop) : Prop :=
 f_impl_isForm a1.degrees a0 (fun r19 => K (!r19))
theorem c_impl_algebraCode_1 (a0 : Vc.Form) (a1 : Alg) {b1 : Nat} {bp1 : Nat} {u0_0 : Value} {u1_0 : Value} {u1_1 : Value} {fp0 : List Nat} {fp1 : List Nat} {K : Bool → Prop} (h : f_impl_algebraCode_1 a0 a1 K) (w0 : World) (q0 : TForm.rep a0 [u0_0] fp0 w0) (q1 : TAlg.rep a1 [u1_0, u1_1] fp1 w0) (qb1 : (blk b1 31 [u1_0, u1_1]).holds w0) (qbp1 : (blk bp1 79 [.pointer (some ⟨b1, 0, none⟩)]).holds w0) :
  Calls Try.prog 83 #[.agg #[u0_0], .pointer (some ⟨bp1, 0, none⟩)] w0 fun e w' => ∃ (r0 : Bool), 
   e = .returned (.bool r0) ∧ K r0 ∧ Bel w0 w' := by
 unfold f_impl_algebraCode_1 at h
 refine calls_of (args := [.agg #[u0_0], .pointer (some ⟨bp1, 0, none⟩)]) Try.func83 rfl 11 Try.ntmps83 (Nat.le_of_ble_eq_true rfl) ?_
 have hC := Ctx.start (X := Nox) w0 [Ty.item TForm a0 [u0_0] fp0, Ty.item TAlg a1 [u1_0, u1_1] fp1, blk b1 31 [u1_0, u1_1], blk bp1 79 [.pointer (some ⟨b1, 0, none⟩)]] (by simp only [List.mem_cons, List.not_mem_nil, or_false, forall_eq_or_imp, forall_eq]; exact ⟨q0, q1, qb1, qbp1⟩)
 have hp5 := (hC.getP 0 rfl)
 replace hC := hC.derive 0 rfl (Ty.item ETerm.ty.sl a0.terms [u0_0] fp0) (fun _ => (form_parts hp5)) (fun _ hb_ => hb_)
 have hp7 := (hC.getP 2 rfl)
 replace hC := hC.derive 2 rfl (Ty.item ((EI .i64).ty.sl) a1.degrees [u1_0] fp1) (fun _ => (alg_parts hp7).1) (fun _ hb_ => hb_)
 replace hC := hC.derive 3 rfl (Ty.item TForm.sl a1.images [u1_1] fp1) (fun _ => (alg_parts hp7).2) (fun _ hb_ => hb_)
 refine sr ?_
 refine s_box (v := .agg #[u0_0]) hC [u0_0] rfl rfl fun b10 w12 hB_ hC => ?_
 refine s_as (v := .bool false) rfl ?_
 refine dn ?_
 refine wp_seq ?_
 refine cw_draw 5 mixed [0, 1, 3, 7, 0, 31, 63, 127] [0, 3, 4] [1, 2] (by kernel_rfl) (by kernel_rfl) (by kernel_rfl) (fun hM14 hM15 w13 hB_ => ?_)
 replace hC := hC.grow hB_
 refine ae_look belPre 0 (.pointer (some ⟨b1, 0, none⟩)) rfl rfl (by kernel_rfl) (hM14 0 rfl) (fun w_ hB_ => .inl ⟨rfl, by exact r_loadSh (.pointer (some ⟨b1, 0, none⟩)) ((hC.grow hB_).getP 6 rfl) sc79 rfl rfl⟩) (listed' := (dbits 8 1)) (by kernel_rfl) ?_
 refine ae_lookF belPre 1 (.pointer (some ⟨b1, 0, none⟩)) rfl rfl (by kernel_rfl) (hM15 1 rfl) (fun w_ => .inl ⟨rfl, by exact r_nilchk rfl⟩) (listed' := (dbits 8 3)) (by kernel_rfl) ?_
 refine ae_lookF belPre 2 (.pointer (some ⟨b1, 0, none⟩)) rfl rfl (by kernel_rfl) (hM15 2 rfl) (fun w_ => .inl ⟨rfl, by exact r_faddrB 0 Try.underlying31 rfl sc22.size rfl rfl⟩) (listed' := (dbits 8 7)) (by kernel_rfl) ?_
 refine ae_look belPre 3 (u1_0) rfl rfl (by kernel_rfl) (hM14 3 rfl) (fun w_ hB_ => .inl ⟨rfl, by exact r_loadSh (u1_0) ((hC.grow hB_).getP 5 rfl) sc22 rfl rfl⟩) (listed' := (dbits 8 15)) (by kernel_rfl) ?_
 refine ae_look belPre 4 (.agg #[u0_0]) rfl rfl (by kernel_rfl) (hM14 4 rfl) (fun w_ hB_ => .inl ⟨rfl, by exact r_loadA (hC.grow hB_) 0 [u0_0] rfl ag46 rfl rfl rfl⟩) (listed' := (dbits 8 31)) (by kernel_rfl) ?_
 refine ae_tail 5 (by decide) (by decide) (by kernel_rfl) (by kernel_rfl) rfl ?_
 refine s_call [u1_0, .agg #[u0_0]] _ Try.func56 rfl rfl rfl (c_impl_isForm a1.degrees a0 h _ (hC.getP 1 rfl) (form_mk (hC.getP 2 rfl))) (fun ret16 w18 hR17 => ?_)
 obtain ⟨r19, rfl, h, hB20⟩ := hR17
 refine ⟨_, rfl, ?_⟩
 replace hC := hC.grow hB20
 refine s_not rfl ?_
 refine s_as (v := .bool (!r19)) rfl ?_
 refine done ?_
 refine qn_norm ?_
 refine then_norm ?_
 refine wp_ret ?_
 refine ret1 (fn := Try.f83) rfl ?_ ⟨!r19, rfl, h, hC.below⟩ (.inl rfl)
 exact res_tmp rfl
def f_impl_algebraCode (a0 : Alg) (a1 : List Vc.Form) (K : Int → Prop) : Prop :=
 f_impl_IsAlgebra a0 (fun r13 => (if ¬ (r13 = true) then f_impl_when true 1 (fun r19 => K r19) else f_slices_ContainsFunc_impl_Form_impl_Form a1 (fun y0_ K_ => f_impl_algebraCode_1 y0_ a0 K_) (fun r24 => f_impl_when r24 1 (fun r29 => K r29))))
theorem c_impl_algebraCode (a0 : Alg) (a1 : List Vc.Form) {b0 : Nat} {u0_0 : Value} {u0_1 : Value} {u1_0 : Value} {fp0 : List Nat} {fp1 : List Nat} {K : Int → Prop} (h : f_impl_algebraCode a0 a1 K) (w0 : World) (q0 : TAlg.rep a0 [u0_0, u0_1] fp0 w0) (qb0 : (blk b0 31 [u0_0, u0_1]).holds w0) (q1 : TForm.sl.rep a1 [u1_0] fp1 w0) :
  Calls Try.prog 50 #[.pointer (some ⟨b0, 0, none⟩), u1_0] w0 fun e w' => ∃ (r0 : Int), 
   e = .returned (.int .i64 r0) ∧ K r0 ∧ Bel w0 w' := by
 unfold f_impl_algebraCode at h
 refine calls_of (args := [.pointer (some ⟨b0, 0, none⟩), u1_0]) Try.func50 rfl 18 Try.ntmps50 (Nat.le_of_ble_eq_true rfl) ?_
 have hC := Ctx.start (X := Nox) w0 [Ty.item TAlg a0 [u0_0, u0_1] fp0, Ty.item TForm.sl a1 [u1_0] fp1, blk b0 31 [u0_0, u0_1]] (by simp only [List.mem_cons, List.not_mem_nil, or_false, forall_eq_or_imp, forall_eq]; exact ⟨q0, q1, qb0⟩)
 have hp4 := (hC.getP 0 rfl)
 replace hC := hC.derive 0 rfl (Ty.item ((EI .i64).ty.sl) a0.degrees [u0_0] fp0) (fun _ => (alg_parts hp4).1) (fun _ hb_ => hb_)
 replace hC := hC.derive 1 rfl (Ty.item TForm.sl a0.images [u0_1] fp0) (fun _ => (alg_parts hp4).2) (fun _ hb_ => hb_)
 refine sr ?_
 refine s_box (v := .pointer (some ⟨b0, 0, none⟩)) hC [.pointer (some ⟨b0, 0, none⟩)] rfl rfl fun b7 w9 hB_ hC => ?_
 refine s_as (v := .int .i64 0) rfl ?_
 refine dn ?_
 refine sr ?_
 refine s_loadS hC 0 (.pointer (some ⟨b0, 0, none⟩)) rfl sc79 rfl rfl ?_
 refine s_nilchk rfl ?_
 refine s_loadAh [u0_0, u0_1] (hC.getP 4 rfl) ag31 rfl rfl rfl ?_
 refine s_call [.agg #[u0_0, u0_1]] _ Try.func55 rfl rfl rfl (c_impl_IsAlgebra a0 h _ (alg_mk (hC.getP 1 rfl) (hC.getP 0 rfl))) (fun ret10 w12 hR11 => ?_)
 obtain ⟨r13, rfl, h, hB14⟩ := hR11
 refine ⟨_, rfl, ?_⟩
 replace hC := hC.grow hB14
 refine s_not rfl ?_
 refine s_mv (v := .bool (!r13)) rfl ?_
 refine bsplit (!r13) (fun hb15 => ?_) (fun hb15 => ?_)
 ·replace h := ift h (ne_t (not_t hb15))
  refine guardOff (b := true) 5 11 rfl (tr rfl (congrArg _ hb15)) (by decide) ?_
  refine guardOff (b := true) 5 11 rfl (tr rfl (congrArg _ hb15)) (by decide) ?_
  refine guardOff (b := true) 5 11 rfl (tr rfl (congrArg _ hb15)) (by decide) ?_
  refine s_pick (v := .bool true) (b := true) (tr rfl (congrArg _ hb15)) rfl ?_
  refine s_as (v := .bool true) rfl ?_
  refine dn ?_
  refine sr ?_
  refine s_mv (v := .bool true) rfl ?_
  refine s_call [.bool true, .int .i64 1] _ Try.func84 rfl rfl rfl (c_impl_when true 1 h _) (fun ret16 w18 hR17 => ?_)
  obtain ⟨r19, rfl, h, hB20⟩ := hR17
  refine ⟨_, rfl, ?_⟩
  replace hC := hC.grow hB20
  refine s_as (v := .int .i64 r19) rfl ?_
  refine dn ?_
  refine wp_ret ?_
  refine ret1 (fn := Try.f50) rfl ?_ ⟨r19, rfl, h, hC.below⟩ (.inl rfl)
  exact res_tmp rfl
 ·replace h := iff_ h (not_not_intro ((not_f hb15)))
  refine guardOn 5 11 rfl rfl hb15 ?_
  refine s_mv (v := u1_0) rfl ?_
  refine guardOn 5 11 rfl rfl hb15 ?_
  refine s_mkfunc (g := 83) [.pointer (some ⟨b7, 0, none⟩)] (map_c rfl rfl) ?_
  refine guardOn 5 11 rfl rfl hb15 ?_
  refine s_call [u1_0, .func (.func 83) #[] (List.toArray [.pointer (some ⟨b7, 0, none⟩)])] _ Try.func82 rfl rfl rfl (c_slices_ContainsFunc_impl_Form_impl_Form a1 (fun y0_ K_ => f_impl_algebraCode_1 y0_ a0 K_) h _ (hC.getP 3 rfl) Try.func83 rfl rfl (fun y0_ yu0_0_ yf0_ K_ w_ hb_ rq0_ hq_ => c_impl_algebraCode_1 y0_ a0 hq_ w_ rq0_ (alg_mk ((hC.grow hb_).getP 1 rfl) ((hC.grow hb_).getP 0 rfl)) ((hC.grow hb_).getP 4 rfl) ((hC.grow hb_).getM 0 rfl))) (fun ret21 w23 hR22 => ?_)
  obtain ⟨r24, rfl, h, hB25⟩ := hR22
  refine ⟨_, rfl, ?_⟩
  replace hC := hC.grow hB25
  refine s_pick (v := .bool r24) (b := false) (tr rfl (congrArg _ hb15)) rfl ?_
  refine s_as (v := .bool r24) rfl ?_
  refine dn ?_
  refine sr ?_
  refine s_mv (v := .bool r24) rfl ?_
  refine s_call [.bool r24, .int .i64 1] _ Try.func84 rfl rfl rfl (c_impl_when r24 1 h _) (fun ret26 w28 hR27 => ?_)
  obtain ⟨r29, rfl, h, hB30⟩ := hR27
  refine ⟨_, rfl, ?_⟩
  replace hC := hC.grow hB30
  refine s_as (v := .int .i64 r29) rfl ?_
  refine dn ?_
  refine wp_ret ?_
  refine ret1 (fn := Try.f50) rfl ?_ ⟨r29, rfl, h, hC.below⟩ (.inl rfl)
  exact res_tmp rfl
def f_laws_szTermS (a0 : List Term) (a1 : Int) (K : Int → Prop) : Prop :=
 (if IntKind.i64.wrap (a1 - (a0.length : Int)) < 0 then K (-1) else K (IntKind.i64.wrap (a1 - (a0.length : Int))))
theorem c_laws_szTermS (a0 : List Term) (a1 : Int) {u0_0 : Value} {fp0 : List Nat} {K : Int → Prop} (h : f_laws_szTermS a0 a1 K) (w0 : World) (q0 : ETerm.ty.sl.rep a0 [u0_0] fp0 w0) :
  Calls Try.prog 66 #[u0_0, .int .i64 a1] w0 fun e w' => ∃ (r0 : Int), 
   e = .returned (.int .i64 r0) ∧ K r0 ∧ Bel w0 w' := by
 unfold f_laws_szTermS at h
 refine calls_of (args := [u0_0, .int .i64 a1]) Try.func66 rfl 12 Try.ntmps66 (Nat.le_of_ble_eq_true rfl) ?_
 have hC := Ctx.start (X := Nox) w0 [Ty.item ETerm.ty.sl a0 [u0_0] fp0] (by simp only [List.mem_cons, List.not_mem_nil, or_false, forall_eq_or_imp, forall_eq]; exact q0)
 refine sr ?_
 refine s_as (v := .int .i64 0) rfl ?_
 refine dn ?_
 refine sr ?_
 refine s_mv (v := .int .i64 a1) rfl ?_
 refine s_mv (v := u0_0) rfl ?_
 obtain ⟨Ad2, c3, hv4⟩ := sl_len (hC.getP 0 rfl)
 refine s_len Try.underlying37 (tr rfl hv4) ?_
 refine s_sub rfl rfl ?_
 refine s_as (v := .int .i64 (IntKind.i64.wrap (a1 - (a0.length : Int)))) rfl ?_
 refine dn ?_
 refine wp_seq ?_
 refine sr ?_
 refine s_mv (v := .int .i64 (IntKind.i64.wrap (a1 - (a0.length : Int)))) rfl ?_
 refine s_lss rfl rfl ?_
 refine dn ?_
 refine cw_cond rfl (fun hb5 => ?_) (fun hb5 => ?_)
 ·replace h := ift h (ct hb5)
  refine sr ?_
  refine s_as (v := .int .i64 (-1)) rfl ?_
  refine dn ?_
  refine wp_ret (then_ret ?_)
  refine ret1 (fn := Try.f66) rfl ?_ ⟨(-1), rfl, h, hC.below⟩ (.inl rfl)
  exact res_tmp rfl
 ·replace h := iff_ h (cf hb5)
  refine wp_skip ?_
  refine then_norm ?_
  refine sr ?_
  refine s_mv (v := .int .i64 (IntKind.i64.wrap (a1 - (a0.length : Int)))) rfl ?_
  refine s_as (v := .int .i64 (IntKind.i64.wrap (a1 - (a0.length : Int)))) rfl ?_
  refine dn ?_
  refine wp_ret ?_
  refine ret1 (fn := Try.f66) rfl ?_ ⟨IntKind.i64.wrap (a1 - (a0.length : Int)), rfl, h, hC.below⟩ (.inl rfl)
  exact res_tmp rfl
def f_laws_szForm (a0 : Vc.Form) (a1 : Int) (K : Int → Prop) : Prop :=
 f_laws_szTermS a0.terms a1 (fun r10 => (if r10 < 0 then K (-1) else K r10))
theorem c_laws_szForm (a0 : Vc.Form) (a1 : Int) {u0_0 : Value} {fp0 : List Nat} {K : Int → Prop} (h : f_laws_szForm a0 a1 K) (w0 : World) (q0 : TForm.rep a0 [u0_0] fp0 w0) :
  Calls Try.prog 32 #[.agg #[u0_0], .int .i64 a1] w0 fun e w' => ∃ (r0 : Int), 
   e = .returned (.int .i64 r0) ∧ K r0 ∧ Bel w0 w' := by
 unfold f_laws_szForm at h
 refine calls_of (args := [.agg #[u0_0], .int .i64 a1]) Try.func32 rfl 12 Try.ntmps32 (Nat.le_of_ble_eq_true rfl) ?_
 have hC := Ctx.start (X := Nox) w0 [Ty.item TForm a0 [u0_0] fp0] (by simp only [List.mem_cons, List.not_mem_nil, or_false, forall_eq_or_imp, forall_eq]; exact q0)
 have hp2 := (hC.getP 0 rfl)
 replace hC := hC.derive 0 rfl (Ty.item ETerm.ty.sl a0.terms [u0_0] fp0) (fun _ => (form_parts hp2)) (fun _ hb_ => hb_)
 refine sr ?_
 refine s_box (v := .agg #[u0_0]) hC [u0_0] rfl rfl fun b4 w6 hB_ hC => ?_
 refine s_as (v := .int .i64 0) rfl ?_
 refine dn ?_
 refine sr ?_
 refine s_faddrB 0 Try.underlying39 rfl sc37.size rfl rfl ?_
 refine s_loadS hC 0 (u0_0) rfl sc37 rfl rfl ?_
 refine s_mv (v := .int .i64 a1) rfl ?_
 refine s_call [u0_0, .int .i64 a1] _ Try.func66 rfl rfl rfl (c_laws_szTermS a0.terms a1 h _ (hC.getP 0 rfl)) (fun ret7 w9 hR8 => ?_)
 obtain ⟨r10, rfl, h, hB11⟩ := hR8
 refine ⟨_, rfl, ?_⟩
 replace hC := hC.grow hB11
 refine s_as (v := .int .i64 r10) rfl ?_
 refine dn ?_
 refine wp_seq ?_
 refine sr ?_
 refine s_mv (v := .int .i64 r10) rfl ?_
 refine s_lss rfl rfl ?_
 refine dn ?_
 refine cw_cond rfl (fun hb12 => ?_) (fun hb12 => ?_)
 ·replace h := ift h (ct hb12)
  refine sr ?_
  refine s_as (v := .int .i64 (-1)) rfl ?_
  refine dn ?_
  refine wp_ret (then_ret ?_)
  refine ret1 (fn := Try.f32) rfl ?_ ⟨(-1), rfl, h, hC.below⟩ (.inl rfl)
  exact res_tmp rfl
 ·replace h := iff_ h (cf hb12)
  refine wp_skip ?_
  refine then_norm ?_
  refine sr ?_
  refine s_mv (v := .int .i64 r10) rfl ?_
  refine s_as (v := .int .i64 r10) rfl ?_
  refine dn ?_
  refine wp_ret ?_
  refine ret1 (fn := Try.f32) rfl ?_ ⟨r10, rfl, h, hC.below⟩ (.inl rfl)
  exact res_tmp rfl
def f_laws_szFormS (a0 : List Vc.Form) (a1 : Int) (K : Int → Prop) : Prop :=
 (if IntKind.i64.wrap (a1 - (a0.length : Int)) < 0 then K (-1) else forN (fun i51 (s52 : Int) next54 => f_laws_szForm (a0.getD i51 default) s52 (fun r74 => (if r74 < 0 then K (-1) else next54 r74))) (fun (s52 : Int) => K s52) a0.length 0 (IntKind.i64.wrap (a1 - (a0.length : Int))))
theorem c_laws_szFormS (a0 : List Vc.Form) (a1 : Int) {u0_0 : Value} {fp0 : List Nat} {K : Int → Prop} (h : f_laws_szFormS a0 a1 K) (w0 : World) (q0 : TForm.sl.rep a0 [u0_0] fp0 w0) :
  Calls Try.prog 46 #[u0_0, .int .i64 a1] w0 fun e w' => ∃ (r0 : Int), 
   e = .returned (.int .i64 r0) ∧ K r0 ∧ Bel w0 w' := by
 unfold f_laws_szFormS at h
 refine calls_of (args := [u0_0, .int .i64 a1]) Try.func46 rfl 27 Try.ntmps46 (Nat.le_of_ble_eq_true rfl) ?_
 have hC := Ctx.start (X := Nox) w0 [Ty.item TForm.sl a0 [u0_0] fp0] (by simp only [List.mem_cons, List.not_mem_nil, or_false, forall_eq_or_imp, forall_eq]; exact q0)
 refine sr ?_
 refine s_as (v := .int .i64 0) rfl ?_
 refine dn ?_
 refine sr ?_
 refine s_mv (v := .int .i64 a1) rfl ?_
 refine s_mv (v := u0_0) rfl ?_
 obtain ⟨Ad2, c3, hv4⟩ := sl_len (hC.getP 0 rfl)
 refine s_len Try.underlying23 (tr rfl hv4) ?_
 refine s_sub rfl rfl ?_
 refine s_as (v := .int .i64 (IntKind.i64.wrap (a1 - (a0.length : Int)))) rfl ?_
 refine dn ?_
 refine wp_seq ?_
 refine sr ?_
 refine s_mv (v := .int .i64 (IntKind.i64.wrap (a1 - (a0.length : Int)))) rfl ?_
 refine s_lss rfl rfl ?_
 refine dn ?_
 refine cw_cond rfl (fun hb5 => ?_) (fun hb5 => ?_)
 ·replace h := ift h (ct hb5)
  refine sr ?_
  refine s_as (v := .int .i64 (-1)) rfl ?_
  refine dn ?_
  refine wp_ret (then_ret ?_)
  refine ret1 (fn := Try.f46) rfl ?_ ⟨(-1), rfl, h, hC.below⟩ (.inl rfl)
  exact res_tmp rfl
 ·replace h := iff_ h (cf hb5)
  refine wp_skip ?_
  refine then_norm ?_
  refine wp_seq ?_
  refine sr ?_
  refine s_as (v := .int .i64 0) rfl ?_
  refine dn ?_
  refine wp_block ?_
  have hN53 : a0.length ≤ 9223372036854775807 := sl_max (hC.getP 0 rfl)
  refine loopN (S := Int) _ _ (fun i51 s52 e_ w_ => Slots e_ [(0, u0_0), (1, .int .i64 s52), (4, .int .i64 0), (5, .int .i64 (i51 : Int))] ∧ Ctx Nox w0 w_ [] [Ty.item TForm.sl a0 [u0_0] fp0]) a0.length ?_ ?_ (s0 := (IntKind.i64.wrap (a1 - (a0.length : Int)))) ?_ h
  ·clear hC h
   rintro i51 s52 e_ w58 next54 K55 hi57 ⟨hS_, hC⟩ h hK56
   refine wp_seq ?_
   refine sr ?_
   refine s_mv (v := .int .i64 (i51 : Int)) (sx hS_ 3 rfl) ?_
   refine s_mv (v := u0_0) (sx hS_ 0 rfl) ?_
   obtain ⟨Ad59, c60, hv61⟩ := sl_len (hC.getP 0 rfl)
   refine s_len Try.underlying23 (tr rfl hv61) ?_
   refine s_lss rfl rfl ?_
   refine dn ?_
   refine cw_true rfl (decide_eq_true (by omega)) ?_
   refine wp_skip ?_
   refine then_norm ?_
   refine wp_seq ?_
   refine wp_block ?_
   refine sr ?_
   refine s_mv (v := u0_0) (sx hS_ 0 rfl) ?_
   refine s_mv (v := .int .i64 (i51 : Int)) (sx hS_ 3 rfl) ?_
   obtain ⟨Ad62, c63, hv64⟩ := sl_form (hC.getP 0 rfl) i51 hi57
   refine s_iaddrS (len := a0.length) Try.underlying23 ag39.size (tr rfl hv64) rfl (Int.natCast_nonneg _) (Int.ofNat_lt.2 hi57) ?_
   obtain ⟨cs_, hl66, hc67, hr68⟩ := sl_cells (hC.getP 0 rfl) hv64 i51 hi57
   obtain ⟨u65, rfl⟩ := List.length_eq_one_iff.1 hl66
   clear hl66
   rw [getD_eq _ _ hi57] at hr68
   have hp69 := hr68
   replace hC := hC.derive 0 rfl (Ty.item ETerm.ty.sl ((a0.getD i51 default).terms) [u65] fp0) (fun _ => (form_parts hp69)) (fun _ hb_ => hb_)
   refine s_loadCA [u65] hc67 ag39 rfl rfl ?_
   refine s_mv (v := .int .i64 s52) (sx hS_ 1 rfl) ?_
   refine s_call [.agg #[u65], .int .i64 s52] _ Try.func32 rfl rfl rfl (c_laws_szForm (a0.getD i51 default) s52 h _ (form_mk (hC.getP 0 rfl))) (fun ret71 w73 hR72 => ?_)
   obtain ⟨r74, rfl, h, hB75⟩ := hR72
   refine ⟨_, rfl, ?_⟩
   replace hC := hC.grow hB75
   refine s_as (v := .int .i64 r74) rfl ?_
   refine dn ?_
   refine sr ?_
   refine s_mv (v := .int .i64 r74) rfl ?_
   refine s_lss rfl rfl ?_
   refine dn ?_
   refine cw_cond rfl (fun hb76 => ?_) (fun hb76 => ?_)
   ·replace h := ift h (ct hb76)
    refine sr ?_
    refine s_as (v := .int .i64 (-1)) rfl ?_
    refine dn ?_
    refine wp_ret (blk_ret (then_ret (then_ret (blk_ret (then_ret ?_)))))
    refine ret1 (fn := Try.f46) rfl ?_ ⟨(-1), rfl, h, hC.below⟩ (.inl rfl)
    exact res_tmp rfl
   ·replace h := iff_ h (cf hb76)
    refine wp_skip ?_
    refine blk_norm ?_
    refine then_norm ?_
    refine cw_region ?_
    refine s_mv (v := .int .i64 (i51 : Int)) (sx hS_ 3 rfl) ?_
    refine s_add rfl rfl ?_
    refine s_as (v := .int .i64 (IntKind.i64.wrap ((i51 : Int) + 1))) rfl ?_
    refine done ?_
    replace hC := hC.sel [] [1] (M' := []) (Ps' := [Ty.item TForm.sl a0 [u0_0] fp0]) (by decide) rfl rfl
    exact hK56 r74 _ _ ⟨(sk (sx hS_ 0 rfl) (sk rfl (sk (sx hS_ 2 rfl) (sk (tr rfl (congrArg _ (wrap64_nat hi57 hN53))) sn)))), hC⟩ h
  ·clear hC h
   rintro s52 e_ w77 K55 ⟨hS_, hC⟩ h
   refine wp_seq ?_
   refine sr ?_
   refine s_mv (v := .int .i64 (a0.length : Int)) (sx hS_ 3 rfl) ?_
   refine s_mv (v := u0_0) (sx hS_ 0 rfl) ?_
   obtain ⟨Ad78, c79, hv80⟩ := sl_len (hC.getP 0 rfl)
   refine s_len Try.underlying23 (tr rfl hv80) ?_
   refine s_lss rfl rfl ?_
   refine dn ?_
   refine cw_false rfl (decide_eq_false (by omega)) ?_
   refine wp_exit (then_exit (then_exit (exit_in ?_)))
   refine then_norm ?_
   refine sr ?_
   refine s_mv (v := .int .i64 s52) (sx hS_ 1 rfl) ?_
   refine s_as (v := .int .i64 s52) rfl ?_
   refine dn ?_
   refine wp_ret ?_
   refine ret1 (fn := Try.f46) rfl ?_ ⟨s52, rfl, h, hC.below⟩ (.inl rfl)
   exact res_tmp rfl
  ·skip
   exact ⟨(sk rfl (sk rfl (sk rfl (sk rfl sn)))), hC⟩
def f_laws_szInt64S (a0 : List Int) (a1 : Int) (K : Int → Prop) : Prop :=
 (if IntKind.i64.wrap (a1 - (a0.length : Int)) < 0 then K (-1) else K (IntKind.i64.wrap (a1 - (a0.length : Int))))
theorem c_laws_szInt64S (a0 : List Int) (a1 : Int) {u0_0 : Value} {fp0 : List Nat} {K : Int → Prop} (h : f_laws_szInt64S a0 a1 K) (w0 : World) (q0 : ((EI .i64).ty.sl).rep a0 [u0_0] fp0 w0) :
  Calls Try.prog 45 #[u0_0, .int .i64 a1] w0 fun e w' => ∃ (r0 : Int), 
   e = .returned (.int .i64 r0) ∧ K r0 ∧ Bel w0 w' := by
 unfold f_laws_szInt64S at h
 refine calls_of (args := [u0_0, .int .i64 a1]) Try.func45 rfl 12 Try.ntmps45 (Nat.le_of_ble_eq_true rfl) ?_
 have hC := Ctx.start (X := Nox) w0 [Ty.item ((EI .i64).ty.sl) a0 [u0_0] fp0] (by simp only [List.mem_cons, List.not_mem_nil, or_false, forall_eq_or_imp, forall_eq]; exact q0)
 refine sr ?_
 refine s_as (v := .int .i64 0) rfl ?_
 refine dn ?_
 refine sr ?_
 refine s_mv (v := .int .i64 a1) rfl ?_
 refine s_mv (v := u0_0) rfl ?_
 obtain ⟨Ad2, c3, hv4⟩ := sl_len (hC.getP 0 rfl)
 refine s_len Try.underlying22 (tr rfl hv4) ?_
 refine s_sub rfl rfl ?_
 refine s_as (v := .int .i64 (IntKind.i64.wrap (a1 - (a0.length : Int)))) rfl ?_
 refine dn ?_
 refine wp_seq ?_
 refine sr ?_
 refine s_mv (v := .int .i64 (IntKind.i64.wrap (a1 - (a0.length : Int)))) rfl ?_
 refine s_lss rfl rfl ?_
 refine dn ?_
 refine cw_cond rfl (fun hb5 => ?_) (fun hb5 => ?_)
 ·replace h := ift h (ct hb5)
  refine sr ?_
  refine s_as (v := .int .i64 (-1)) rfl ?_
  refine dn ?_
  refine wp_ret (then_ret ?_)
  refine ret1 (fn := Try.f45) rfl ?_ ⟨(-1), rfl, h, hC.below⟩ (.inl rfl)
  exact res_tmp rfl
 ·replace h := iff_ h (cf hb5)
  refine wp_skip ?_
  refine then_norm ?_
  refine sr ?_
  refine s_mv (v := .int .i64 (IntKind.i64.wrap (a1 - (a0.length : Int)))) rfl ?_
  refine s_as (v := .int .i64 (IntKind.i64.wrap (a1 - (a0.length : Int)))) rfl ?_
  refine dn ?_
  refine wp_ret ?_
  refine ret1 (fn := Try.f45) rfl ?_ ⟨IntKind.i64.wrap (a1 - (a0.length : Int)), rfl, h, hC.below⟩ (.inl rfl)
  exact res_tmp rfl
def f_laws_szAlgebra (a0 : Alg) (a1 : Int) (K : Int → Prop) : Prop :=
 f_laws_szInt64S a0.degrees a1 (fun r11 => (if r11 < 0 then K (-1) else f_laws_szFormS a0.images r11 (fun r17 => (if r17 < 0 then K (-1) else K r17))))
theorem c_laws_szAlgebra (a0 : Alg) (a1 : Int) {u0_0 : Value} {u0_1 : Value} {fp0 : List Nat} {K : Int → Prop} (h : f_laws_szAlgebra a0 a1 K) (w0 : World) (q0 : TAlg.rep a0 [u0_0, u0_1] fp0 w0) :
  Calls Try.prog 11 #[.agg #[u0_0, u0_1], .int .i64 a1] w0 fun e w' => ∃ (r0 : Int), 
   e = .returned (.int .i64 r0) ∧ K r0 ∧ Bel w0 w' := by
 unfold f_laws_szAlgebra at h
 refine calls_of (args := [.agg #[u0_0, u0_1], .int .i64 a1]) Try.func11 rfl 18 Try.ntmps11 (Nat.le_of_ble_eq_true rfl) ?_
 have hC := Ctx.start (X := Nox) w0 [Ty.item TAlg a0 [u0_0, u0_1] fp0] (by simp only [List.mem_cons, List.not_mem_nil, or_false, forall_eq_or_imp, forall_eq]; exact q0)
 have hp2 := (hC.getP 0 rfl)
 replace hC := hC.derive 0 rfl (Ty.item ((EI .i64).ty.sl) a0.degrees [u0_0] fp0) (fun _ => (alg_parts hp2).1) (fun _ hb_ => hb_)
 replace hC := hC.derive 1 rfl (Ty.item TForm.sl a0.images [u0_1] fp0) (fun _ => (alg_parts hp2).2) (fun _ hb_ => hb_)
 refine sr ?_
 refine s_box (v := .agg #[u0_0, u0_1]) hC [u0_0, u0_1] rfl rfl fun b5 w7 hB_ hC => ?_
 refine s_as (v := .int .i64 0) rfl ?_
 refine dn ?_
 refine sr ?_
 refine s_faddrB 0 Try.underlying25 rfl sc22.size rfl rfl ?_
 refine s_loadS hC 0 (u0_0) rfl sc22 rfl rfl ?_
 refine s_mv (v := .int .i64 a1) rfl ?_
 refine s_call [u0_0, .int .i64 a1] _ Try.func45 rfl rfl rfl (c_laws_szInt64S a0.degrees a1 h _ (hC.getP 1 rfl)) (fun ret8 w10 hR9 => ?_)
 obtain ⟨r11, rfl, h, hB12⟩ := hR9
 refine ⟨_, rfl, ?_⟩
 replace hC := hC.grow hB12
 refine s_as (v := .int .i64 r11) rfl ?_
 refine dn ?_
 refine wp_seq ?_
 refine sr ?_
 refine s_mv (v := .int .i64 r11) rfl ?_
 refine s_lss rfl rfl ?_
 refine dn ?_
 refine cw_cond rfl (fun hb13 => ?_) (fun hb13 => ?_)
 ·replace h := ift h (ct hb13)
  refine sr ?_
  refine s_as (v := .int .i64 (-1)) rfl ?_
  refine dn ?_
  refine wp_ret (then_ret ?_)
  refine ret1 (fn := Try.f11) rfl ?_ ⟨(-1), rfl, h, hC.below⟩ (.inl rfl)
  exact res_tmp rfl
 ·replace h := iff_ h (cf hb13)
  refine wp_skip ?_
  refine then_norm ?_
  refine sr ?_
  refine s_faddrB 1 Try.underlying25 rfl sc23.size rfl rfl ?_
  refine s_loadS hC 0 (u0_1) rfl sc23 rfl rfl ?_
  refine s_mv (v := .int .i64 r11) rfl ?_
  refine s_call [u0_1, .int .i64 r11] _ Try.func46 rfl rfl rfl (c_laws_szFormS a0.images r11 h _ (hC.getP 0 rfl)) (fun ret14 w16 hR15 => ?_)
  obtain ⟨r17, rfl, h, hB18⟩ := hR15
  refine ⟨_, rfl, ?_⟩
  replace hC := hC.grow hB18
  refine s_as (v := .int .i64 r17) rfl ?_
  refine dn ?_
  refine wp_seq ?_
  refine sr ?_
  refine s_mv (v := .int .i64 r17) rfl ?_
  refine s_lss rfl rfl ?_
  refine dn ?_
  refine cw_cond rfl (fun hb19 => ?_) (fun hb19 => ?_)
  ·replace h := ift h (ct hb19)
   refine sr ?_
   refine s_as (v := .int .i64 (-1)) rfl ?_
   refine dn ?_
   refine wp_ret (then_ret ?_)
   refine ret1 (fn := Try.f11) rfl ?_ ⟨(-1), rfl, h, hC.below⟩ (.inl rfl)
   exact res_tmp rfl
  ·replace h := iff_ h (cf hb19)
   refine wp_skip ?_
   refine then_norm ?_
   refine sr ?_
   refine s_mv (v := .int .i64 r17) rfl ?_
   refine s_as (v := .int .i64 r17) rfl ?_
   refine dn ?_
   refine wp_ret ?_
   refine ret1 (fn := Try.f11) rfl ?_ ⟨r17, rfl, h, hC.below⟩ (.inl rfl)
   exact res_tmp rfl
def f_laws_toFormS (a0 : List Vc.Form) (K : List Vc.Form → Prop) : Prop :=
 ((0 ≤ (a0.length : Int) ∧ (a0.length : Int) * 24 ≤ 281474976710656) ∧ forN (fun i86 (s87 : (List Vc.Form)) next91 => f_laws_toForm (a0.getD i86 default) (fun r111 => ((0 ≤ (i86 : Int) ∧ (i86 : Int) < (s87.length : Int)) ∧ next91 (s87.set i86 r111)))) (fun (s87 : (List Vc.Form)) => K s87) a0.length 0 (List.replicate ((a0.length : Int).toNat) ((⟨[]⟩ : Vc.Form) : Vc.Form)))
theorem c_laws_toFormS (a0 : List Vc.Form) {u0_0 : Value} {fp0 : List Nat} {K : List Vc.Form → Prop} (h : f_laws_toFormS a0 K) (w0 : World) (q0 : TForm.sl.rep a0 [u0_0] fp0 w0) :
  Calls Try.prog 49 #[u0_0] w0 fun e w' => ∃ (r0 : List Vc.Form) (z0_0 : Value) (fz0 : List Nat), 
   e = .returned (z0_0) ∧ K r0 ∧ (Tr.item (Tr.sl 46 (TrForm 86)) r0 [z0_0] fz0).holds w' ∧ (∀ b, b ∈ fz0 → w0.heap.size ≤ b) ∧ Bel w0 w' := by
 unfold f_laws_toFormS at h
 refine calls_of (args := [u0_0]) Try.func49 rfl 23 Try.ntmps49 (Nat.le_of_ble_eq_true rfl) ?_
 have hC := Ctx.start (X := Nox) w0 [Ty.item TForm.sl a0 [u0_0] fp0] (by simp only [List.mem_cons, List.not_mem_nil, or_false, forall_eq_or_imp, forall_eq]; exact q0)
 refine sr ?_
 refine s_as (v := .slice none 0 0) rfl ?_
 refine dn ?_
 refine sr ?_
 refine s_mv (v := u0_0) rfl ?_
 obtain ⟨Ad2, c3, hv4⟩ := sl_len (hC.getP 0 rfl)
 refine s_len Try.underlying23 (tr rfl hv4) ?_
 obtain ⟨hm7, h⟩ := h
 refine s_make (sz := 1) hC (List.replicate ((a0.length : Int).toNat) (.slice none 0 0)) Try.underlying29 el46 (tr rfl (congrArg (Value.int .i64) (Int.toNat_of_nonneg hm7.1).symm)) (tr rfl (congrArg (Value.int .i64) (Int.toNat_of_nonneg hm7.1).symm)) (by omega) (by omega) (made_nil _) fun v5 w6 hB_ hC => ?_
 replace hC := hC.pushM0 (forest (TrForm 86) (List.replicate ((a0.length : Int).toNat) ((⟨[]⟩ : Vc.Form) : Vc.Form)) (List.replicate ((a0.length : Int).toNat) (.slice none 0 0)) (List.replicate ((a0.length : Int).toNat) [])) (forest_rep (form_join (nil_item _ _ _)) rfl _) (flat_rep _)
 replace hC := hC.gather (c := Tr.item (Tr.sl 46 (TrForm 86)) (List.replicate ((a0.length : Int).toNat) ((⟨[]⟩ : Vc.Form) : Vc.Form)) [v5] ((Option.toList (Value.ownBlock v5)) ++ (List.replicate ((a0.length : Int).toNat) ([] : List Nat)).flatten)) (fun x_ hx_ => (List.mem_append.1 hx_).symm) (fun h1_ h2_ hd_ => forest_up (by rw [List.length_replicate]; exact h2_) h1_ (fun b_ hb_ hb2_ => hd_ b_ hb2_ hb_))
 refine s_as (v := v5) rfl ?_
 refine dn ?_
 refine wp_seq ?_
 refine sr ?_
 refine s_as (v := .int .i64 0) rfl ?_
 refine dn ?_
 refine wp_block ?_
 have hN90 : a0.length ≤ 9223372036854775807 := sl_max (hC.getP 0 rfl)
 refine loopN (S := (List Vc.Form)) _ _ (fun i86 s87 e_ w_ => ∃ (v88 : Value), ∃ (f89 : List Nat), Slots e_ [(0, u0_0), (2, .slice none 0 0), (3, v88), (4, .int .i64 (i86 : Int))] ∧ Ctx Nox w0 w_ [Tr.item (Tr.sl 46 (TrForm 86)) s87 [v88] f89] [Ty.item TForm.sl a0 [u0_0] fp0]) a0.length ?_ ?_ (s0 := (List.replicate ((a0.length : Int).toNat) ((⟨[]⟩ : Vc.Form) : Vc.Form))) ?_ h
 ·clear hC h
  rintro i86 s87 e_ w95 next91 K92 hi94 ⟨v88, f89, hS_, hC⟩ h hK93
  refine wp_seq ?_
  refine sr ?_
  refine s_mv (v := .int .i64 (i86 : Int)) (sx hS_ 3 rfl) ?_
  refine s_mv (v := u0_0) (sx hS_ 0 rfl) ?_
  obtain ⟨Ad96, c97, hv98⟩ := sl_len (hC.getP 0 rfl)
  refine s_len Try.underlying23 (tr rfl hv98) ?_
  refine s_lss rfl rfl ?_
  refine dn ?_
  refine cw_true rfl (decide_eq_true (by omega)) ?_
  refine wp_skip ?_
  refine then_norm ?_
  refine wp_seq ?_
  refine wp_block ?_
  refine cw_region ?_
  refine s_mv (v := v88) (sx hS_ 2 rfl) ?_
  refine s_mv (v := .int .i64 (i86 : Int)) (sx hS_ 3 rfl) ?_
  refine s_mv (v := u0_0) (sx hS_ 0 rfl) ?_
  refine s_mv (v := .int .i64 (i86 : Int)) (sx hS_ 3 rfl) ?_
  obtain ⟨Ad99, c100, hv101⟩ := sl_form (hC.getP 0 rfl) i86 hi94
  refine s_iaddrS (len := a0.length) Try.underlying23 ag39.size (tr rfl hv101) rfl (Int.natCast_nonneg _) (Int.ofNat_lt.2 hi94) ?_
  obtain ⟨cs_, hl103, hc104, hr105⟩ := sl_cells (hC.getP 0 rfl) hv101 i86 hi94
  obtain ⟨u102, rfl⟩ := List.length_eq_one_iff.1 hl103
  clear hl103
  rw [getD_eq _ _ hi94] at hr105
  have hp106 := hr105
  replace hC := hC.derive 0 rfl (Ty.item ETerm.ty.sl ((a0.getD i86 default).terms) [u102] fp0) (fun _ => (form_parts hp106)) (fun _ hb_ => hb_)
  refine s_loadCA [u102] hc104 ag39 rfl rfl ?_
  refine s_call [.agg #[u102]] _ Try.func34 rfl rfl rfl (c_laws_toForm (a0.getD i86 default) h _ (form_mk (hC.getP 0 rfl))) (fun ret108 w110 hR109 => ?_)
  obtain ⟨r111, u112, f113, rfl, h, hr114, hf115, hB116⟩ := hR109
  refine ⟨_, rfl, ?_⟩
  replace hC := hC.push hB116 (Tr.item (TrForm 86) r111 [u112] f113) hr114 hf115
  obtain ⟨ho118, hf119⟩ := form_split (hC.getM 0 rfl)
  subst hf119
  replace hC := hC.recast (c := own 86 9 u112 r111.terms.length (ETerm.encs r111.terms)) (fun _ h_ => h_) (fun _ => ho118)
  obtain ⟨⟨h0_121, h1_122⟩, h⟩ := h
  obtain ⟨g123, cap124, hv125⟩ := tr_formE (hC.getM 1 rfl) (Nat.lt_of_le_of_lt (Nat.zero_le _) (show i86 < s87.length by omega))
  refine s_iaddrO (i86 * 1) Try.underlying29 ag46.size (tr rfl hv125) rfl h0_121 h1_122 rfl ?_
  replace hC := hC.recast (c := Tr.item (TrForm 86) r111 [u112] (Option.toList (Value.ownBlock u112))) (fun _ h_ => h_) (fun h_ => form_join (own_item h_))
  replace hC := hC.sel [1, 0] [0, 1] (M' := [Tr.item (Tr.sl 46 (TrForm 86)) s87 [v88] f89, Tr.item (TrForm 86) r111 [u112] (Option.toList (Value.ownBlock u112))]) (Ps' := [Ty.item ETerm.ty.sl ((a0.getD i86 default).terms) [u102] fp0, Ty.item TForm.sl a0 [u0_0] fp0]) (by decide) rfl rfl
  refine s_storeT (u := .agg #[u112]) hC (show i86 < s87.length by omega) hv125 ag46.size rfl rfl rfl rfl fun f127 w128 hC => ?_
  refine done ?_
  refine blk_norm ?_
  refine then_norm ?_
  refine cw_region ?_
  refine s_mv (v := .int .i64 (i86 : Int)) (sx hS_ 3 rfl) ?_
  refine s_add rfl rfl ?_
  refine s_as (v := .int .i64 (IntKind.i64.wrap ((i86 : Int) + 1))) rfl ?_
  refine done ?_
  replace hC := hC.sel [0] [1] (M' := [Tr.item (Tr.sl 46 (TrForm 86)) (s87.set i86 r111) [v88] f127]) (Ps' := [Ty.item TForm.sl a0 [u0_0] fp0]) (by decide) rfl rfl
  exact hK93 (s87.set i86 r111) _ _ ⟨v88, f127, (sk (sx hS_ 0 rfl) (sk (sx hS_ 1 rfl) (sk (sx hS_ 2 rfl) (sk (tr rfl (congrArg _ (wrap64_nat hi94 hN90))) sn)))), hC⟩ h
 ·clear hC h
  rintro s87 e_ w129 K92 ⟨v88, f89, hS_, hC⟩ h
  refine wp_seq ?_
  refine sr ?_
  refine s_mv (v := .int .i64 (a0.length : Int)) (sx hS_ 3 rfl) ?_
  refine s_mv (v := u0_0) (sx hS_ 0 rfl) ?_
  obtain ⟨Ad130, c131, hv132⟩ := sl_len (hC.getP 0 rfl)
  refine s_len Try.underlying23 (tr rfl hv132) ?_
  refine s_lss rfl rfl ?_
  refine dn ?_
  refine cw_false rfl (decide_eq_false (by omega)) ?_
  refine wp_exit (then_exit (then_exit (exit_in ?_)))
  refine then_norm ?_
  refine sr ?_
  refine s_mv (v := v88) (sx hS_ 2 rfl) ?_
  refine s_as (v := v88) rfl ?_
  refine dn ?_
  refine wp_ret ?_
  refine ret1 (fn := Try.f49) rfl ?_ ⟨s87, v88, f89, rfl, h, (hC.getM 0 rfl), (tr_fresh hC 0 rfl), hC.below⟩ (.inl rfl)
  exact res_tmp rfl
 ·skip
  exact ⟨v5, ((Option.toList (Value.ownBlock v5)) ++ (List.replicate ((a0.length : Int).toNat) ([] : List Nat)).flatten), (sk rfl (sk rfl (sk rfl (sk rfl sn)))), hC⟩
def f_laws_toAlgebra (a0 : Alg) (K : Alg → Prop) : Prop :=
 f_laws_toInt64S a0.degrees (fun r17 => f_laws_toFormS a0.images (fun r31 => K (⟨r17, r31⟩ : Alg)))
theorem c_laws_toAlgebra (a0 : Alg) {u0_0 : Value} {u0_1 : Value} {fp0 : List Nat} {K : Alg → Prop} (h : f_laws_toAlgebra a0 K) (w0 : World) (q0 : TAlg.rep a0 [u0_0, u0_1] fp0 w0) :
  Calls Try.prog 13 #[.agg #[u0_0, u0_1]] w0 fun e w' => ∃ (r0 : Alg) (z0_0 : Value) (z0_1 : Value) (fz0 : List Nat), 
   e = .returned (.agg #[z0_0, z0_1]) ∧ K r0 ∧ (Tr.item (TrAlg 2 86 46) r0 [z0_0, z0_1] fz0).holds w' ∧ (∀ b, b ∈ fz0 → w0.heap.size ≤ b) ∧ Bel w0 w' := by
 unfold f_laws_toAlgebra at h
 refine calls_of (args := [.agg #[u0_0, u0_1]]) Try.func13 rfl 13 Try.ntmps13 (Nat.le_of_ble_eq_true rfl) ?_
 have hC := Ctx.start (X := Nox) w0 [Ty.item TAlg a0 [u0_0, u0_1] fp0] (by simp only [List.mem_cons, List.not_mem_nil, or_false, forall_eq_or_imp, forall_eq]; exact q0)
 have hp2 := (hC.getP 0 rfl)
 replace hC := hC.derive 0 rfl (Ty.item ((EI .i64).ty.sl) a0.degrees [u0_0] fp0) (fun _ => (alg_parts hp2).1) (fun _ hb_ => hb_)
 replace hC := hC.derive 1 rfl (Ty.item TForm.sl a0.images [u0_1] fp0) (fun _ => (alg_parts hp2).2) (fun _ hb_ => hb_)
 refine sr ?_
 refine s_box (v := .agg #[u0_0, u0_1]) hC [u0_0, u0_1] rfl rfl fun b5 w7 hB_ hC => ?_
 refine s_alloc hC [.slice none 0 0, .slice none 0 0] z31 rfl fun b8 w10 hB_ hC => ?_
 refine dn ?_
 refine sr ?_
 refine s_alloc hC [.slice none 0 0, .slice none 0 0] z31 rfl fun b11 w13 hB_ hC => ?_
 refine dn ?_
 refine sr ?_
 refine s_faddrB 0 Try.underlying25 rfl sc22.size rfl rfl ?_
 refine s_loadS hC 2 (u0_0) rfl sc22 rfl rfl ?_
 refine s_call [u0_0] _ Try.func48 rfl rfl rfl (c_laws_toInt64S a0.degrees h _ (hC.getP 1 rfl)) (fun ret14 w16 hR15 => ?_)
 obtain ⟨r17, u18, f19, rfl, h, hr20, hf21, hB22⟩ := hR15
 refine ⟨_, rfl, ?_⟩
 replace hC := hC.push hB22 (Tr.item (Tr.sl 2 ((EI .i64).tr)) r17 [u18] f19) hr20 hf21
 obtain ⟨ho24, hf25⟩ := flat_tr (hC.getM 0 rfl).1
 subst hf25
 replace hC := hC.recast (c := own 2 1 u18 r17.length ((EI .i64).encs r17)) (fun _ h_ => h_) (fun _ => ho24)
 refine s_faddrB 0 Try.underlying31 rfl sc22.size rfl rfl ?_
 refine s_store (v := u18) hC 1 [u18] [u18, .slice none 0 0] rfl sc22.size rfl rfl (own_cellsV (hC.getM 0 rfl)) rfl (all_c (own_oneC (hC.getM 0 rfl)) rfl) (Nat.le_of_ble_eq_true rfl) rfl fun w27 hC => ?_
 refine dn ?_
 refine sr ?_
 refine s_faddrB 1 Try.underlying25 rfl sc23.size rfl rfl ?_
 refine s_loadS hC 3 (u0_1) rfl sc23 rfl rfl ?_
 refine s_call [u0_1] _ Try.func49 rfl rfl rfl (c_laws_toFormS a0.images h _ (hC.getP 0 rfl)) (fun ret28 w30 hR29 => ?_)
 obtain ⟨r31, u32, f33, rfl, h, hr34, hf35, hB36⟩ := hR29
 refine ⟨_, rfl, ?_⟩
 replace hC := hC.push hB36 (Tr.item (Tr.sl 46 (TrForm 86)) r31 [u32] f33) hr34 hf35
 refine s_faddrB 1 Try.underlying31 rfl sc29.size rfl rfl ?_
 refine s_store (v := u32) hC 2 [u32] [u18, u32] rfl sc29.size rfl rfl (rep_cellsV (Tr.trep _ (hC.getM 0 rfl).1)) rfl (all_c (rep_oneC (Tr.trep _ (hC.getM 0 rfl).1)) rfl) (Nat.le_of_ble_eq_true rfl) rfl fun w39 hC => ?_
 refine dn ?_
 refine sr ?_
 refine s_loadA hC 2 [u18, u32] rfl ag31 rfl rfl rfl ?_
 refine s_store (v := .agg #[u18, u32]) hC 3 [u18, u32] [u18, u32] rfl ag31.size rfl rfl rfl rfl (all_c (own_oneC (hC.getM 1 rfl)) (all_c (rep_oneC (Tr.trep _ (hC.getM 0 rfl).1)) rfl)) (Nat.le_of_ble_eq_true rfl) rfl fun w40 hC => ?_
 refine dn ?_
 refine wp_ret ?_
 refine ret1 (fn := Try.f13) rfl ?_ ⟨(⟨r17, r31⟩ : Alg), u18, u32, ((Option.toList (Value.ownBlock u18)) ++ f33), rfl, h, (alg_join (own_item (hC.getM 1 rfl)) (hC.getM 0 rfl) (fun x hx hx' => hC.mm 1 0 rfl rfl (by decide) x hx hx')), (fun b hb => (List.mem_append.1 hb).elim (fun hb => (own_fresh hC 1 rfl) b hb) (fun hb => (tr_fresh hC 0 rfl) b hb)), hC.below⟩ (.inl rfl)
 exact res_cellA hC 3 rfl ag31 rfl rfl
def f_laws_eqAlgebra (a0 : Alg) (a1 : Alg) (K : Bool → Prop) : Prop :=
 f_laws_eqInt64S a0.degrees a1.degrees (fun r18 => (if ¬ (r18 = true) then K false else f_laws_eqFormS a0.images a1.images (fun r24 => (if ¬ (r24 = true) then K false else K true))))
theorem c_laws_eqAlgebra (a0 : Alg) (a1 : Alg) {u0_0 : Value} {u0_1 : Value} {u1_0 : Value} {u1_1 : Value} {fp0 : List Nat} {fp1 : List Nat} {K : Bool → Prop} (h : f_laws_eqAlgebra a0 a1 K) (w0 : World) (q0 : TAlg.rep a0 [u0_0, u0_1] fp0 w0) (q1 : TAlg.rep a1 [u1_0, u1_1] fp1 w0) :
  Calls Try.prog 15 #[.agg #[u0_0, u0_1], .agg #[u1_0, u1_1]] w0 fun e w' => ∃ (r0 : Bool), 
   e = .returned (.bool r0) ∧ K r0 ∧ Bel w0 w' := by
 unfold f_laws_eqAlgebra at h
 refine calls_of (args := [.agg #[u0_0, u0_1], .agg #[u1_0, u1_1]]) Try.func15 rfl 17 Try.ntmps15 (Nat.le_of_ble_eq_true rfl) ?_
 have hC := Ctx.start (X := Nox) w0 [Ty.item TAlg a0 [u0_0, u0_1] fp0, Ty.item TAlg a1 [u1_0, u1_1] fp1] (by simp only [List.mem_cons, List.not_mem_nil, or_false, forall_eq_or_imp, forall_eq]; exact ⟨q0, q1⟩)
 have hp3 := (hC.getP 0 rfl)
 replace hC := hC.derive 0 rfl (Ty.item ((EI .i64).ty.sl) a0.degrees [u0_0] fp0) (fun _ => (alg_parts hp3).1) (fun _ hb_ => hb_)
 replace hC := hC.derive 1 rfl (Ty.item TForm.sl a0.images [u0_1] fp0) (fun _ => (alg_parts hp3).2) (fun _ hb_ => hb_)
 have hp6 := (hC.getP 3 rfl)
 replace hC := hC.derive 3 rfl (Ty.item ((EI .i64).ty.sl) a1.degrees [u1_0] fp1) (fun _ => (alg_parts hp6).1) (fun _ hb_ => hb_)
 replace hC := hC.derive 4 rfl (Ty.item TForm.sl a1.images [u1_1] fp1) (fun _ => (alg_parts hp6).2) (fun _ hb_ => hb_)
 refine sr ?_
 refine s_box (v := .agg #[u0_0, u0_1]) hC [u0_0, u0_1] rfl rfl fun b9 w11 hB_ hC => ?_
 refine s_box (v := .agg #[u1_0, u1_1]) hC [u1_0, u1_1] rfl rfl fun b12 w14 hB_ hC => ?_
 refine s_as (v := .bool false) rfl ?_
 refine dn ?_
 refine wp_seq ?_
 refine sr ?_
 refine s_faddrB 0 Try.underlying31 rfl sc22.size rfl rfl ?_
 refine s_loadS hC 1 (u0_0) rfl sc22 rfl rfl ?_
 refine s_faddrB 0 Try.underlying31 rfl sc22.size rfl rfl ?_
 refine s_loadS hC 0 (u1_0) rfl sc22 rfl rfl ?_
 refine s_call [u0_0, u1_0] _ Try.func52 rfl rfl rfl (c_laws_eqInt64S a0.degrees a1.degrees h _ (hC.getP 3 rfl) (hC.getP 1 rfl)) (fun ret15 w17 hR16 => ?_)
 obtain ⟨r18, rfl, h, hB19⟩ := hR16
 refine ⟨_, rfl, ?_⟩
 replace hC := hC.grow hB19
 refine s_not rfl ?_
 refine dn ?_
 refine cw_cond rfl (fun hb20 => ?_) (fun hb20 => ?_)
 ·replace h := ift h (ne_t (not_t hb20))
  refine sr ?_
  refine s_as (v := .bool false) rfl ?_
  refine dn ?_
  refine wp_ret (then_ret ?_)
  refine ret1 (fn := Try.f15) rfl ?_ ⟨false, rfl, h, hC.below⟩ (.inl rfl)
  exact res_tmp rfl
 ·replace h := iff_ h (not_not_intro ((not_f hb20)))
  refine wp_skip ?_
  refine then_norm ?_
  refine wp_seq ?_
  refine sr ?_
  refine s_faddrB 1 Try.underlying31 rfl sc29.size rfl rfl ?_
  refine s_loadS hC 1 (u0_1) rfl sc29 rfl rfl ?_
  refine s_faddrB 1 Try.underlying31 rfl sc29.size rfl rfl ?_
  refine s_loadS hC 0 (u1_1) rfl sc29 rfl rfl ?_
  refine s_call [u0_1, u1_1] _ Try.func42 rfl rfl rfl (c_laws_eqFormS a0.images a1.images h _ (hC.getP 2 rfl) (hC.getP 0 rfl)) (fun ret21 w23 hR22 => ?_)
  obtain ⟨r24, rfl, h, hB25⟩ := hR22
  refine ⟨_, rfl, ?_⟩
  replace hC := hC.grow hB25
  refine s_not rfl ?_
  refine dn ?_
  refine cw_cond rfl (fun hb26 => ?_) (fun hb26 => ?_)
  ·replace h := ift h (ne_t (not_t hb26))
   refine sr ?_
   refine s_as (v := .bool false) rfl ?_
   refine dn ?_
   refine wp_ret (then_ret ?_)
   refine ret1 (fn := Try.f15) rfl ?_ ⟨false, rfl, h, hC.below⟩ (.inl rfl)
   exact res_tmp rfl
  ·replace h := iff_ h (not_not_intro ((not_f hb26)))
   refine wp_skip ?_
   refine then_norm ?_
   refine sr ?_
   refine s_as (v := .bool true) rfl ?_
   refine dn ?_
   refine wp_ret ?_
   refine ret1 (fn := Try.f15) rfl ?_ ⟨true, rfl, h, hC.below⟩ (.inl rfl)
   exact res_tmp rfl
def f_spec_EulerOfGenerators (a0 : Alg) (K : Int → Int → Prop) : Prop :=
 f_spec_l02Is a0 (fun r11 => (if ¬ (r11 = true) then K 0 1 else whileP (fun (s34 : Int × Int) next35 => (if s34.2 < (a0.degrees.length : Int) then ((0 ≤ s34.2 ∧ s34.2 < (a0.degrees.length : Int)) ∧ next35 (IntKind.i64.wrap ((IntKind.i64.wrap (s34.1 + 1)) - (IntKind.i64.wrap (2 * (Int.tmod (a0.degrees.getD s34.2.toNat default) 2)))), IntKind.i64.wrap (s34.2 + 1))) else K s34.1 0)) (0, 0)))
theorem c_spec_EulerOfGenerators (a0 : Alg) {u0_0 : Value} {u0_1 : Value} {fp0 : List Nat} {K : Int → Int → Prop} (h : f_spec_EulerOfGenerators a0 K) (w0 : World) (q0 : TAlg.rep a0 [u0_0, u0_1] fp0 w0) :
  Calls Try.prog 12 #[.agg #[u0_0, u0_1]] w0 fun e w' => ∃ (r0 : Int) (r1 : Int), 
   e = .returned (.tuple #[.int .i64 r0, .int .i64 r1]) ∧ K r0 r1 ∧ Bel w0 w' := by
 unfold f_spec_EulerOfGenerators at h
 refine calls_of (args := [.agg #[u0_0, u0_1]]) Try.func12 rfl 27 Try.ntmps12 (Nat.le_of_ble_eq_true rfl) ?_
 have hC := Ctx.start (X := Nox) w0 [Ty.item TAlg a0 [u0_0, u0_1] fp0] (by simp only [List.mem_cons, List.not_mem_nil, or_false, forall_eq_or_imp, forall_eq]; exact q0)
 have hp2 := (hC.getP 0 rfl)
 replace hC := hC.derive 0 rfl (Ty.item ((EI .i64).ty.sl) a0.degrees [u0_0] fp0) (fun _ => (alg_parts hp2).1) (fun _ hb_ => hb_)
 replace hC := hC.derive 1 rfl (Ty.item TForm.sl a0.images [u0_1] fp0) (fun _ => (alg_parts hp2).2) (fun _ hb_ => hb_)
 refine sr ?_
 refine s_box (v := .agg #[u0_0, u0_1]) hC [u0_0, u0_1] rfl rfl fun b5 w7 hB_ hC => ?_
 refine s_as (v := .int .i64 0) rfl ?_
 refine s_as (v := .int .i64 0) rfl ?_
 refine dn ?_
 refine wp_seq ?_
 refine sr ?_
 refine s_loadA hC 0 [u0_0, u0_1] rfl ag31 rfl rfl rfl ?_
 refine s_call [.agg #[u0_0, u0_1]] _ Try.func47 rfl rfl rfl (c_spec_l02Is a0 h _ (alg_mk (hC.getP 1 rfl) (hC.getP 0 rfl))) (fun ret8 w10 hR9 => ?_)
 obtain ⟨r11, rfl, h, hB12⟩ := hR9
 refine ⟨_, rfl, ?_⟩
 replace hC := hC.grow hB12
 refine s_not rfl ?_
 refine dn ?_
 refine cw_cond rfl (fun hb13 => ?_) (fun hb13 => ?_)
 ·replace h := ift h (ne_t (not_t hb13))
  refine sr ?_
  refine s_as (v := .int .i64 0) rfl ?_
  refine s_as (v := .int .i64 1) rfl ?_
  refine dn ?_
  refine wp_ret (then_ret ?_)
  refine ret2 (fn := Try.f12) rfl ?_ ?_ ⟨0, 1, rfl, h, hC.below⟩ (.inl rfl)
  ·exact res_tmp rfl
  ·exact res_tmp rfl
 ·replace h := iff_ h (not_not_intro ((not_f hb13)))
  refine wp_skip ?_
  refine then_norm ?_
  refine sr ?_
  refine s_as (v := .int .i64 0) rfl ?_
  refine dn ?_
  refine wp_seq ?_
  refine sr ?_
  refine s_as (v := .int .i64 0) rfl ?_
  refine dn ?_
  refine wp_block ?_
  refine loopW (S := Int × Int) _ (fun s34 e_ w_ => Slots e_ [(1, .pointer (some ⟨b5, 0, none⟩)), (2, .int .i64 0), (3, .int .i64 0), (4, .int .i64 s34.1), (5, .int .i64 s34.2)] ∧ Ctx Nox w0 w_ [blk b5 31 [u0_0, u0_1]] [Ty.item TForm.sl a0.images [u0_1] fp0, Ty.item ((EI .i64).ty.sl) a0.degrees [u0_0] fp0, Ty.item TAlg a0 [u0_0, u0_1] fp0]) ?_ (s0 := (0, 0)) ?_ h
  ·clear hC h
   rintro s34 e_ w38 next35 K36 ⟨hS_, hC⟩ h hK37
   refine wp_seq ?_
   refine sr ?_
   refine s_mv (v := .int .i64 s34.2) (sx hS_ 4 rfl) ?_
   refine s_faddrB 0 Try.underlying31 rfl sc22.size (sx hS_ 0 rfl) rfl ?_
   refine s_loadS hC 0 (u0_0) rfl sc22 rfl rfl ?_
   obtain ⟨Ad39, c40, hv41⟩ := sl_len (hC.getP 1 rfl)
   refine s_len Try.underlying22 (tr rfl hv41) ?_
   refine s_lss rfl rfl ?_
   refine dn ?_
   refine cw_cond rfl (fun hb42 => ?_) (fun hb42 => ?_)
   ·replace h := ift h (ct hb42)
    refine wp_skip ?_
    refine then_norm ?_
    refine wp_seq ?_
    refine wp_block ?_
    refine cw_region ?_
    refine s_mv (v := .int .i64 s34.1) (sx hS_ 3 rfl) ?_
    refine s_add rfl rfl ?_
    refine s_faddrB 0 Try.underlying31 rfl sc22.size (sx hS_ 0 rfl) rfl ?_
    refine s_loadS hC 0 (u0_0) rfl sc22 rfl rfl ?_
    refine s_mv (v := .int .i64 s34.2) (sx hS_ 4 rfl) ?_
    obtain ⟨⟨h0_43, h1_44⟩, h⟩ := h
    obtain ⟨Ad45, c46, hv47⟩ := sl_form (hC.getP 1 rfl) s34.2.toNat (show s34.2.toNat < a0.degrees.length by omega)
    refine s_iaddrS (len := a0.degrees.length) Try.underlying22 sc2.size (tr rfl hv47) rfl h0_43 h1_44 ?_
    refine s_loadCS (.int .i64 (a0.degrees.getD s34.2.toNat default)) (sl_cellsE (hC.getP 1 rfl) hv47 s34.2.toNat (show s34.2.toNat < a0.degrees.length by omega)) sc2 rfl ?_
    refine s_rem rfl rfl (by decide) ?_
    refine s_mul rfl rfl ?_
    refine s_sub rfl rfl ?_
    refine s_as (v := .int .i64 (IntKind.i64.wrap ((IntKind.i64.wrap (s34.1 + 1)) - (IntKind.i64.wrap (2 * (Int.tmod (a0.degrees.getD s34.2.toNat default) 2)))))) rfl ?_
    refine done ?_
    refine blk_norm ?_
    refine then_norm ?_
    refine cw_region ?_
    refine s_mv (v := .int .i64 s34.2) (sx hS_ 4 rfl) ?_
    refine s_add rfl rfl ?_
    refine s_as (v := .int .i64 (IntKind.i64.wrap (s34.2 + 1))) rfl ?_
    refine done ?_
    exact hK37 (IntKind.i64.wrap ((IntKind.i64.wrap (s34.1 + 1)) - (IntKind.i64.wrap (2 * (Int.tmod (a0.degrees.getD s34.2.toNat default) 2)))), IntKind.i64.wrap (s34.2 + 1)) _ _ ⟨(sk (sx hS_ 0 rfl) (sk (sx hS_ 1 rfl) (sk (sx hS_ 2 rfl) (sk rfl (sk rfl sn))))), hC⟩ h
   ·replace h := iff_ h (cf hb42)
    refine wp_exit (then_exit (then_exit (exit_in ?_)))
    refine then_norm ?_
    refine sr ?_
    refine s_mv (v := .int .i64 s34.1) (sx hS_ 3 rfl) ?_
    refine s_as (v := .int .i64 s34.1) rfl ?_
    refine s_as (v := .int .i64 0) rfl ?_
    refine dn ?_
    refine wp_ret ?_
    refine ret2 (fn := Try.f12) rfl ?_ ?_ ⟨s34.1, 0, rfl, h, hC.below⟩ (.inl rfl)
    ·exact res_tmp rfl
    ·exact res_tmp rfl
  ·skip
   exact ⟨(sk rfl (sk rfl (sk rfl (sk rfl (sk rfl sn))))), hC⟩
def f_impl_eulerOf (a0 : List Int) (K : Int → Prop) : Prop :=
 forN (fun i17 (s18 : Int) next20 => next20 (IntKind.i64.wrap (s18 + (IntKind.i64.wrap (1 - (IntKind.i64.wrap (2 * (Int.tmod (a0.getD i17 default) 2)))))))) (fun (s18 : Int) => K s18) a0.length 0 0
theorem c_impl_eulerOf (a0 : List Int) {u0_0 : Value} {fp0 : List Nat} {K : Int → Prop} (h : f_impl_eulerOf a0 K) (w0 : World) (q0 : ((EI .i64).ty.sl).rep a0 [u0_0] fp0 w0) :
  Calls Try.prog 51 #[u0_0] w0 fun e w' => ∃ (r0 : Int), 
   e = .returned (.int .i64 r0) ∧ K r0 ∧ Bel w0 w' := by
 unfold f_impl_eulerOf at h
 refine calls_of (args := [u0_0]) Try.func51 rfl 20 Try.ntmps51 (Nat.le_of_ble_eq_true rfl) ?_
 have hC := Ctx.start (X := Nox) w0 [Ty.item ((EI .i64).ty.sl) a0 [u0_0] fp0] (by simp only [List.mem_cons, List.not_mem_nil, or_false, forall_eq_or_imp, forall_eq]; exact q0)
 refine sr ?_
 refine s_as (v := .int .i64 0) rfl ?_
 refine dn ?_
 refine sr ?_
 refine s_as (v := .int .i64 0) rfl ?_
 refine dn ?_
 refine wp_seq ?_
 refine sr ?_
 refine s_mv (v := u0_0) rfl ?_
 obtain ⟨Ad2, c3, hv4⟩ := sl_len (hC.getP 0 rfl)
 refine s_len Try.underlying22 (tr rfl hv4) ?_
 refine s_mv (v := .int .i64 0) rfl ?_
 refine dn ?_
 refine wp_block ?_
 have hN19 : a0.length ≤ 9223372036854775807 := sl_max (hC.getP 0 rfl)
 refine loopN (S := Int) _ _ (fun i17 s18 e_ w_ => Slots e_ [(2, .int .i64 0), (3, .int .i64 s18), (6, u0_0), (7, .int .i64 (a0.length : Int)), (8, .int .i64 (i17 : Int))] ∧ Ctx Nox w0 w_ [] [Ty.item ((EI .i64).ty.sl) a0 [u0_0] fp0]) a0.length ?_ ?_ (s0 := 0) ?_ h
 ·clear hC h
  rintro i17 s18 e_ w24 next20 K21 hi23 ⟨hS_, hC⟩ h hK22
  refine sr ?_
  refine s_lss (sx hS_ 4 rfl) (sx hS_ 3 rfl) ?_
  refine dn ?_
  refine wp_seq ?_
  refine cw_true rfl (decide_eq_true (by omega)) ?_
  refine wp_skip ?_
  refine then_norm ?_
  refine wp_seq ?_
  refine wp_block ?_
  refine sr ?_
  obtain ⟨Ad25, c26, hv27⟩ := sl_form (hC.getP 0 rfl) i17 hi23
  refine s_iaddrS (len := a0.length) Try.underlying22 sc2.size (tr (sx hS_ 2 rfl) hv27) (sx hS_ 4 rfl) (Int.natCast_nonneg _) (Int.ofNat_lt.2 hi23) ?_
  refine s_loadCS (.int .i64 (a0.getD i17 default)) (sl_cellsE (hC.getP 0 rfl) hv27 i17 hi23) sc2 rfl ?_
  refine s_as (v := .int .i64 (a0.getD i17 default)) rfl ?_
  refine dn ?_
  refine cw_region ?_
  refine s_mv (v := .int .i64 s18) (sx hS_ 1 rfl) ?_
  refine s_mv (v := .int .i64 (a0.getD i17 default)) rfl ?_
  refine s_rem rfl rfl (by decide) ?_
  refine s_mul rfl rfl ?_
  refine s_sub rfl rfl ?_
  refine s_add rfl rfl ?_
  refine s_as (v := .int .i64 (IntKind.i64.wrap (s18 + (IntKind.i64.wrap (1 - (IntKind.i64.wrap (2 * (Int.tmod (a0.getD i17 default) 2)))))))) rfl ?_
  refine done ?_
  refine blk_norm ?_
  refine then_norm ?_
  refine cw_region ?_
  refine s_add (sx hS_ 4 rfl) rfl ?_
  refine s_mv (v := .int .i64 (IntKind.i64.wrap ((i17 : Int) + 1))) rfl ?_
  refine done ?_
  exact hK22 (IntKind.i64.wrap (s18 + (IntKind.i64.wrap (1 - (IntKind.i64.wrap (2 * (Int.tmod (a0.getD i17 default) 2))))))) _ _ ⟨(sk (sx hS_ 0 rfl) (sk rfl (sk (sx hS_ 2 rfl) (sk (sx hS_ 3 rfl) (sk (tr rfl (congrArg _ (wrap64_nat hi23 hN19))) sn))))), hC⟩ h
 ·clear hC h
  rintro s18 e_ w28 K21 ⟨hS_, hC⟩ h
  refine sr ?_
  refine s_lss (sx hS_ 4 rfl) (sx hS_ 3 rfl) ?_
  refine dn ?_
  refine wp_seq ?_
  refine cw_false rfl (decide_eq_false (by omega)) ?_
  refine wp_exit (then_exit (then_exit (exit_in ?_)))
  refine then_norm ?_
  refine sr ?_
  refine s_mv (v := .int .i64 s18) (sx hS_ 1 rfl) ?_
  refine s_as (v := .int .i64 s18) rfl ?_
  refine dn ?_
  refine wp_ret ?_
  refine ret1 (fn := Try.f51) rfl ?_ ⟨s18, rfl, h, hC.below⟩ (.inl rfl)
  exact res_tmp rfl
 ·skip
  exact ⟨(sk rfl (sk rfl (sk rfl (sk rfl (sk rfl sn))))), hC⟩
def f_impl_EulerOfGenerators (a0 : Alg) (K : Int → Int → Prop) : Prop :=
 f_impl_algebraCode a0 [] (fun r11 => (if r11 ≠ 0 then K 0 r11 else f_impl_eulerOf a0.degrees (fun r17 => K r17 0)))
theorem c_impl_EulerOfGenerators (a0 : Alg) {u0_0 : Value} {u0_1 : Value} {fp0 : List Nat} {K : Int → Int → Prop} (h : f_impl_EulerOfGenerators a0 K) (w0 : World) (q0 : TAlg.rep a0 [u0_0, u0_1] fp0 w0) :
  Calls Try.prog 14 #[.agg #[u0_0, u0_1]] w0 fun e w' => ∃ (r0 : Int) (r1 : Int), 
   e = .returned (.tuple #[.int .i64 r0, .int .i64 r1]) ∧ K r0 r1 ∧ Bel w0 w' := by
 unfold f_impl_EulerOfGenerators at h
 refine calls_of (args := [.agg #[u0_0, u0_1]]) Try.func14 rfl 12 Try.ntmps14 (Nat.le_of_ble_eq_true rfl) ?_
 have hC := Ctx.start (X := Nox) w0 [Ty.item TAlg a0 [u0_0, u0_1] fp0] (by simp only [List.mem_cons, List.not_mem_nil, or_false, forall_eq_or_imp, forall_eq]; exact q0)
 have hp2 := (hC.getP 0 rfl)
 replace hC := hC.derive 0 rfl (Ty.item ((EI .i64).ty.sl) a0.degrees [u0_0] fp0) (fun _ => (alg_parts hp2).1) (fun _ hb_ => hb_)
 replace hC := hC.derive 1 rfl (Ty.item TForm.sl a0.images [u0_1] fp0) (fun _ => (alg_parts hp2).2) (fun _ hb_ => hb_)
 refine sr ?_
 refine s_box (v := .agg #[u0_0, u0_1]) hC [u0_0, u0_1] rfl rfl fun b5 w7 hB_ hC => ?_
 refine s_as (v := .int .i64 0) rfl ?_
 refine s_as (v := .int .i64 0) rfl ?_
 refine dn ?_
 refine wp_seq ?_
 refine sr ?_
 refine s_call [.pointer (some ⟨b5, 0, none⟩), .slice none 0 0] _ Try.func50 rfl rfl rfl (c_impl_algebraCode a0 [] h _ (alg_mk (hC.getP 1 rfl) (hC.getP 0 rfl)) (hC.getM 0 rfl) (rep_nil _ _)) (fun ret8 w10 hR9 => ?_)
 obtain ⟨r11, rfl, h, hB12⟩ := hR9
 refine ⟨_, rfl, ?_⟩
 replace hC := hC.grow hB12
 refine s_as (v := .int .i64 r11) rfl ?_
 refine dn ?_
 refine sr ?_
 refine s_mv (v := .int .i64 r11) rfl ?_
 refine s_neq rfl rfl ?_
 refine dn ?_
 refine cw_cond rfl (fun hb13 => ?_) (fun hb13 => ?_)
 ·replace h := ift h (ct hb13)
  refine sr ?_
  refine s_mv (v := .int .i64 r11) rfl ?_
  refine s_as (v := .int .i64 0) rfl ?_
  refine s_as (v := .int .i64 r11) rfl ?_
  refine dn ?_
  refine wp_ret (then_ret ?_)
  refine ret2 (fn := Try.f14) rfl ?_ ?_ ⟨0, r11, rfl, h, hC.below⟩ (.inl rfl)
  ·exact res_tmp rfl
  ·exact res_tmp rfl
 ·replace h := iff_ h (cf hb13)
  refine wp_skip ?_
  refine then_norm ?_
  refine sr ?_
  refine s_faddrB 0 Try.underlying31 rfl sc22.size rfl rfl ?_
  refine s_loadS hC 0 (u0_0) rfl sc22 rfl rfl ?_
  refine s_call [u0_0] _ Try.func51 rfl rfl rfl (c_impl_eulerOf a0.degrees h _ (hC.getP 1 rfl)) (fun ret14 w16 hR15 => ?_)
  obtain ⟨r17, rfl, h, hB18⟩ := hR15
  refine ⟨_, rfl, ?_⟩
  replace hC := hC.grow hB18
  refine s_as (v := .int .i64 r17) rfl ?_
  refine s_as (v := .int .i64 0) rfl ?_
  refine dn ?_
  refine wp_ret ?_
  refine ret2 (fn := Try.f14) rfl ?_ ?_ ⟨r17, 0, rfl, h, hC.below⟩ (.inl rfl)
  ·exact res_tmp rfl
  ·exact res_tmp rfl
def f_spec_FormalDimension (a0 : Alg) (K : Int → Int → Prop) : Prop :=
 f_spec_l02Is a0 (fun r11 => (if ¬ (r11 = true) then K 0 1 else whileP (fun (s56 : Int × Int) next57 => (if s56.2 < (a0.degrees.length : Int) then ((0 ≤ s56.2 ∧ s56.2 < (a0.degrees.length : Int)) ∧ (if Int.tmod (a0.degrees.getD s56.2.toNat default) 2 ≠ 0 then ((0 ≤ s56.2 ∧ s56.2 < (a0.degrees.length : Int)) ∧ next57 (IntKind.i64.wrap (s56.1 + (a0.degrees.getD s56.2.toNat default)), IntKind.i64.wrap (s56.2 + 1))) else ((0 ≤ s56.2 ∧ s56.2 < (a0.degrees.length : Int)) ∧ next57 (IntKind.i64.wrap (s56.1 - (IntKind.i64.wrap ((a0.degrees.getD s56.2.toNat default) - 1))), IntKind.i64.wrap (s56.2 + 1))))) else K s56.1 0)) (0, 0)))
theorem c_spec_FormalDimension (a0 : Alg) {u0_0 : Value} {u0_1 : Value} {fp0 : List Nat} {K : Int → Int → Prop} (h : f_spec_FormalDimension a0 K) (w0 : World) (q0 : TAlg.rep a0 [u0_0, u0_1] fp0 w0) :
  Calls Try.prog 16 #[.agg #[u0_0, u0_1]] w0 fun e w' => ∃ (r0 : Int) (r1 : Int), 
   e = .returned (.tuple #[.int .i64 r0, .int .i64 r1]) ∧ K r0 r1 ∧ Bel w0 w' := by
 unfold f_spec_FormalDimension at h
 refine calls_of (args := [.agg #[u0_0, u0_1]]) Try.func16 rfl 39 Try.ntmps16 (Nat.le_of_ble_eq_true rfl) ?_
 have hC := Ctx.start (X := Nox) w0 [Ty.item TAlg a0 [u0_0, u0_1] fp0] (by simp only [List.mem_cons, List.not_mem_nil, or_false, forall_eq_or_imp, forall_eq]; exact q0)
 have hp2 := (hC.getP 0 rfl)
 replace hC := hC.derive 0 rfl (Ty.item ((EI .i64).ty.sl) a0.degrees [u0_0] fp0) (fun _ => (alg_parts hp2).1) (fun _ hb_ => hb_)
 replace hC := hC.derive 1 rfl (Ty.item TForm.sl a0.images [u0_1] fp0) (fun _ => (alg_parts hp2).2) (fun _ hb_ => hb_)
 refine sr ?_
 refine s_box (v := .agg #[u0_0, u0_1]) hC [u0_0, u0_1] rfl rfl fun b5 w7 hB_ hC => ?_
 refine s_as (v := .int .i64 0) rfl ?_
 refine s_as (v := .int .i64 0) rfl ?_
 refine dn ?_
 refine wp_seq ?_
 refine sr ?_
 refine s_loadA hC 0 [u0_0, u0_1] rfl ag31 rfl rfl rfl ?_
 refine s_call [.agg #[u0_0, u0_1]] _ Try.func47 rfl rfl rfl (c_spec_l02Is a0 h _ (alg_mk (hC.getP 1 rfl) (hC.getP 0 rfl))) (fun ret8 w10 hR9 => ?_)
 obtain ⟨r11, rfl, h, hB12⟩ := hR9
 refine ⟨_, rfl, ?_⟩
 replace hC := hC.grow hB12
 refine s_not rfl ?_
 refine dn ?_
 refine cw_cond rfl (fun hb13 => ?_) (fun hb13 => ?_)
 ·replace h := ift h (ne_t (not_t hb13))
  refine sr ?_
  refine s_as (v := .int .i64 0) rfl ?_
  refine s_as (v := .int .i64 1) rfl ?_
  refine dn ?_
  refine wp_ret (then_ret ?_)
  refine ret2 (fn := Try.f16) rfl ?_ ?_ ⟨0, 1, rfl, h, hC.below⟩ (.inl rfl)
  ·exact res_tmp rfl
  ·exact res_tmp rfl
 ·replace h := iff_ h (not_not_intro ((not_f hb13)))
  refine wp_skip ?_
  refine then_norm ?_
  refine sr ?_
  refine s_as (v := .int .i64 0) rfl ?_
  refine dn ?_
  refine wp_seq ?_
  refine sr ?_
  refine s_as (v := .int .i64 0) rfl ?_
  refine dn ?_
  refine wp_block ?_
  refine loopW (S := Int × Int) _ (fun s56 e_ w_ => Slots e_ [(1, .pointer (some ⟨b5, 0, none⟩)), (2, .int .i64 0), (3, .int .i64 0), (4, .int .i64 s56.1), (5, .int .i64 s56.2)] ∧ Ctx Nox w0 w_ [blk b5 31 [u0_0, u0_1]] [Ty.item TForm.sl a0.images [u0_1] fp0, Ty.item ((EI .i64).ty.sl) a0.degrees [u0_0] fp0, Ty.item TAlg a0 [u0_0, u0_1] fp0]) ?_ (s0 := (0, 0)) ?_ h
  ·clear hC h
   rintro s56 e_ w60 next57 K58 ⟨hS_, hC⟩ h hK59
   refine wp_seq ?_
   refine sr ?_
   refine s_mv (v := .int .i64 s56.2) (sx hS_ 4 rfl) ?_
   refine s_faddrB 0 Try.underlying31 rfl sc22.size (sx hS_ 0 rfl) rfl ?_
   refine s_loadS hC 0 (u0_0) rfl sc22 rfl rfl ?_
   obtain ⟨Ad61, c62, hv63⟩ := sl_len (hC.getP 1 rfl)
   refine s_len Try.underlying22 (tr rfl hv63) ?_
   refine s_lss rfl rfl ?_
   refine dn ?_
   refine cw_cond rfl (fun hb64 => ?_) (fun hb64 => ?_)
   ·replace h := ift h (ct hb64)
    refine wp_skip ?_
    refine then_norm ?_
    refine wp_seq ?_
    refine wp_block ?_
    refine sr ?_
    refine s_faddrB 0 Try.underlying31 rfl sc22.size (sx hS_ 0 rfl) rfl ?_
    refine s_loadS hC 0 (u0_0) rfl sc22 rfl rfl ?_
    refine s_mv (v := .int .i64 s56.2) (sx hS_ 4 rfl) ?_
    obtain ⟨⟨h0_65, h1_66⟩, h⟩ := h
    obtain ⟨Ad67, c68, hv69⟩ := sl_form (hC.getP 1 rfl) s56.2.toNat (show s56.2.toNat < a0.degrees.length by omega)
    refine s_iaddrS (len := a0.degrees.length) Try.underlying22 sc2.size (tr rfl hv69) rfl h0_65 h1_66 ?_
    refine s_loadCS (.int .i64 (a0.degrees.getD s56.2.toNat default)) (sl_cellsE (hC.getP 1 rfl) hv69 s56.2.toNat (show s56.2.toNat < a0.degrees.length by omega)) sc2 rfl ?_
    refine s_rem rfl rfl (by decide) ?_
    refine s_neq rfl rfl ?_
    refine dn ?_
    refine cw_cond rfl (fun hb70 => ?_) (fun hb70 => ?_)
    ·replace h := ift h (ct hb70)
     refine cw_region ?_
     refine s_mv (v := .int .i64 s56.1) (sx hS_ 3 rfl) ?_
     refine s_faddrB 0 Try.underlying31 rfl sc22.size (sx hS_ 0 rfl) rfl ?_
     refine s_loadS hC 0 (u0_0) rfl sc22 rfl rfl ?_
     refine s_mv (v := .int .i64 s56.2) (sx hS_ 4 rfl) ?_
     obtain ⟨⟨h0_71, h1_72⟩, h⟩ := h
     obtain ⟨Ad73, c74, hv75⟩ := sl_form (hC.getP 1 rfl) s56.2.toNat (show s56.2.toNat < a0.degrees.length by omega)
     refine s_iaddrS (len := a0.degrees.length) Try.underlying22 sc2.size (tr rfl hv75) rfl h0_71 h1_72 ?_
     refine s_loadCS (.int .i64 (a0.degrees.getD s56.2.toNat default)) (sl_cellsE (hC.getP 1 rfl) hv75 s56.2.toNat (show s56.2.toNat < a0.degrees.length by omega)) sc2 rfl ?_
     refine s_add rfl rfl ?_
     refine s_as (v := .int .i64 (IntKind.i64.wrap (s56.1 + (a0.degrees.getD s56.2.toNat default)))) rfl ?_
     refine done ?_
     refine blk_norm ?_
     refine then_norm ?_
     refine cw_region ?_
     refine s_mv (v := .int .i64 s56.2) (sx hS_ 4 rfl) ?_
     refine s_add rfl rfl ?_
     refine s_as (v := .int .i64 (IntKind.i64.wrap (s56.2 + 1))) rfl ?_
     refine done ?_
     exact hK59 (IntKind.i64.wrap (s56.1 + (a0.degrees.getD s56.2.toNat default)), IntKind.i64.wrap (s56.2 + 1)) _ _ ⟨(sk (sx hS_ 0 rfl) (sk (sx hS_ 1 rfl) (sk (sx hS_ 2 rfl) (sk rfl (sk rfl sn))))), hC⟩ h
    ·replace h := iff_ h (cf hb70)
     refine cw_region ?_
     refine s_mv (v := .int .i64 s56.1) (sx hS_ 3 rfl) ?_
     refine s_faddrB 0 Try.underlying31 rfl sc22.size (sx hS_ 0 rfl) rfl ?_
     refine s_loadS hC 0 (u0_0) rfl sc22 rfl rfl ?_
     refine s_mv (v := .int .i64 s56.2) (sx hS_ 4 rfl) ?_
     obtain ⟨⟨h0_76, h1_77⟩, h⟩ := h
     obtain ⟨Ad78, c79, hv80⟩ := sl_form (hC.getP 1 rfl) s56.2.toNat (show s56.2.toNat < a0.degrees.length by omega)
     refine s_iaddrS (len := a0.degrees.length) Try.underlying22 sc2.size (tr rfl hv80) rfl h0_76 h1_77 ?_
     refine s_loadCS (.int .i64 (a0.degrees.getD s56.2.toNat default)) (sl_cellsE (hC.getP 1 rfl) hv80 s56.2.toNat (show s56.2.toNat < a0.degrees.length by omega)) sc2 rfl ?_
     refine s_sub rfl rfl ?_
     refine s_sub rfl rfl ?_
     refine s_as (v := .int .i64 (IntKind.i64.wrap (s56.1 - (IntKind.i64.wrap ((a0.degrees.getD s56.2.toNat default) - 1))))) rfl ?_
     refine done ?_
     refine blk_norm ?_
     refine then_norm ?_
     refine cw_region ?_
     refine s_mv (v := .int .i64 s56.2) (sx hS_ 4 rfl) ?_
     refine s_add rfl rfl ?_
     refine s_as (v := .int .i64 (IntKind.i64.wrap (s56.2 + 1))) rfl ?_
     refine done ?_
     exact hK59 (IntKind.i64.wrap (s56.1 - (IntKind.i64.wrap ((a0.degrees.getD s56.2.toNat default) - 1))), IntKind.i64.wrap (s56.2 + 1)) _ _ ⟨(sk (sx hS_ 0 rfl) (sk (sx hS_ 1 rfl) (sk (sx hS_ 2 rfl) (sk rfl (sk rfl sn))))), hC⟩ h
   ·replace h := iff_ h (cf hb64)
    refine wp_exit (then_exit (then_exit (exit_in ?_)))
    refine then_norm ?_
    refine sr ?_
    refine s_mv (v := .int .i64 s56.1) (sx hS_ 3 rfl) ?_
    refine s_as (v := .int .i64 s56.1) rfl ?_
    refine s_as (v := .int .i64 0) rfl ?_
    refine dn ?_
    refine wp_ret ?_
    refine ret2 (fn := Try.f16) rfl ?_ ?_ ⟨s56.1, 0, rfl, h, hC.below⟩ (.inl rfl)
    ·exact res_tmp rfl
    ·exact res_tmp rfl
  ·skip
   exact ⟨(sk rfl (sk rfl (sk rfl (sk rfl (sk rfl sn))))), hC⟩
def f_impl_FormalDimension (a0 : Alg) (K : Int → Int → Prop) : Prop :=
 f_impl_algebraCode a0 [] (fun r11 => (if r11 ≠ 0 then K 0 r11 else forN (fun i31 (s32 : Int) next34 => (if Int.tmod (a0.degrees.getD i31 default) 2 = 1 then next34 (IntKind.i64.wrap (s32 + (a0.degrees.getD i31 default))) else next34 (IntKind.i64.wrap (s32 - (IntKind.i64.wrap ((a0.degrees.getD i31 default) - 1)))))) (fun (s32 : Int) => K s32 0) a0.degrees.length 0 0))
theorem c_impl_FormalDimension (a0 : Alg) {u0_0 : Value} {u0_1 : Value} {fp0 : List Nat} {K : Int → Int → Prop} (h : f_impl_FormalDimension a0 K) (w0 : World) (q0 : TAlg.rep a0 [u0_0, u0_1] fp0 w0) :
  Calls Try.prog 17 #[.agg #[u0_0, u0_1]] w0 fun e w' => ∃ (r0 : Int) (r1 : Int), 
   e = .returned (.tuple #[.int .i64 r0, .int .i64 r1]) ∧ K r0 r1 ∧ Bel w0 w' := by
 unfold f_impl_FormalDimension at h
 refine calls_of (args := [.agg #[u0_0, u0_1]]) Try.func17 rfl 31 Try.ntmps17 (Nat.le_of_ble_eq_true rfl) ?_
 have hC := Ctx.start (X := Nox) w0 [Ty.item TAlg a0 [u0_0, u0_1] fp0] (by simp only [List.mem_cons, List.not_mem_nil, or_false, forall_eq_or_imp, forall_eq]; exact q0)
 have hp2 := (hC.getP 0 rfl)
 replace hC := hC.derive 0 rfl (Ty.item ((EI .i64).ty.sl) a0.degrees [u0_0] fp0) (fun _ => (alg_parts hp2).1) (fun _ hb_ => hb_)
 replace hC := hC.derive 1 rfl (Ty.item TForm.sl a0.images [u0_1] fp0) (fun _ => (alg_parts hp2).2) (fun _ hb_ => hb_)
 refine sr ?_
 refine s_box (v := .agg #[u0_0, u0_1]) hC [u0_0, u0_1] rfl rfl fun b5 w7 hB_ hC => ?_
 refine s_as (v := .int .i64 0) rfl ?_
 refine s_as (v := .int .i64 0) rfl ?_
 refine dn ?_
 refine wp_seq ?_
 refine sr ?_
 refine s_call [.pointer (some ⟨b5, 0, none⟩), .slice none 0 0] _ Try.func50 rfl rfl rfl (c_impl_algebraCode a0 [] h _ (alg_mk (hC.getP 1 rfl) (hC.getP 0 rfl)) (hC.getM 0 rfl) (rep_nil _ _)) (fun ret8 w10 hR9 => ?_)
 obtain ⟨r11, rfl, h, hB12⟩ := hR9
 refine ⟨_, rfl, ?_⟩
 replace hC := hC.grow hB12
 refine s_as (v := .int .i64 r11) rfl ?_
 refine dn ?_
 refine sr ?_
 refine s_mv (v := .int .i64 r11) rfl ?_
 refine s_neq rfl rfl ?_
 refine dn ?_
 refine cw_cond rfl (fun hb13 => ?_) (fun hb13 => ?_)
 ·replace h := ift h (ct hb13)
  refine sr ?_
  refine s_mv (v := .int .i64 r11) rfl ?_
  refine s_as (v := .int .i64 0) rfl ?_
  refine s_as (v := .int .i64 r11) rfl ?_
  refine dn ?_
  refine wp_ret (then_ret ?_)
  refine ret2 (fn := Try.f17) rfl ?_ ?_ ⟨0, r11, rfl, h, hC.below⟩ (.inl rfl)
  ·exact res_tmp rfl
  ·exact res_tmp rfl
 ·replace h := iff_ h (cf hb13)
  refine wp_skip ?_
  refine then_norm ?_
  refine sr ?_
  refine s_as (v := .int .i64 0) rfl ?_
  refine dn ?_
  refine wp_seq ?_
  refine sr ?_
  refine s_faddrB 0 Try.underlying31 rfl sc22.size rfl rfl ?_
  refine s_loadS hC 0 (u0_0) rfl sc22 rfl rfl ?_
  obtain ⟨Ad14, c15, hv16⟩ := sl_len (hC.getP 1 rfl)
  refine s_len Try.underlying22 (tr rfl hv16) ?_
  refine s_mv (v := .int .i64 0) rfl ?_
  refine dn ?_
  refine wp_block ?_
  have hN33 : a0.degrees.length ≤ 9223372036854775807 := sl_max (hC.getP 1 rfl)
  refine loopN (S := Int) _ _ (fun i31 s32 e_ w_ => Slots e_ [(2, .int .i64 0), (3, .int .i64 0), (5, .int .i64 s32), (13, u0_0), (14, .int .i64 (a0.degrees.length : Int)), (15, .int .i64 (i31 : Int))] ∧ Ctx Nox w0 w_ [] [Ty.item TForm.sl a0.images [u0_1] fp0, Ty.item ((EI .i64).ty.sl) a0.degrees [u0_0] fp0, Ty.item TAlg a0 [u0_0, u0_1] fp0]) a0.degrees.length ?_ ?_ (s0 := 0) ?_ h
  ·clear hC h
   rintro i31 s32 e_ w38 next34 K35 hi37 ⟨hS_, hC⟩ h hK36
   refine sr ?_
   refine s_lss (sx hS_ 5 rfl) (sx hS_ 4 rfl) ?_
   refine dn ?_
   refine wp_seq ?_
   refine cw_true rfl (decide_eq_true (by omega)) ?_
   refine wp_skip ?_
   refine then_norm ?_
   refine wp_seq ?_
   refine wp_block ?_
   refine sr ?_
   obtain ⟨Ad39, c40, hv41⟩ := sl_form (hC.getP 1 rfl) i31 hi37
   refine s_iaddrS (len := a0.degrees.length) Try.underlying22 sc2.size (tr (sx hS_ 3 rfl) hv41) (sx hS_ 5 rfl) (Int.natCast_nonneg _) (Int.ofNat_lt.2 hi37) ?_
   refine s_loadCS (.int .i64 (a0.degrees.getD i31 default)) (sl_cellsE (hC.getP 1 rfl) hv41 i31 hi37) sc2 rfl ?_
   refine s_as (v := .int .i64 (a0.degrees.getD i31 default)) rfl ?_
   refine dn ?_
   refine sr ?_
   refine s_mv (v := .int .i64 (a0.degrees.getD i31 default)) rfl ?_
   refine s_rem rfl rfl (by decide) ?_
   refine s_eql rfl rfl ?_
   refine dn ?_
   refine cw_cond rfl (fun hb42 => ?_) (fun hb42 => ?_)
   ·replace h := ift h (ct hb42)
    refine cw_region ?_
    refine s_mv (v := .int .i64 s32) (sx hS_ 2 rfl) ?_
    refine s_mv (v := .int .i64 (a0.degrees.getD i31 default)) rfl ?_
    refine s_add rfl rfl ?_
    refine s_as (v := .int .i64 (IntKind.i64.wrap (s32 + (a0.degrees.getD i31 default)))) rfl ?_
    refine done ?_
    refine blk_norm ?_
    refine then_norm ?_
    refine cw_region ?_
    refine s_add (sx hS_ 5 rfl) rfl ?_
    refine s_mv (v := .int .i64 (IntKind.i64.wrap ((i31 : Int) + 1))) rfl ?_
    refine done ?_
    exact hK36 (IntKind.i64.wrap (s32 + (a0.degrees.getD i31 default))) _ _ ⟨(sk (sx hS_ 0 rfl) (sk (sx hS_ 1 rfl) (sk rfl (sk (sx hS_ 3 rfl) (sk (sx hS_ 4 rfl) (sk (tr rfl (congrArg _ (wrap64_nat hi37 hN33))) sn)))))), hC⟩ h
   ·replace h := iff_ h (cf hb42)
    refine cw_region ?_
    refine s_mv (v := .int .i64 s32) (sx hS_ 2 rfl) ?_
    refine s_mv (v := .int .i64 (a0.degrees.getD i31 default)) rfl ?_
    refine s_sub rfl rfl ?_
    refine s_sub rfl rfl ?_
    refine s_as (v := .int .i64 (IntKind.i64.wrap (s32 - (IntKind.i64.wrap ((a0.degrees.getD i31 default) - 1))))) rfl ?_
    refine done ?_
    refine blk_norm ?_
    refine then_norm ?_
    refine cw_region ?_
    refine s_add (sx hS_ 5 rfl) rfl ?_
    refine s_mv (v := .int .i64 (IntKind.i64.wrap ((i31 : Int) + 1))) rfl ?_
    refine done ?_
    exact hK36 (IntKind.i64.wrap (s32 - (IntKind.i64.wrap ((a0.degrees.getD i31 default) - 1)))) _ _ ⟨(sk (sx hS_ 0 rfl) (sk (sx hS_ 1 rfl) (sk rfl (sk (sx hS_ 3 rfl) (sk (sx hS_ 4 rfl) (sk (tr rfl (congrArg _ (wrap64_nat hi37 hN33))) sn)))))), hC⟩ h
  ·clear hC h
   rintro s32 e_ w43 K35 ⟨hS_, hC⟩ h
   refine sr ?_
   refine s_lss (sx hS_ 5 rfl) (sx hS_ 4 rfl) ?_
   refine dn ?_
   refine wp_seq ?_
   refine cw_false rfl (decide_eq_false (by omega)) ?_
   refine wp_exit (then_exit (then_exit (exit_in ?_)))
   refine then_norm ?_
   refine sr ?_
   refine s_mv (v := .int .i64 s32) (sx hS_ 2 rfl) ?_
   refine s_as (v := .int .i64 s32) rfl ?_
   refine s_as (v := .int .i64 0) rfl ?_
   refine dn ?_
   refine wp_ret ?_
   refine ret2 (fn := Try.f17) rfl ?_ ?_ ⟨s32, 0, rfl, h, hC.below⟩ (.inl rfl)
   ·exact res_tmp rfl
   ·exact res_tmp rfl
  ·skip
   replace hC := hC.sel [] [0, 1, 2] (M' := []) (Ps' := [Ty.item TForm.sl a0.images [u0_1] fp0, Ty.item ((EI .i64).ty.sl) a0.degrees [u0_0] fp0, Ty.item TAlg a0 [u0_0, u0_1] fp0]) (by decide) rfl rfl
   exact ⟨(sk rfl (sk rfl (sk rfl (sk rfl (sk rfl (sk rfl sn)))))), hC⟩
def f_spec_l06Has (a0 : Vc.Form) (a1 : Int) (K : Bool → Prop) : Prop :=
 whileP (fun (s33 : Int) next34 => (if s33 < (a0.terms.length : Int) then ((0 ≤ s33 ∧ s33 < (a0.terms.length : Int)) ∧ ((0 ≤ a1 ∧ a1 < 8) ∧ (if ((a0.terms.getD s33.toNat default).mono).get a1.toNat > 0 then K true else next34 (IntKind.i64.wrap (s33 + 1))))) else K false)) 0
theorem c_spec_l06Has (a0 : Vc.Form) (a1 : Int) {u0_0 : Value} {fp0 : List Nat} {K : Bool → Prop} (h : f_spec_l06Has a0 a1 K) (w0 : World) (q0 : TForm.rep a0 [u0_0] fp0 w0) :
  Calls Try.prog 53 #[.agg #[u0_0], .int .i64 a1] w0 fun e w' => ∃ (r0 : Bool), 
   e = .returned (.bool r0) ∧ K r0 ∧ Bel w0 w' := by
 unfold f_spec_l06Has at h
 refine calls_of (args := [.agg #[u0_0], .int .i64 a1]) Try.func53 rfl 22 Try.ntmps53 (Nat.le_of_ble_eq_true rfl) ?_
 have hC := Ctx.start (X := Nox) w0 [Ty.item TForm a0 [u0_0] fp0] (by simp only [List.mem_cons, List.not_mem_nil, or_false, forall_eq_or_imp, forall_eq]; exact q0)
 have hp2 := (hC.getP 0 rfl)
 replace hC := hC.derive 0 rfl (Ty.item ETerm.ty.sl a0.terms [u0_0] fp0) (fun _ => (form_parts hp2)) (fun _ hb_ => hb_)
 refine sr ?_
 refine s_box (v := .agg #[u0_0]) hC [u0_0] rfl rfl fun b4 w6 hB_ hC => ?_
 refine s_as (v := .bool false) rfl ?_
 refine dn ?_
 refine wp_seq ?_
 refine sr ?_
 refine s_as (v := .int .i64 0) rfl ?_
 refine dn ?_
 refine wp_block ?_
 refine loopW (S := Int) _ (fun s33 e_ w_ => Slots e_ [(1, .int .i64 a1), (2, .pointer (some ⟨b4, 0, none⟩)), (4, .bool false), (5, .int .i64 s33)] ∧ Ctx Nox w0 w_ [blk b4 46 [u0_0]] [Ty.item ETerm.ty.sl a0.terms [u0_0] fp0, Ty.item TForm a0 [u0_0] fp0]) ?_ (s0 := 0) ?_ h
 ·clear hC h
  rintro s33 e_ w37 next34 K35 ⟨hS_, hC⟩ h hK36
  refine wp_seq ?_
  refine sr ?_
  refine s_mv (v := .int .i64 s33) (sx hS_ 3 rfl) ?_
  refine s_faddrB 0 Try.underlying46 rfl sc44.size (sx hS_ 1 rfl) rfl ?_
  refine s_loadS hC 0 (u0_0) rfl sc44 rfl rfl ?_
  obtain ⟨Ad38, c39, hv40⟩ := sl_len (hC.getP 0 rfl)
  refine s_len Try.underlying44 (tr rfl hv40) ?_
  refine s_lss rfl rfl ?_
  refine dn ?_
  refine cw_cond rfl (fun hb41 => ?_) (fun hb41 => ?_)
  ·replace h := ift h (ct hb41)
   refine wp_skip ?_
   refine then_norm ?_
   refine wp_seq ?_
   refine wp_block ?_
   refine sr ?_
   refine s_faddrB 0 Try.underlying46 rfl sc44.size (sx hS_ 1 rfl) rfl ?_
   refine s_loadS hC 0 (u0_0) rfl sc44 rfl rfl ?_
   refine s_mv (v := .int .i64 s33) (sx hS_ 3 rfl) ?_
   refine s_mv (v := .int .i64 a1) (sx hS_ 0 rfl) ?_
   obtain ⟨⟨h0_42, h1_43⟩, h⟩ := h
   obtain ⟨Ad44, c45, hv46⟩ := sl_form (hC.getP 0 rfl) s33.toNat (show s33.toNat < a0.terms.length by omega)
   refine s_iaddrS (len := a0.terms.length) Try.underlying44 ag86.size (tr rfl hv46) rfl h0_42 h1_43 ?_
   refine s_faddrS (s33.toNat * 9 + 0) Try.underlying86 rfl ag84.size rfl rfl ?_
   obtain ⟨⟨h0_47, h1_48⟩, h⟩ := h
   refine s_iaddrSa (s33.toNat * 9 + 0 + a1.toNat) Try.underlying84 sc5.size rfl rfl h0_47 h1_48 (by omega) ?_
   refine s_loadCS (.int .u8 (((a0.terms.getD s33.toNat default).mono).get a1.toNat)) (cells_subS (o := a1.toNat) (k := 1) (sl_cellsE (hC.getP 0 rfl) hv46 s33.toNat (show s33.toNat < a0.terms.length by omega)) (arr_at (r := _) (show a1.toNat < 8 by omega))) sc5 rfl ?_
   refine s_gtr rfl rfl ?_
   refine dn ?_
   refine cw_cond rfl (fun hb49 => ?_) (fun hb49 => ?_)
   ·replace h := ift h (ct hb49)
    refine sr ?_
    refine s_as (v := .bool true) rfl ?_
    refine dn ?_
    refine wp_ret (blk_ret (then_ret (then_ret (blk_ret (then_ret ?_)))))
    refine ret1 (fn := Try.f53) rfl ?_ ⟨true, rfl, h, hC.below⟩ (.inl rfl)
    exact res_tmp rfl
   ·replace h := iff_ h (cf hb49)
    refine wp_skip ?_
    refine blk_norm ?_
    refine then_norm ?_
    refine cw_region ?_
    refine s_mv (v := .int .i64 s33) (sx hS_ 3 rfl) ?_
    refine s_add rfl rfl ?_
    refine s_as (v := .int .i64 (IntKind.i64.wrap (s33 + 1))) rfl ?_
    refine done ?_
    exact hK36 (IntKind.i64.wrap (s33 + 1)) _ _ ⟨(sk (sx hS_ 0 rfl) (sk (sx hS_ 1 rfl) (sk (sx hS_ 2 rfl) (sk rfl sn)))), hC⟩ h
  ·replace h := iff_ h (cf hb41)
   refine wp_exit (then_exit (then_exit (exit_in ?_)))
   refine then_norm ?_
   refine sr ?_
   refine s_as (v := .bool false) rfl ?_
   refine dn ?_
   refine wp_ret ?_
   refine ret1 (fn := Try.f53) rfl ?_ ⟨false, rfl, h, hC.below⟩ (.inl rfl)
   exact res_tmp rfl
 ·skip
  exact ⟨(sk rfl (sk rfl (sk rfl (sk rfl sn)))), hC⟩
def f_spec_IsPure (a0 : Alg) (K : Bool → Int → Prop) : Prop :=
 f_spec_l02Is a0 (fun r11 => (if ¬ (r11 = true) then K false 1 else whileP (fun (s416 : Int) next417 => (if s416 < (a0.degrees.length : Int) then ((0 ≤ s416 ∧ s416 < (a0.degrees.length : Int)) ∧ (if Int.tmod (a0.degrees.getD s416.toNat default) 2 = 0 then ((0 ≤ s416 ∧ s416 < (a0.images.length : Int)) ∧ (if (((a0.images.getD s416.toNat default).terms).length : Int) > 0 then K false 0 else whileP (fun (s502 : Int) next503 => (if s502 < (a0.degrees.length : Int) then ((0 ≤ s502 ∧ s502 < (a0.degrees.length : Int)) ∧ (if Int.tmod (a0.degrees.getD s502.toNat default) 2 ≠ 0 then ((0 ≤ s416 ∧ s416 < (a0.images.length : Int)) ∧ f_spec_l06Has (a0.images.getD s416.toNat default) s502 (fun r531 => (if r531 = true then K false 0 else next503 (IntKind.i64.wrap (s502 + 1))))) else next503 (IntKind.i64.wrap (s502 + 1)))) else next417 (IntKind.i64.wrap (s416 + 1)))) 0)) else whileP (fun (s590 : Int) next591 => (if s590 < (a0.degrees.length : Int) then ((0 ≤ s590 ∧ s590 < (a0.degrees.length : Int)) ∧ (if Int.tmod (a0.degrees.getD s590.toNat default) 2 ≠ 0 then ((0 ≤ s416 ∧ s416 < (a0.images.length : Int)) ∧ f_spec_l06Has (a0.images.getD s416.toNat default) s590 (fun r619 => (if r619 = true then K false 0 else next591 (IntKind.i64.wrap (s590 + 1))))) else next591 (IntKind.i64.wrap (s590 + 1)))) else next417 (IntKind.i64.wrap (s416 + 1)))) 0)) else K true 0)) 0))
theorem c_spec_IsPure (a0 : Alg) {u0_0 : Value} {u0_1 : Value} {fp0 : List Nat} {K : Bool → Int → Prop} (h : f_spec_IsPure a0 K) (w0 : World) (q0 : TAlg.rep a0 [u0_0, u0_1] fp0 w0) :
  Calls Try.prog 18 #[.agg #[u0_0, u0_1]] w0 fun e w' => ∃ (r0 : Bool) (r1 : Int), 
   e = .returned (.tuple #[.bool r0, .int .i64 r1]) ∧ K r0 r1 ∧ Bel w0 w' := by
 unfold f_spec_IsPure at h
 refine calls_of (args := [.agg #[u0_0, u0_1]]) Try.func18 rfl 56 Try.ntmps18 (Nat.le_of_ble_eq_true rfl) ?_
 have hC := Ctx.start (X := Nox) w0 [Ty.item TAlg a0 [u0_0, u0_1] fp0] (by simp only [List.mem_cons, List.not_mem_nil, or_false, forall_eq_or_imp, forall_eq]; exact q0)
 have hp2 := (hC.getP 0 rfl)
 replace hC := hC.derive 0 rfl (Ty.item ((EI .i64).ty.sl) a0.degrees [u0_0] fp0) (fun _ => (alg_parts hp2).1) (fun _ hb_ => hb_)
 replace hC := hC.derive 1 rfl (Ty.item TForm.sl a0.images [u0_1] fp0) (fun _ => (alg_parts hp2).2) (fun _ hb_ => hb_)
 refine sr ?_
 refine s_box (v := .agg #[u0_0, u0_1]) hC [u0_0, u0_1] rfl rfl fun b5 w7 hB_ hC => ?_
 refine s_as (v := .bool false) rfl ?_
 refine s_as (v := .int .i64 0) rfl ?_
 refine dn ?_
 refine wp_seq ?_
 refine sr ?_
 refine s_loadA hC 0 [u0_0, u0_1] rfl ag31 rfl rfl rfl ?_
 refine s_call [.agg #[u0_0, u0_1]] _ Try.func47 rfl rfl rfl (c_spec_l02Is a0 h _ (alg_mk (hC.getP 1 rfl) (hC.getP 0 rfl))) (fun ret8 w10 hR9 => ?_)
 obtain ⟨r11, rfl, h, hB12⟩ := hR9
 refine ⟨_, rfl, ?_⟩
 replace hC := hC.grow hB12
 refine s_not rfl ?_
 refine dn ?_
 refine cw_cond rfl (fun hb13 => ?_) (fun hb13 => ?_)
 ·replace h := ift h (ne_t (not_t hb13))
  refine sr ?_
  refine s_as (v := .bool false) rfl ?_
  refine s_as (v := .int .i64 1) rfl ?_
  refine dn ?_
  refine wp_ret (then_ret ?_)
  refine ret2 (fn := Try.f18) rfl ?_ ?_ ⟨false, 1, rfl, h, hC.below⟩ (.inl rfl)
  ·exact res_tmp rfl
  ·exact res_tmp rfl
 ·replace h := iff_ h (not_not_intro ((not_f hb13)))
  refine wp_skip ?_
  refine then_norm ?_
  refine wp_seq ?_
  refine sr ?_
  refine s_as (v := .int .i64 0) rfl ?_
  refine dn ?_
  refine wp_block ?_
  refine loopW (S := Int) _ (fun s416 e_ w_ => Slots e_ [(1, .pointer (some ⟨b5, 0, none⟩)), (2, .bool false), (3, .int .i64 0), (4, .int .i64 s416)] ∧ Ctx Nox w0 w_ [blk b5 31 [u0_0, u0_1]] [Ty.item TForm.sl a0.images [u0_1] fp0, Ty.item ((EI .i64).ty.sl) a0.degrees [u0_0] fp0, Ty.item TAlg a0 [u0_0, u0_1] fp0]) ?_ (s0 := 0) ?_ h
  ·clear hC h
   rintro s416 e_ w420 next417 K418 ⟨hS_, hC⟩ h hK419
   refine wp_seq ?_
   refine sr ?_
   refine s_mv (v := .int .i64 s416) (sx hS_ 3 rfl) ?_
   refine s_faddrB 0 Try.underlying31 rfl sc22.size (sx hS_ 0 rfl) rfl ?_
   refine s_loadS hC 0 (u0_0) rfl sc22 rfl rfl ?_
   obtain ⟨Ad421, c422, hv423⟩ := sl_len (hC.getP 1 rfl)
   refine s_len Try.underlying22 (tr rfl hv423) ?_
   refine s_lss rfl rfl ?_
   refine dn ?_
   refine cw_cond rfl (fun hb424 => ?_) (fun hb424 => ?_)
   ·replace h := ift h (ct hb424)
    refine wp_skip ?_
    refine then_norm ?_
    refine wp_seq ?_
    refine wp_block ?_
    refine wp_seq ?_
    refine sr ?_
    refine s_faddrB 0 Try.underlying31 rfl sc22.size (sx hS_ 0 rfl) rfl ?_
    refine s_loadS hC 0 (u0_0) rfl sc22 rfl rfl ?_
    refine s_mv (v := .int .i64 s416) (sx hS_ 3 rfl) ?_
    obtain ⟨⟨h0_425, h1_426⟩, h⟩ := h
    obtain ⟨Ad427, c428, hv429⟩ := sl_form (hC.getP 1 rfl) s416.toNat (show s416.toNat < a0.degrees.length by omega)
    refine s_iaddrS (len := a0.degrees.length) Try.underlying22 sc2.size (tr rfl hv429) rfl h0_425 h1_426 ?_
    refine s_loadCS (.int .i64 (a0.degrees.getD s416.toNat default)) (sl_cellsE (hC.getP 1 rfl) hv429 s416.toNat (show s416.toNat < a0.degrees.length by omega)) sc2 rfl ?_
    refine s_rem rfl rfl (by decide) ?_
    refine s_eql rfl rfl ?_
    refine s_mv (v := .bool (decide (Int.tmod (a0.degrees.getD s416.toNat default) 2 = 0))) rfl ?_
    refine bsplit (decide (Int.tmod (a0.degrees.getD s416.toNat default) 2 = 0)) (fun hb430 => ?_) (fun hb430 => ?_)
    ·replace h := ift h (ct hb430)
     refine guardOn 7 23 rfl rfl hb430 ?_
     refine s_faddrB 1 Try.underlying31 rfl sc29.size (sx hS_ 0 rfl) rfl ?_
     refine guardOn 7 23 rfl rfl hb430 ?_
     refine s_loadS hC 0 (u0_1) rfl sc29 rfl rfl ?_
     refine guardOn 7 23 rfl rfl hb430 ?_
     refine s_mv (v := .int .i64 s416) (sx hS_ 3 rfl) ?_
     refine guardOn 7 23 rfl rfl hb430 ?_
     obtain ⟨⟨h0_431, h1_432⟩, h⟩ := h
     obtain ⟨Ad433, c434, hv435⟩ := sl_form (hC.getP 0 rfl) s416.toNat (show s416.toNat < a0.images.length by omega)
     refine s_iaddrS (len := a0.images.length) Try.underlying29 ag46.size (tr rfl hv435) rfl h0_431 h1_432 ?_
     refine guardOn 7 23 rfl rfl hb430 ?_
     refine s_faddrS (s416.toNat * 1 + 0) Try.underlying46 rfl sc44.size rfl rfl ?_
     refine guardOn 7 23 rfl rfl hb430 ?_
     obtain ⟨cs_, hl437, hc438, hr439⟩ := sl_cells (hC.getP 0 rfl) hv435 s416.toNat (show s416.toNat < a0.images.length by omega)
     obtain ⟨u436, rfl⟩ := List.length_eq_one_iff.1 hl437
     clear hl437
     rw [getD_eq _ _ (show s416.toNat < a0.images.length by omega)] at hr439
     have hp440 := hr439
     replace hC := hC.derive 0 rfl (Ty.item ETerm.ty.sl ((a0.images.getD s416.toNat default).terms) [u436] fp0) (fun _ => (form_parts hp440)) (fun _ hb_ => hb_)
     refine s_loadCS (u436) (cells_subS (o := 0) (k := 1) hc438 rfl) sc44 rfl ?_
     refine guardOn 7 23 rfl rfl hb430 ?_
     obtain ⟨Ad442, c443, hv444⟩ := sl_len (hC.getP 0 rfl)
     refine s_len Try.underlying44 (tr rfl hv444) ?_
     refine guardOn 7 23 rfl rfl hb430 ?_
     refine s_gtr rfl rfl ?_
     refine s_pick (v := .bool (decide ((((a0.images.getD s416.toNat default).terms).length : Int) > 0))) (b := true) (tr rfl (congrArg _ hb430)) rfl ?_
     refine dn ?_
     refine cw_cond rfl (fun hb445 => ?_) (fun hb445 => ?_)
     ·replace h := ift h (ct hb445)
      refine sr ?_
      refine s_as (v := .bool false) rfl ?_
      refine s_as (v := .int .i64 0) rfl ?_
      refine dn ?_
      refine wp_ret (then_ret (blk_ret (then_ret (then_ret (blk_ret (then_ret ?_))))))
      refine ret2 (fn := Try.f18) rfl ?_ ?_ ⟨false, 0, rfl, h, hC.below⟩ (.inl rfl)
      ·exact res_tmp rfl
      ·exact res_tmp rfl
     ·replace h := iff_ h (cf hb445)
      refine wp_skip ?_
      refine then_norm ?_
      refine sr ?_
      refine s_as (v := .int .i64 0) rfl ?_
      refine dn ?_
      refine wp_block ?_
      refine loopW (S := Int) _ (fun s502 e_ w_ => Slots e_ [(1, .pointer (some ⟨b5, 0, none⟩)), (2, .bool false), (3, .int .i64 0), (4, .int .i64 s416), (5, .int .i64 s502), (9, .int .i64 s416), (10, .pointer (some ⟨b5, 0, none⟩)), (11, u0_0), (12, .int .i64 (a0.degrees.length : Int)), (13, .bool (decide (s416 < (a0.degrees.length : Int)))), (16, .pointer (some ⟨b5, 0, none⟩)), (17, u0_0), (18, .int .i64 s416), (19, .pointer (some (Ad427.add (s416.toNat * 1)))), (20, .int .i64 (a0.degrees.getD s416.toNat default)), (21, .int .i64 (Int.tmod (a0.degrees.getD s416.toNat default) 2)), (22, .bool (decide (Int.tmod (a0.degrees.getD s416.toNat default) 2 = 0))), (23, .bool (decide (Int.tmod (a0.degrees.getD s416.toNat default) 2 = 0))), (24, .pointer (some ⟨b5, 1, none⟩)), (25, u0_1), (26, .int .i64 s416), (27, .pointer (some (Ad433.add (s416.toNat * 1)))), (28, .pointer (some (Ad433.add (s416.toNat * 1 + 0)))), (29, u436), (30, .int .i64 (((a0.images.getD s416.toNat default).terms).length : Int)), (31, .bool (decide ((((a0.images.getD s416.toNat default).terms).length : Int) > 0))), (32, .bool (decide ((((a0.images.getD s416.toNat default).terms).length : Int) > 0)))] ∧ Ctx Nox w0 w_ [blk b5 31 [u0_0, u0_1]] [Ty.item ETerm.ty.sl ((a0.images.getD s416.toNat default).terms) [u436] fp0, Ty.item TForm.sl a0.images [u0_1] fp0, Ty.item ((EI .i64).ty.sl) a0.degrees [u0_0] fp0, Ty.item TAlg a0 [u0_0, u0_1] fp0]) ?_ (s0 := 0) ?_ h
      ·clear hC h
       rintro s502 e_ w506 next503 K504 ⟨hS_, hC⟩ h hK505
       refine wp_seq ?_
       refine sr ?_
       refine s_mv (v := .int .i64 s502) (sx hS_ 4 rfl) ?_
       refine s_faddrB 0 Try.underlying31 rfl sc22.size (sx hS_ 0 rfl) rfl ?_
       refine s_loadS hC 0 (u0_0) rfl sc22 rfl rfl ?_
       obtain ⟨Ad507, c508, hv509⟩ := sl_len (hC.getP 2 rfl)
       refine s_len Try.underlying22 (tr rfl hv509) ?_
       refine s_lss rfl rfl ?_
       refine dn ?_
       refine cw_cond rfl (fun hb510 => ?_) (fun hb510 => ?_)
       ·replace h := ift h (ct hb510)
        refine wp_skip ?_
        refine then_norm ?_
        refine wp_seq ?_
        refine wp_block ?_
        refine sr ?_
        refine s_faddrB 0 Try.underlying31 rfl sc22.size (sx hS_ 0 rfl) rfl ?_
        refine s_loadS hC 0 (u0_0) rfl sc22 rfl rfl ?_
        refine s_mv (v := .int .i64 s502) (sx hS_ 4 rfl) ?_
        obtain ⟨⟨h0_511, h1_512⟩, h⟩ := h
        obtain ⟨Ad513, c514, hv515⟩ := sl_form (hC.getP 2 rfl) s502.toNat (show s502.toNat < a0.degrees.length by omega)
        refine s_iaddrS (len := a0.degrees.length) Try.underlying22 sc2.size (tr rfl hv515) rfl h0_511 h1_512 ?_
        refine s_loadCS (.int .i64 (a0.degrees.getD s502.toNat default)) (sl_cellsE (hC.getP 2 rfl) hv515 s502.toNat (show s502.toNat < a0.degrees.length by omega)) sc2 rfl ?_
        refine s_rem rfl rfl (by decide) ?_
        refine s_neq rfl rfl ?_
        refine s_mv (v := .bool (decide (Int.tmod (a0.degrees.getD s502.toNat default) 2 ≠ 0))) rfl ?_
        refine bsplit (decide (Int.tmod (a0.degrees.getD s502.toNat default) 2 ≠ 0)) (fun hb516 => ?_) (fun hb516 => ?_)
        ·replace h := ift h (ct hb516)
         refine guardOn 7 47 rfl rfl hb516 ?_
         refine s_faddrB 1 Try.underlying31 rfl sc29.size (sx hS_ 0 rfl) rfl ?_
         refine guardOn 7 47 rfl rfl hb516 ?_
         refine s_loadS hC 0 (u0_1) rfl sc29 rfl rfl ?_
         refine guardOn 7 47 rfl rfl hb516 ?_
         refine s_mv (v := .int .i64 s416) (sx hS_ 3 rfl) ?_
         refine guardOn 7 47 rfl rfl hb516 ?_
         obtain ⟨⟨h0_517, h1_518⟩, h⟩ := h
         obtain ⟨Ad519, c520, hv521⟩ := sl_form (hC.getP 1 rfl) s416.toNat (show s416.toNat < a0.images.length by omega)
         refine s_iaddrS (len := a0.images.length) Try.underlying29 ag46.size (tr rfl hv521) rfl h0_517 h1_518 ?_
         refine guardOn 7 47 rfl rfl hb516 ?_
         obtain ⟨cs_, hl523, hc524, hr525⟩ := sl_cells (hC.getP 1 rfl) hv521 s416.toNat (show s416.toNat < a0.images.length by omega)
         obtain ⟨u522, rfl⟩ := List.length_eq_one_iff.1 hl523
         clear hl523
         rw [getD_eq _ _ (show s416.toNat < a0.images.length by omega)] at hr525
         have hp526 := hr525
         replace hC := hC.derive 1 rfl (Ty.item ETerm.ty.sl ((a0.images.getD s416.toNat default).terms) [u522] fp0) (fun _ => (form_parts hp526)) (fun _ hb_ => hb_)
         refine s_loadCA [u522] hc524 ag46 rfl rfl ?_
         refine guardOn 7 47 rfl rfl hb516 ?_
         refine s_mv (v := .int .i64 s502) (sx hS_ 4 rfl) ?_
         refine guardOn 7 47 rfl rfl hb516 ?_
         refine s_call [.agg #[u522], .int .i64 s502] _ Try.func53 rfl rfl rfl (c_spec_l06Has (a0.images.getD s416.toNat default) s502 h _ (form_mk (hC.getP 0 rfl))) (fun ret528 w530 hR529 => ?_)
         obtain ⟨r531, rfl, h, hB532⟩ := hR529
         refine ⟨_, rfl, ?_⟩
         replace hC := hC.grow hB532
         refine s_pick (v := .bool r531) (b := true) (tr rfl (congrArg _ hb516)) rfl ?_
         refine dn ?_
         refine cw_cond rfl (fun hb533 => ?_) (fun hb533 => ?_)
         ·replace h := ift h (hb533)
          refine sr ?_
          refine s_as (v := .bool false) rfl ?_
          refine s_as (v := .int .i64 0) rfl ?_
          refine dn ?_
          refine wp_ret (blk_ret (then_ret (then_ret (blk_ret (blk_ret (then_ret (then_ret (blk_ret (then_ret ?_)))))))))
          refine ret2 (fn := Try.f18) rfl ?_ ?_ ⟨false, 0, rfl, h, hC.below⟩ (.inl rfl)
          ·exact res_tmp rfl
          ·exact res_tmp rfl
         ·replace h := iff_ h (ne_t hb533)
          refine wp_skip ?_
          refine blk_norm ?_
          refine then_norm ?_
          refine cw_region ?_
          refine s_mv (v := .int .i64 s502) (sx hS_ 4 rfl) ?_
          refine s_add rfl rfl ?_
          refine s_as (v := .int .i64 (IntKind.i64.wrap (s502 + 1))) rfl ?_
          refine done ?_
          replace hC := hC.sel [0] [1, 2, 3, 4] (M' := [blk b5 31 [u0_0, u0_1]]) (Ps' := [Ty.item ETerm.ty.sl ((a0.images.getD s416.toNat default).terms) [u436] fp0, Ty.item TForm.sl a0.images [u0_1] fp0, Ty.item ((EI .i64).ty.sl) a0.degrees [u0_0] fp0, Ty.item TAlg a0 [u0_0, u0_1] fp0]) (by decide) rfl rfl
          exact hK505 (IntKind.i64.wrap (s502 + 1)) _ _ ⟨(sk (sx hS_ 0 rfl) (sk (sx hS_ 1 rfl) (sk (sx hS_ 2 rfl) (sk (sx hS_ 3 rfl) (sk rfl (sk (sx hS_ 5 rfl) (sk (sx hS_ 6 rfl) (sk (sx hS_ 7 rfl) (sk (sx hS_ 8 rfl) (sk (sx hS_ 9 rfl) (sk (sx hS_ 10 rfl) (sk (sx hS_ 11 rfl) (sk (sx hS_ 12 rfl) (sk (sx hS_ 13 rfl) (sk (sx hS_ 14 rfl) (sk (sx hS_ 15 rfl) (sk (sx hS_ 16 rfl) (sk (sx hS_ 17 rfl) (sk (sx hS_ 18 rfl) (sk (sx hS_ 19 rfl) (sk (sx hS_ 20 rfl) (sk (sx hS_ 21 rfl) (sk (sx hS_ 22 rfl) (sk (sx hS_ 23 rfl) (sk (sx hS_ 24 rfl) (sk (sx hS_ 25 rfl) (sk (sx hS_ 26 rfl) sn))))))))))))))))))))))))))), hC⟩ h
        ·replace h := iff_ h (cf hb516)
         refine guardOff (b := false) 7 47 rfl (tr rfl (congrArg _ hb516)) (by decide) ?_
         refine guardOff (b := false) 7 47 rfl (tr rfl (congrArg _ hb516)) (by decide) ?_
         refine guardOff (b := false) 7 47 rfl (tr rfl (congrArg _ hb516)) (by decide) ?_
         refine guardOff (b := false) 7 47 rfl (tr rfl (congrArg _ hb516)) (by decide) ?_
         refine guardOff (b := false) 7 47 rfl (tr rfl (congrArg _ hb516)) (by decide) ?_
         refine guardOff (b := false) 7 47 rfl (tr rfl (congrArg _ hb516)) (by decide) ?_
         refine guardOff (b := false) 7 47 rfl (tr rfl (congrArg _ hb516)) (by decide) ?_
         refine s_pick (v := .bool false) (b := false) (tr rfl (congrArg _ hb516)) rfl ?_
         refine dn ?_
         refine cw_false rfl rfl ?_
         refine wp_skip ?_
         refine blk_norm ?_
         refine then_norm ?_
         refine cw_region ?_
         refine s_mv (v := .int .i64 s502) (sx hS_ 4 rfl) ?_
         refine s_add rfl rfl ?_
         refine s_as (v := .int .i64 (IntKind.i64.wrap (s502 + 1))) rfl ?_
         refine done ?_
         exact hK505 (IntKind.i64.wrap (s502 + 1)) _ _ ⟨(sk (sx hS_ 0 rfl) (sk (sx hS_ 1 rfl) (sk (sx hS_ 2 rfl) (sk (sx hS_ 3 rfl) (sk rfl (sk (sx hS_ 5 rfl) (sk (sx hS_ 6 rfl) (sk (sx hS_ 7 rfl) (sk (sx hS_ 8 rfl) (sk (sx hS_ 9 rfl) (sk (sx hS_ 10 rfl) (sk (sx hS_ 11 rfl) (sk (sx hS_ 12 rfl) (sk (sx hS_ 13 rfl) (sk (sx hS_ 14 rfl) (sk (sx hS_ 15 rfl) (sk (sx hS_ 16 rfl) (sk (sx hS_ 17 rfl) (sk (sx hS_ 18 rfl) (sk (sx hS_ 19 rfl) (sk (sx hS_ 20 rfl) (sk (sx hS_ 21 rfl) (sk (sx hS_ 22 rfl) (sk (sx hS_ 23 rfl) (sk (sx hS_ 24 rfl) (sk (sx hS_ 25 rfl) (sk (sx hS_ 26 rfl) sn))))))))))))))))))))))))))), hC⟩ h
       ·replace h := iff_ h (cf hb510)
        refine wp_exit (then_exit (then_exit (exit_in ?_)))
        refine blk_norm ?_
        refine then_norm ?_
        refine cw_region ?_
        refine s_mv (v := .int .i64 s416) (sx hS_ 3 rfl) ?_
        refine s_add rfl rfl ?_
        refine s_as (v := .int .i64 (IntKind.i64.wrap (s416 + 1))) rfl ?_
        refine done ?_
        replace hC := hC.sel [0] [1, 2, 3] (M' := [blk b5 31 [u0_0, u0_1]]) (Ps' := [Ty.item TForm.sl a0.images [u0_1] fp0, Ty.item ((EI .i64).ty.sl) a0.degrees [u0_0] fp0, Ty.item TAlg a0 [u0_0, u0_1] fp0]) (by decide) rfl rfl
        exact hK419 (IntKind.i64.wrap (s416 + 1)) _ _ ⟨(sk (sx hS_ 0 rfl) (sk (sx hS_ 1 rfl) (sk (sx hS_ 2 rfl) (sk rfl sn)))), hC⟩ h
      ·skip
       exact ⟨(sk (sx hS_ 0 rfl) (sk (sx hS_ 1 rfl) (sk (sx hS_ 2 rfl) (sk (sx hS_ 3 rfl) (sk rfl (sk rfl (sk rfl (sk rfl (sk rfl (sk rfl (sk rfl (sk rfl (sk rfl (sk rfl (sk rfl (sk rfl (sk rfl (sk rfl (sk rfl (sk rfl (sk rfl (sk rfl (sk rfl (sk rfl (sk rfl (sk rfl (sk rfl sn))))))))))))))))))))))))))), hC⟩
    ·replace h := iff_ h (cf hb430)
     refine guardOff (b := false) 7 23 rfl (tr rfl (congrArg _ hb430)) (by decide) ?_
     refine guardOff (b := false) 7 23 rfl (tr rfl (congrArg _ hb430)) (by decide) ?_
     refine guardOff (b := false) 7 23 rfl (tr rfl (congrArg _ hb430)) (by decide) ?_
     refine guardOff (b := false) 7 23 rfl (tr rfl (congrArg _ hb430)) (by decide) ?_
     refine guardOff (b := false) 7 23 rfl (tr rfl (congrArg _ hb430)) (by decide) ?_
     refine guardOff (b := false) 7 23 rfl (tr rfl (congrArg _ hb430)) (by decide) ?_
     refine guardOff (b := false) 7 23 rfl (tr rfl (congrArg _ hb430)) (by decide) ?_
     refine guardOff (b := false) 7 23 rfl (tr rfl (congrArg _ hb430)) (by decide) ?_
     refine s_pick (v := .bool false) (b := false) (tr rfl (congrArg _ hb430)) rfl ?_
     refine dn ?_
     refine cw_false rfl rfl ?_
     refine wp_skip ?_
     refine then_norm ?_
     refine sr ?_
     refine s_as (v := .int .i64 0) rfl ?_
     refine dn ?_
     refine wp_block ?_
     refine loopW (S := Int) _ (fun s590 e_ w_ => Slots e_ [(1, .pointer (some ⟨b5, 0, none⟩)), (2, .bool false), (3, .int .i64 0), (4, .int .i64 s416), (5, .int .i64 s590), (9, .int .i64 s416), (10, .pointer (some ⟨b5, 0, none⟩)), (11, u0_0), (12, .int .i64 (a0.degrees.length : Int)), (13, .bool (decide (s416 < (a0.degrees.length : Int)))), (16, .pointer (some ⟨b5, 0, none⟩)), (17, u0_0), (18, .int .i64 s416), (19, .pointer (some (Ad427.add (s416.toNat * 1)))), (20, .int .i64 (a0.degrees.getD s416.toNat default)), (21, .int .i64 (Int.tmod (a0.degrees.getD s416.toNat default) 2)), (22, .bool (decide (Int.tmod (a0.degrees.getD s416.toNat default) 2 = 0))), (23, .bool (decide (Int.tmod (a0.degrees.getD s416.toNat default) 2 = 0))), (32, .bool false)] ∧ Ctx Nox w0 w_ [blk b5 31 [u0_0, u0_1]] [Ty.item TForm.sl a0.images [u0_1] fp0, Ty.item ((EI .i64).ty.sl) a0.degrees [u0_0] fp0, Ty.item TAlg a0 [u0_0, u0_1] fp0]) ?_ (s0 := 0) ?_ h
     ·clear hC h
      rintro s590 e_ w594 next591 K592 ⟨hS_, hC⟩ h hK593
      refine wp_seq ?_
      refine sr ?_
      refine s_mv (v := .int .i64 s590) (sx hS_ 4 rfl) ?_
      refine s_faddrB 0 Try.underlying31 rfl sc22.size (sx hS_ 0 rfl) rfl ?_
      refine s_loadS hC 0 (u0_0) rfl sc22 rfl rfl ?_
      obtain ⟨Ad595, c596, hv597⟩ := sl_len (hC.getP 1 rfl)
      refine s_len Try.underlying22 (tr rfl hv597) ?_
      refine s_lss rfl rfl ?_
      refine dn ?_
      refine cw_cond rfl (fun hb598 => ?_) (fun hb598 => ?_)
      ·replace h := ift h (ct hb598)
       refine wp_skip ?_
       refine then_norm ?_
       refine wp_seq ?_
       refine wp_block ?_
       refine sr ?_
       refine s_faddrB 0 Try.underlying31 rfl sc22.size (sx hS_ 0 rfl) rfl ?_
       refine s_loadS hC 0 (u0_0) rfl sc22 rfl rfl ?_
       refine s_mv (v := .int .i64 s590) (sx hS_ 4 rfl) ?_
       obtain ⟨⟨h0_599, h1_600⟩, h⟩ := h
       obtain ⟨Ad601, c602, hv603⟩ := sl_form (hC.getP 1 rfl) s590.toNat (show s590.toNat < a0.degrees.length by omega)
       refine s_iaddrS (len := a0.degrees.length) Try.underlying22 sc2.size (tr rfl hv603) rfl h0_599 h1_600 ?_
       refine s_loadCS (.int .i64 (a0.degrees.getD s590.toNat default)) (sl_cellsE (hC.getP 1 rfl) hv603 s590.toNat (show s590.toNat < a0.degrees.length by omega)) sc2 rfl ?_
       refine s_rem rfl rfl (by decide) ?_
       refine s_neq rfl rfl ?_
       refine s_mv (v := .bool (decide (Int.tmod (a0.degrees.getD s590.toNat default) 2 ≠ 0))) rfl ?_
       refine bsplit (decide (Int.tmod (a0.degrees.getD s590.toNat default) 2 ≠ 0)) (fun hb604 => ?_) (fun hb604 => ?_)
       ·replace h := ift h (ct hb604)
        refine guardOn 7 47 rfl rfl hb604 ?_
        refine s_faddrB 1 Try.underlying31 rfl sc29.size (sx hS_ 0 rfl) rfl ?_
        refine guardOn 7 47 rfl rfl hb604 ?_
        refine s_loadS hC 0 (u0_1) rfl sc29 rfl rfl ?_
        refine guardOn 7 47 rfl rfl hb604 ?_
        refine s_mv (v := .int .i64 s416) (sx hS_ 3 rfl) ?_
        refine guardOn 7 47 rfl rfl hb604 ?_
        obtain ⟨⟨h0_605, h1_606⟩, h⟩ := h
        obtain ⟨Ad607, c608, hv609⟩ := sl_form (hC.getP 0 rfl) s416.toNat (show s416.toNat < a0.images.length by omega)
        refine s_iaddrS (len := a0.images.length) Try.underlying29 ag46.size (tr rfl hv609) rfl h0_605 h1_606 ?_
        refine guardOn 7 47 rfl rfl hb604 ?_
        obtain ⟨cs_, hl611, hc612, hr613⟩ := sl_cells (hC.getP 0 rfl) hv609 s416.toNat (show s416.toNat < a0.images.length by omega)
        obtain ⟨u610, rfl⟩ := List.length_eq_one_iff.1 hl611
        clear hl611
        rw [getD_eq _ _ (show s416.toNat < a0.images.length by omega)] at hr613
        have hp614 := hr613
        replace hC := hC.derive 0 rfl (Ty.item ETerm.ty.sl ((a0.images.getD s416.toNat default).terms) [u610] fp0) (fun _ => (form_parts hp614)) (fun _ hb_ => hb_)
        refine s_loadCA [u610] hc612 ag46 rfl rfl ?_
        refine guardOn 7 47 rfl rfl hb604 ?_
        refine s_mv (v := .int .i64 s590) (sx hS_ 4 rfl) ?_
        refine guardOn 7 47 rfl rfl hb604 ?_
        refine s_call [.agg #[u610], .int .i64 s590] _ Try.func53 rfl rfl rfl (c_spec_l06Has (a0.images.getD s416.toNat default) s590 h _ (form_mk (hC.getP 0 rfl))) (fun ret616 w618 hR617 => ?_)
        obtain ⟨r619, rfl, h, hB620⟩ := hR617
        refine ⟨_, rfl, ?_⟩
        replace hC := hC.grow hB620
        refine s_pick (v := .bool r619) (b := true) (tr rfl (congrArg _ hb604)) rfl ?_
        refine dn ?_
        refine cw_cond rfl (fun hb621 => ?_) (fun hb621 => ?_)
        ·replace h := ift h (hb621)
         refine sr ?_
         refine s_as (v := .bool false) rfl ?_
         refine s_as (v := .int .i64 0) rfl ?_
         refine dn ?_
         refine wp_ret (blk_ret (then_ret (then_ret (blk_ret (blk_ret (then_ret (then_ret (blk_ret (then_ret ?_)))))))))
         refine ret2 (fn := Try.f18) rfl ?_ ?_ ⟨false, 0, rfl, h, hC.below⟩ (.inl rfl)
         ·exact res_tmp rfl
         ·exact res_tmp rfl
        ·replace h := iff_ h (ne_t hb621)
         refine wp_skip ?_
         refine blk_norm ?_
         refine then_norm ?_
         refine cw_region ?_
         refine s_mv (v := .int .i64 s590) (sx hS_ 4 rfl) ?_
         refine s_add rfl rfl ?_
         refine s_as (v := .int .i64 (IntKind.i64.wrap (s590 + 1))) rfl ?_
         refine done ?_
         replace hC := hC.sel [0] [1, 2, 3] (M' := [blk b5 31 [u0_0, u0_1]]) (Ps' := [Ty.item TForm.sl a0.images [u0_1] fp0, Ty.item ((EI .i64).ty.sl) a0.degrees [u0_0] fp0, Ty.item TAlg a0 [u0_0, u0_1] fp0]) (by decide) rfl rfl
         exact hK593 (IntKind.i64.wrap (s590 + 1)) _ _ ⟨(sk (sx hS_ 0 rfl) (sk (sx hS_ 1 rfl) (sk (sx hS_ 2 rfl) (sk (sx hS_ 3 rfl) (sk rfl (sk (sx hS_ 5 rfl) (sk (sx hS_ 6 rfl) (sk (sx hS_ 7 rfl) (sk (sx hS_ 8 rfl) (sk (sx hS_ 9 rfl) (sk (sx hS_ 10 rfl) (sk (sx hS_ 11 rfl) (sk (sx hS_ 12 rfl) (sk (sx hS_ 13 rfl) (sk (sx hS_ 14 rfl) (sk (sx hS_ 15 rfl) (sk (sx hS_ 16 rfl) (sk (sx hS_ 17 rfl) (sk (sx hS_ 18 rfl) sn))))))))))))))))))), hC⟩ h
       ·replace h := iff_ h (cf hb604)
        refine guardOff (b := false) 7 47 rfl (tr rfl (congrArg _ hb604)) (by decide) ?_
        refine guardOff (b := false) 7 47 rfl (tr rfl (congrArg _ hb604)) (by decide) ?_
        refine guardOff (b := false) 7 47 rfl (tr rfl (congrArg _ hb604)) (by decide) ?_
        refine guardOff (b := false) 7 47 rfl (tr rfl (congrArg _ hb604)) (by decide) ?_
        refine guardOff (b := false) 7 47 rfl (tr rfl (congrArg _ hb604)) (by decide) ?_
        refine guardOff (b := false) 7 47 rfl (tr rfl (congrArg _ hb604)) (by decide) ?_
        refine guardOff (b := false) 7 47 rfl (tr rfl (congrArg _ hb604)) (by decide) ?_
        refine s_pick (v := .bool false) (b := false) (tr rfl (congrArg _ hb604)) rfl ?_
        refine dn ?_
        refine cw_false rfl rfl ?_
        refine wp_skip ?_
        refine blk_norm ?_
        refine then_norm ?_
        refine cw_region ?_
        refine s_mv (v := .int .i64 s590) (sx hS_ 4 rfl) ?_
        refine s_add rfl rfl ?_
        refine s_as (v := .int .i64 (IntKind.i64.wrap (s590 + 1))) rfl ?_
        refine done ?_
        exact hK593 (IntKind.i64.wrap (s590 + 1)) _ _ ⟨(sk (sx hS_ 0 rfl) (sk (sx hS_ 1 rfl) (sk (sx hS_ 2 rfl) (sk (sx hS_ 3 rfl) (sk rfl (sk (sx hS_ 5 rfl) (sk (sx hS_ 6 rfl) (sk (sx hS_ 7 rfl) (sk (sx hS_ 8 rfl) (sk (sx hS_ 9 rfl) (sk (sx hS_ 10 rfl) (sk (sx hS_ 11 rfl) (sk (sx hS_ 12 rfl) (sk (sx hS_ 13 rfl) (sk (sx hS_ 14 rfl) (sk (sx hS_ 15 rfl) (sk (sx hS_ 16 rfl) (sk (sx hS_ 17 rfl) (sk (sx hS_ 18 rfl) sn))))))))))))))))))), hC⟩ h
      ·replace h := iff_ h (cf hb598)
       refine wp_exit (then_exit (then_exit (exit_in ?_)))
       refine blk_norm ?_
       refine then_norm ?_
       refine cw_region ?_
       refine s_mv (v := .int .i64 s416) (sx hS_ 3 rfl) ?_
       refine s_add rfl rfl ?_
       refine s_as (v := .int .i64 (IntKind.i64.wrap (s416 + 1))) rfl ?_
       refine done ?_
       exact hK419 (IntKind.i64.wrap (s416 + 1)) _ _ ⟨(sk (sx hS_ 0 rfl) (sk (sx hS_ 1 rfl) (sk (sx hS_ 2 rfl) (sk rfl sn)))), hC⟩ h
     ·skip
      exact ⟨(sk (sx hS_ 0 rfl) (sk (sx hS_ 1 rfl) (sk (sx hS_ 2 rfl) (sk (sx hS_ 3 rfl) (sk rfl (sk rfl (sk rfl (sk rfl (sk rfl (sk rfl (sk rfl (sk rfl (sk rfl (sk rfl (sk rfl (sk rfl (sk rfl (sk rfl (sk rfl sn))))))))))))))))))), hC⟩
   ·replace h := iff_ h (cf hb424)
    refine wp_exit (then_exit (then_exit (exit_in ?_)))
    refine then_norm ?_
    refine sr ?_
    refine s_as (v := .bool true) rfl ?_
    refine s_as (v := .int .i64 0) rfl ?_
    refine dn ?_
    refine wp_ret ?_
    refine ret2 (fn := Try.f18) rfl ?_ ?_ ⟨true, 0, rfl, h, hC.below⟩ (.inl rfl)
    ·exact res_tmp rfl
    ·exact res_tmp rfl
  ·skip
   exact ⟨(sk rfl (sk rfl (sk rfl (sk rfl sn)))), hC⟩
def f_impl_IsPure (a0 : Alg) (K : Bool → Int → Prop) : Prop :=
 f_impl_algebraCode a0 [] (fun r11 => (if r11 ≠ 0 then K false r11 else forN (fun i201 (s202 : Unit) next204 => ((0 ≤ (i201 : Int) ∧ (i201 : Int) < (a0.degrees.length : Int)) ∧ (if Int.tmod (a0.degrees.getD i201 default) 2 = 0 then (if (((a0.images.getD i201 default).terms).length : Int) > 0 then K false 0 else forN (fun i270 (s271 : Unit) next273 => forN (fun i295 (s296 : Unit) next297 => (if ((((a0.images.getD i201 default).terms).getD i270 default).mono).get i295 > 0 then ((0 ≤ (i295 : Int) ∧ (i295 : Int) < (a0.degrees.length : Int)) ∧ (if Int.tmod (a0.degrees.getD i295 default) 2 = 1 then K false 0 else next297 ())) else next297 ())) (fun (s296 : Unit) => next273 ()) 8 0 ()) (fun (s271 : Unit) => next204 ()) (((a0.images.getD i201 default).terms).length) 0 ()) else forN (fun i349 (s350 : Unit) next352 => forN (fun i374 (s375 : Unit) next376 => (if ((((a0.images.getD i201 default).terms).getD i349 default).mono).get i374 > 0 then ((0 ≤ (i374 : Int) ∧ (i374 : Int) < (a0.degrees.length : Int)) ∧ (if Int.tmod (a0.degrees.getD i374 default) 2 = 1 then K false 0 else next376 ())) else next376 ())) (fun (s375 : Unit) => next352 ()) 8 0 ()) (fun (s350 : Unit) => next204 ()) (((a0.images.getD i201 default).terms).length) 0 ()))) (fun (s202 : Unit) => K true 0) a0.images.length 0 ()))
theorem c_impl_IsPure (a0 : Alg) {u0_0 : Value} {u0_1 : Value} {fp0 : List Nat} {K : Bool → Int → Prop} (h : f_impl_IsPure a0 K) (w0 : World) (q0 : TAlg.rep a0 [u0_0, u0_1] fp0 w0) :
  Calls Try.prog 19 #[.agg #[u0_0, u0_1]] w0 fun e w' => ∃ (r0 : Bool) (r1 : Int), 
   e = .returned (.tuple #[.bool r0, .int .i64 r1]) ∧ K r0 r1 ∧ Bel w0 w' := by
 unfold f_impl_IsPure at h
 refine calls_of (args := [.agg #[u0_0, u0_1]]) Try.func19 rfl 63 Try.ntmps19 (Nat.le_of_ble_eq_true rfl) ?_
 have hC := Ctx.start (X := Nox) w0 [Ty.item TAlg a0 [u0_0, u0_1] fp0] (by simp only [List.mem_cons, List.not_mem_nil, or_false, forall_eq_or_imp, forall_eq]; exact q0)
 have hp2 := (hC.getP 0 rfl)
 replace hC := hC.derive 0 rfl (Ty.item ((EI .i64).ty.sl) a0.degrees [u0_0] fp0) (fun _ => (alg_parts hp2).1) (fun _ hb_ => hb_)
 replace hC := hC.derive 1 rfl (Ty.item TForm.sl a0.images [u0_1] fp0) (fun _ => (alg_parts hp2).2) (fun _ hb_ => hb_)
 refine sr ?_
 refine s_box (v := .agg #[u0_0, u0_1]) hC [u0_0, u0_1] rfl rfl fun b5 w7 hB_ hC => ?_
 refine s_as (v := .bool false) rfl ?_
 refine s_as (v := .int .i64 0) rfl ?_
 refine dn ?_
 refine wp_seq ?_
 refine sr ?_
 refine s_call [.pointer (some ⟨b5, 0, none⟩), .slice none 0 0] _ Try.func50 rfl rfl rfl (c_impl_algebraCode a0 [] h _ (alg_mk (hC.getP 1 rfl) (hC.getP 0 rfl)) (hC.getM 0 rfl) (rep_nil _ _)) (fun ret8 w10 hR9 => ?_)
 obtain ⟨r11, rfl, h, hB12⟩ := hR9
 refine ⟨_, rfl, ?_⟩
 replace hC := hC.grow hB12
 refine s_as (v := .int .i64 r11) rfl ?_
 refine dn ?_
 refine sr ?_
 refine s_mv (v := .int .i64 r11) rfl ?_
 refine s_neq rfl rfl ?_
 refine dn ?_
 refine cw_cond rfl (fun hb13 => ?_) (fun hb13 => ?_)
 ·replace h := ift h (ct hb13)
  refine sr ?_
  refine s_mv (v := .int .i64 r11) rfl ?_
  refine s_as (v := .bool false) rfl ?_
  refine s_as (v := .int .i64 r11) rfl ?_
  refine dn ?_
  refine wp_ret (then_ret ?_)
  refine ret2 (fn := Try.f19) rfl ?_ ?_ ⟨false, r11, rfl, h, hC.below⟩ (.inl rfl)
  ·exact res_tmp rfl
  ·exact res_tmp rfl
 ·replace h := iff_ h (cf hb13)
  refine wp_skip ?_
  refine then_norm ?_
  refine wp_seq ?_
  refine sr ?_
  refine s_faddrB 1 Try.underlying31 rfl sc29.size rfl rfl ?_
  refine s_loadS hC 0 (u0_1) rfl sc29 rfl rfl ?_
  obtain ⟨Ad14, c15, hv16⟩ := sl_len (hC.getP 0 rfl)
  refine s_len Try.underlying29 (tr rfl hv16) ?_
  refine s_mv (v := .int .i64 0) rfl ?_
  refine dn ?_
  refine wp_block ?_
  have hN203 : a0.images.length ≤ 9223372036854775807 := sl_max (hC.getP 0 rfl)
  refine loopN (S := Unit) _ _ (fun i201 s202 e_ w_ => Slots e_ [(1, .pointer (some ⟨b5, 0, none⟩)), (2, .bool false), (3, .int .i64 0), (16, u0_1), (17, .int .i64 (a0.images.length : Int)), (18, .int .i64 (i201 : Int))] ∧ Ctx Nox w0 w_ [blk b5 31 [u0_0, u0_1]] [Ty.item TForm.sl a0.images [u0_1] fp0, Ty.item ((EI .i64).ty.sl) a0.degrees [u0_0] fp0, Ty.item TAlg a0 [u0_0, u0_1] fp0]) a0.images.length ?_ ?_ (s0 := ()) ?_ h
  ·clear hC h
   rintro i201 s202 e_ w208 next204 K205 hi207 ⟨hS_, hC⟩ h hK206
   refine sr ?_
   refine s_lss (sx hS_ 5 rfl) (sx hS_ 4 rfl) ?_
   refine dn ?_
   refine wp_seq ?_
   refine cw_true rfl (decide_eq_true (by omega)) ?_
   refine wp_skip ?_
   refine then_norm ?_
   refine wp_seq ?_
   refine wp_block ?_
   refine sr ?_
   refine s_mv (v := .int .i64 (i201 : Int)) (sx hS_ 5 rfl) ?_
   obtain ⟨Ad209, c210, hv211⟩ := sl_form (hC.getP 0 rfl) i201 hi207
   refine s_iaddrS (len := a0.images.length) Try.underlying29 ag46.size (tr (sx hS_ 3 rfl) hv211) (sx hS_ 5 rfl) (Int.natCast_nonneg _) (Int.ofNat_lt.2 hi207) ?_
   obtain ⟨cs_, hl213, hc214, hr215⟩ := sl_cells (hC.getP 0 rfl) hv211 i201 hi207
   obtain ⟨u212, rfl⟩ := List.length_eq_one_iff.1 hl213
   clear hl213
   rw [getD_eq _ _ hi207] at hr215
   have hp216 := hr215
   replace hC := hC.derive 0 rfl (Ty.item ETerm.ty.sl ((a0.images.getD i201 default).terms) [u212] fp0) (fun _ => (form_parts hp216)) (fun _ hb_ => hb_)
   refine s_loadCA [u212] hc214 ag46 rfl rfl ?_
   refine s_alloc hC [.slice none 0 0] z46 rfl fun b218 w220 hB_ hC => ?_
   refine s_as (v := .int .i64 (i201 : Int)) rfl ?_
   refine s_store (v := .agg #[u212]) hC 0 [u212] [u212] rfl ag46.size rfl rfl rfl rfl (all_c (rep_oneC (hC.getP 0 rfl)) rfl) (Nat.le_of_ble_eq_true rfl) rfl fun w221 hC => ?_
   refine dn ?_
   refine wp_seq ?_
   refine sr ?_
   refine s_faddrB 0 Try.underlying31 rfl sc22.size (sx hS_ 0 rfl) rfl ?_
   refine s_loadS hC 1 (u0_0) rfl sc22 rfl rfl ?_
   refine s_mv (v := .int .i64 (i201 : Int)) rfl ?_
   obtain ⟨⟨h0_222, h1_223⟩, h⟩ := h
   obtain ⟨Ad224, c225, hv226⟩ := sl_form (hC.getP 2 rfl) i201 (show i201 < a0.degrees.length by omega)
   refine s_iaddrS (len := a0.degrees.length) Try.underlying22 sc2.size (tr rfl hv226) rfl h0_222 h1_223 ?_
   refine s_loadCS (.int .i64 (a0.degrees.getD i201 default)) (sl_cellsE (hC.getP 2 rfl) hv226 i201 (show i201 < a0.degrees.length by omega)) sc2 rfl ?_
   refine s_rem rfl rfl (by decide) ?_
   refine s_eql rfl rfl ?_
   refine s_mv (v := .bool (decide (Int.tmod (a0.degrees.getD i201 default) 2 = 0))) rfl ?_
   refine bsplit (decide (Int.tmod (a0.degrees.getD i201 default) 2 = 0)) (fun hb227 => ?_) (fun hb227 => ?_)
   ·replace h := ift h (ct hb227)
    refine guardOn 7 30 rfl rfl hb227 ?_
    refine s_faddrB 0 Try.underlying46 rfl sc44.size rfl rfl ?_
    refine guardOn 7 30 rfl rfl hb227 ?_
    refine s_loadS hC 0 (u212) rfl sc44 rfl rfl ?_
    refine guardOn 7 30 rfl rfl hb227 ?_
    obtain ⟨Ad228, c229, hv230⟩ := sl_len (hC.getP 0 rfl)
    refine s_len Try.underlying44 (tr rfl hv230) ?_
    refine guardOn 7 30 rfl rfl hb227 ?_
    refine s_gtr rfl rfl ?_
    refine s_pick (v := .bool (decide ((((a0.images.getD i201 default).terms).length : Int) > 0))) (b := true) (tr rfl (congrArg _ hb227)) rfl ?_
    refine dn ?_
    refine cw_cond rfl (fun hb231 => ?_) (fun hb231 => ?_)
    ·replace h := ift h (ct hb231)
     refine sr ?_
     refine s_as (v := .bool false) rfl ?_
     refine s_as (v := .int .i64 0) rfl ?_
     refine dn ?_
     refine wp_ret (then_ret (blk_ret (then_ret (then_ret (blk_ret (then_ret ?_))))))
     refine ret2 (fn := Try.f19) rfl ?_ ?_ ⟨false, 0, rfl, h, hC.below⟩ (.inl rfl)
     ·exact res_tmp rfl
     ·exact res_tmp rfl
    ·replace h := iff_ h (cf hb231)
     refine wp_skip ?_
     refine then_norm ?_
     refine sr ?_
     refine s_faddrB 0 Try.underlying46 rfl sc44.size rfl rfl ?_
     refine s_loadS hC 0 (u212) rfl sc44 rfl rfl ?_
     obtain ⟨Ad232, c233, hv234⟩ := sl_len (hC.getP 0 rfl)
     refine s_len Try.underlying44 (tr rfl hv234) ?_
     refine s_mv (v := .int .i64 0) rfl ?_
     refine dn ?_
     refine wp_block ?_
     have hN272 : ((a0.images.getD i201 default).terms).length ≤ 9223372036854775807 := sl_max (hC.getP 0 rfl)
     refine loopN (S := Unit) _ _ (fun i270 s271 e_ w_ => Slots e_ [(1, .pointer (some ⟨b5, 0, none⟩)), (2, .bool false), (3, .int .i64 0), (5, .int .i64 (i201 : Int)), (6, .pointer (some ⟨b218, 0, none⟩)), (16, u0_1), (17, .int .i64 (a0.images.length : Int)), (18, .int .i64 (i201 : Int)), (19, .bool (decide ((i201 : Int) < (a0.images.length : Int)))), (20, .int .i64 (i201 : Int)), (21, .pointer (some (Ad209.add (i201 * 1)))), (22, .agg #[u212]), (23, .pointer (some ⟨b5, 0, none⟩)), (24, u0_0), (25, .int .i64 (i201 : Int)), (26, .pointer (some (Ad224.add (i201 * 1)))), (27, .int .i64 (a0.degrees.getD i201 default)), (28, .int .i64 (Int.tmod (a0.degrees.getD i201 default) 2)), (29, .bool (decide (Int.tmod (a0.degrees.getD i201 default) 2 = 0))), (30, .bool (decide (Int.tmod (a0.degrees.getD i201 default) 2 = 0))), (31, .pointer (some ⟨b218, 0, none⟩)), (32, u212), (33, .int .i64 (((a0.images.getD i201 default).terms).length : Int)), (34, .bool (decide ((((a0.images.getD i201 default).terms).length : Int) > 0))), (35, .bool (decide ((((a0.images.getD i201 default).terms).length : Int) > 0))), (36, .pointer (some ⟨b218, 0, none⟩)), (37, u212), (38, .int .i64 (((a0.images.getD i201 default).terms).length : Int)), (39, .int .i64 (i270 : Int))] ∧ Ctx Nox w0 w_ [blk b218 46 [u212], blk b5 31 [u0_0, u0_1]] [Ty.item ETerm.ty.sl ((a0.images.getD i201 default).terms) [u212] fp0, Ty.item TForm.sl a0.images [u0_1] fp0, Ty.item ((EI .i64).ty.sl) a0.degrees [u0_0] fp0, Ty.item TAlg a0 [u0_0, u0_1] fp0]) (((a0.images.getD i201 default).terms).length) ?_ ?_ (s0 := ()) ?_ h
     ·clear hC h
      rintro i270 s271 e_ w277 next273 K274 hi276 ⟨hS_, hC⟩ h hK275
      refine sr ?_
      refine s_lss (sx hS_ 28 rfl) (sx hS_ 27 rfl) ?_
      refine dn ?_
      refine wp_seq ?_
      refine cw_true rfl (decide_eq_true (by omega)) ?_
      refine wp_skip ?_
      refine then_norm ?_
      refine wp_seq ?_
      refine wp_block ?_
      refine sr ?_
      obtain ⟨Ad278, c279, hv280⟩ := sl_form (hC.getP 0 rfl) i270 hi276
      refine s_iaddrS (len := ((a0.images.getD i201 default).terms).length) Try.underlying44 ag86.size (tr (sx hS_ 26 rfl) hv280) (sx hS_ 28 rfl) (Int.natCast_nonneg _) (Int.ofNat_lt.2 hi276) ?_
      refine s_loadCA (Term.enc (((a0.images.getD i201 default).terms).getD i270 default)) (sl_cellsE (hC.getP 0 rfl) hv280 i270 hi276) ag86 rfl rfl ?_
      refine s_alloc hC (Term.enc (⟨A8.zero, 0⟩ : Term)) z86 rfl fun b281 w283 hB_ hC => ?_
      refine s_store (v := .agg (List.toArray (Term.enc (((a0.images.getD i201 default).terms).getD i270 default)))) hC 0 (Term.enc (((a0.images.getD i201 default).terms).getD i270 default)) (Term.enc (((a0.images.getD i201 default).terms).getD i270 default)) rfl ag86.size rfl rfl rfl rfl rfl (Nat.le_of_ble_eq_true rfl) rfl fun w284 hC => ?_
      refine dn ?_
      refine sr ?_
      refine s_faddrB 0 Try.underlying86 rfl ag84.size rfl rfl ?_
      refine s_loadA hC 0 (A8.enc .u8 ((((a0.images.getD i201 default).terms).getD i270 default).mono)) rfl ag84 rfl rfl rfl ?_
      refine s_mv (v := .int .i64 0) rfl ?_
      refine dn ?_
      refine wp_block ?_
      refine loopN (S := Unit) _ _ (fun i295 s296 e_ w_ => Slots e_ [(1, .pointer (some ⟨b5, 0, none⟩)), (2, .bool false), (3, .int .i64 0), (5, .int .i64 (i201 : Int)), (6, .pointer (some ⟨b218, 0, none⟩)), (8, .pointer (some ⟨b281, 0, none⟩)), (16, u0_1), (17, .int .i64 (a0.images.length : Int)), (18, .int .i64 (i201 : Int)), (19, .bool (decide ((i201 : Int) < (a0.images.length : Int)))), (20, .int .i64 (i201 : Int)), (21, .pointer (some (Ad209.add (i201 * 1)))), (22, .agg #[u212]), (23, .pointer (some ⟨b5, 0, none⟩)), (24, u0_0), (25, .int .i64 (i201 : Int)), (26, .pointer (some (Ad224.add (i201 * 1)))), (27, .int .i64 (a0.degrees.getD i201 default)), (28, .int .i64 (Int.tmod (a0.degrees.getD i201 default) 2)), (29, .bool (decide (Int.tmod (a0.degrees.getD i201 default) 2 = 0))), (30, .bool (decide (Int.tmod (a0.degrees.getD i201 default) 2 = 0))), (31, .pointer (some ⟨b218, 0, none⟩)), (32, u212), (33, .int .i64 (((a0.images.getD i201 default).terms).length : Int)), (34, .bool (decide ((((a0.images.getD i201 default).terms).length : Int) > 0))), (35, .bool (decide ((((a0.images.getD i201 default).terms).length : Int) > 0))), (36, .pointer (some ⟨b218, 0, none⟩)), (37, u212), (38, .int .i64 (((a0.images.getD i201 default).terms).length : Int)), (39, .int .i64 (i270 : Int)), (40, .bool (decide ((i270 : Int) < (((a0.images.getD i201 default).terms).length : Int)))), (41, .pointer (some (Ad278.add (i270 * 9)))), (42, .agg (List.toArray (Term.enc (((a0.images.getD i201 default).terms).getD i270 default)))), (43, .pointer (some ⟨b281, 0, none⟩)), (44, .agg (List.toArray (A8.enc .u8 ((((a0.images.getD i201 default).terms).getD i270 default).mono)))), (45, .int .i64 (i295 : Int))] ∧ Ctx Nox w0 w_ [blk b281 86 (Term.enc (((a0.images.getD i201 default).terms).getD i270 default)), blk b218 46 [u212], blk b5 31 [u0_0, u0_1]] [Ty.item ETerm.ty.sl ((a0.images.getD i201 default).terms) [u212] fp0, Ty.item TForm.sl a0.images [u0_1] fp0, Ty.item ((EI .i64).ty.sl) a0.degrees [u0_0] fp0, Ty.item TAlg a0 [u0_0, u0_1] fp0]) 8 ?_ ?_ (s0 := ()) ?_ h
      ·clear hC h
       rintro i295 s296 e_ w301 next297 K298 hi300 ⟨hS_, hC⟩ h hK299
       refine sr ?_
       refine s_lss (sx hS_ 35 rfl) rfl ?_
       refine dn ?_
       refine wp_seq ?_
       refine cw_true rfl (decide_eq_true (by omega)) ?_
       refine wp_skip ?_
       refine then_norm ?_
       refine wp_seq ?_
       refine wp_block ?_
       refine sr ?_
       refine s_mv (v := .int .i64 (i295 : Int)) (sx hS_ 35 rfl) ?_
       refine s_index (.int .u8 (((((a0.images.getD i201 default).terms).getD i270 default).mono).get i295)) Try.underlying84 (sx hS_ 34 rfl) (sx hS_ 35 rfl) (Int.natCast_nonneg _) (by omega) sc5 (A8.enc_get _ _ hi300) ?_
       refine s_as (v := .int .i64 (i295 : Int)) rfl ?_
       refine s_as (v := .int .u8 (((((a0.images.getD i201 default).terms).getD i270 default).mono).get i295)) rfl ?_
       refine dn ?_
       refine sr ?_
       refine s_mv (v := .int .u8 (((((a0.images.getD i201 default).terms).getD i270 default).mono).get i295)) rfl ?_
       refine s_gtr rfl rfl ?_
       refine s_mv (v := .bool (decide (((((a0.images.getD i201 default).terms).getD i270 default).mono).get i295 > 0))) rfl ?_
       refine bsplit (decide (((((a0.images.getD i201 default).terms).getD i270 default).mono).get i295 > 0)) (fun hb302 => ?_) (fun hb302 => ?_)
       ·replace h := ift h (ct hb302)
        refine guardOn 2 51 rfl rfl hb302 ?_
        refine s_faddrB 0 Try.underlying31 rfl sc22.size (sx hS_ 0 rfl) rfl ?_
        refine guardOn 2 51 rfl rfl hb302 ?_
        refine s_loadS hC 2 (u0_0) rfl sc22 rfl rfl ?_
        refine guardOn 2 51 rfl rfl hb302 ?_
        refine s_mv (v := .int .i64 (i295 : Int)) rfl ?_
        refine guardOn 2 51 rfl rfl hb302 ?_
        obtain ⟨⟨h0_303, h1_304⟩, h⟩ := h
        obtain ⟨Ad305, c306, hv307⟩ := sl_form (hC.getP 2 rfl) i295 (show i295 < a0.degrees.length by omega)
        refine s_iaddrS (len := a0.degrees.length) Try.underlying22 sc2.size (tr rfl hv307) rfl h0_303 h1_304 ?_
        refine guardOn 2 51 rfl rfl hb302 ?_
        refine s_loadCS (.int .i64 (a0.degrees.getD i295 default)) (sl_cellsE (hC.getP 2 rfl) hv307 i295 (show i295 < a0.degrees.length by omega)) sc2 rfl ?_
        refine guardOn 2 51 rfl rfl hb302 ?_
        refine s_rem rfl rfl (by decide) ?_
        refine guardOn 2 51 rfl rfl hb302 ?_
        refine s_eql rfl rfl ?_
        refine s_pick (v := .bool (decide (Int.tmod (a0.degrees.getD i295 default) 2 = 1))) (b := true) (tr rfl (congrArg _ hb302)) rfl ?_
        refine dn ?_
        refine cw_cond rfl (fun hb308 => ?_) (fun hb308 => ?_)
        ·replace h := ift h (ct hb308)
         refine sr ?_
         refine s_as (v := .bool false) rfl ?_
         refine s_as (v := .int .i64 0) rfl ?_
         refine dn ?_
         refine wp_ret (blk_ret (then_ret (then_ret (blk_ret (blk_ret (then_ret (then_ret (blk_ret (blk_ret (then_ret (then_ret (blk_ret (then_ret ?_)))))))))))))
         refine ret2 (fn := Try.f19) rfl ?_ ?_ ⟨false, 0, rfl, h, hC.below⟩ (.inl rfl)
         ·exact res_tmp rfl
         ·exact res_tmp rfl
        ·replace h := iff_ h (cf hb308)
         refine wp_skip ?_
         refine blk_norm ?_
         refine then_norm ?_
         refine cw_region ?_
         refine s_add (sx hS_ 35 rfl) rfl ?_
         refine s_mv (v := .int .i64 (IntKind.i64.wrap ((i295 : Int) + 1))) rfl ?_
         refine done ?_
         exact hK299 () _ _ ⟨(sk (sx hS_ 0 rfl) (sk (sx hS_ 1 rfl) (sk (sx hS_ 2 rfl) (sk (sx hS_ 3 rfl) (sk (sx hS_ 4 rfl) (sk (sx hS_ 5 rfl) (sk (sx hS_ 6 rfl) (sk (sx hS_ 7 rfl) (sk (sx hS_ 8 rfl) (sk (sx hS_ 9 rfl) (sk (sx hS_ 10 rfl) (sk (sx hS_ 11 rfl) (sk (sx hS_ 12 rfl) (sk (sx hS_ 13 rfl) (sk (sx hS_ 14 rfl) (sk (sx hS_ 15 rfl) (sk (sx hS_ 16 rfl) (sk (sx hS_ 17 rfl) (sk (sx hS_ 18 rfl) (sk (sx hS_ 19 rfl) (sk (sx hS_ 20 rfl) (sk (sx hS_ 21 rfl) (sk (sx hS_ 22 rfl) (sk (sx hS_ 23 rfl) (sk (sx hS_ 24 rfl) (sk (sx hS_ 25 rfl) (sk (sx hS_ 26 rfl) (sk (sx hS_ 27 rfl) (sk (sx hS_ 28 rfl) (sk (sx hS_ 29 rfl) (sk (sx hS_ 30 rfl) (sk (sx hS_ 31 rfl) (sk (sx hS_ 32 rfl) (sk (sx hS_ 33 rfl) (sk (sx hS_ 34 rfl) (sk (tr rfl (congrArg _ (wrap64_nat hi300 (by decide)))) sn)))))))))))))))))))))))))))))))))))), hC⟩ h
       ·replace h := iff_ h (cf hb302)
        refine guardOff (b := false) 2 51 rfl (tr rfl (congrArg _ hb302)) (by decide) ?_
        refine guardOff (b := false) 2 51 rfl (tr rfl (congrArg _ hb302)) (by decide) ?_
        refine guardOff (b := false) 2 51 rfl (tr rfl (congrArg _ hb302)) (by decide) ?_
        refine guardOff (b := false) 2 51 rfl (tr rfl (congrArg _ hb302)) (by decide) ?_
        refine guardOff (b := false) 2 51 rfl (tr rfl (congrArg _ hb302)) (by decide) ?_
        refine guardOff (b := false) 2 51 rfl (tr rfl (congrArg _ hb302)) (by decide) ?_
        refine guardOff (b := false) 2 51 rfl (tr rfl (congrArg _ hb302)) (by decide) ?_
        refine s_pick (v := .bool false) (b := false) (tr rfl (congrArg _ hb302)) rfl ?_
        refine dn ?_
        refine cw_false rfl rfl ?_
        refine wp_skip ?_
        refine blk_norm ?_
        refine then_norm ?_
        refine cw_region ?_
        refine s_add (sx hS_ 35 rfl) rfl ?_
        refine s_mv (v := .int .i64 (IntKind.i64.wrap ((i295 : Int) + 1))) rfl ?_
        refine done ?_
        exact hK299 () _ _ ⟨(sk (sx hS_ 0 rfl) (sk (sx hS_ 1 rfl) (sk (sx hS_ 2 rfl) (sk (sx hS_ 3 rfl) (sk (sx hS_ 4 rfl) (sk (sx hS_ 5 rfl) (sk (sx hS_ 6 rfl) (sk (sx hS_ 7 rfl) (sk (sx hS_ 8 rfl) (sk (sx hS_ 9 rfl) (sk (sx hS_ 10 rfl) (sk (sx hS_ 11 rfl) (sk (sx hS_ 12 rfl) (sk (sx hS_ 13 rfl) (sk (sx hS_ 14 rfl) (sk (sx hS_ 15 rfl) (sk (sx hS_ 16 rfl) (sk (sx hS_ 17 rfl) (sk (sx hS_ 18 rfl) (sk (sx hS_ 19 rfl) (sk (sx hS_ 20 rfl) (sk (sx hS_ 21 rfl) (sk (sx hS_ 22 rfl) (sk (sx hS_ 23 rfl) (sk (sx hS_ 24 rfl) (sk (sx hS_ 25 rfl) (sk (sx hS_ 26 rfl) (sk (sx hS_ 27 rfl) (sk (sx hS_ 28 rfl) (sk (sx hS_ 29 rfl) (sk (sx hS_ 30 rfl) (sk (sx hS_ 31 rfl) (sk (sx hS_ 32 rfl) (sk (sx hS_ 33 rfl) (sk (sx hS_ 34 rfl) (sk (tr rfl (congrArg _ (wrap64_nat hi300 (by decide)))) sn)))))))))))))))))))))))))))))))))))), hC⟩ h
      ·clear hC h
       rintro s296 e_ w309 K298 ⟨hS_, hC⟩ h
       refine sr ?_
       refine s_lss (sx hS_ 35 rfl) rfl ?_
       refine dn ?_
       refine wp_seq ?_
       refine cw_false rfl (decide_eq_false (by omega)) ?_
       refine wp_exit (then_exit (then_exit (exit_in ?_)))
       refine blk_norm ?_
       refine then_norm ?_
       refine cw_region ?_
       refine s_add (sx hS_ 29 rfl) rfl ?_
       refine s_mv (v := .int .i64 (IntKind.i64.wrap ((i270 : Int) + 1))) rfl ?_
       refine done ?_
       replace hC := hC.sel [1, 2] [0, 1, 2, 3] (M' := [blk b218 46 [u212], blk b5 31 [u0_0, u0_1]]) (Ps' := [Ty.item ETerm.ty.sl ((a0.images.getD i201 default).terms) [u212] fp0, Ty.item TForm.sl a0.images [u0_1] fp0, Ty.item ((EI .i64).ty.sl) a0.degrees [u0_0] fp0, Ty.item TAlg a0 [u0_0, u0_1] fp0]) (by decide) rfl rfl
       exact hK275 () _ _ ⟨(sk (sx hS_ 0 rfl) (sk (sx hS_ 1 rfl) (sk (sx hS_ 2 rfl) (sk (sx hS_ 3 rfl) (sk (sx hS_ 4 rfl) (sk (sx hS_ 6 rfl) (sk (sx hS_ 7 rfl) (sk (sx hS_ 8 rfl) (sk (sx hS_ 9 rfl) (sk (sx hS_ 10 rfl) (sk (sx hS_ 11 rfl) (sk (sx hS_ 12 rfl) (sk (sx hS_ 13 rfl) (sk (sx hS_ 14 rfl) (sk (sx hS_ 15 rfl) (sk (sx hS_ 16 rfl) (sk (sx hS_ 17 rfl) (sk (sx hS_ 18 rfl) (sk (sx hS_ 19 rfl) (sk (sx hS_ 20 rfl) (sk (sx hS_ 21 rfl) (sk (sx hS_ 22 rfl) (sk (sx hS_ 23 rfl) (sk (sx hS_ 24 rfl) (sk (sx hS_ 25 rfl) (sk (sx hS_ 26 rfl) (sk (sx hS_ 27 rfl) (sk (sx hS_ 28 rfl) (sk (tr rfl (congrArg _ (wrap64_nat hi276 hN272))) sn))))))))))))))))))))))))))))), hC⟩ h
      ·skip
       exact ⟨(sk (sx hS_ 0 rfl) (sk (sx hS_ 1 rfl) (sk (sx hS_ 2 rfl) (sk (sx hS_ 3 rfl) (sk (sx hS_ 4 rfl) (sk rfl (sk (sx hS_ 5 rfl) (sk (sx hS_ 6 rfl) (sk (sx hS_ 7 rfl) (sk (sx hS_ 8 rfl) (sk (sx hS_ 9 rfl) (sk (sx hS_ 10 rfl) (sk (sx hS_ 11 rfl) (sk (sx hS_ 12 rfl) (sk (sx hS_ 13 rfl) (sk (sx hS_ 14 rfl) (sk (sx hS_ 15 rfl) (sk (sx hS_ 16 rfl) (sk (sx hS_ 17 rfl) (sk (sx hS_ 18 rfl) (sk (sx hS_ 19 rfl) (sk (sx hS_ 20 rfl) (sk (sx hS_ 21 rfl) (sk (sx hS_ 22 rfl) (sk (sx hS_ 23 rfl) (sk (sx hS_ 24 rfl) (sk (sx hS_ 25 rfl) (sk (sx hS_ 26 rfl) (sk (sx hS_ 27 rfl) (sk (sx hS_ 28 rfl) (sk rfl (sk rfl (sk rfl (sk rfl (sk rfl (sk rfl sn)))))))))))))))))))))))))))))))))))), hC⟩
     ·clear hC h
      rintro s271 e_ w310 K274 ⟨hS_, hC⟩ h
      refine sr ?_
      refine s_lss (sx hS_ 28 rfl) (sx hS_ 27 rfl) ?_
      refine dn ?_
      refine wp_seq ?_
      refine cw_false rfl (decide_eq_false (by omega)) ?_
      refine wp_exit (then_exit (then_exit (exit_in ?_)))
      refine blk_norm ?_
      refine then_norm ?_
      refine cw_region ?_
      refine s_add (sx hS_ 7 rfl) rfl ?_
      refine s_mv (v := .int .i64 (IntKind.i64.wrap ((i201 : Int) + 1))) rfl ?_
      refine done ?_
      replace hC := hC.sel [1] [1, 2, 3] (M' := [blk b5 31 [u0_0, u0_1]]) (Ps' := [Ty.item TForm.sl a0.images [u0_1] fp0, Ty.item ((EI .i64).ty.sl) a0.degrees [u0_0] fp0, Ty.item TAlg a0 [u0_0, u0_1] fp0]) (by decide) rfl rfl
      exact hK206 () _ _ ⟨(sk (sx hS_ 0 rfl) (sk (sx hS_ 1 rfl) (sk (sx hS_ 2 rfl) (sk (sx hS_ 5 rfl) (sk (sx hS_ 6 rfl) (sk (tr rfl (congrArg _ (wrap64_nat hi207 hN203))) sn)))))), hC⟩ h
     ·skip
      exact ⟨(sk (sx hS_ 0 rfl) (sk (sx hS_ 1 rfl) (sk (sx hS_ 2 rfl) (sk rfl (sk rfl (sk (sx hS_ 3 rfl) (sk (sx hS_ 4 rfl) (sk (sx hS_ 5 rfl) (sk rfl (sk rfl (sk rfl (sk rfl (sk rfl (sk rfl (sk rfl (sk rfl (sk rfl (sk rfl (sk rfl (sk rfl (sk rfl (sk rfl (sk rfl (sk rfl (sk rfl (sk rfl (sk rfl (sk rfl (sk rfl sn))))))))))))))))))))))))))))), hC⟩
   ·replace h := iff_ h (cf hb227)
    refine guardOff (b := false) 7 30 rfl (tr rfl (congrArg _ hb227)) (by decide) ?_
    refine guardOff (b := false) 7 30 rfl (tr rfl (congrArg _ hb227)) (by decide) ?_
    refine guardOff (b := false) 7 30 rfl (tr rfl (congrArg _ hb227)) (by decide) ?_
    refine guardOff (b := false) 7 30 rfl (tr rfl (congrArg _ hb227)) (by decide) ?_
    refine s_pick (v := .bool false) (b := false) (tr rfl (congrArg _ hb227)) rfl ?_
    refine dn ?_
    refine cw_false rfl rfl ?_
    refine wp_skip ?_
    refine then_norm ?_
    refine sr ?_
    refine s_faddrB 0 Try.underlying46 rfl sc44.size rfl rfl ?_
    refine s_loadS hC 0 (u212) rfl sc44 rfl rfl ?_
    obtain ⟨Ad311, c312, hv313⟩ := sl_len (hC.getP 0 rfl)
    refine s_len Try.underlying44 (tr rfl hv313) ?_
    refine s_mv (v := .int .i64 0) rfl ?_
    refine dn ?_
    refine wp_block ?_
    have hN351 : ((a0.images.getD i201 default).terms).length ≤ 9223372036854775807 := sl_max (hC.getP 0 rfl)
    refine loopN (S := Unit) _ _ (fun i349 s350 e_ w_ => Slots e_ [(1, .pointer (some ⟨b5, 0, none⟩)), (2, .bool false), (3, .int .i64 0), (5, .int .i64 (i201 : Int)), (6, .pointer (some ⟨b218, 0, none⟩)), (16, u0_1), (17, .int .i64 (a0.images.length : Int)), (18, .int .i64 (i201 : Int)), (19, .bool (decide ((i201 : Int) < (a0.images.length : Int)))), (20, .int .i64 (i201 : Int)), (21, .pointer (some (Ad209.add (i201 * 1)))), (22, .agg #[u212]), (23, .pointer (some ⟨b5, 0, none⟩)), (24, u0_0), (25, .int .i64 (i201 : Int)), (26, .pointer (some (Ad224.add (i201 * 1)))), (27, .int .i64 (a0.degrees.getD i201 default)), (28, .int .i64 (Int.tmod (a0.degrees.getD i201 default) 2)), (29, .bool (decide (Int.tmod (a0.degrees.getD i201 default) 2 = 0))), (30, .bool (decide (Int.tmod (a0.degrees.getD i201 default) 2 = 0))), (35, .bool false), (36, .pointer (some ⟨b218, 0, none⟩)), (37, u212), (38, .int .i64 (((a0.images.getD i201 default).terms).length : Int)), (39, .int .i64 (i349 : Int))] ∧ Ctx Nox w0 w_ [blk b218 46 [u212], blk b5 31 [u0_0, u0_1]] [Ty.item ETerm.ty.sl ((a0.images.getD i201 default).terms) [u212] fp0, Ty.item TForm.sl a0.images [u0_1] fp0, Ty.item ((EI .i64).ty.sl) a0.degrees [u0_0] fp0, Ty.item TAlg a0 [u0_0, u0_1] fp0]) (((a0.images.getD i201 default).terms).length) ?_ ?_ (s0 := ()) ?_ h
    ·clear hC h
     rintro i349 s350 e_ w356 next352 K353 hi355 ⟨hS_, hC⟩ h hK354
     refine sr ?_
     refine s_lss (sx hS_ 24 rfl) (sx hS_ 23 rfl) ?_
     refine dn ?_
     refine wp_seq ?_
     refine cw_true rfl (decide_eq_true (by omega)) ?_
     refine wp_skip ?_
     refine then_norm ?_
     refine wp_seq ?_
     refine wp_block ?_
     refine sr ?_
     obtain ⟨Ad357, c358, hv359⟩ := sl_form (hC.getP 0 rfl) i349 hi355
     refine s_iaddrS (len := ((a0.images.getD i201 default).terms).length) Try.underlying44 ag86.size (tr (sx hS_ 22 rfl) hv359) (sx hS_ 24 rfl) (Int.natCast_nonneg _) (Int.ofNat_lt.2 hi355) ?_
     refine s_loadCA (Term.enc (((a0.images.getD i201 default).terms).getD i349 default)) (sl_cellsE (hC.getP 0 rfl) hv359 i349 hi355) ag86 rfl rfl ?_
     refine s_alloc hC (Term.enc (⟨A8.zero, 0⟩ : Term)) z86 rfl fun b360 w362 hB_ hC => ?_
     refine s_store (v := .agg (List.toArray (Term.enc (((a0.images.getD i201 default).terms).getD i349 default)))) hC 0 (Term.enc (((a0.images.getD i201 default).terms).getD i349 default)) (Term.enc (((a0.images.getD i201 default).terms).getD i349 default)) rfl ag86.size rfl rfl rfl rfl rfl (Nat.le_of_ble_eq_true rfl) rfl fun w363 hC => ?_
     refine dn ?_
     refine sr ?_
     refine s_faddrB 0 Try.underlying86 rfl ag84.size rfl rfl ?_
     refine s_loadA hC 0 (A8.enc .u8 ((((a0.images.getD i201 default).terms).getD i349 default).mono)) rfl ag84 rfl rfl rfl ?_
     refine s_mv (v := .int .i64 0) rfl ?_
     refine dn ?_
     refine wp_block ?_
     refine loopN (S := Unit) _ _ (fun i374 s375 e_ w_ => Slots e_ [(1, .pointer (some ⟨b5, 0, none⟩)), (2, .bool false), (3, .int .i64 0), (5, .int .i64 (i201 : Int)), (6, .pointer (some ⟨b218, 0, none⟩)), (8, .pointer (some ⟨b360, 0, none⟩)), (16, u0_1), (17, .int .i64 (a0.images.length : Int)), (18, .int .i64 (i201 : Int)), (19, .bool (decide ((i201 : Int) < (a0.images.length : Int)))), (20, .int .i64 (i201 : Int)), (21, .pointer (some (Ad209.add (i201 * 1)))), (22, .agg #[u212]), (23, .pointer (some ⟨b5, 0, none⟩)), (24, u0_0), (25, .int .i64 (i201 : Int)), (26, .pointer (some (Ad224.add (i201 * 1)))), (27, .int .i64 (a0.degrees.getD i201 default)), (28, .int .i64 (Int.tmod (a0.degrees.getD i201 default) 2)), (29, .bool (decide (Int.tmod (a0.degrees.getD i201 default) 2 = 0))), (30, .bool (decide (Int.tmod (a0.degrees.getD i201 default) 2 = 0))), (35, .bool false), (36, .pointer (some ⟨b218, 0, none⟩)), (37, u212), (38, .int .i64 (((a0.images.getD i201 default).terms).length : Int)), (39, .int .i64 (i349 : Int)), (40, .bool (decide ((i349 : Int) < (((a0.images.getD i201 default).terms).length : Int)))), (41, .pointer (some (Ad357.add (i349 * 9)))), (42, .agg (List.toArray (Term.enc (((a0.images.getD i201 default).terms).getD i349 default)))), (43, .pointer (some ⟨b360, 0, none⟩)), (44, .agg (List.toArray (A8.enc .u8 ((((a0.images.getD i201 default).terms).getD i349 default).mono)))), (45, .int .i64 (i374 : Int))] ∧ Ctx Nox w0 w_ [blk b360 86 (Term.enc (((a0.images.getD i201 default).terms).getD i349 default)), blk b218 46 [u212], blk b5 31 [u0_0, u0_1]] [Ty.item ETerm.ty.sl ((a0.images.getD i201 default).terms) [u212] fp0, Ty.item TForm.sl a0.images [u0_1] fp0, Ty.item ((EI .i64).ty.sl) a0.degrees [u0_0] fp0, Ty.item TAlg a0 [u0_0, u0_1] fp0]) 8 ?_ ?_ (s0 := ()) ?_ h
     ·clear hC h
      rintro i374 s375 e_ w380 next376 K377 hi379 ⟨hS_, hC⟩ h hK378
      refine sr ?_
      refine s_lss (sx hS_ 31 rfl) rfl ?_
      refine dn ?_
      refine wp_seq ?_
      refine cw_true rfl (decide_eq_true (by omega)) ?_
      refine wp_skip ?_
      refine then_norm ?_
      refine wp_seq ?_
      refine wp_block ?_
      refine sr ?_
      refine s_mv (v := .int .i64 (i374 : Int)) (sx hS_ 31 rfl) ?_
      refine s_index (.int .u8 (((((a0.images.getD i201 default).terms).getD i349 default).mono).get i374)) Try.underlying84 (sx hS_ 30 rfl) (sx hS_ 31 rfl) (Int.natCast_nonneg _) (by omega) sc5 (A8.enc_get _ _ hi379) ?_
      refine s_as (v := .int .i64 (i374 : Int)) rfl ?_
      refine s_as (v := .int .u8 (((((a0.images.getD i201 default).terms).getD i349 default).mono).get i374)) rfl ?_
      refine dn ?_
      refine sr ?_
      refine s_mv (v := .int .u8 (((((a0.images.getD i201 default).terms).getD i349 default).mono).get i374)) rfl ?_
      refine s_gtr rfl rfl ?_
      refine s_mv (v := .bool (decide (((((a0.images.getD i201 default).terms).getD i349 default).mono).get i374 > 0))) rfl ?_
      refine bsplit (decide (((((a0.images.getD i201 default).terms).getD i349 default).mono).get i374 > 0)) (fun hb381 => ?_) (fun hb381 => ?_)
      ·replace h := ift h (ct hb381)
       refine guardOn 2 51 rfl rfl hb381 ?_
       refine s_faddrB 0 Try.underlying31 rfl sc22.size (sx hS_ 0 rfl) rfl ?_
       refine guardOn 2 51 rfl rfl hb381 ?_
       refine s_loadS hC 2 (u0_0) rfl sc22 rfl rfl ?_
       refine guardOn 2 51 rfl rfl hb381 ?_
       refine s_mv (v := .int .i64 (i374 : Int)) rfl ?_
       refine guardOn 2 51 rfl rfl hb381 ?_
       obtain ⟨⟨h0_382, h1_383⟩, h⟩ := h
       obtain ⟨Ad384, c385, hv386⟩ := sl_form (hC.getP 2 rfl) i374 (show i374 < a0.degrees.length by omega)
       refine s_iaddrS (len := a0.degrees.length) Try.underlying22 sc2.size (tr rfl hv386) rfl h0_382 h1_383 ?_
       refine guardOn 2 51 rfl rfl hb381 ?_
       refine s_loadCS (.int .i64 (a0.degrees.getD i374 default)) (sl_cellsE (hC.getP 2 rfl) hv386 i374 (show i374 < a0.degrees.length by omega)) sc2 rfl ?_
       refine guardOn 2 51 rfl rfl hb381 ?_
       refine s_rem rfl rfl (by decide) ?_
       refine guardOn 2 51 rfl rfl hb381 ?_
       refine s_eql rfl rfl ?_
       refine s_pick (v := .bool (decide (Int.tmod (a0.degrees.getD i374 default) 2 = 1))) (b := true) (tr rfl (congrArg _ hb381)) rfl ?_
       refine dn ?_
       refine cw_cond rfl (fun hb387 => ?_) (fun hb387 => ?_)
       ·replace h := ift h (ct hb387)
        refine sr ?_
        refine s_as (v := .bool false) rfl ?_
        refine s_as (v := .int .i64 0) rfl ?_
        refine dn ?_
        refine wp_ret (blk_ret (then_ret (then_ret (blk_ret (blk_ret (then_ret (then_ret (blk_ret (blk_ret (then_ret (then_ret (blk_ret (then_ret ?_)))))))))))))
        refine ret2 (fn := Try.f19) rfl ?_ ?_ ⟨false, 0, rfl, h, hC.below⟩ (.inl rfl)
        ·exact res_tmp rfl
        ·exact res_tmp rfl
       ·replace h := iff_ h (cf hb387)
        refine wp_skip ?_
        refine blk_norm ?_
        refine then_norm ?_
        refine cw_region ?_
        refine s_add (sx hS_ 31 rfl) rfl ?_
        refine s_mv (v := .int .i64 (IntKind.i64.wrap ((i374 : Int) + 1))) rfl ?_
        refine done ?_
        exact hK378 () _ _ ⟨(sk (sx hS_ 0 rfl) (sk (sx hS_ 1 rfl) (sk (sx hS_ 2 rfl) (sk (sx hS_ 3 rfl) (sk (sx hS_ 4 rfl) (sk (sx hS_ 5 rfl) (sk (sx hS_ 6 rfl) (sk (sx hS_ 7 rfl) (sk (sx hS_ 8 rfl) (sk (sx hS_ 9 rfl) (sk (sx hS_ 10 rfl) (sk (sx hS_ 11 rfl) (sk (sx hS_ 12 rfl) (sk (sx hS_ 13 rfl) (sk (sx hS_ 14 rfl) (sk (sx hS_ 15 rfl) (sk (sx hS_ 16 rfl) (sk (sx hS_ 17 rfl) (sk (sx hS_ 18 rfl) (sk (sx hS_ 19 rfl) (sk (sx hS_ 20 rfl) (sk (sx hS_ 21 rfl) (sk (sx hS_ 22 rfl) (sk (sx hS_ 23 rfl) (sk (sx hS_ 24 rfl) (sk (sx hS_ 25 rfl) (sk (sx hS_ 26 rfl) (sk (sx hS_ 27 rfl) (sk (sx hS_ 28 rfl) (sk (sx hS_ 29 rfl) (sk (sx hS_ 30 rfl) (sk (tr rfl (congrArg _ (wrap64_nat hi379 (by decide)))) sn)))))))))))))))))))))))))))))))), hC⟩ h
      ·replace h := iff_ h (cf hb381)
       refine guardOff (b := false) 2 51 rfl (tr rfl (congrArg _ hb381)) (by decide) ?_
       refine guardOff (b := false) 2 51 rfl (tr rfl (congrArg _ hb381)) (by decide) ?_
       refine guardOff (b := false) 2 51 rfl (tr rfl (congrArg _ hb381)) (by decide) ?_
       refine guardOff (b := false) 2 51 rfl (tr rfl (congrArg _ hb381)) (by decide) ?_
       refine guardOff (b := false) 2 51 rfl (tr rfl (congrArg _ hb381)) (by decide) ?_
       refine guardOff (b := false) 2 51 rfl (tr rfl (congrArg _ hb381)) (by decide) ?_
       refine guardOff (b := false) 2 51 rfl (tr rfl (congrArg _ hb381)) (by decide) ?_
       refine s_pick (v := .bool false) (b := false) (tr rfl (congrArg _ hb381)) rfl ?_
       refine dn ?_
       refine cw_false rfl rfl ?_
       refine wp_skip ?_
       refine blk_norm ?_
       refine then_norm ?_
       refine cw_region ?_
       refine s_add (sx hS_ 31 rfl) rfl ?_
       refine s_mv (v := .int .i64 (IntKind.i64.wrap ((i374 : Int) + 1))) rfl ?_
       refine done ?_
       exact hK378 () _ _ ⟨(sk (sx hS_ 0 rfl) (sk (sx hS_ 1 rfl) (sk (sx hS_ 2 rfl) (sk (sx hS_ 3 rfl) (sk (sx hS_ 4 rfl) (sk (sx hS_ 5 rfl) (sk (sx hS_ 6 rfl) (sk (sx hS_ 7 rfl) (sk (sx hS_ 8 rfl) (sk (sx hS_ 9 rfl) (sk (sx hS_ 10 rfl) (sk (sx hS_ 11 rfl) (sk (sx hS_ 12 rfl) (sk (sx hS_ 13 rfl) (sk (sx hS_ 14 rfl) (sk (sx hS_ 15 rfl) (sk (sx hS_ 16 rfl) (sk (sx hS_ 17 rfl) (sk (sx hS_ 18 rfl) (sk (sx hS_ 19 rfl) (sk (sx hS_ 20 rfl) (sk (sx hS_ 21 rfl) (sk (sx hS_ 22 rfl) (sk (sx hS_ 23 rfl) (sk (sx hS_ 24 rfl) (sk (sx hS_ 25 rfl) (sk (sx hS_ 26 rfl) (sk (sx hS_ 27 rfl) (sk (sx hS_ 28 rfl) (sk (sx hS_ 29 rfl) (sk (sx hS_ 30 rfl) (sk (tr rfl (congrArg _ (wrap64_nat hi379 (by decide)))) sn)))))))))))))))))))))))))))))))), hC⟩ h
     ·clear hC h
      rintro s375 e_ w388 K377 ⟨hS_, hC⟩ h
      refine sr ?_
      refine s_lss (sx hS_ 31 rfl) rfl ?_
      refine dn ?_
      refine wp_seq ?_
      refine cw_false rfl (decide_eq_false (by omega)) ?_
      refine wp_exit (then_exit (then_exit (exit_in ?_)))
      refine blk_norm ?_
      refine then_norm ?_
      refine cw_region ?_
      refine s_add (sx hS_ 25 rfl) rfl ?_
      refine s_mv (v := .int .i64 (IntKind.i64.wrap ((i349 : Int) + 1))) rfl ?_
      refine done ?_
      replace hC := hC.sel [1, 2] [0, 1, 2, 3] (M' := [blk b218 46 [u212], blk b5 31 [u0_0, u0_1]]) (Ps' := [Ty.item ETerm.ty.sl ((a0.images.getD i201 default).terms) [u212] fp0, Ty.item TForm.sl a0.images [u0_1] fp0, Ty.item ((EI .i64).ty.sl) a0.degrees [u0_0] fp0, Ty.item TAlg a0 [u0_0, u0_1] fp0]) (by decide) rfl rfl
      exact hK354 () _ _ ⟨(sk (sx hS_ 0 rfl) (sk (sx hS_ 1 rfl) (sk (sx hS_ 2 rfl) (sk (sx hS_ 3 rfl) (sk (sx hS_ 4 rfl) (sk (sx hS_ 6 rfl) (sk (sx hS_ 7 rfl) (sk (sx hS_ 8 rfl) (sk (sx hS_ 9 rfl) (sk (sx hS_ 10 rfl) (sk (sx hS_ 11 rfl) (sk (sx hS_ 12 rfl) (sk (sx hS_ 13 rfl) (sk (sx hS_ 14 rfl) (sk (sx hS_ 15 rfl) (sk (sx hS_ 16 rfl) (sk (sx hS_ 17 rfl) (sk (sx hS_ 18 rfl) (sk (sx hS_ 19 rfl) (sk (sx hS_ 20 rfl) (sk (sx hS_ 21 rfl) (sk (sx hS_ 22 rfl) (sk (sx hS_ 23 rfl) (sk (sx hS_ 24 rfl) (sk (tr rfl (congrArg _ (wrap64_nat hi355 hN351))) sn))))))))))))))))))))))))), hC⟩ h
     ·skip
      exact ⟨(sk (sx hS_ 0 rfl) (sk (sx hS_ 1 rfl) (sk (sx hS_ 2 rfl) (sk (sx hS_ 3 rfl) (sk (sx hS_ 4 rfl) (sk rfl (sk (sx hS_ 5 rfl) (sk (sx hS_ 6 rfl) (sk (sx hS_ 7 rfl) (sk (sx hS_ 8 rfl) (sk (sx hS_ 9 rfl) (sk (sx hS_ 10 rfl) (sk (sx hS_ 11 rfl) (sk (sx hS_ 12 rfl) (sk (sx hS_ 13 rfl) (sk (sx hS_ 14 rfl) (sk (sx hS_ 15 rfl) (sk (sx hS_ 16 rfl) (sk (sx hS_ 17 rfl) (sk (sx hS_ 18 rfl) (sk (sx hS_ 19 rfl) (sk (sx hS_ 20 rfl) (sk (sx hS_ 21 rfl) (sk (sx hS_ 22 rfl) (sk (sx hS_ 23 rfl) (sk (sx hS_ 24 rfl) (sk rfl (sk rfl (sk rfl (sk rfl (sk rfl (sk rfl sn)))))))))))))))))))))))))))))))), hC⟩
    ·clear hC h
     rintro s350 e_ w389 K353 ⟨hS_, hC⟩ h
     refine sr ?_
     refine s_lss (sx hS_ 24 rfl) (sx hS_ 23 rfl) ?_
     refine dn ?_
     refine wp_seq ?_
     refine cw_false rfl (decide_eq_false (by omega)) ?_
     refine wp_exit (then_exit (then_exit (exit_in ?_)))
     refine blk_norm ?_
     refine then_norm ?_
     refine cw_region ?_
     refine s_add (sx hS_ 7 rfl) rfl ?_
     refine s_mv (v := .int .i64 (IntKind.i64.wrap ((i201 : Int) + 1))) rfl ?_
     refine done ?_
     replace hC := hC.sel [1] [1, 2, 3] (M' := [blk b5 31 [u0_0, u0_1]]) (Ps' := [Ty.item TForm.sl a0.images [u0_1] fp0, Ty.item ((EI .i64).ty.sl) a0.degrees [u0_0] fp0, Ty.item TAlg a0 [u0_0, u0_1] fp0]) (by decide) rfl rfl
     exact hK206 () _ _ ⟨(sk (sx hS_ 0 rfl) (sk (sx hS_ 1 rfl) (sk (sx hS_ 2 rfl) (sk (sx hS_ 5 rfl) (sk (sx hS_ 6 rfl) (sk (tr rfl (congrArg _ (wrap64_nat hi207 hN203))) sn)))))), hC⟩ h
    ·skip
     exact ⟨(sk (sx hS_ 0 rfl) (sk (sx hS_ 1 rfl) (sk (sx hS_ 2 rfl) (sk rfl (sk rfl (sk (sx hS_ 3 rfl) (sk (sx hS_ 4 rfl) (sk (sx hS_ 5 rfl) (sk rfl (sk rfl (sk rfl (sk rfl (sk rfl (sk rfl (sk rfl (sk rfl (sk rfl (sk rfl (sk rfl (sk rfl (sk rfl (sk rfl (sk rfl (sk rfl (sk rfl sn))))))))))))))))))))))))), hC⟩
  ·clear hC h
   rintro s202 e_ w390 K205 ⟨hS_, hC⟩ h
   refine sr ?_
   refine s_lss (sx hS_ 5 rfl) (sx hS_ 4 rfl) ?_
   refine dn ?_
   refine wp_seq ?_
   refine cw_false rfl (decide_eq_false (by omega)) ?_
   refine wp_exit (then_exit (then_exit (exit_in ?_)))
   refine then_norm ?_
   refine sr ?_
   refine s_as (v := .bool true) rfl ?_
   refine s_as (v := .int .i64 0) rfl ?_
   refine dn ?_
   refine wp_ret ?_
   refine ret2 (fn := Try.f19) rfl ?_ ?_ ⟨true, 0, rfl, h, hC.below⟩ (.inl rfl)
   ·exact res_tmp rfl
   ·exact res_tmp rfl
  ·skip
   exact ⟨(sk rfl (sk rfl (sk rfl (sk rfl (sk rfl (sk rfl sn)))))), hC⟩
def f_impl_first (a0 : List Int) (K : Int → Prop) : Prop :=
 forN (fun i12 (s13 : Unit) next15 => (if a0.getD i12 default ≠ 0 then K (a0.getD i12 default) else next15 ())) (fun (s13 : Unit) => K 0) a0.length 0 ()
theorem c_impl_first (a0 : List Int) {u0_0 : Value} {fp0 : List Nat} {K : Int → Prop} (h : f_impl_first a0 K) (w0 : World) (q0 : ((EI .i64).ty.sl).rep a0 [u0_0] fp0 w0) :
  Calls Try.prog 98 #[u0_0] w0 fun e w' => ∃ (r0 : Int), 
   e = .returned (.int .i64 r0) ∧ K r0 ∧ Bel w0 w' := by
 unfold f_impl_first at h
 refine calls_of (args := [u0_0]) Try.func98 rfl 15 Try.ntmps98 (Nat.le_of_ble_eq_true rfl) ?_
 have hC := Ctx.start (X := Nox) w0 [Ty.item ((EI .i64).ty.sl) a0 [u0_0] fp0] (by simp only [List.mem_cons, List.not_mem_nil, or_false, forall_eq_or_imp, forall_eq]; exact q0)
 refine sr ?_
 refine s_as (v := .int .i64 0) rfl ?_
 refine dn ?_
 refine wp_seq ?_
 refine sr ?_
 refine s_mv (v := u0_0) rfl ?_
 obtain ⟨Ad2, c3, hv4⟩ := sl_len (hC.getP 0 rfl)
 refine s_len Try.underlying22 (tr rfl hv4) ?_
 refine s_mv (v := .int .i64 0) rfl ?_
 refine dn ?_
 refine wp_block ?_
 have hN14 : a0.length ≤ 9223372036854775807 := sl_max (hC.getP 0 rfl)
 refine loopN (S := Unit) _ _ (fun i12 s13 e_ w_ => Slots e_ [(2, .int .i64 0), (5, u0_0), (6, .int .i64 (a0.length : Int)), (7, .int .i64 (i12 : Int))] ∧ Ctx Nox w0 w_ [] [Ty.item ((EI .i64).ty.sl) a0 [u0_0] fp0]) a0.length ?_ ?_ (s0 := ()) ?_ h
 ·clear hC h
  rintro i12 s13 e_ w19 next15 K16 hi18 ⟨hS_, hC⟩ h hK17
  refine sr ?_
  refine s_lss (sx hS_ 3 rfl) (sx hS_ 2 rfl) ?_
  refine dn ?_
  refine wp_seq ?_
  refine cw_true rfl (decide_eq_true (by omega)) ?_
  refine wp_skip ?_
  refine then_norm ?_
  refine wp_seq ?_
  refine wp_block ?_
  refine sr ?_
  obtain ⟨Ad20, c21, hv22⟩ := sl_form (hC.getP 0 rfl) i12 hi18
  refine s_iaddrS (len := a0.length) Try.underlying22 sc2.size (tr (sx hS_ 1 rfl) hv22) (sx hS_ 3 rfl) (Int.natCast_nonneg _) (Int.ofNat_lt.2 hi18) ?_
  refine s_loadCS (.int .i64 (a0.getD i12 default)) (sl_cellsE (hC.getP 0 rfl) hv22 i12 hi18) sc2 rfl ?_
  refine s_as (v := .int .i64 (a0.getD i12 default)) rfl ?_
  refine dn ?_
  refine sr ?_
  refine s_mv (v := .int .i64 (a0.getD i12 default)) rfl ?_
  refine s_neq rfl rfl ?_
  refine dn ?_
  refine cw_cond rfl (fun hb23 => ?_) (fun hb23 => ?_)
  ·replace h := ift h (ct hb23)
   refine sr ?_
   refine s_mv (v := .int .i64 (a0.getD i12 default)) rfl ?_
   refine s_as (v := .int .i64 (a0.getD i12 default)) rfl ?_
   refine dn ?_
   refine wp_ret (blk_ret (then_ret (then_ret (blk_ret (then_ret ?_)))))
   refine ret1 (fn := Try.f98) rfl ?_ ⟨a0.getD i12 default, rfl, h, hC.below⟩ (.inl rfl)
   exact res_tmp rfl
  ·replace h := iff_ h (cf hb23)
   refine wp_skip ?_
   refine blk_norm ?_
   refine then_norm ?_
   refine cw_region ?_
   refine s_add (sx hS_ 3 rfl) rfl ?_
   refine s_mv (v := .int .i64 (IntKind.i64.wrap ((i12 : Int) + 1))) rfl ?_
   refine done ?_
   exact hK17 () _ _ ⟨(sk (sx hS_ 0 rfl) (sk (sx hS_ 1 rfl) (sk (sx hS_ 2 rfl) (sk (tr rfl (congrArg _ (wrap64_nat hi18 hN14))) sn)))), hC⟩ h
 ·clear hC h
  rintro s13 e_ w24 K16 ⟨hS_, hC⟩ h
  refine sr ?_
  refine s_lss (sx hS_ 3 rfl) (sx hS_ 2 rfl) ?_
  refine dn ?_
  refine wp_seq ?_
  refine cw_false rfl (decide_eq_false (by omega)) ?_
  refine wp_exit (then_exit (then_exit (exit_in ?_)))
  refine then_norm ?_
  refine sr ?_
  refine s_as (v := .int .i64 0) rfl ?_
  refine dn ?_
  refine wp_ret ?_
  refine ret1 (fn := Try.f98) rfl ?_ ⟨0, rfl, h, hC.below⟩ (.inl rfl)
  exact res_tmp rfl
 ·skip
  exact ⟨(sk rfl (sk rfl (sk rfl (sk rfl sn)))), hC⟩
def f_spec_DifferentialOfForm (a0 : Alg) (a1 : Vc.Form) (K : Vc.Form → Int → Prop) : Prop :=
 f_spec_l02Both a0 a1 (fun r20 => (if r20 ≠ 0 then K (⟨[]⟩ : Vc.Form) r20 else f_spec_l02D a0 a1 (fun r30 => f_spec_l01Told a0.degrees (⟨r30.terms⟩ : Vc.Form) (fun r48 r53 => K r48 r53))))
theorem c_spec_DifferentialOfForm (a0 : Alg) (a1 : Vc.Form) {u0_0 : Value} {u0_1 : Value} {u1_0 : Value} {fp0 : List Nat} {fp1 : List Nat} {K : Vc.Form → Int → Prop} (h : f_spec_DifferentialOfForm a0 a1 K) (w0 : World) (q0 : TAlg.rep a0 [u0_0, u0_1] fp0 w0) (q1 : TForm.rep a1 [u1_0] fp1 w0) :
  Calls Try.prog 33 #[.agg #[u0_0, u0_1], .agg #[u1_0]] w0 fun e w' => ∃ (r0 : Vc.Form) (z0_0 : Value) (fz0 : List Nat) (r1 : Int), 
   e = .returned (.tuple #[.agg #[z0_0], .int .i64 r1]) ∧ K r0 r1 ∧ TForm.rep r0 [z0_0] fz0 w' ∧ (∀ b, b ∈ fz0 → w0.heap.size ≤ b ∨ b ∈ (fp0 ++ (fp1))) ∧ Bel w0 w' := by
 unfold f_spec_DifferentialOfForm at h
 refine calls_of (args := [.agg #[u0_0, u0_1], .agg #[u1_0]]) Try.func33 rfl 22 Try.ntmps33 (Nat.le_of_ble_eq_true rfl) ?_
 have hC := Ctx.start (X := Nox) w0 [Ty.item TAlg a0 [u0_0, u0_1] fp0, Ty.item TForm a1 [u1_0] fp1] (by simp only [List.mem_cons, List.not_mem_nil, or_false, forall_eq_or_imp, forall_eq]; exact ⟨q0, q1⟩)
 have hp3 := (hC.getP 0 rfl)
 replace hC := hC.derive 0 rfl (Ty.item ((EI .i64).ty.sl) a0.degrees [u0_0] fp0) (fun _ => (alg_parts hp3).1) (fun _ hb_ => hb_)
 replace hC := hC.derive 1 rfl (Ty.item TForm.sl a0.images [u0_1] fp0) (fun _ => (alg_parts hp3).2) (fun _ hb_ => hb_)
 have hp6 := (hC.getP 3 rfl)
 replace hC := hC.derive 3 rfl (Ty.item ETerm.ty.sl a1.terms [u1_0] fp1) (fun _ => (form_parts hp6)) (fun _ hb_ => hb_)
 refine sr ?_
 refine s_box (v := .agg #[u0_0, u0_1]) hC [u0_0, u0_1] rfl rfl fun b8 w10 hB_ hC => ?_
 refine s_box (v := .agg #[u1_0]) hC [u1_0] rfl rfl fun b11 w13 hB_ hC => ?_
 refine s_alloc hC [.slice none 0 0] z46 rfl fun b14 w16 hB_ hC => ?_
 refine s_as (v := .int .i64 0) rfl ?_
 refine dn ?_
 refine wp_seq ?_
 refine sr ?_
 refine s_loadA hC 2 [u0_0, u0_1] rfl ag31 rfl rfl rfl ?_
 refine s_loadA hC 1 [u1_0] rfl ag46 rfl rfl rfl ?_
 refine s_call [.agg #[u0_0, u0_1], .agg #[u1_0]] _ Try.func67 rfl rfl rfl (c_spec_l02Both a0 a1 h _ (alg_mk (hC.getP 2 rfl) (hC.getP 1 rfl)) (form_mk (hC.getP 0 rfl))) (fun ret17 w19 hR18 => ?_)
 obtain ⟨r20, rfl, h, hB21⟩ := hR18
 refine ⟨_, rfl, ?_⟩
 replace hC := hC.grow hB21
 refine s_as (v := .int .i64 r20) rfl ?_
 refine dn ?_
 refine sr ?_
 refine s_mv (v := .int .i64 r20) rfl ?_
 refine s_neq rfl rfl ?_
 refine dn ?_
 refine cw_cond rfl (fun hb22 => ?_) (fun hb22 => ?_)
 ·replace h := ift h (ct hb22)
  refine sr ?_
  refine s_build [] rfl (bl46   _) ?_
  refine s_mv (v := .int .i64 r20) rfl ?_
  refine s_store (v := .agg #[.slice none 0 0]) hC 0 [.slice none 0 0] [.slice none 0 0] rfl ag46.size rfl rfl rfl rfl rfl (Nat.le_of_ble_eq_true rfl) rfl fun w23 hC => ?_
  refine s_as (v := .int .i64 r20) rfl ?_
  refine dn ?_
  refine wp_ret (then_ret ?_)
  refine ret2 (fn := Try.f33) rfl ?_ ?_ ⟨(⟨[]⟩ : Vc.Form), .slice none 0 0, [], r20, rfl, h, (form_mk (rep_nil _ _)), (fun b hb => .inl ((fun b hb => absurd hb (by simp)) b hb)), hC.below⟩ (.inl rfl)
  ·exact res_cellA hC 0 rfl ag46 rfl rfl
  ·exact res_tmp rfl
 ·replace h := iff_ h (cf hb22)
  refine wp_skip ?_
  refine then_norm ?_
  refine wp_seq ?_
  refine cw_draw 8 mixed [0, 1, 0, 0, 12, 31, 63, 63, 255, 511] [1, 2, 3] [0, 6, 7] (by kernel_rfl) (by kernel_rfl) (by kernel_rfl) (fun hM25 hM26 w24 hB_ => ?_)
  replace hC := hC.grow hB_
  refine ae_lookF belPre 0 (.pointer (some ⟨b8, 0, none⟩)) rfl rfl (by kernel_rfl) (hM26 0 rfl) (fun w_ => .inl ⟨rfl, by exact r_faddrB 0 Try.underlying31 rfl sc22.size rfl rfl⟩) (listed' := (dbits 10 1)) (by kernel_rfl) ?_
  refine ae_look belPre 1 (u0_0) rfl rfl (by kernel_rfl) (hM25 1 rfl) (fun w_ hB_ => .inl ⟨rfl, by exact r_loadS (hC.grow hB_) 2 (u0_0) rfl sc22 rfl rfl⟩) (listed' := (dbits 10 3)) (by kernel_rfl) ?_
  refine ae_look belPre 2 (.agg #[u0_0, u0_1]) rfl rfl (by kernel_rfl) (hM25 2 rfl) (fun w_ hB_ => .inl ⟨rfl, by exact r_loadA (hC.grow hB_) 2 [u0_0, u0_1] rfl ag31 rfl rfl rfl⟩) (listed' := (dbits 10 7)) (by kernel_rfl) ?_
  refine ae_look belPre 3 (.agg #[u1_0]) rfl rfl (by kernel_rfl) (hM25 3 rfl) (fun w_ hB_ => .inl ⟨rfl, by exact r_loadA (hC.grow hB_) 1 [u1_0] rfl ag46 rfl rfl rfl⟩) (listed' := (dbits 10 15)) (by kernel_rfl) ?_
  refine ae_one 4 rfl (by kernel_rfl) ?_
  refine s_call [.agg #[u0_0, u0_1], .agg #[u1_0]] _ Try.func69 rfl rfl rfl (c_spec_l02D a0 a1 h _ (alg_mk (hC.getP 2 rfl) (hC.getP 1 rfl)) (form_mk (hC.getP 0 rfl))) (fun ret27 w29 hR28 => ?_)
  obtain ⟨r30, u31, f32, rfl, h, hr33, hf34, hB35⟩ := hR28
  refine ⟨_, rfl, ?_⟩
  replace hC := hC.push hB35 (Tr.item (TrForm 86) r30 [u31] f32) hr33 hf34
  obtain ⟨ho37, hf38⟩ := form_split (hC.getM 0 rfl)
  subst hf38
  replace hC := hC.recast (c := own 86 9 u31 r30.terms.length (ETerm.encs r30.terms)) (fun _ h_ => h_) (fun _ => ho37)
  refine done ?_
  refine ak_intro (by assumption) (listed' := (dbits 10 31)) (by kernel_rfl) ?_
  refine ae_one 5 rfl (by kernel_rfl) ?_
  have hs43 := own_fresh hC 0 rfl
  replace hC := hC.thaw 0 rfl (Ty.item ETerm.ty.sl r30.terms [u31] (Option.toList (Value.ownBlock u31))) own_repE (fun _ hb_ => hb_)
  refine s_call [u0_0, .agg #[u31]] _ Try.func68 rfl rfl rfl (c_spec_l01Told a0.degrees (⟨r30.terms⟩ : Vc.Form) h _ (hC.getP 3 rfl) (form_mk (hC.getP 0 rfl))) (fun ret45 w47 hR46 => ?_)
  obtain ⟨r48, u49, f50, r53, rfl, h, hr51, hf52, hB54⟩ := hR46
  refine ⟨_, rfl, ?_⟩
  have hs55 : ∀ b, b ∈ f50 → w0.heap.size ≤ b ∨ b ∈ (fp0 ++ (fp1)) := (fun b hb => (hf52 b hb).elim (fun h_ => .inl (Nat.le_trans hC.size h_)) (fun hb => (List.mem_append.1 hb).elim (fun hb => .inr (List.mem_append_left _ hb)) (fun hb => .inl (hs43 b hb))))
  replace hC := hC.pushR hB54 (Ty.item TForm r48 [u49] f50) hr51 (fun b hb => (hf52 b hb).elim .inl (fun hb => .inr ((List.mem_append.1 hb).elim (fun hb => ⟨_, List.mem_of_getElem? (i := 3) rfl, hb⟩) (fun hb => ⟨_, List.mem_of_getElem? (i := 0) rfl, hb⟩))))
  have hp57 := (hC.getP 0 rfl)
  replace hC := hC.derive 0 rfl (Ty.item ETerm.ty.sl r48.terms [u49] f50) (fun _ => (form_parts hp57)) (fun _ hb_ => hb_)
  refine done ?_
  refine ak_intro (by assumption) (listed' := (dbits 10 63)) (by kernel_rfl) ?_
  refine ae_lookF belPre 6 (.agg #[u49]) rfl rfl (by kernel_rfl) (hM26 6 rfl) (fun w_ => .inl ⟨rfl, by exact r_ext (v := .agg #[u49]) rfl rfl⟩) (listed' := (dbits 10 127)) (by kernel_rfl) ?_
  refine ae_lookF belPre 7 (.int .i64 r53) rfl rfl (by kernel_rfl) (hM26 7 rfl) (fun w_ => .inl ⟨rfl, by exact r_ext (v := .int .i64 r53) rfl rfl⟩) (listed' := (dbits 10 255)) (by kernel_rfl) ?_
  refine ae_tail 8 (by decide) (by decide) (by kernel_rfl) (by kernel_rfl) rfl ?_
  refine s_store (v := .agg #[u49]) hC 0 [u49] [u49] rfl ag46.size rfl rfl rfl rfl (all_c (rep_oneC (hC.getP 0 rfl)) rfl) (Nat.le_of_ble_eq_true rfl) rfl fun w59 hC => ?_
  refine s_as (v := .int .i64 r53) rfl ?_
  refine done ?_
  refine qn_norm ?_
  refine then_norm ?_
  refine wp_ret ?_
  refine ret2 (fn := Try.f33) rfl ?_ ?_ ⟨r48, u49, f50, r53, rfl, h, (form_mk (hC.getP 0 rfl)), (fun b hb => hs55 b hb), hC.below⟩ (.inl rfl)
  ·exact res_cellA hC 0 rfl ag46 rfl rfl
  ·exact res_tmp rfl
end Go.Proofs.Ytgfmflmhcfkldaa
