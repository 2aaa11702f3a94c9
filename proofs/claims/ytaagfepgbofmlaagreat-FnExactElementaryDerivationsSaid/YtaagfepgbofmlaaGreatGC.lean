/- Printed by vcgen.py: functions of the program as predicates, and that the machine's calls meet them. -/
import Derived.Test.YtaagfepgbofmlaaGreatGA
import Derived.Test.YtaagfepgbofmlaaGreatVn
import Derived.KernelRfl
set_option linter.unusedVariables false
set_option linter.unusedSimpArgs false
set_option maxRecDepth 4000
set_option maxHeartbeats 4000000
namespace Go.Proofs.YtaagfepgbofmlaaGreat
open Go Go.RowKit Vc
theorem sc66 : ScaT Tryz.prog 66 := ⟨⟨_, Tryz.underlying66, rfl⟩, by kernel_rfl⟩
theorem ag50 : AggT Tryz.prog 50 1 := ⟨⟨_, Tryz.underlying50, rfl⟩, by kernel_rfl⟩
theorem sc23 : ScaT Tryz.prog 23 := ⟨⟨_, Tryz.underlying23, rfl⟩, by kernel_rfl⟩
theorem el55 : ElemT Tryz.prog 55 (.agg #[.slice none 0 0]) 1 24 := by unfold ElemT; kernel_rfl
theorem z32 : ZeroT Tryz.prog 32 (.agg #[.slice none 0 0, .slice none 0 0]) := by unfold ZeroT; kernel_rfl
def f_impl_IsAlgebra_1 (a0 : Vc.Form) (a1 : Alg) (K : Bool → Prop) : Prop :=
 f_impl_sumOf a0 (fun r15 => f_impl_Algebra_d a1 r15 (fun r24 => K (decide ((r24.length : Int) > 0))))
theorem c_impl_IsAlgebra_1 (a0 : Vc.Form) (a1 : Alg) {b1 : Nat} {u0_0 : Value} {u1_0 : Value} {u1_1 : Value} {fp0 : List Nat} {fp1 : List Nat} {K : Bool → Prop} (h : f_impl_IsAlgebra_1 a0 a1 K) (w0 : World) (q0 : TForm.rep a0 [u0_0] fp0 w0) (q1 : TAlg.rep a1 [u1_0, u1_1] fp1 w0) (qb1 : (blk b1 32 [u1_0, u1_1]).holds w0) :
  Calls Tryz.prog 153 #[.agg #[u0_0], .pointer (some ⟨b1, 0, none⟩)] w0 fun e w' => ∃ (r0 : Bool), 
   e = .returned (.bool r0) ∧ K r0 ∧ Bel w0 w' := by
 unfold f_impl_IsAlgebra_1 at h
 refine calls_of (args := [.agg #[u0_0], .pointer (some ⟨b1, 0, none⟩)]) Tryz.func153 rfl 9 Tryz.ntmps153 (Nat.le_of_ble_eq_true rfl) ?_
 have hC := Ctx.start (X := Nox) w0 [Ty.item TForm a0 [u0_0] fp0, Ty.item TAlg a1 [u1_0, u1_1] fp1, blk b1 32 [u1_0, u1_1]] (by simp only [List.mem_cons, List.not_mem_nil, or_false, forall_eq_or_imp, forall_eq]; exact ⟨q0, q1, qb1⟩)
 have hp4 := (hC.getP 0 rfl)
 replace hC := hC.derive 0 rfl (Ty.item ETerm.ty.sl a0.terms [u0_0] fp0) (fun _ => (form_parts hp4)) (fun _ hb_ => hb_)
 have hp6 := (hC.getP 2 rfl)
 replace hC := hC.derive 2 rfl (Ty.item ((EI .i64).ty.sl) a1.degrees [u1_0] fp1) (fun _ => (alg_parts hp6).1) (fun _ hb_ => hb_)
 replace hC := hC.derive 3 rfl (Ty.item TForm.sl a1.images [u1_1] fp1) (fun _ => (alg_parts hp6).2) (fun _ hb_ => hb_)
 refine sr ?_
 refine s_box (v := .agg #[u0_0]) hC [u0_0] rfl rfl fun b9 w11 hB_ hC => ?_
 refine s_as (v := .bool false) rfl ?_
 refine dn ?_
 refine sr ?_
 refine s_loadA hC 0 [u0_0] rfl ag55 rfl rfl rfl ?_
 refine s_call [.agg #[u0_0]] _ Tryz.func78 rfl rfl rfl (c_impl_sumOf a0 h _ (form_mk (hC.getP 2 rfl))) (fun ret12 w14 hR13 => ?_)
 obtain ⟨r15, b16, rfl, h, hr17, hf18, hB19⟩ := hR13
 refine ⟨_, rfl, ?_⟩
 replace hC := hC.push hB19 (mapI (kvA .i64) (vvI .i64) b16 r15) hr17 (fun b_ hb_ => by obtain rfl := List.mem_singleton.1 hb_; exact hf18)
 refine s_call [.pointer (some ⟨b1, 0, none⟩), .map (some b16)] _ Tryz.func154 rfl rfl rfl (c_impl_Algebra_d a1 r15 h _ (alg_mk (hC.getP 1 rfl) (hC.getP 0 rfl)) (hC.getP 5 rfl) (hC.getM 0 rfl)) (fun ret21 w23 hR22 => ?_)
 obtain ⟨r24, b25, rfl, h, hr26, hf27, hB28⟩ := hR22
 refine ⟨_, rfl, ?_⟩
 replace hC := hC.push hB28 (mapI (kvA .i64) (vvI .i64) b25 r24) hr26 (fun b_ hb_ => by obtain rfl := List.mem_singleton.1 hb_; exact hf27)
 refine s_maplen (hC.getM 0 rfl) Tryz.underlying115 rfl rfl ?_
 refine s_gtr rfl rfl ?_
 refine s_as (v := .bool (decide ((r24.length : Int) > 0))) rfl ?_
 refine dn ?_
 refine wp_ret ?_
 refine ret1 (fn := Tryz.f153) rfl ?_ ⟨decide ((r24.length : Int) > 0), rfl, h, hC.below⟩ (.inl rfl)
 exact res_tmp rfl
def f_slices_IndexFunc_impl_Form_impl_Form (a0 : List Vc.Form) (p1 : Vc.Form → (Bool → Prop) → Prop) (K : Int → Prop) : Prop :=
 forN (fun i23 (s24 : Unit) next26 => p1 (a0.getD i23 default) (fun r44 => (if r44 = true then K (i23 : Int) else next26 ()))) (fun (s24 : Unit) => K (-1)) a0.length 0 ()
theorem c_slices_IndexFunc_impl_Form_impl_Form (a0 : List Vc.Form) (p1 : Vc.Form → (Bool → Prop) → Prop) {u0_0 : Value} {fp0 : List Nat} {K : Int → Prop} (h : f_slices_IndexFunc_impl_Form_impl_Form a0 p1 K) (w0 : World) (q0 : TForm.sl.rep a0 [u0_0] fp0 w0) {g1 : Nat} {cp1 : List Value} {fn1 : Func} (hf1 : Tryz.prog.funcs[g1]? = some fn1) (hb1 : fn1.body.isNone = false) (hn1 : (fn1.name == "runtime.NumGoroutine") = false) (hp1 : ∀ (y0 : Vc.Form) (yu0_0 : Value) (yf0 : List Nat) (K_ : Bool → Prop) (w_ : World), Bel w0 w_ → TForm.rep y0 [yu0_0] yf0 w_ → p1 y0 K_ → Calls Tryz.prog g1 (List.toArray ([.agg #[yu0_0]] ++ cp1)) w_ fun e w' => ∃ (z0 : Bool), e = .returned (.bool z0) ∧ K_ z0 ∧ Bel w_ w') :
  Calls Tryz.prog 155 #[u0_0, .func (.func g1) #[] (List.toArray cp1)] w0 fun e w' => ∃ (r0 : Int), 
   e = .returned (.int .i64 r0) ∧ K r0 ∧ Bel w0 w' := by
 unfold f_slices_IndexFunc_impl_Form_impl_Form at h
 refine calls_of (args := [u0_0, .func (.func g1) #[] (List.toArray cp1)]) Tryz.func155 rfl 19 Tryz.ntmps155 (Nat.le_of_ble_eq_true rfl) ?_
 have hC := Ctx.start (X := Nox) w0 [Ty.item TForm.sl a0 [u0_0] fp0] (by simp only [List.mem_cons, List.not_mem_nil, or_false, forall_eq_or_imp, forall_eq]; exact q0)
 refine sr ?_
 refine s_as (v := .int .i64 0) rfl ?_
 refine dn ?_
 refine wp_seq ?_
 refine sr ?_
 refine s_mv (v := u0_0) rfl ?_
 obtain ⟨Ad2, c3, hv4⟩ := sl_len (hC.getP 0 rfl)
 refine s_len Tryz.underlying30 (tr rfl hv4) ?_
 refine s_mv (v := .int .i64 0) rfl ?_
 refine dn ?_
 refine wp_block ?_
 have hN25 : a0.length ≤ 9223372036854775807 := sl_max (hC.getP 0 rfl)
 refine loopN (S := Unit) _ _ (fun i23 s24 e_ w_ => Slots e_ [(0, u0_0), (1, .func (.func g1) #[] (List.toArray cp1)), (4, .int .i64 0), (7, .int .i64 (a0.length : Int)), (8, .int .i64 (i23 : Int))] ∧ Ctx Nox w0 w_ [] [Ty.item TForm.sl a0 [u0_0] fp0]) a0.length ?_ ?_ (s0 := ()) ?_ h
 ·clear hC h
  rintro i23 s24 e_ w30 next26 K27 hi29 ⟨hS_, hC⟩ h hK28
  refine sr ?_
  refine s_lss (sx hS_ 4 rfl) (sx hS_ 3 rfl) ?_
  refine dn ?_
  refine wp_seq ?_
  refine cw_true rfl (decide_eq_true (by omega)) ?_
  refine wp_skip ?_
  refine then_norm ?_
  refine wp_seq ?_
  refine wp_block ?_
  refine sr ?_
  refine s_mv (v := .int .i64 (i23 : Int)) (sx hS_ 4 rfl) ?_
  refine s_as (v := .int .i64 (i23 : Int)) rfl ?_
  refine dn ?_
  refine sr ?_
  refine s_mv (v := .func (.func g1) #[] (List.toArray cp1)) (sx hS_ 1 rfl) ?_
  refine s_mv (v := u0_0) (sx hS_ 0 rfl) ?_
  refine s_mv (v := .int .i64 (i23 : Int)) rfl ?_
  obtain ⟨Ad31, c32, hv33⟩ := sl_form (hC.getP 0 rfl) i23 hi29
  refine s_iaddrS (len := a0.length) Tryz.underlying30 ag55.size (tr rfl hv33) rfl (Int.natCast_nonneg _) (Int.ofNat_lt.2 hi29) ?_
  obtain ⟨cs_, hl35, hc36, hr37⟩ := sl_cells (hC.getP 0 rfl) hv33 i23 hi29
  obtain ⟨u34, rfl⟩ := List.length_eq_one_iff.1 hl35
  clear hl35
  rw [getD_eq _ _ hi29] at hr37
  have hp38 := hr37
  replace hC := hC.derive 0 rfl (Ty.item ETerm.ty.sl ((a0.getD i23 default).terms) [u34] fp0) (fun _ => (form_parts hp38)) (fun _ hb_ => hb_)
  refine s_loadCA [u34] hc36 ag55 rfl rfl ?_
  refine s_callv [.agg #[u34]] _ rfl hf1 hb1 hn1 rfl (hp1 _ _ _ _ _ hC.below (form_mk (hC.getP 0 rfl)) h) (fun ret40 w42 hR41 => ?_)
  obtain ⟨r44, rfl, h, hB43⟩ := hR41
  refine ⟨_, rfl, ?_⟩
  replace hC := hC.grow hB43
  refine dn ?_
  refine cw_cond rfl (fun hb45 => ?_) (fun hb45 => ?_)
  ·replace h := ift h (hb45)
   refine sr ?_
   refine s_mv (v := .int .i64 (i23 : Int)) rfl ?_
   refine s_as (v := .int .i64 (i23 : Int)) rfl ?_
   refine dn ?_
   refine wp_ret (blk_ret (then_ret (then_ret (blk_ret (then_ret ?_)))))
   refine ret1 (fn := Tryz.f155) rfl ?_ ⟨(i23 : Int), rfl, h, hC.below⟩ (.inl rfl)
   exact res_tmp rfl
  ·replace h := iff_ h (ne_t hb45)
   refine wp_skip ?_
   refine blk_norm ?_
   refine then_norm ?_
   refine cw_region ?_
   refine s_add (sx hS_ 4 rfl) rfl ?_
   refine s_mv (v := .int .i64 (IntKind.i64.wrap ((i23 : Int) + 1))) rfl ?_
   refine done ?_
   replace hC := hC.sP [1] (Ps' := [Ty.item TForm.sl a0 [u0_0] fp0]) rfl
   exact hK28 () _ _ ⟨(sk (sx hS_ 0 rfl) (sk (sx hS_ 1 rfl) (sk (sx hS_ 2 rfl) (sk (sx hS_ 3 rfl) (sk (tr rfl (congrArg _ (wrap64_nat hi29 hN25))) sn))))), hC⟩ h
 ·clear hC h
  rintro s24 e_ w46 K27 ⟨hS_, hC⟩ h
  refine sr ?_
  refine s_lss (sx hS_ 4 rfl) (sx hS_ 3 rfl) ?_
  refine dn ?_
  refine wp_seq ?_
  refine cw_false rfl (decide_eq_false (by omega)) ?_
  refine wp_exit (then_exit (then_exit (exit_in ?_)))
  refine then_norm ?_
  refine sr ?_
  refine s_as (v := .int .i64 (-1)) rfl ?_
  refine dn ?_
  refine wp_ret ?_
  refine ret1 (fn := Tryz.f155) rfl ?_ ⟨(-1), rfl, h, hC.below⟩ (.inl rfl)
  exact res_tmp rfl
 ·skip
  exact ⟨(sk rfl (sk rfl (sk rfl (sk rfl (sk rfl sn))))), hC⟩
def f_slices_ContainsFunc_impl_Form_impl_Form (a0 : List Vc.Form) (p1 : Vc.Form → (Bool → Prop) → Prop) (K : Bool → Prop) : Prop :=
 f_slices_IndexFunc_impl_Form_impl_Form a0 p1 (fun r5 => K (decide (r5 ≥ 0)))
theorem c_slices_ContainsFunc_impl_Form_impl_Form (a0 : List Vc.Form) (p1 : Vc.Form → (Bool → Prop) → Prop) {u0_0 : Value} {fp0 : List Nat} {K : Bool → Prop} (h : f_slices_ContainsFunc_impl_Form_impl_Form a0 p1 K) (w0 : World) (q0 : TForm.sl.rep a0 [u0_0] fp0 w0) {g1 : Nat} {cp1 : List Value} {fn1 : Func} (hf1 : Tryz.prog.funcs[g1]? = some fn1) (hb1 : fn1.body.isNone = false) (hn1 : (fn1.name == "runtime.NumGoroutine") = false) (hp1 : ∀ (y0 : Vc.Form) (yu0_0 : Value) (yf0 : List Nat) (K_ : Bool → Prop) (w_ : World), Bel w0 w_ → TForm.rep y0 [yu0_0] yf0 w_ → p1 y0 K_ → Calls Tryz.prog g1 (List.toArray ([.agg #[yu0_0]] ++ cp1)) w_ fun e w' => ∃ (z0 : Bool), e = .returned (.bool z0) ∧ K_ z0 ∧ Bel w_ w') :
  Calls Tryz.prog 97 #[u0_0, .func (.func g1) #[] (List.toArray cp1)] w0 fun e w' => ∃ (r0 : Bool), 
   e = .returned (.bool r0) ∧ K r0 ∧ Bel w0 w' := by
 unfold f_slices_ContainsFunc_impl_Form_impl_Form at h
 refine calls_of (args := [u0_0, .func (.func g1) #[] (List.toArray cp1)]) Tryz.func97 rfl 9 Tryz.ntmps97 (Nat.le_of_ble_eq_true rfl) ?_
 have hC := Ctx.start (X := Nox) w0 [Ty.item TForm.sl a0 [u0_0] fp0] (by simp only [List.mem_cons, List.not_mem_nil, or_false, forall_eq_or_imp, forall_eq]; exact q0)
 refine sr ?_
 refine s_as (v := .bool false) rfl ?_
 refine dn ?_
 refine sr ?_
 refine s_mv (v := u0_0) rfl ?_
 refine s_mv (v := .func (.func g1) #[] (List.toArray cp1)) rfl ?_
 refine s_call [u0_0, .func (.func g1) #[] (List.toArray cp1)] _ Tryz.func155 rfl rfl rfl (c_slices_IndexFunc_impl_Form_impl_Form a0 p1 h _ (hC.getP 0 rfl) hf1 hb1 hn1 (fun x0_ x1_ x2_ K_ w_ hb_ => hp1 x0_ x1_ x2_ K_ w_ (below_on hC.below hb_))) (fun ret2 w4 hR3 => ?_)
 obtain ⟨r5, rfl, h, hB6⟩ := hR3
 refine ⟨_, rfl, ?_⟩
 replace hC := hC.grow hB6
 refine s_geq rfl rfl ?_
 refine s_as (v := .bool (decide (r5 ≥ 0))) rfl ?_
 refine dn ?_
 refine wp_ret ?_
 refine ret1 (fn := Tryz.f97) rfl ?_ ⟨decide (r5 ≥ 0), rfl, h, hC.below⟩ (.inl rfl)
 exact res_tmp rfl
def f_impl_IsAlgebra (a0 : Alg) (K : Bool → Prop) : Prop :=
 f_impl_AreDegrees a0.degrees (fun r11 => (if ¬ (r11 = true) then K false else (if (a0.images.length : Int) ≠ (a0.degrees.length : Int) then K false else forN (fun i65 (s66 : Unit) next68 => f_impl_isForm a0.degrees (a0.images.getD i65 default) (fun r92 => (if ¬ (r92 = true) then K false else ((0 ≤ (i65 : Int) ∧ (i65 : Int) < (a0.degrees.length : Int)) ∧ f_impl_isOfDegree a0.degrees (a0.images.getD i65 default) (IntKind.i64.wrap ((a0.degrees.getD i65 default) + 1)) (fun r103 => (if ¬ (r103 = true) then K false else next68 ())))))) (fun (s66 : Unit) => f_slices_ContainsFunc_impl_Form_impl_Form a0.images (fun y0_ K_ => f_impl_IsAlgebra_1 y0_ a0 K_) (fun r110 => K (!r110))) a0.images.length 0 ())))
theorem c_impl_IsAlgebra (a0 : Alg) {u0_0 : Value} {u0_1 : Value} {fp0 : List Nat} {K : Bool → Prop} (h : f_impl_IsAlgebra a0 K) (w0 : World) (q0 : TAlg.rep a0 [u0_0, u0_1] fp0 w0) :
  Calls Tryz.prog 96 #[.agg #[u0_0, u0_1]] w0 fun e w' => ∃ (r0 : Bool), 
   e = .returned (.bool r0) ∧ K r0 ∧ Bel w0 w' := by
 unfold f_impl_IsAlgebra at h
 refine calls_of (args := [.agg #[u0_0, u0_1]]) Tryz.func96 rfl 50 Tryz.ntmps96 (Nat.le_of_ble_eq_true rfl) ?_
 have hC := Ctx.start (X := Nox) w0 [Ty.item TAlg a0 [u0_0, u0_1] fp0] (by simp only [List.mem_cons, List.not_mem_nil, or_false, forall_eq_or_imp, forall_eq]; exact q0)
 have hp2 := (hC.getP 0 rfl)
 replace hC := hC.derive 0 rfl (Ty.item ((EI .i64).ty.sl) a0.degrees [u0_0] fp0) (fun _ => (alg_parts hp2).1) (fun _ hb_ => hb_)
 replace hC := hC.derive 1 rfl (Ty.item TForm.sl a0.images [u0_1] fp0) (fun _ => (alg_parts hp2).2) (fun _ hb_ => hb_)
 refine sr ?_
 refine s_box (v := .agg #[u0_0, u0_1]) hC [u0_0, u0_1] rfl rfl fun b5 w7 hB_ hC => ?_
 refine s_as (v := .bool false) rfl ?_
 refine dn ?_
 refine wp_seq ?_
 refine sr ?_
 refine s_faddrB 0 Tryz.underlying32 rfl sc22.size rfl rfl ?_
 refine s_loadS hC 0 (u0_0) rfl sc22 rfl rfl ?_
 refine s_call [u0_0] _ Tryz.func151 rfl rfl rfl (c_impl_AreDegrees a0.degrees h _ (hC.getP 1 rfl)) (fun ret8 w10 hR9 => ?_)
 obtain ⟨r11, rfl, h, hB12⟩ := hR9
 refine ⟨_, rfl, ?_⟩
 replace hC := hC.grow hB12
 refine s_not rfl ?_
 refine s_mv (v := .bool (!r11)) rfl ?_
 refine bsplit (!r11) (fun hb13 => ?_) (fun hb13 => ?_)
 ·replace h := ift h (ne_t (not_t hb13))
  refine guardOff (b := true) 4 9 rfl (tr rfl (congrArg _ hb13)) (by decide) ?_
  refine guardOff (b := true) 4 9 rfl (tr rfl (congrArg _ hb13)) (by decide) ?_
  refine guardOff (b := true) 4 9 rfl (tr rfl (congrArg _ hb13)) (by decide) ?_
  refine guardOff (b := true) 4 9 rfl (tr rfl (congrArg _ hb13)) (by decide) ?_
  refine guardOff (b := true) 4 9 rfl (tr rfl (congrArg _ hb13)) (by decide) ?_
  refine guardOff (b := true) 4 9 rfl (tr rfl (congrArg _ hb13)) (by decide) ?_
  refine guardOff (b := true) 4 9 rfl (tr rfl (congrArg _ hb13)) (by decide) ?_
  refine s_pick (v := .bool true) (b := true) (tr rfl (congrArg _ hb13)) rfl ?_
  refine dn ?_
  refine cw_true rfl rfl ?_
  refine sr ?_
  refine s_as (v := .bool false) rfl ?_
  refine dn ?_
  refine wp_ret (then_ret ?_)
  refine ret1 (fn := Tryz.f96) rfl ?_ ⟨false, rfl, h, hC.below⟩ (.inl rfl)
  exact res_tmp rfl
 ·replace h := iff_ h (not_not_intro ((not_f hb13)))
  refine guardOn 4 9 rfl rfl hb13 ?_
  refine s_faddrB 1 Tryz.underlying32 rfl sc30.size rfl rfl ?_
  refine guardOn 4 9 rfl rfl hb13 ?_
  refine s_loadS hC 0 (u0_1) rfl sc30 rfl rfl ?_
  refine guardOn 4 9 rfl rfl hb13 ?_
  obtain ⟨Ad14, c15, hv16⟩ := sl_len (hC.getP 0 rfl)
  refine s_len Tryz.underlying30 (tr rfl hv16) ?_
  refine guardOn 4 9 rfl rfl hb13 ?_
  refine s_faddrB 0 Tryz.underlying32 rfl sc22.size rfl rfl ?_
  refine guardOn 4 9 rfl rfl hb13 ?_
  refine s_loadS hC 0 (u0_0) rfl sc22 rfl rfl ?_
  refine guardOn 4 9 rfl rfl hb13 ?_
  obtain ⟨Ad17, c18, hv19⟩ := sl_len (hC.getP 1 rfl)
  refine s_len Tryz.underlying22 (tr rfl hv19) ?_
  refine guardOn 4 9 rfl rfl hb13 ?_
  refine s_neq rfl rfl ?_
  refine s_pick (v := .bool (decide ((a0.images.length : Int) ≠ (a0.degrees.length : Int)))) (b := false) (tr rfl (congrArg _ hb13)) rfl ?_
  refine dn ?_
  refine cw_cond rfl (fun hb20 => ?_) (fun hb20 => ?_)
  ·replace h := ift h (ct hb20)
   refine sr ?_
   refine s_as (v := .bool false) rfl ?_
   refine dn ?_
   refine wp_ret (then_ret ?_)
   refine ret1 (fn := Tryz.f96) rfl ?_ ⟨false, rfl, h, hC.below⟩ (.inl rfl)
   exact res_tmp rfl
  ·replace h := iff_ h (cf hb20)
   refine wp_skip ?_
   refine then_norm ?_
   refine wp_seq ?_
   refine sr ?_
   refine s_faddrB 1 Tryz.underlying32 rfl sc30.size rfl rfl ?_
   refine s_loadS hC 0 (u0_1) rfl sc30 rfl rfl ?_
   obtain ⟨Ad21, c22, hv23⟩ := sl_len (hC.getP 0 rfl)
   refine s_len Tryz.underlying30 (tr rfl hv23) ?_
   refine s_mv (v := .int .i64 0) rfl ?_
   refine dn ?_
   refine wp_block ?_
   have hN67 : a0.images.length ≤ 9223372036854775807 := sl_max (hC.getP 0 rfl)
   refine loopN (S := Unit) _ _ (fun i65 s66 e_ w_ => Slots e_ [(1, .pointer (some ⟨b5, 0, none⟩)), (2, .bool false), (19, u0_1), (20, .int .i64 (a0.images.length : Int)), (21, .int .i64 (i65 : Int))] ∧ Ctx Nox w0 w_ [blk b5 32 [u0_0, u0_1]] [Ty.item TForm.sl a0.images [u0_1] fp0, Ty.item ((EI .i64).ty.sl) a0.degrees [u0_0] fp0, Ty.item TAlg a0 [u0_0, u0_1] fp0]) a0.images.length ?_ ?_ (s0 := ()) ?_ h
   ·clear hC h
    rintro i65 s66 e_ w72 next68 K69 hi71 ⟨hS_, hC⟩ h hK70
    refine sr ?_
    refine s_lss (sx hS_ 4 rfl) (sx hS_ 3 rfl) ?_
    refine dn ?_
    refine wp_seq ?_
    refine cw_true rfl (decide_eq_true (by omega)) ?_
    refine wp_skip ?_
    refine then_norm ?_
    refine wp_seq ?_
    refine wp_block ?_
    refine sr ?_
    refine s_mv (v := .int .i64 (i65 : Int)) (sx hS_ 4 rfl) ?_
    obtain ⟨Ad73, c74, hv75⟩ := sl_form (hC.getP 0 rfl) i65 hi71
    refine s_iaddrS (len := a0.images.length) Tryz.underlying30 ag55.size (tr (sx hS_ 2 rfl) hv75) (sx hS_ 4 rfl) (Int.natCast_nonneg _) (Int.ofNat_lt.2 hi71) ?_
    obtain ⟨cs_, hl77, hc78, hr79⟩ := sl_cells (hC.getP 0 rfl) hv75 i65 hi71
    obtain ⟨u76, rfl⟩ := List.length_eq_one_iff.1 hl77
    clear hl77
    rw [getD_eq _ _ hi71] at hr79
    have hp80 := hr79
    replace hC := hC.derive 0 rfl (Ty.item ETerm.ty.sl ((a0.images.getD i65 default).terms) [u76] fp0) (fun _ => (form_parts hp80)) (fun _ hb_ => hb_)
    refine s_loadCA [u76] hc78 ag55 rfl rfl ?_
    refine s_alloc hC [.slice none 0 0] z55 rfl fun b82 w84 hB_ hC => ?_
    refine s_as (v := .int .i64 (i65 : Int)) rfl ?_
    refine s_store (v := .agg #[u76]) hC 0 [u76] [u76] rfl ag55.size rfl rfl rfl rfl (all_c (rep_oneC (hC.getP 0 rfl)) rfl) (Nat.le_of_ble_eq_true rfl) rfl fun w85 hC => ?_
    refine dn ?_
    refine wp_seq ?_
    refine cw_draw 15 mixed [0, 1, 0, 7, 15, 31, 63, 127, 63, 63, 575, 63, 3647, 7743, 15935, 32767, 65535, 131071] [1, 2, 7, 8, 10, 12, 13] [0, 4, 5, 6, 7, 8, 9, 10, 11, 12, 13, 14] (by kernel_rfl) (by kernel_rfl) (by kernel_rfl) (fun hM87 hM88 w86 hB_ => ?_)
    replace hC := hC.grow hB_
    refine aF 0 (.pointer (some ⟨b5, 0, none⟩)) rfl rfl (hM88 0 rfl) (rfl) (fun _ => by exact r_faddrB 0 Tryz.underlying32 rfl sc22.size (sx hS_ 0 rfl) rfl) (dbits 18 1) ?_
    refine aL 1 (u0_0) rfl rfl (hM87 1 rfl) (rfl) (fun _ hB_ => by exact r_loadS (hC.grow hB_) 1 (u0_0) rfl sc22 rfl rfl) (dbits 18 3) ?_
    refine aL 2 (.agg #[u76]) rfl rfl (hM87 2 rfl) (rfl) (fun _ hB_ => by exact r_loadA (hC.grow hB_) 0 [u76] rfl ag55 rfl rfl rfl) (dbits 18 7) ?_
    refine aO 3 rfl ?_
    refine s_call [u0_0, .agg #[u76]] _ Tryz.func99 rfl rfl rfl (c_impl_isForm a0.degrees (a0.images.getD i65 default) h _ (hC.getP 2 rfl) (form_mk (hC.getP 0 rfl))) (fun ret89 w91 hR90 => ?_)
    obtain ⟨r92, rfl, h, hB93⟩ := hR90
    refine ⟨_, rfl, ?_⟩
    replace hC := hC.grow hB93
    refine done ?_
    refine aK (by assumption) (dbits 18 15) ?_
    refine aF 4 (.bool (!r92)) rfl rfl (hM88 4 rfl) (rfl) (fun _ => by exact r_not rfl) (dbits 18 31) ?_
    refine aF 5 (.bool (!r92)) rfl rfl (hM88 5 rfl) (rfl) (fun _ => by exact r_mv (v := .bool (!r92)) rfl) (dbits 18 63) ?_
    refine bsplit (!r92) (fun hb94 => ?_) (fun hb94 => ?_)
    ·replace h := ift h (ne_t (not_t hb94))
     refine ae_lookF belPre 6 undef rfl rfl (by kernel_rfl) (hM88 6 rfl) (fun w_ => .inr ⟨wanted_off (b := true) 5 31 rfl (tr rfl (congrArg _ hb94)) (by decide), rfl⟩) (l9 := (dbits 18 127)) (by kernel_rfl) ?_
     refine ae_lookF belPre 7 undef rfl rfl (by kernel_rfl) (hM88 7 rfl) (fun w_ => .inr ⟨wanted_off (b := true) 5 31 rfl (tr rfl (congrArg _ hb94)) (by decide), rfl⟩) (l9 := (dbits 18 255)) (by kernel_rfl) ?_
     refine ae_lookF belPre 8 undef rfl rfl (by kernel_rfl) (hM88 8 rfl) (fun w_ => .inr ⟨wanted_off (b := true) 5 31 rfl (tr rfl (congrArg _ hb94)) (by decide), rfl⟩) (l9 := (dbits 18 511)) (by kernel_rfl) ?_
     refine ae_lookF belPre 9 undef rfl rfl (by kernel_rfl) (hM88 9 rfl) (fun w_ => .inr ⟨wanted_off (b := true) 5 31 rfl (tr rfl (congrArg _ hb94)) (by decide), rfl⟩) (l9 := (dbits 18 1023)) (by kernel_rfl) ?_
     refine ae_lookF belPre 10 undef rfl rfl (by kernel_rfl) (hM88 10 rfl) (fun w_ => .inr ⟨wanted_off (b := true) 5 31 rfl (tr rfl (congrArg _ hb94)) (by decide), rfl⟩) (l9 := (dbits 18 2047)) (by kernel_rfl) ?_
     refine ae_lookF belPre 11 undef rfl rfl (by kernel_rfl) (hM88 11 rfl) (fun w_ => .inr ⟨wanted_off (b := true) 5 31 rfl (tr rfl (congrArg _ hb94)) (by decide), rfl⟩) (l9 := (dbits 18 4095)) (by kernel_rfl) ?_
     refine ae_lookF belPre 12 undef rfl rfl (by kernel_rfl) (hM88 12 rfl) (fun w_ => .inr ⟨wanted_off (b := true) 5 31 rfl (tr rfl (congrArg _ hb94)) (by decide), rfl⟩) (l9 := (dbits 18 8191)) (by kernel_rfl) ?_
     refine ae_lookF belPre 13 undef rfl rfl (by kernel_rfl) (hM88 13 rfl) (fun w_ => .inr ⟨wanted_off (b := true) 5 31 rfl (tr rfl (congrArg _ hb94)) (by decide), rfl⟩) (l9 := (dbits 18 16383)) (by kernel_rfl) ?_
     refine ae_lookF belPre 14 undef rfl rfl (by kernel_rfl) (hM88 14 rfl) (fun w_ => .inr ⟨wanted_off (b := true) 5 31 rfl (tr rfl (congrArg _ hb94)) (by decide), rfl⟩) (l9 := (dbits 18 32767)) (by kernel_rfl) ?_
     refine ae_tail 15 (by decide) (by decide) (by kernel_rfl) (by kernel_rfl) rfl ?_
     refine guardOff (b := true) 5 31 rfl (tr rfl (congrArg _ hb94)) (by decide) ?_
     refine guardOff (b := true) 5 31 rfl (tr rfl (congrArg _ hb94)) (by decide) ?_
     refine s_pick (v := .bool true) (b := true) (tr rfl (congrArg _ hb94)) rfl ?_
     refine done ?_
     refine qn_norm ?_
     refine then_norm ?_
     refine cw_true rfl rfl ?_
     refine sr ?_
     refine s_as (v := .bool false) rfl ?_
     refine dn ?_
     refine wp_ret (blk_ret (then_ret (then_ret (blk_ret (then_ret ?_)))))
     refine ret1 (fn := Tryz.f96) rfl ?_ ⟨false, rfl, h, hC.below⟩ (.inl rfl)
     exact res_tmp rfl
    ·replace h := iff_ h (not_not_intro ((not_f hb94)))
     refine aF 6 (.pointer (some ⟨b5, 0, none⟩)) rfl rfl (hM88 6 rfl) (wanted_on 5 31 rfl rfl hb94) (fun _ => by exact r_faddrB 0 Tryz.underlying32 rfl sc22.size (sx hS_ 0 rfl) rfl) (dbits 18 127) ?_
     refine aL 7 (u0_0) rfl rfl (hM87 7 rfl) (wanted_on 5 31 rfl rfl hb94) (fun _ hB_ => by exact r_loadS (hC.grow hB_) 1 (u0_0) rfl sc22 rfl rfl) (dbits 18 255) ?_
     refine aL 8 (.agg #[u76]) rfl rfl (hM87 8 rfl) (wanted_on 5 31 rfl rfl hb94) (fun _ hB_ => by exact r_loadA (hC.grow hB_) 0 [u76] rfl ag55 rfl rfl rfl) (dbits 18 511) ?_
     refine aF 9 (.pointer (some ⟨b5, 0, none⟩)) rfl rfl (hM88 9 rfl) (wanted_on 5 31 rfl rfl hb94) (fun _ => by exact r_faddrB 0 Tryz.underlying32 rfl sc22.size (sx hS_ 0 rfl) rfl) (dbits 18 1023) ?_
     refine aL 10 (u0_0) rfl rfl (hM87 10 rfl) (wanted_on 5 31 rfl rfl hb94) (fun _ hB_ => by exact r_loadS (hC.grow hB_) 1 (u0_0) rfl sc22 rfl rfl) (dbits 18 2047) ?_
     refine aF 11 (.int .i64 (i65 : Int)) rfl rfl (hM88 11 rfl) (wanted_on 5 31 rfl rfl hb94) (fun _ => by exact r_mv (v := .int .i64 (i65 : Int)) rfl) (dbits 18 4095) ?_
     obtain ⟨⟨h0_95, h1_96⟩, h⟩ := h
     obtain ⟨Ad97, c98, hv99⟩ := sl_form (hC.getP 2 rfl) i65 (show i65 < a0.degrees.length by omega)
     refine aL 12 (.pointer (some (Ad97.add (i65 * 1)))) rfl rfl (hM87 12 rfl) (wanted_on 5 31 rfl rfl hb94) (fun _ hB_ => by exact r_iaddrS (len := a0.degrees.length) Tryz.underlying22 sc2.size (by exact tr rfl hv99) rfl h0_95 h1_96) (dbits 18 8191) ?_
     refine aL 13 (.int .i64 (a0.degrees.getD i65 default)) rfl rfl (hM87 13 rfl) (wanted_on 5 31 rfl rfl hb94) (fun _ hB_ => by exact r_loadCS (.int .i64 (a0.degrees.getD i65 default)) (sl_cellsE ((hC.grow hB_).getP 2 rfl) hv99 i65 (show i65 < a0.degrees.length by omega)) sc2 rfl) (dbits 18 16383) ?_
     refine aF 14 (.int .i64 (IntKind.i64.wrap ((a0.degrees.getD i65 default) + 1))) rfl rfl (hM88 14 rfl) (wanted_on 5 31 rfl rfl hb94) (fun _ => by exact r_add rfl rfl) (dbits 18 32767) ?_
     refine ae_tail 15 (by decide) (by decide) (by kernel_rfl) (by kernel_rfl) rfl ?_
     refine guardOn 5 31 rfl rfl hb94 ?_
     refine s_call [u0_0, .agg #[u76], .int .i64 (IntKind.i64.wrap ((a0.degrees.getD i65 default) + 1))] _ Tryz.func152 rfl rfl rfl (c_impl_isOfDegree a0.degrees (a0.images.getD i65 default) (IntKind.i64.wrap ((a0.degrees.getD i65 default) + 1)) h _ (hC.getP 2 rfl) (form_mk (hC.getP 0 rfl))) (fun ret100 w102 hR101 => ?_)
     obtain ⟨r103, rfl, h, hB104⟩ := hR101
     refine ⟨_, rfl, ?_⟩
     replace hC := hC.grow hB104
     refine guardOn 5 31 rfl rfl hb94 ?_
     refine s_not rfl ?_
     refine s_pick (v := .bool (!r103)) (b := false) (tr rfl (congrArg _ hb94)) rfl ?_
     refine done ?_
     refine qn_norm ?_
     refine then_norm ?_
     refine cw_cond rfl (fun hb105 => ?_) (fun hb105 => ?_)
     ·replace h := ift h (ne_t (not_t hb105))
      refine sr ?_
      refine s_as (v := .bool false) rfl ?_
      refine dn ?_
      refine wp_ret (blk_ret (then_ret (then_ret (blk_ret (then_ret ?_)))))
      refine ret1 (fn := Tryz.f96) rfl ?_ ⟨false, rfl, h, hC.below⟩ (.inl rfl)
      exact res_tmp rfl
     ·replace h := iff_ h (not_not_intro ((not_f hb105)))
      refine wp_skip ?_
      refine blk_norm ?_
      refine then_norm ?_
      refine cw_region ?_
      refine s_add (sx hS_ 4 rfl) rfl ?_
      refine s_mv (v := .int .i64 (IntKind.i64.wrap ((i65 : Int) + 1))) rfl ?_
      refine done ?_
      replace hC := hC.sM [1] (M' := [blk b5 32 [u0_0, u0_1]]) (by decide) rfl
      replace hC := hC.sP [1, 2, 3] (Ps' := [Ty.item TForm.sl a0.images [u0_1] fp0, Ty.item ((EI .i64).ty.sl) a0.degrees [u0_0] fp0, Ty.item TAlg a0 [u0_0, u0_1] fp0]) rfl
      exact hK70 () _ _ ⟨(sk (sx hS_ 0 rfl) (sk (sx hS_ 1 rfl) (sk (sx hS_ 2 rfl) (sk (sx hS_ 3 rfl) (sk (tr rfl (congrArg _ (wrap64_nat hi71 hN67))) sn))))), hC⟩ h
   ·clear hC h
    rintro s66 e_ w106 K69 ⟨hS_, hC⟩ h
    refine sr ?_
    refine s_lss (sx hS_ 4 rfl) (sx hS_ 3 rfl) ?_
    refine dn ?_
    refine wp_seq ?_
    refine cw_false rfl (decide_eq_false (by omega)) ?_
    refine wp_exit (then_exit (then_exit (exit_in ?_)))
    refine then_norm ?_
    refine sr ?_
    refine s_faddrB 1 Tryz.underlying32 rfl sc30.size (sx hS_ 0 rfl) rfl ?_
    refine s_loadS hC 0 (u0_1) rfl sc30 rfl rfl ?_
    refine s_mkfunc (g := 153) [.pointer (some ⟨b5, 0, none⟩)] (map_c (sx hS_ 0 rfl) rfl) ?_
    refine s_call [u0_1, .func (.func 153) #[] (List.toArray [.pointer (some ⟨b5, 0, none⟩)])] _ Tryz.func97 rfl rfl rfl (c_slices_ContainsFunc_impl_Form_impl_Form a0.images (fun y0_ K_ => f_impl_IsAlgebra_1 y0_ a0 K_) h _ (hC.getP 0 rfl) Tryz.func153 rfl rfl (fun y0_ yu0_0_ yf0_ K_ w_ hb_ rq0_ hq_ => c_impl_IsAlgebra_1 y0_ a0 hq_ w_ rq0_ (alg_mk ((hC.grow hb_).getP 1 rfl) ((hC.grow hb_).getP 0 rfl)) ((hC.grow hb_).getM 0 rfl))) (fun ret107 w109 hR108 => ?_)
    obtain ⟨r110, rfl, h, hB111⟩ := hR108
    refine ⟨_, rfl, ?_⟩
    replace hC := hC.grow hB111
    refine s_not rfl ?_
    refine s_as (v := .bool (!r110)) rfl ?_
    refine dn ?_
    refine wp_ret ?_
    refine ret1 (fn := Tryz.f96) rfl ?_ ⟨!r110, rfl, h, hC.below⟩ (.inl rfl)
    exact res_tmp rfl
   ·skip
    exact ⟨(sk rfl (sk rfl (sk rfl (sk rfl (sk rfl sn))))), hC⟩
def f_impl_algebraCode_1 (a0 : Vc.Form) (a1 : Alg) (K : Bool → Prop) : Prop :=
 f_impl_isForm a1.degrees a0 (fun r19 => K (!r19))
theorem c_impl_algebraCode_1 (a0 : Vc.Form) (a1 : Alg) {b1 : Nat} {bp1 : Nat} {u0_0 : Value} {u1_0 : Value} {u1_1 : Value} {fp0 : List Nat} {fp1 : List Nat} {K : Bool → Prop} (h : f_impl_algebraCode_1 a0 a1 K) (w0 : World) (q0 : TForm.rep a0 [u0_0] fp0 w0) (q1 : TAlg.rep a1 [u1_0, u1_1] fp1 w0) (qb1 : (blk b1 32 [u1_0, u1_1]).holds w0) (qbp1 : (blk bp1 66 [.pointer (some ⟨b1, 0, none⟩)]).holds w0) :
  Calls Tryz.prog 98 #[.agg #[u0_0], .pointer (some ⟨bp1, 0, none⟩)] w0 fun e w' => ∃ (r0 : Bool), 
   e = .returned (.bool r0) ∧ K r0 ∧ Bel w0 w' := by
 unfold f_impl_algebraCode_1 at h
 refine calls_of (args := [.agg #[u0_0], .pointer (some ⟨bp1, 0, none⟩)]) Tryz.func98 rfl 11 Tryz.ntmps98 (Nat.le_of_ble_eq_true rfl) ?_
 have hC := Ctx.start (X := Nox) w0 [Ty.item TForm a0 [u0_0] fp0, Ty.item TAlg a1 [u1_0, u1_1] fp1, blk b1 32 [u1_0, u1_1], blk bp1 66 [.pointer (some ⟨b1, 0, none⟩)]] (by simp only [List.mem_cons, List.not_mem_nil, or_false, forall_eq_or_imp, forall_eq]; exact ⟨q0, q1, qb1, qbp1⟩)
 have hp5 := (hC.getP 0 rfl)
 replace hC := hC.derive 0 rfl (Ty.item ETerm.ty.sl a0.terms [u0_0] fp0) (fun _ => (form_parts hp5)) (fun _ hb_ => hb_)
 have hp7 := (hC.getP 2 rfl)
 replace hC := hC.derive 2 rfl (Ty.item ((EI .i64).ty.sl) a1.degrees [u1_0] fp1) (fun _ => (alg_parts hp7).1) (fun _ hb_ => hb_)
 replace hC := hC.derive 3 rfl (Ty.item TForm.sl a1.images [u1_1] fp1) (fun _ => (alg_parts hp7).2) (fun _ hb_ => hb_)
 refine sr ?_
 refine s_box (v := .agg #[u0_0]) hC [u0_0] rfl rfl fun b10 w12 hB_ hC => ?_
 refine s_as (v := .bool false) rfl ?_
 refine dn ?_
 refine wp_seq ?_
 refine cw_draw 5 mixed [0, 1, 3, 7, 0, 31, 63, 127] [0, 3, 4] [1, 2] (by kernel_rfl) (by kernel_rfl) (by kernel_rfl) (fun hM14 hM15 w13 hB_ => ?_)
 replace hC := hC.grow hB_
 refine aL 0 (.pointer (some ⟨b1, 0, none⟩)) rfl rfl (hM14 0 rfl) (rfl) (fun _ hB_ => by exact r_loadSh (.pointer (some ⟨b1, 0, none⟩)) ((hC.grow hB_).getP 6 rfl) sc66 rfl rfl) (dbits 8 1) ?_
 refine aF 1 (.pointer (some ⟨b1, 0, none⟩)) rfl rfl (hM15 1 rfl) (rfl) (fun _ => by exact r_nilchk rfl) (dbits 8 3) ?_
 refine aF 2 (.pointer (some ⟨b1, 0, none⟩)) rfl rfl (hM15 2 rfl) (rfl) (fun _ => by exact r_faddrB 0 Tryz.underlying32 rfl sc22.size rfl rfl) (dbits 8 7) ?_
 refine aL 3 (u1_0) rfl rfl (hM14 3 rfl) (rfl) (fun _ hB_ => by exact r_loadSh (u1_0) ((hC.grow hB_).getP 5 rfl) sc22 rfl rfl) (dbits 8 15) ?_
 refine aL 4 (.agg #[u0_0]) rfl rfl (hM14 4 rfl) (rfl) (fun _ hB_ => by exact r_loadA (hC.grow hB_) 0 [u0_0] rfl ag55 rfl rfl rfl) (dbits 8 31) ?_
 refine ae_tail 5 (by decide) (by decide) (by kernel_rfl) (by kernel_rfl) rfl ?_
 refine s_call [u1_0, .agg #[u0_0]] _ Tryz.func99 rfl rfl rfl (c_impl_isForm a1.degrees a0 h _ (hC.getP 1 rfl) (form_mk (hC.getP 2 rfl))) (fun ret16 w18 hR17 => ?_)
 obtain ⟨r19, rfl, h, hB20⟩ := hR17
 refine ⟨_, rfl, ?_⟩
 replace hC := hC.grow hB20
 refine s_not rfl ?_
 refine s_as (v := .bool (!r19)) rfl ?_
 refine done ?_
 refine qn_norm ?_
 refine then_norm ?_
 refine wp_ret ?_
 refine ret1 (fn := Tryz.f98) rfl ?_ ⟨!r19, rfl, h, hC.below⟩ (.inl rfl)
 exact res_tmp rfl
def f_impl_algebraCode (a0 : Alg) (a1 : List Vc.Form) (K : Int → Prop) : Prop :=
 f_impl_IsAlgebra a0 (fun r13 => (if ¬ (r13 = true) then f_impl_when true 1 (fun r19 => K r19) else f_slices_ContainsFunc_impl_Form_impl_Form a1 (fun y0_ K_ => f_impl_algebraCode_1 y0_ a0 K_) (fun r24 => f_impl_when r24 1 (fun r29 => K r29))))
theorem c_impl_algebraCode (a0 : Alg) (a1 : List Vc.Form) {b0 : Nat} {u0_0 : Value} {u0_1 : Value} {u1_0 : Value} {fp0 : List Nat} {fp1 : List Nat} {K : Int → Prop} (h : f_impl_algebraCode a0 a1 K) (w0 : World) (q0 : TAlg.rep a0 [u0_0, u0_1] fp0 w0) (qb0 : (blk b0 32 [u0_0, u0_1]).holds w0) (q1 : TForm.sl.rep a1 [u1_0] fp1 w0) :
  Calls Tryz.prog 44 #[.pointer (some ⟨b0, 0, none⟩), u1_0] w0 fun e w' => ∃ (r0 : Int), 
   e = .returned (.int .i64 r0) ∧ K r0 ∧ Bel w0 w' := by
 unfold f_impl_algebraCode at h
 refine calls_of (args := [.pointer (some ⟨b0, 0, none⟩), u1_0]) Tryz.func44 rfl 18 Tryz.ntmps44 (Nat.le_of_ble_eq_true rfl) ?_
 have hC := Ctx.start (X := Nox) w0 [Ty.item TAlg a0 [u0_0, u0_1] fp0, Ty.item TForm.sl a1 [u1_0] fp1, blk b0 32 [u0_0, u0_1]] (by simp only [List.mem_cons, List.not_mem_nil, or_false, forall_eq_or_imp, forall_eq]; exact ⟨q0, q1, qb0⟩)
 have hp4 := (hC.getP 0 rfl)
 replace hC := hC.derive 0 rfl (Ty.item ((EI .i64).ty.sl) a0.degrees [u0_0] fp0) (fun _ => (alg_parts hp4).1) (fun _ hb_ => hb_)
 replace hC := hC.derive 1 rfl (Ty.item TForm.sl a0.images [u0_1] fp0) (fun _ => (alg_parts hp4).2) (fun _ hb_ => hb_)
 refine sr ?_
 refine s_box (v := .pointer (some ⟨b0, 0, none⟩)) hC [.pointer (some ⟨b0, 0, none⟩)] rfl rfl fun b7 w9 hB_ hC => ?_
 refine s_as (v := .int .i64 0) rfl ?_
 refine dn ?_
 refine sr ?_
 refine s_loadS hC 0 (.pointer (some ⟨b0, 0, none⟩)) rfl sc66 rfl rfl ?_
 refine s_nilchk rfl ?_
 refine s_loadAh [u0_0, u0_1] (hC.getP 4 rfl) ag32 rfl rfl rfl ?_
 refine s_call [.agg #[u0_0, u0_1]] _ Tryz.func96 rfl rfl rfl (c_impl_IsAlgebra a0 h _ (alg_mk (hC.getP 1 rfl) (hC.getP 0 rfl))) (fun ret10 w12 hR11 => ?_)
 obtain ⟨r13, rfl, h, hB14⟩ := hR11
 refine ⟨_, rfl, ?_⟩
 replace hC := hC.grow hB14
 refine s_not rfl ?_
 refine s_mv (v := .bool (!r13)) rfl ?_
 refine bsplit (!r13) (fun hb15 => ?_) (fun hb15 => ?_)
 ·replace h := ift h (ne_t (not_t hb15))
  refine guardOff (b := true) 5 11 rfl (tr rfl (congrArg _ hb15)) (by decide) ?_
  refine guardOff (b := true) 5 11 rfl (tr rfl (congrArg _ hb15)) (by decide) ?_
  refine guardOff (b := true) 5 11 rfl (tr rfl (congrArg _ hb15)) (by decide) ?_
  refine s_pick (v := .bool true) (b := true) (tr rfl (congrArg _ hb15)) rfl ?_
  refine s_as (v := .bool true) rfl ?_
  refine dn ?_
  refine sr ?_
  refine s_mv (v := .bool true) rfl ?_
  refine s_call [.bool true, .int .i64 1] _ Tryz.func45 rfl rfl rfl (c_impl_when true 1 h _) (fun ret16 w18 hR17 => ?_)
  obtain ⟨r19, rfl, h, hB20⟩ := hR17
  refine ⟨_, rfl, ?_⟩
  replace hC := hC.grow hB20
  refine s_as (v := .int .i64 r19) rfl ?_
  refine dn ?_
  refine wp_ret ?_
  refine ret1 (fn := Tryz.f44) rfl ?_ ⟨r19, rfl, h, hC.below⟩ (.inl rfl)
  exact res_tmp rfl
 ·replace h := iff_ h (not_not_intro ((not_f hb15)))
  refine guardOn 5 11 rfl rfl hb15 ?_
  refine s_mv (v := u1_0) rfl ?_
  refine guardOn 5 11 rfl rfl hb15 ?_
  refine s_mkfunc (g := 98) [.pointer (some ⟨b7, 0, none⟩)] (map_c rfl rfl) ?_
  refine guardOn 5 11 rfl rfl hb15 ?_
  refine s_call [u1_0, .func (.func 98) #[] (List.toArray [.pointer (some ⟨b7, 0, none⟩)])] _ Tryz.func97 rfl rfl rfl (c_slices_ContainsFunc_impl_Form_impl_Form a1 (fun y0_ K_ => f_impl_algebraCode_1 y0_ a0 K_) h _ (hC.getP 3 rfl) Tryz.func98 rfl rfl (fun y0_ yu0_0_ yf0_ K_ w_ hb_ rq0_ hq_ => c_impl_algebraCode_1 y0_ a0 hq_ w_ rq0_ (alg_mk ((hC.grow hb_).getP 1 rfl) ((hC.grow hb_).getP 0 rfl)) ((hC.grow hb_).getP 4 rfl) ((hC.grow hb_).getM 0 rfl))) (fun ret21 w23 hR22 => ?_)
  obtain ⟨r24, rfl, h, hB25⟩ := hR22
  refine ⟨_, rfl, ?_⟩
  replace hC := hC.grow hB25
  refine s_pick (v := .bool r24) (b := false) (tr rfl (congrArg _ hb15)) rfl ?_
  refine s_as (v := .bool r24) rfl ?_
  refine dn ?_
  refine sr ?_
  refine s_mv (v := .bool r24) rfl ?_
  refine s_call [.bool r24, .int .i64 1] _ Tryz.func45 rfl rfl rfl (c_impl_when r24 1 h _) (fun ret26 w28 hR27 => ?_)
  obtain ⟨r29, rfl, h, hB30⟩ := hR27
  refine ⟨_, rfl, ?_⟩
  replace hC := hC.grow hB30
  refine s_as (v := .int .i64 r29) rfl ?_
  refine dn ?_
  refine wp_ret ?_
  refine ret1 (fn := Tryz.f44) rfl ?_ ⟨r29, rfl, h, hC.below⟩ (.inl rfl)
  exact res_tmp rfl
def f_laws_szTermS (a0 : List Term) (a1 : Int) (K : Int → Prop) : Prop :=
 (if IntKind.i64.wrap (a1 - (a0.length : Int)) < 0 then K (-1) else K (IntKind.i64.wrap (a1 - (a0.length : Int))))
theorem c_laws_szTermS (a0 : List Term) (a1 : Int) {u0_0 : Value} {fp0 : List Nat} {K : Int → Prop} (h : f_laws_szTermS a0 a1 K) (w0 : World) (q0 : ETerm.ty.sl.rep a0 [u0_0] fp0 w0) :
  Calls Tryz.prog 67 #[u0_0, .int .i64 a1] w0 fun e w' => ∃ (r0 : Int), 
   e = .returned (.int .i64 r0) ∧ K r0 ∧ Bel w0 w' := by
 unfold f_laws_szTermS at h
 refine calls_of (args := [u0_0, .int .i64 a1]) Tryz.func67 rfl 12 Tryz.ntmps67 (Nat.le_of_ble_eq_true rfl) ?_
 have hC := Ctx.start (X := Nox) w0 [Ty.item ETerm.ty.sl a0 [u0_0] fp0] (by simp only [List.mem_cons, List.not_mem_nil, or_false, forall_eq_or_imp, forall_eq]; exact q0)
 refine sr ?_
 refine s_as (v := .int .i64 0) rfl ?_
 refine dn ?_
 refine sr ?_
 refine s_mv (v := .int .i64 a1) rfl ?_
 refine s_mv (v := u0_0) rfl ?_
 obtain ⟨Ad2, c3, hv4⟩ := sl_len (hC.getP 0 rfl)
 refine s_len Tryz.underlying48 (tr rfl hv4) ?_
 refine s_sub rfl rfl ?_
 refine s_as (v := .int .i64 (IntKind.i64.wrap (a1 - (a0.length : Int)))) rfl ?_
 refine dn ?_
 refine wp_seq ?_
 refine sr ?_
 refine s_mv (v := .int .i64 (IntKind.i64.wrap (a1 - (a0.length : Int)))) rfl ?_
 refine s_lss rfl rfl ?_
 refine dn ?_
 refine cw_cond rfl (fun hb5 => ?_) (fun hb5 => ?_)
 ·replace h := ift h (ct hb5)
  refine sr ?_
  refine s_as (v := .int .i64 (-1)) rfl ?_
  refine dn ?_
  refine wp_ret (then_ret ?_)
  refine ret1 (fn := Tryz.f67) rfl ?_ ⟨(-1), rfl, h, hC.below⟩ (.inl rfl)
  exact res_tmp rfl
 ·replace h := iff_ h (cf hb5)
  refine wp_skip ?_
  refine then_norm ?_
  refine sr ?_
  refine s_mv (v := .int .i64 (IntKind.i64.wrap (a1 - (a0.length : Int)))) rfl ?_
  refine s_as (v := .int .i64 (IntKind.i64.wrap (a1 - (a0.length : Int)))) rfl ?_
  refine dn ?_
  refine wp_ret ?_
  refine ret1 (fn := Tryz.f67) rfl ?_ ⟨IntKind.i64.wrap (a1 - (a0.length : Int)), rfl, h, hC.below⟩ (.inl rfl)
  exact res_tmp rfl
def f_laws_szForm (a0 : Vc.Form) (a1 : Int) (K : Int → Prop) : Prop :=
 f_laws_szTermS a0.terms a1 (fun r10 => (if r10 < 0 then K (-1) else K r10))
theorem c_laws_szForm (a0 : Vc.Form) (a1 : Int) {u0_0 : Value} {fp0 : List Nat} {K : Int → Prop} (h : f_laws_szForm a0 a1 K) (w0 : World) (q0 : TForm.rep a0 [u0_0] fp0 w0) :
  Calls Tryz.prog 28 #[.agg #[u0_0], .int .i64 a1] w0 fun e w' => ∃ (r0 : Int), 
   e = .returned (.int .i64 r0) ∧ K r0 ∧ Bel w0 w' := by
 unfold f_laws_szForm at h
 refine calls_of (args := [.agg #[u0_0], .int .i64 a1]) Tryz.func28 rfl 12 Tryz.ntmps28 (Nat.le_of_ble_eq_true rfl) ?_
 have hC := Ctx.start (X := Nox) w0 [Ty.item TForm a0 [u0_0] fp0] (by simp only [List.mem_cons, List.not_mem_nil, or_false, forall_eq_or_imp, forall_eq]; exact q0)
 have hp2 := (hC.getP 0 rfl)
 replace hC := hC.derive 0 rfl (Ty.item ETerm.ty.sl a0.terms [u0_0] fp0) (fun _ => (form_parts hp2)) (fun _ hb_ => hb_)
 refine sr ?_
 refine s_box (v := .agg #[u0_0]) hC [u0_0] rfl rfl fun b4 w6 hB_ hC => ?_
 refine s_as (v := .int .i64 0) rfl ?_
 refine dn ?_
 refine sr ?_
 refine s_faddrB 0 Tryz.underlying50 rfl sc48.size rfl rfl ?_
 refine s_loadS hC 0 (u0_0) rfl sc48 rfl rfl ?_
 refine s_mv (v := .int .i64 a1) rfl ?_
 refine s_call [u0_0, .int .i64 a1] _ Tryz.func67 rfl rfl rfl (c_laws_szTermS a0.terms a1 h _ (hC.getP 0 rfl)) (fun ret7 w9 hR8 => ?_)
 obtain ⟨r10, rfl, h, hB11⟩ := hR8
 refine ⟨_, rfl, ?_⟩
 replace hC := hC.grow hB11
 refine s_as (v := .int .i64 r10) rfl ?_
 refine dn ?_
 refine wp_seq ?_
 refine sr ?_
 refine s_mv (v := .int .i64 r10) rfl ?_
 refine s_lss rfl rfl ?_
 refine dn ?_
 refine cw_cond rfl (fun hb12 => ?_) (fun hb12 => ?_)
 ·replace h := ift h (ct hb12)
  refine sr ?_
  refine s_as (v := .int .i64 (-1)) rfl ?_
  refine dn ?_
  refine wp_ret (then_ret ?_)
  refine ret1 (fn := Tryz.f28) rfl ?_ ⟨(-1), rfl, h, hC.below⟩ (.inl rfl)
  exact res_tmp rfl
 ·replace h := iff_ h (cf hb12)
  refine wp_skip ?_
  refine then_norm ?_
  refine sr ?_
  refine s_mv (v := .int .i64 r10) rfl ?_
  refine s_as (v := .int .i64 r10) rfl ?_
  refine dn ?_
  refine wp_ret ?_
  refine ret1 (fn := Tryz.f28) rfl ?_ ⟨r10, rfl, h, hC.below⟩ (.inl rfl)
  exact res_tmp rfl
def f_laws_szFormS (a0 : List Vc.Form) (a1 : Int) (K : Int → Prop) : Prop :=
 (if IntKind.i64.wrap (a1 - (a0.length : Int)) < 0 then K (-1) else forN (fun i51 (s52 : Int) next54 => f_laws_szForm (a0.getD i51 default) s52 (fun r74 => (if r74 < 0 then K (-1) else next54 r74))) (fun (s52 : Int) => K s52) a0.length 0 (IntKind.i64.wrap (a1 - (a0.length : Int))))
theorem c_laws_szFormS (a0 : List Vc.Form) (a1 : Int) {u0_0 : Value} {fp0 : List Nat} {K : Int → Prop} (h : f_laws_szFormS a0 a1 K) (w0 : World) (q0 : TForm.sl.rep a0 [u0_0] fp0 w0) :
  Calls Tryz.prog 38 #[u0_0, .int .i64 a1] w0 fun e w' => ∃ (r0 : Int), 
   e = .returned (.int .i64 r0) ∧ K r0 ∧ Bel w0 w' := by
 unfold f_laws_szFormS at h
 refine calls_of (args := [u0_0, .int .i64 a1]) Tryz.func38 rfl 27 Tryz.ntmps38 (Nat.le_of_ble_eq_true rfl) ?_
 have hC := Ctx.start (X := Nox) w0 [Ty.item TForm.sl a0 [u0_0] fp0] (by simp only [List.mem_cons, List.not_mem_nil, or_false, forall_eq_or_imp, forall_eq]; exact q0)
 refine sr ?_
 refine s_as (v := .int .i64 0) rfl ?_
 refine dn ?_
 refine sr ?_
 refine s_mv (v := .int .i64 a1) rfl ?_
 refine s_mv (v := u0_0) rfl ?_
 obtain ⟨Ad2, c3, hv4⟩ := sl_len (hC.getP 0 rfl)
 refine s_len Tryz.underlying23 (tr rfl hv4) ?_
 refine s_sub rfl rfl ?_
 refine s_as (v := .int .i64 (IntKind.i64.wrap (a1 - (a0.length : Int)))) rfl ?_
 refine dn ?_
 refine wp_seq ?_
 refine sr ?_
 refine s_mv (v := .int .i64 (IntKind.i64.wrap (a1 - (a0.length : Int)))) rfl ?_
 refine s_lss rfl rfl ?_
 refine dn ?_
 refine cw_cond rfl (fun hb5 => ?_) (fun hb5 => ?_)
 ·replace h := ift h (ct hb5)
  refine sr ?_
  refine s_as (v := .int .i64 (-1)) rfl ?_
  refine dn ?_
  refine wp_ret (then_ret ?_)
  refine ret1 (fn := Tryz.f38) rfl ?_ ⟨(-1), rfl, h, hC.below⟩ (.inl rfl)
  exact res_tmp rfl
 ·replace h := iff_ h (cf hb5)
  refine wp_skip ?_
  refine then_norm ?_
  refine wp_seq ?_
  refine sr ?_
  refine s_as (v := .int .i64 0) rfl ?_
  refine dn ?_
  refine wp_block ?_
  have hN53 : a0.length ≤ 9223372036854775807 := sl_max (hC.getP 0 rfl)
  refine loopN (S := Int) _ _ (fun i51 s52 e_ w_ => Slots e_ [(0, u0_0), (1, .int .i64 s52), (4, .int .i64 0), (5, .int .i64 (i51 : Int))] ∧ Ctx Nox w0 w_ [] [Ty.item TForm.sl a0 [u0_0] fp0]) a0.length ?_ ?_ (s0 := (IntKind.i64.wrap (a1 - (a0.length : Int)))) ?_ h
  ·clear hC h
   rintro i51 s52 e_ w58 next54 K55 hi57 ⟨hS_, hC⟩ h hK56
   refine wp_seq ?_
   refine sr ?_
   refine s_mv (v := .int .i64 (i51 : Int)) (sx hS_ 3 rfl) ?_
   refine s_mv (v := u0_0) (sx hS_ 0 rfl) ?_
   obtain ⟨Ad59, c60, hv61⟩ := sl_len (hC.getP 0 rfl)
   refine s_len Tryz.underlying23 (tr rfl hv61) ?_
   refine s_lss rfl rfl ?_
   refine dn ?_
   refine cw_true rfl (decide_eq_true (by omega)) ?_
   refine wp_skip ?_
   refine then_norm ?_
   refine wp_seq ?_
   refine wp_block ?_
   refine sr ?_
   refine s_mv (v := u0_0) (sx hS_ 0 rfl) ?_
   refine s_mv (v := .int .i64 (i51 : Int)) (sx hS_ 3 rfl) ?_
   obtain ⟨Ad62, c63, hv64⟩ := sl_form (hC.getP 0 rfl) i51 hi57
   refine s_iaddrS (len := a0.length) Tryz.underlying23 ag50.size (tr rfl hv64) rfl (Int.natCast_nonneg _) (Int.ofNat_lt.2 hi57) ?_
   obtain ⟨cs_, hl66, hc67, hr68⟩ := sl_cells (hC.getP 0 rfl) hv64 i51 hi57
   obtain ⟨u65, rfl⟩ := List.length_eq_one_iff.1 hl66
   clear hl66
   rw [getD_eq _ _ hi57] at hr68
   have hp69 := hr68
   replace hC := hC.derive 0 rfl (Ty.item ETerm.ty.sl ((a0.getD i51 default).terms) [u65] fp0) (fun _ => (form_parts hp69)) (fun _ hb_ => hb_)
   refine s_loadCA [u65] hc67 ag50 rfl rfl ?_
   refine s_mv (v := .int .i64 s52) (sx hS_ 1 rfl) ?_
   refine s_call [.agg #[u65], .int .i64 s52] _ Tryz.func28 rfl rfl rfl (c_laws_szForm (a0.getD i51 default) s52 h _ (form_mk (hC.getP 0 rfl))) (fun ret71 w73 hR72 => ?_)
   obtain ⟨r74, rfl, h, hB75⟩ := hR72
   refine ⟨_, rfl, ?_⟩
   replace hC := hC.grow hB75
   refine s_as (v := .int .i64 r74) rfl ?_
   refine dn ?_
   refine sr ?_
   refine s_mv (v := .int .i64 r74) rfl ?_
   refine s_lss rfl rfl ?_
   refine dn ?_
   refine cw_cond rfl (fun hb76 => ?_) (fun hb76 => ?_)
   ·replace h := ift h (ct hb76)
    refine sr ?_
    refine s_as (v := .int .i64 (-1)) rfl ?_
    refine dn ?_
    refine wp_ret (blk_ret (then_ret (then_ret (blk_ret (then_ret ?_)))))
    refine ret1 (fn := Tryz.f38) rfl ?_ ⟨(-1), rfl, h, hC.below⟩ (.inl rfl)
    exact res_tmp rfl
   ·replace h := iff_ h (cf hb76)
    refine wp_skip ?_
    refine blk_norm ?_
    refine then_norm ?_
    refine cw_region ?_
    refine s_mv (v := .int .i64 (i51 : Int)) (sx hS_ 3 rfl) ?_
    refine s_add rfl rfl ?_
    refine s_as (v := .int .i64 (IntKind.i64.wrap ((i51 : Int) + 1))) rfl ?_
    refine done ?_
    replace hC := hC.sP [1] (Ps' := [Ty.item TForm.sl a0 [u0_0] fp0]) rfl
    exact hK56 r74 _ _ ⟨(sk (sx hS_ 0 rfl) (sk rfl (sk (sx hS_ 2 rfl) (sk (tr rfl (congrArg _ (wrap64_nat hi57 hN53))) sn)))), hC⟩ h
  ·clear hC h
   rintro s52 e_ w77 K55 ⟨hS_, hC⟩ h
   refine wp_seq ?_
   refine sr ?_
   refine s_mv (v := .int .i64 (a0.length : Int)) (sx hS_ 3 rfl) ?_
   refine s_mv (v := u0_0) (sx hS_ 0 rfl) ?_
   obtain ⟨Ad78, c79, hv80⟩ := sl_len (hC.getP 0 rfl)
   refine s_len Tryz.underlying23 (tr rfl hv80) ?_
   refine s_lss rfl rfl ?_
   refine dn ?_
   refine cw_false rfl (decide_eq_false (by omega)) ?_
   refine wp_exit (then_exit (then_exit (exit_in ?_)))
   refine then_norm ?_
   refine sr ?_
   refine s_mv (v := .int .i64 s52) (sx hS_ 1 rfl) ?_
   refine s_as (v := .int .i64 s52) rfl ?_
   refine dn ?_
   refine wp_ret ?_
   refine ret1 (fn := Tryz.f38) rfl ?_ ⟨s52, rfl, h, hC.below⟩ (.inl rfl)
   exact res_tmp rfl
  ·skip
   exact ⟨(sk rfl (sk rfl (sk rfl (sk rfl sn)))), hC⟩
def f_laws_szInt64S (a0 : List Int) (a1 : Int) (K : Int → Prop) : Prop :=
 (if IntKind.i64.wrap (a1 - (a0.length : Int)) < 0 then K (-1) else K (IntKind.i64.wrap (a1 - (a0.length : Int))))
theorem c_laws_szInt64S (a0 : List Int) (a1 : Int) {u0_0 : Value} {fp0 : List Nat} {K : Int → Prop} (h : f_laws_szInt64S a0 a1 K) (w0 : World) (q0 : ((EI .i64).ty.sl).rep a0 [u0_0] fp0 w0) :
  Calls Tryz.prog 37 #[u0_0, .int .i64 a1] w0 fun e w' => ∃ (r0 : Int), 
   e = .returned (.int .i64 r0) ∧ K r0 ∧ Bel w0 w' := by
 unfold f_laws_szInt64S at h
 refine calls_of (args := [u0_0, .int .i64 a1]) Tryz.func37 rfl 12 Tryz.ntmps37 (Nat.le_of_ble_eq_true rfl) ?_
 have hC := Ctx.start (X := Nox) w0 [Ty.item ((EI .i64).ty.sl) a0 [u0_0] fp0] (by simp only [List.mem_cons, List.not_mem_nil, or_false, forall_eq_or_imp, forall_eq]; exact q0)
 refine sr ?_
 refine s_as (v := .int .i64 0) rfl ?_
 refine dn ?_
 refine sr ?_
 refine s_mv (v := .int .i64 a1) rfl ?_
 refine s_mv (v := u0_0) rfl ?_
 obtain ⟨Ad2, c3, hv4⟩ := sl_len (hC.getP 0 rfl)
 refine s_len Tryz.underlying22 (tr rfl hv4) ?_
 refine s_sub rfl rfl ?_
 refine s_as (v := .int .i64 (IntKind.i64.wrap (a1 - (a0.length : Int)))) rfl ?_
 refine dn ?_
 refine wp_seq ?_
 refine sr ?_
 refine s_mv (v := .int .i64 (IntKind.i64.wrap (a1 - (a0.length : Int)))) rfl ?_
 refine s_lss rfl rfl ?_
 refine dn ?_
 refine cw_cond rfl (fun hb5 => ?_) (fun hb5 => ?_)
 ·replace h := ift h (ct hb5)
  refine sr ?_
  refine s_as (v := .int .i64 (-1)) rfl ?_
  refine dn ?_
  refine wp_ret (then_ret ?_)
  refine ret1 (fn := Tryz.f37) rfl ?_ ⟨(-1), rfl, h, hC.below⟩ (.inl rfl)
  exact res_tmp rfl
 ·replace h := iff_ h (cf hb5)
  refine wp_skip ?_
  refine then_norm ?_
  refine sr ?_
  refine s_mv (v := .int .i64 (IntKind.i64.wrap (a1 - (a0.length : Int)))) rfl ?_
  refine s_as (v := .int .i64 (IntKind.i64.wrap (a1 - (a0.length : Int)))) rfl ?_
  refine dn ?_
  refine wp_ret ?_
  refine ret1 (fn := Tryz.f37) rfl ?_ ⟨IntKind.i64.wrap (a1 - (a0.length : Int)), rfl, h, hC.below⟩ (.inl rfl)
  exact res_tmp rfl
def f_laws_szAlgebra (a0 : Alg) (a1 : Int) (K : Int → Prop) : Prop :=
 f_laws_szInt64S a0.degrees a1 (fun r11 => (if r11 < 0 then K (-1) else f_laws_szFormS a0.images r11 (fun r17 => (if r17 < 0 then K (-1) else K r17))))
theorem c_laws_szAlgebra (a0 : Alg) (a1 : Int) {u0_0 : Value} {u0_1 : Value} {fp0 : List Nat} {K : Int → Prop} (h : f_laws_szAlgebra a0 a1 K) (w0 : World) (q0 : TAlg.rep a0 [u0_0, u0_1] fp0 w0) :
  Calls Tryz.prog 10 #[.agg #[u0_0, u0_1], .int .i64 a1] w0 fun e w' => ∃ (r0 : Int), 
   e = .returned (.int .i64 r0) ∧ K r0 ∧ Bel w0 w' := by
 unfold f_laws_szAlgebra at h
 refine calls_of (args := [.agg #[u0_0, u0_1], .int .i64 a1]) Tryz.func10 rfl 18 Tryz.ntmps10 (Nat.le_of_ble_eq_true rfl) ?_
 have hC := Ctx.start (X := Nox) w0 [Ty.item TAlg a0 [u0_0, u0_1] fp0] (by simp only [List.mem_cons, List.not_mem_nil, or_false, forall_eq_or_imp, forall_eq]; exact q0)
 have hp2 := (hC.getP 0 rfl)
 replace hC := hC.derive 0 rfl (Ty.item ((EI .i64).ty.sl) a0.degrees [u0_0] fp0) (fun _ => (alg_parts hp2).1) (fun _ hb_ => hb_)
 replace hC := hC.derive 1 rfl (Ty.item TForm.sl a0.images [u0_1] fp0) (fun _ => (alg_parts hp2).2) (fun _ hb_ => hb_)
 refine sr ?_
 refine s_box (v := .agg #[u0_0, u0_1]) hC [u0_0, u0_1] rfl rfl fun b5 w7 hB_ hC => ?_
 refine s_as (v := .int .i64 0) rfl ?_
 refine dn ?_
 refine sr ?_
 refine s_faddrB 0 Tryz.underlying25 rfl sc22.size rfl rfl ?_
 refine s_loadS hC 0 (u0_0) rfl sc22 rfl rfl ?_
 refine s_mv (v := .int .i64 a1) rfl ?_
 refine s_call [u0_0, .int .i64 a1] _ Tryz.func37 rfl rfl rfl (c_laws_szInt64S a0.degrees a1 h _ (hC.getP 1 rfl)) (fun ret8 w10 hR9 => ?_)
 obtain ⟨r11, rfl, h, hB12⟩ := hR9
 refine ⟨_, rfl, ?_⟩
 replace hC := hC.grow hB12
 refine s_as (v := .int .i64 r11) rfl ?_
 refine dn ?_
 refine wp_seq ?_
 refine sr ?_
 refine s_mv (v := .int .i64 r11) rfl ?_
 refine s_lss rfl rfl ?_
 refine dn ?_
 refine cw_cond rfl (fun hb13 => ?_) (fun hb13 => ?_)
 ·replace h := ift h (ct hb13)
  refine sr ?_
  refine s_as (v := .int .i64 (-1)) rfl ?_
  refine dn ?_
  refine wp_ret (then_ret ?_)
  refine ret1 (fn := Tryz.f10) rfl ?_ ⟨(-1), rfl, h, hC.below⟩ (.inl rfl)
  exact res_tmp rfl
 ·replace h := iff_ h (cf hb13)
  refine wp_skip ?_
  refine then_norm ?_
  refine sr ?_
  refine s_faddrB 1 Tryz.underlying25 rfl sc23.size rfl rfl ?_
  refine s_loadS hC 0 (u0_1) rfl sc23 rfl rfl ?_
  refine s_mv (v := .int .i64 r11) rfl ?_
  refine s_call [u0_1, .int .i64 r11] _ Tryz.func38 rfl rfl rfl (c_laws_szFormS a0.images r11 h _ (hC.getP 0 rfl)) (fun ret14 w16 hR15 => ?_)
  obtain ⟨r17, rfl, h, hB18⟩ := hR15
  refine ⟨_, rfl, ?_⟩
  replace hC := hC.grow hB18
  refine s_as (v := .int .i64 r17) rfl ?_
  refine dn ?_
  refine wp_seq ?_
  refine sr ?_
  refine s_mv (v := .int .i64 r17) rfl ?_
  refine s_lss rfl rfl ?_
  refine dn ?_
  refine cw_cond rfl (fun hb19 => ?_) (fun hb19 => ?_)
  ·replace h := ift h (ct hb19)
   refine sr ?_
   refine s_as (v := .int .i64 (-1)) rfl ?_
   refine dn ?_
   refine wp_ret (then_ret ?_)
   refine ret1 (fn := Tryz.f10) rfl ?_ ⟨(-1), rfl, h, hC.below⟩ (.inl rfl)
   exact res_tmp rfl
  ·replace h := iff_ h (cf hb19)
   refine wp_skip ?_
   refine then_norm ?_
   refine sr ?_
   refine s_mv (v := .int .i64 r17) rfl ?_
   refine s_as (v := .int .i64 r17) rfl ?_
   refine dn ?_
   refine wp_ret ?_
   refine ret1 (fn := Tryz.f10) rfl ?_ ⟨r17, rfl, h, hC.below⟩ (.inl rfl)
   exact res_tmp rfl
def f_laws_toFormS (a0 : List Vc.Form) (K : List Vc.Form → Prop) : Prop :=
 ((0 ≤ (a0.length : Int) ∧ (a0.length : Int) * 24 ≤ 281474976710656) ∧ forN (fun i86 (s87 : (List Vc.Form)) next91 => f_laws_toForm (a0.getD i86 default) (fun r111 => ((0 ≤ (i86 : Int) ∧ (i86 : Int) < (s87.length : Int)) ∧ next91 (s87.set i86 r111)))) (fun (s87 : (List Vc.Form)) => K s87) a0.length 0 (List.replicate ((a0.length : Int).toNat) ((⟨[]⟩ : Vc.Form) : Vc.Form)))
theorem c_laws_toFormS (a0 : List Vc.Form) {u0_0 : Value} {fp0 : List Nat} {K : List Vc.Form → Prop} (h : f_laws_toFormS a0 K) (w0 : World) (q0 : TForm.sl.rep a0 [u0_0] fp0 w0) :
  Calls Tryz.prog 42 #[u0_0] w0 fun e w' => ∃ (r0 : List Vc.Form) (z0_0 : Value) (fz0 : List Nat), 
   e = .returned (z0_0) ∧ K r0 ∧ (Tr.item (Tr.sl 55 (TrForm 162)) r0 [z0_0] fz0).holds w' ∧ (∀ b, b ∈ fz0 → w0.heap.size ≤ b) ∧ Bel w0 w' := by
 unfold f_laws_toFormS at h
 refine calls_of (args := [u0_0]) Tryz.func42 rfl 23 Tryz.ntmps42 (Nat.le_of_ble_eq_true rfl) ?_
 have hC := Ctx.start (X := Nox) w0 [Ty.item TForm.sl a0 [u0_0] fp0] (by simp only [List.mem_cons, List.not_mem_nil, or_false, forall_eq_or_imp, forall_eq]; exact q0)
 refine sr ?_
 refine s_as (v := .slice none 0 0) rfl ?_
 refine dn ?_
 refine sr ?_
 refine s_mv (v := u0_0) rfl ?_
 obtain ⟨Ad2, c3, hv4⟩ := sl_len (hC.getP 0 rfl)
 refine s_len Tryz.underlying23 (tr rfl hv4) ?_
 obtain ⟨hm7, h⟩ := h
 refine s_make (sz := 1) hC (List.replicate ((a0.length : Int).toNat) (.slice none 0 0)) Tryz.underlying30 el55 (tr rfl (congrArg (Value.int .i64) (Int.toNat_of_nonneg hm7.1).symm)) (tr rfl (congrArg (Value.int .i64) (Int.toNat_of_nonneg hm7.1).symm)) (by omega) (by omega) (made_nil _) fun v5 w6 hB_ hC => ?_
 replace hC := hC.pushM0 (forest (TrForm 162) (List.replicate ((a0.length : Int).toNat) ((⟨[]⟩ : Vc.Form) : Vc.Form)) (List.replicate ((a0.length : Int).toNat) (.slice none 0 0)) (List.replicate ((a0.length : Int).toNat) [])) (forest_rep (form_join (nil_item _ _ _)) rfl _) (flat_rep _)
 replace hC := hC.gather (c := Tr.item (Tr.sl 55 (TrForm 162)) (List.replicate ((a0.length : Int).toNat) ((⟨[]⟩ : Vc.Form) : Vc.Form)) [v5] ((Option.toList (Value.ownBlock v5)) ++ (List.replicate ((a0.length : Int).toNat) ([] : List Nat)).flatten)) (fun x_ hx_ => (List.mem_append.1 hx_).symm) (fun h1_ h2_ hd_ => forest_up (by rw [List.length_replicate]; exact h2_) h1_ (fun b_ hb_ hb2_ => hd_ b_ hb2_ hb_))
 refine s_as (v := v5) rfl ?_
 refine dn ?_
 refine wp_seq ?_
 refine sr ?_
 refine s_as (v := .int .i64 0) rfl ?_
 refine dn ?_
 refine wp_block ?_
 have hN90 : a0.length ≤ 9223372036854775807 := sl_max (hC.getP 0 rfl)
 refine loopN (S := (List Vc.Form)) _ _ (fun i86 s87 e_ w_ => ∃ (v88 : Value), ∃ (f89 : List Nat), Slots e_ [(0, u0_0), (2, .slice none 0 0), (3, v88), (4, .int .i64 (i86 : Int))] ∧ Ctx Nox w0 w_ [Tr.item (Tr.sl 55 (TrForm 162)) s87 [v88] f89] [Ty.item TForm.sl a0 [u0_0] fp0]) a0.length ?_ ?_ (s0 := (List.replicate ((a0.length : Int).toNat) ((⟨[]⟩ : Vc.Form) : Vc.Form))) ?_ h
 ·clear hC h
  rintro i86 s87 e_ w95 next91 K92 hi94 ⟨v88, f89, hS_, hC⟩ h hK93
  refine wp_seq ?_
  refine sr ?_
  refine s_mv (v := .int .i64 (i86 : Int)) (sx hS_ 3 rfl) ?_
  refine s_mv (v := u0_0) (sx hS_ 0 rfl) ?_
  obtain ⟨Ad96, c97, hv98⟩ := sl_len (hC.getP 0 rfl)
  refine s_len Tryz.underlying23 (tr rfl hv98) ?_
  refine s_lss rfl rfl ?_
  refine dn ?_
  refine cw_true rfl (decide_eq_true (by omega)) ?_
  refine wp_skip ?_
  refine then_norm ?_
  refine wp_seq ?_
  refine wp_block ?_
  refine cw_region ?_
  refine s_mv (v := v88) (sx hS_ 2 rfl) ?_
  refine s_mv (v := .int .i64 (i86 : Int)) (sx hS_ 3 rfl) ?_
  refine s_mv (v := u0_0) (sx hS_ 0 rfl) ?_
  refine s_mv (v := .int .i64 (i86 : Int)) (sx hS_ 3 rfl) ?_
  obtain ⟨Ad99, c100, hv101⟩ := sl_form (hC.getP 0 rfl) i86 hi94
  refine s_iaddrS (len := a0.length) Tryz.underlying23 ag50.size (tr rfl hv101) rfl (Int.natCast_nonneg _) (Int.ofNat_lt.2 hi94) ?_
  obtain ⟨cs_, hl103, hc104, hr105⟩ := sl_cells (hC.getP 0 rfl) hv101 i86 hi94
  obtain ⟨u102, rfl⟩ := List.length_eq_one_iff.1 hl103
  clear hl103
  rw [getD_eq _ _ hi94] at hr105
  have hp106 := hr105
  replace hC := hC.derive 0 rfl (Ty.item ETerm.ty.sl ((a0.getD i86 default).terms) [u102] fp0) (fun _ => (form_parts hp106)) (fun _ hb_ => hb_)
  refine s_loadCA [u102] hc104 ag50 rfl rfl ?_
  refine s_call [.agg #[u102]] _ Tryz.func30 rfl rfl rfl (c_laws_toForm (a0.getD i86 default) h _ (form_mk (hC.getP 0 rfl))) (fun ret108 w110 hR109 => ?_)
  obtain ⟨r111, u112, f113, rfl, h, hr114, hf115, hB116⟩ := hR109
  refine ⟨_, rfl, ?_⟩
  replace hC := hC.push hB116 (Tr.item (TrForm 162) r111 [u112] f113) hr114 hf115
  obtain ⟨ho118, hf119⟩ := form_split (hC.getM 0 rfl)
  subst hf119
  replace hC := hC.recast (c := own 162 9 u112 r111.terms.length (ETerm.encs r111.terms)) (fun _ h_ => h_) (fun _ => ho118)
  obtain ⟨⟨h0_121, h1_122⟩, h⟩ := h
  obtain ⟨g123, cap124, hv125⟩ := tr_formE (hC.getM 1 rfl) (Nat.lt_of_le_of_lt (Nat.zero_le _) (show i86 < s87.length by omega))
  refine s_iaddrO (i86 * 1) Tryz.underlying30 ag55.size (tr rfl hv125) rfl h0_121 h1_122 rfl ?_
  replace hC := hC.recast (c := Tr.item (TrForm 162) r111 [u112] (Option.toList (Value.ownBlock u112))) (fun _ h_ => h_) (fun h_ => form_join (own_item h_))
  replace hC := hC.sM [1, 0] (M' := [Tr.item (Tr.sl 55 (TrForm 162)) s87 [v88] f89, Tr.item (TrForm 162) r111 [u112] (Option.toList (Value.ownBlock u112))]) (by decide) rfl
  refine s_storeT (u := .agg #[u112]) hC (show i86 < s87.length by omega) hv125 ag55.size rfl rfl rfl rfl fun f127 w128 hC => ?_
  refine done ?_
  refine blk_norm ?_
  refine then_norm ?_
  refine cw_region ?_
  refine s_mv (v := .int .i64 (i86 : Int)) (sx hS_ 3 rfl) ?_
  refine s_add rfl rfl ?_
  refine s_as (v := .int .i64 (IntKind.i64.wrap ((i86 : Int) + 1))) rfl ?_
  refine done ?_
  replace hC := hC.sP [1] (Ps' := [Ty.item TForm.sl a0 [u0_0] fp0]) rfl
  exact hK93 (s87.set i86 r111) _ _ ⟨v88, f127, (sk (sx hS_ 0 rfl) (sk (sx hS_ 1 rfl) (sk (sx hS_ 2 rfl) (sk (tr rfl (congrArg _ (wrap64_nat hi94 hN90))) sn)))), hC⟩ h
 ·clear hC h
  rintro s87 e_ w129 K92 ⟨v88, f89, hS_, hC⟩ h
  refine wp_seq ?_
  refine sr ?_
  refine s_mv (v := .int .i64 (a0.length : Int)) (sx hS_ 3 rfl) ?_
  refine s_mv (v := u0_0) (sx hS_ 0 rfl) ?_
  obtain ⟨Ad130, c131, hv132⟩ := sl_len (hC.getP 0 rfl)
  refine s_len Tryz.underlying23 (tr rfl hv132) ?_
  refine s_lss rfl rfl ?_
  refine dn ?_
  refine cw_false rfl (decide_eq_false (by omega)) ?_
  refine wp_exit (then_exit (then_exit (exit_in ?_)))
  refine then_norm ?_
  refine sr ?_
  refine s_mv (v := v88) (sx hS_ 2 rfl) ?_
  refine s_as (v := v88) rfl ?_
  refine dn ?_
  refine wp_ret ?_
  refine ret1 (fn := Tryz.f42) rfl ?_ ⟨s87, v88, f89, rfl, h, (hC.getM 0 rfl), (tr_fresh hC 0 rfl), hC.below⟩ (.inl rfl)
  exact res_tmp rfl
 ·skip
  exact ⟨v5, ((Option.toList (Value.ownBlock v5)) ++ (List.replicate ((a0.length : Int).toNat) ([] : List Nat)).flatten), (sk rfl (sk rfl (sk rfl (sk rfl sn)))), hC⟩
def f_laws_toAlgebra (a0 : Alg) (K : Alg → Prop) : Prop :=
 f_laws_toInt64S a0.degrees (fun r17 => f_laws_toFormS a0.images (fun r31 => K (⟨r17, r31⟩ : Alg)))
theorem c_laws_toAlgebra (a0 : Alg) {u0_0 : Value} {u0_1 : Value} {fp0 : List Nat} {K : Alg → Prop} (h : f_laws_toAlgebra a0 K) (w0 : World) (q0 : TAlg.rep a0 [u0_0, u0_1] fp0 w0) :
  Calls Tryz.prog 12 #[.agg #[u0_0, u0_1]] w0 fun e w' => ∃ (r0 : Alg) (z0_0 : Value) (z0_1 : Value) (fz0 : List Nat), 
   e = .returned (.agg #[z0_0, z0_1]) ∧ K r0 ∧ (Tr.item (TrAlg 2 162 55) r0 [z0_0, z0_1] fz0).holds w' ∧ (∀ b, b ∈ fz0 → w0.heap.size ≤ b) ∧ Bel w0 w' := by
 unfold f_laws_toAlgebra at h
 refine calls_of (args := [.agg #[u0_0, u0_1]]) Tryz.func12 rfl 13 Tryz.ntmps12 (Nat.le_of_ble_eq_true rfl) ?_
 have hC := Ctx.start (X := Nox) w0 [Ty.item TAlg a0 [u0_0, u0_1] fp0] (by simp only [List.mem_cons, List.not_mem_nil, or_false, forall_eq_or_imp, forall_eq]; exact q0)
 have hp2 := (hC.getP 0 rfl)
 replace hC := hC.derive 0 rfl (Ty.item ((EI .i64).ty.sl) a0.degrees [u0_0] fp0) (fun _ => (alg_parts hp2).1) (fun _ hb_ => hb_)
 replace hC := hC.derive 1 rfl (Ty.item TForm.sl a0.images [u0_1] fp0) (fun _ => (alg_parts hp2).2) (fun _ hb_ => hb_)
 refine sr ?_
 refine s_box (v := .agg #[u0_0, u0_1]) hC [u0_0, u0_1] rfl rfl fun b5 w7 hB_ hC => ?_
 refine s_alloc hC [.slice none 0 0, .slice none 0 0] z32 rfl fun b8 w10 hB_ hC => ?_
 refine dn ?_
 refine sr ?_
 refine s_alloc hC [.slice none 0 0, .slice none 0 0] z32 rfl fun b11 w13 hB_ hC => ?_
 refine dn ?_
 refine sr ?_
 refine s_faddrB 0 Tryz.underlying25 rfl sc22.size rfl rfl ?_
 refine s_loadS hC 2 (u0_0) rfl sc22 rfl rfl ?_
 refine s_call [u0_0] _ Tryz.func41 rfl rfl rfl (c_laws_toInt64S a0.degrees h _ (hC.getP 1 rfl)) (fun ret14 w16 hR15 => ?_)
 obtain ⟨r17, u18, f19, rfl, h, hr20, hf21, hB22⟩ := hR15
 refine ⟨_, rfl, ?_⟩
 replace hC := hC.push hB22 (Tr.item (Tr.sl 2 ((EI .i64).tr)) r17 [u18] f19) hr20 hf21
 obtain ⟨ho24, hf25⟩ := flat_tr (hC.getM 0 rfl).1
 subst hf25
 replace hC := hC.recast (c := own 2 1 u18 r17.length ((EI .i64).encs r17)) (fun _ h_ => h_) (fun _ => ho24)
 refine s_faddrB 0 Tryz.underlying32 rfl sc22.size rfl rfl ?_
 refine s_store (v := u18) hC 1 [u18] [u18, .slice none 0 0] rfl sc22.size rfl rfl (own_cellsV (hC.getM 0 rfl)) rfl (all_c (own_oneC (hC.getM 0 rfl)) rfl) (Nat.le_of_ble_eq_true rfl) rfl fun w27 hC => ?_
 refine dn ?_
 refine sr ?_
 refine s_faddrB 1 Tryz.underlying25 rfl sc23.size rfl rfl ?_
 refine s_loadS hC 3 (u0_1) rfl sc23 rfl rfl ?_
 refine s_call [u0_1] _ Tryz.func42 rfl rfl rfl (c_laws_toFormS a0.images h _ (hC.getP 0 rfl)) (fun ret28 w30 hR29 => ?_)
 obtain ⟨r31, u32, f33, rfl, h, hr34, hf35, hB36⟩ := hR29
 refine ⟨_, rfl, ?_⟩
 replace hC := hC.push hB36 (Tr.item (Tr.sl 55 (TrForm 162)) r31 [u32] f33) hr34 hf35
 refine s_faddrB 1 Tryz.underlying32 rfl sc30.size rfl rfl ?_
 refine s_store (v := u32) hC 2 [u32] [u18, u32] rfl sc30.size rfl rfl (rep_cellsV (Tr.trep _ (hC.getM 0 rfl).1)) rfl (all_c (rep_oneC (Tr.trep _ (hC.getM 0 rfl).1)) rfl) (Nat.le_of_ble_eq_true rfl) rfl fun w39 hC => ?_
 refine dn ?_
 refine sr ?_
 refine s_loadA hC 2 [u18, u32] rfl ag32 rfl rfl rfl ?_
 refine s_store (v := .agg #[u18, u32]) hC 3 [u18, u32] [u18, u32] rfl ag32.size rfl rfl rfl rfl (all_c (own_oneC (hC.getM 1 rfl)) (all_c (rep_oneC (Tr.trep _ (hC.getM 0 rfl).1)) rfl)) (Nat.le_of_ble_eq_true rfl) rfl fun w40 hC => ?_
 refine dn ?_
 refine wp_ret ?_
 refine ret1 (fn := Tryz.f12) rfl ?_ ⟨(⟨r17, r31⟩ : Alg), u18, u32, ((Option.toList (Value.ownBlock u18)) ++ f33), rfl, h, (alg_join (own_item (hC.getM 1 rfl)) (hC.getM 0 rfl) (fun x hx hx' => hC.mm 1 0 rfl rfl (by decide) x hx hx')), (fun b hb => (List.mem_append.1 hb).elim (fun hb => (own_fresh hC 1 rfl) b hb) (fun hb => (tr_fresh hC 0 rfl) b hb)), hC.below⟩ (.inl rfl)
 exact res_cellA hC 3 rfl ag32 rfl rfl
def f_laws_eqAlgebra (a0 : Alg) (a1 : Alg) (K : Bool → Prop) : Prop :=
 f_laws_eqInt64S a0.degrees a1.degrees (fun r18 => (if ¬ (r18 = true) then K false else f_laws_eqFormS a0.images a1.images (fun r24 => (if ¬ (r24 = true) then K false else K true))))
theorem c_laws_eqAlgebra (a0 : Alg) (a1 : Alg) {u0_0 : Value} {u0_1 : Value} {u1_0 : Value} {u1_1 : Value} {fp0 : List Nat} {fp1 : List Nat} {K : Bool → Prop} (h : f_laws_eqAlgebra a0 a1 K) (w0 : World) (q0 : TAlg.rep a0 [u0_0, u0_1] fp0 w0) (q1 : TAlg.rep a1 [u1_0, u1_1] fp1 w0) :
  Calls Tryz.prog 15 #[.agg #[u0_0, u0_1], .agg #[u1_0, u1_1]] w0 fun e w' => ∃ (r0 : Bool), 
   e = .returned (.bool r0) ∧ K r0 ∧ Bel w0 w' := by
 unfold f_laws_eqAlgebra at h
 refine calls_of (args := [.agg #[u0_0, u0_1], .agg #[u1_0, u1_1]]) Tryz.func15 rfl 17 Tryz.ntmps15 (Nat.le_of_ble_eq_true rfl) ?_
 have hC := Ctx.start (X := Nox) w0 [Ty.item TAlg a0 [u0_0, u0_1] fp0, Ty.item TAlg a1 [u1_0, u1_1] fp1] (by simp only [List.mem_cons, List.not_mem_nil, or_false, forall_eq_or_imp, forall_eq]; exact ⟨q0, q1⟩)
 have hp3 := (hC.getP 0 rfl)
 replace hC := hC.derive 0 rfl (Ty.item ((EI .i64).ty.sl) a0.degrees [u0_0] fp0) (fun _ => (alg_parts hp3).1) (fun _ hb_ => hb_)
 replace hC := hC.derive 1 rfl (Ty.item TForm.sl a0.images [u0_1] fp0) (fun _ => (alg_parts hp3).2) (fun _ hb_ => hb_)
 have hp6 := (hC.getP 3 rfl)
 replace hC := hC.derive 3 rfl (Ty.item ((EI .i64).ty.sl) a1.degrees [u1_0] fp1) (fun _ => (alg_parts hp6).1) (fun _ hb_ => hb_)
 replace hC := hC.derive 4 rfl (Ty.item TForm.sl a1.images [u1_1] fp1) (fun _ => (alg_parts hp6).2) (fun _ hb_ => hb_)
 refine sr ?_
 refine s_box (v := .agg #[u0_0, u0_1]) hC [u0_0, u0_1] rfl rfl fun b9 w11 hB_ hC => ?_
 refine s_box (v := .agg #[u1_0, u1_1]) hC [u1_0, u1_1] rfl rfl fun b12 w14 hB_ hC => ?_
 refine s_as (v := .bool false) rfl ?_
 refine dn ?_
 refine wp_seq ?_
 refine sr ?_
 refine s_faddrB 0 Tryz.underlying32 rfl sc22.size rfl rfl ?_
 refine s_loadS hC 1 (u0_0) rfl sc22 rfl rfl ?_
 refine s_faddrB 0 Tryz.underlying32 rfl sc22.size rfl rfl ?_
 refine s_loadS hC 0 (u1_0) rfl sc22 rfl rfl ?_
 refine s_call [u0_0, u1_0] _ Tryz.func25 rfl rfl rfl (c_laws_eqInt64S a0.degrees a1.degrees h _ (hC.getP 3 rfl) (hC.getP 1 rfl)) (fun ret15 w17 hR16 => ?_)
 obtain ⟨r18, rfl, h, hB19⟩ := hR16
 refine ⟨_, rfl, ?_⟩
 replace hC := hC.grow hB19
 refine s_not rfl ?_
 refine dn ?_
 refine cw_cond rfl (fun hb20 => ?_) (fun hb20 => ?_)
 ·replace h := ift h (ne_t (not_t hb20))
  refine sr ?_
  refine s_as (v := .bool false) rfl ?_
  refine dn ?_
  refine wp_ret (then_ret ?_)
  refine ret1 (fn := Tryz.f15) rfl ?_ ⟨false, rfl, h, hC.below⟩ (.inl rfl)
  exact res_tmp rfl
 ·replace h := iff_ h (not_not_intro ((not_f hb20)))
  refine wp_skip ?_
  refine then_norm ?_
  refine wp_seq ?_
  refine sr ?_
  refine s_faddrB 1 Tryz.underlying32 rfl sc30.size rfl rfl ?_
  refine s_loadS hC 1 (u0_1) rfl sc30 rfl rfl ?_
  refine s_faddrB 1 Tryz.underlying32 rfl sc30.size rfl rfl ?_
  refine s_loadS hC 0 (u1_1) rfl sc30 rfl rfl ?_
  refine s_call [u0_1, u1_1] _ Tryz.func51 rfl rfl rfl (c_laws_eqFormS a0.images a1.images h _ (hC.getP 2 rfl) (hC.getP 0 rfl)) (fun ret21 w23 hR22 => ?_)
  obtain ⟨r24, rfl, h, hB25⟩ := hR22
  refine ⟨_, rfl, ?_⟩
  replace hC := hC.grow hB25
  refine s_not rfl ?_
  refine dn ?_
  refine cw_cond rfl (fun hb26 => ?_) (fun hb26 => ?_)
  ·replace h := ift h (ne_t (not_t hb26))
   refine sr ?_
   refine s_as (v := .bool false) rfl ?_
   refine dn ?_
   refine wp_ret (then_ret ?_)
   refine ret1 (fn := Tryz.f15) rfl ?_ ⟨false, rfl, h, hC.below⟩ (.inl rfl)
   exact res_tmp rfl
  ·replace h := iff_ h (not_not_intro ((not_f hb26)))
   refine wp_skip ?_
   refine then_norm ?_
   refine sr ?_
   refine s_as (v := .bool true) rfl ?_
   refine dn ?_
   refine wp_ret ?_
   refine ret1 (fn := Tryz.f15) rfl ?_ ⟨true, rfl, h, hC.below⟩ (.inl rfl)
   exact res_tmp rfl
def f_impl_first (a0 : List Int) (K : Int → Prop) : Prop :=
 forN (fun i12 (s13 : Unit) next15 => (if a0.getD i12 default ≠ 0 then K (a0.getD i12 default) else next15 ())) (fun (s13 : Unit) => K 0) a0.length 0 ()
theorem c_impl_first (a0 : List Int) {u0_0 : Value} {fp0 : List Nat} {K : Int → Prop} (h : f_impl_first a0 K) (w0 : World) (q0 : ((EI .i64).ty.sl).rep a0 [u0_0] fp0 w0) :
  Calls Tryz.prog 43 #[u0_0] w0 fun e w' => ∃ (r0 : Int), 
   e = .returned (.int .i64 r0) ∧ K r0 ∧ Bel w0 w' := by
 unfold f_impl_first at h
 refine calls_of (args := [u0_0]) Tryz.func43 rfl 15 Tryz.ntmps43 (Nat.le_of_ble_eq_true rfl) ?_
 have hC := Ctx.start (X := Nox) w0 [Ty.item ((EI .i64).ty.sl) a0 [u0_0] fp0] (by simp only [List.mem_cons, List.not_mem_nil, or_false, forall_eq_or_imp, forall_eq]; exact q0)
 refine sr ?_
 refine s_as (v := .int .i64 0) rfl ?_
 refine dn ?_
 refine wp_seq ?_
 refine sr ?_
 refine s_mv (v := u0_0) rfl ?_
 obtain ⟨Ad2, c3, hv4⟩ := sl_len (hC.getP 0 rfl)
 refine s_len Tryz.underlying22 (tr rfl hv4) ?_
 refine s_mv (v := .int .i64 0) rfl ?_
 refine dn ?_
 refine wp_block ?_
 have hN14 : a0.length ≤ 9223372036854775807 := sl_max (hC.getP 0 rfl)
 refine loopN (S := Unit) _ _ (fun i12 s13 e_ w_ => Slots e_ [(2, .int .i64 0), (5, u0_0), (6, .int .i64 (a0.length : Int)), (7, .int .i64 (i12 : Int))] ∧ Ctx Nox w0 w_ [] [Ty.item ((EI .i64).ty.sl) a0 [u0_0] fp0]) a0.length ?_ ?_ (s0 := ()) ?_ h
 ·clear hC h
  rintro i12 s13 e_ w19 next15 K16 hi18 ⟨hS_, hC⟩ h hK17
  refine sr ?_
  refine s_lss (sx hS_ 3 rfl) (sx hS_ 2 rfl) ?_
  refine dn ?_
  refine wp_seq ?_
  refine cw_true rfl (decide_eq_true (by omega)) ?_
  refine wp_skip ?_
  refine then_norm ?_
  refine wp_seq ?_
  refine wp_block ?_
  refine sr ?_
  obtain ⟨Ad20, c21, hv22⟩ := sl_form (hC.getP 0 rfl) i12 hi18
  refine s_iaddrS (len := a0.length) Tryz.underlying22 sc2.size (tr (sx hS_ 1 rfl) hv22) (sx hS_ 3 rfl) (Int.natCast_nonneg _) (Int.ofNat_lt.2 hi18) ?_
  refine s_loadCS (.int .i64 (a0.getD i12 default)) (sl_cellsE (hC.getP 0 rfl) hv22 i12 hi18) sc2 rfl ?_
  refine s_as (v := .int .i64 (a0.getD i12 default)) rfl ?_
  refine dn ?_
  refine sr ?_
  refine s_mv (v := .int .i64 (a0.getD i12 default)) rfl ?_
  refine s_neq rfl rfl ?_
  refine dn ?_
  refine cw_cond rfl (fun hb23 => ?_) (fun hb23 => ?_)
  ·replace h := ift h (ct hb23)
   refine sr ?_
   refine s_mv (v := .int .i64 (a0.getD i12 default)) rfl ?_
   refine s_as (v := .int .i64 (a0.getD i12 default)) rfl ?_
   refine dn ?_
   refine wp_ret (blk_ret (then_ret (then_ret (blk_ret (then_ret ?_)))))
   refine ret1 (fn := Tryz.f43) rfl ?_ ⟨a0.getD i12 default, rfl, h, hC.below⟩ (.inl rfl)
   exact res_tmp rfl
  ·replace h := iff_ h (cf hb23)
   refine wp_skip ?_
   refine blk_norm ?_
   refine then_norm ?_
   refine cw_region ?_
   refine s_add (sx hS_ 3 rfl) rfl ?_
   refine s_mv (v := .int .i64 (IntKind.i64.wrap ((i12 : Int) + 1))) rfl ?_
   refine done ?_
   exact hK17 () _ _ ⟨(sk (sx hS_ 0 rfl) (sk (sx hS_ 1 rfl) (sk (sx hS_ 2 rfl) (sk (tr rfl (congrArg _ (wrap64_nat hi18 hN14))) sn)))), hC⟩ h
 ·clear hC h
  rintro s13 e_ w24 K16 ⟨hS_, hC⟩ h
  refine sr ?_
  refine s_lss (sx hS_ 3 rfl) (sx hS_ 2 rfl) ?_
  refine dn ?_
  refine wp_seq ?_
  refine cw_false rfl (decide_eq_false (by omega)) ?_
  refine wp_exit (then_exit (then_exit (exit_in ?_)))
  refine then_norm ?_
  refine sr ?_
  refine s_as (v := .int .i64 0) rfl ?_
  refine dn ?_
  refine wp_ret ?_
  refine ret1 (fn := Tryz.f43) rfl ?_ ⟨0, rfl, h, hC.below⟩ (.inl rfl)
  exact res_tmp rfl
 ·skip
  exact ⟨(sk rfl (sk rfl (sk rfl (sk rfl sn)))), hC⟩
def f_laws_markInt64S (a0 : List Int) (a1 : Int) (K : Int → List Int → Prop) : Prop :=
 whileP (fun (s49 : (List Int) × Int × Int) next50 => (if s49.2.2 < (s49.1.length : Int) then ((0 ≤ s49.2.2 ∧ s49.2.2 < (s49.1.length : Int)) ∧ next50 (s49.1.set s49.2.2.toNat s49.2.1, IntKind.i64.wrap (s49.2.1 + 1), IntKind.i64.wrap (s49.2.2 + 1))) else K s49.2.1 s49.1)) (a0, a1, 0)
theorem c_laws_markInt64S (a0 : List Int) (a1 : Int) {u0_0 : Value} {K : Int → List Int → Prop} (h : f_laws_markInt64S a0 a1 K) (w0 : World) (qw0 : (own 2 1 u0_0 a0.length ((EI .i64).encs a0)).holds w0) :
  Calls Tryz.prog 26 #[u0_0, .int .i64 a1] w0 fun e w' => ∃ (r0 : Int) (mw : List Int), 
   e = .returned (.int .i64 r0) ∧ K r0 mw ∧ (own 2 1 u0_0 mw.length ((EI .i64).encs mw)).holds w' ∧ BelO ((Option.toList (Value.ownBlock u0_0))) w0 w' := by
 unfold f_laws_markInt64S at h
 refine calls_of (args := [u0_0, .int .i64 a1]) Tryz.func26 rfl 19 Tryz.ntmps26 (Nat.le_of_ble_eq_true rfl) ?_
 have hC := Ctx.startL w0 ((Option.toList (Value.ownBlock u0_0))) [own 2 1 u0_0 a0.length ((EI .i64).encs a0)] [] (by simp only [List.mem_cons, List.not_mem_nil, or_false, forall_eq_or_imp, forall_eq]; exact qw0) (by simp) (by simp only [List.mem_cons, List.not_mem_nil, or_false, forall_eq_or_imp, forall_eq]; exact fun b hb => hb) (List.pairwise_singleton _ _) (by simp)
 refine sr ?_
 refine s_as (v := .int .i64 0) rfl ?_
 refine dn ?_
 refine wp_seq ?_
 refine sr ?_
 refine s_as (v := .int .i64 0) rfl ?_
 refine dn ?_
 refine wp_block ?_
 refine loopW (S := (List Int) × Int × Int) _ (fun s49 e_ w_ => Slots e_ [(0, u0_0), (1, .int .i64 s49.2.1), (4, .int .i64 0), (5, .int .i64 s49.2.2)] ∧ Ctx (fun c_ => c_ ∈ (Option.toList (Value.ownBlock u0_0))) w0 w_ [own 2 1 u0_0 s49.1.length ((EI .i64).encs s49.1)] []) ?_ (s0 := (a0, a1, 0)) ?_ h
 ·clear hC h
  rintro s49 e_ w53 next50 K51 ⟨hS_, hC⟩ h hK52
  refine wp_seq ?_
  refine sr ?_
  refine s_mv (v := .int .i64 s49.2.2) (sx hS_ 3 rfl) ?_
  refine s_mv (v := u0_0) (sx hS_ 0 rfl) ?_
  obtain ⟨Ad54, c55, hv56⟩ := own_form (hC.getM 0 rfl)
  refine s_len Tryz.underlying22 (tr rfl hv56) ?_
  refine s_lss rfl rfl ?_
  refine dn ?_
  refine cw_cond rfl (fun hb57 => ?_) (fun hb57 => ?_)
  ·replace h := ift h (ct hb57)
   refine wp_skip ?_
   refine then_norm ?_
   refine wp_seq ?_
   refine wp_block ?_
   refine sr ?_
   refine s_mv (v := u0_0) (sx hS_ 0 rfl) ?_
   refine s_mv (v := .int .i64 s49.2.2) (sx hS_ 3 rfl) ?_
   refine s_mv (v := .int .i64 s49.2.1) (sx hS_ 1 rfl) ?_
   obtain ⟨⟨h0_58, h1_59⟩, h⟩ := h
   obtain ⟨Ad60, c61, hv62⟩ := own_formE (hC.getM 0 rfl) (Nat.lt_of_le_of_lt (Nat.zero_le _) (show s49.2.2.toNat < s49.1.length by omega))
   refine s_iaddrO (s49.2.2.toNat * 1) Tryz.underlying22 sc2.size (tr rfl hv62) rfl h0_58 h1_59 rfl ?_
   refine s_storeO (v := .int .i64 s49.2.1) hC 0 [.int .i64 s49.2.1] ((EI .i64).encs (s49.1.set s49.2.2.toNat s49.2.1)) rfl hv62 sc2.size rfl rfl rfl rfl rfl (by rw [Enc.encs_len]; exact seg_le (sz := 1) (show s49.2.2.toNat < s49.1.length by omega)) (encs_set _ _ _ (show s49.2.2.toNat < s49.1.length by omega)) fun w63 hC => ?_
   replace hC := own_re hC 0 ((s49.1.set s49.2.2.toNat s49.2.1).length) ((EI .i64).encs (s49.1.set s49.2.2.toNat s49.2.1)) rfl (by simp) rfl
   refine dn ?_
   refine cw_region ?_
   refine s_mv (v := .int .i64 s49.2.1) (sx hS_ 1 rfl) ?_
   refine s_add rfl rfl ?_
   refine s_as (v := .int .i64 (IntKind.i64.wrap (s49.2.1 + 1))) rfl ?_
   refine done ?_
   refine blk_norm ?_
   refine then_norm ?_
   refine cw_region ?_
   refine s_mv (v := .int .i64 s49.2.2) (sx hS_ 3 rfl) ?_
   refine s_add rfl rfl ?_
   refine s_as (v := .int .i64 (IntKind.i64.wrap (s49.2.2 + 1))) rfl ?_
   refine done ?_
   exact hK52 (s49.1.set s49.2.2.toNat s49.2.1, IntKind.i64.wrap (s49.2.1 + 1), IntKind.i64.wrap (s49.2.2 + 1)) _ _ ⟨(sk (sx hS_ 0 rfl) (sk rfl (sk (sx hS_ 2 rfl) (sk rfl sn)))), hC⟩ h
  ·replace h := iff_ h (cf hb57)
   refine wp_exit (then_exit (then_exit (exit_in ?_)))
   refine then_norm ?_
   refine sr ?_
   refine s_mv (v := .int .i64 s49.2.1) (sx hS_ 1 rfl) ?_
   refine s_as (v := .int .i64 s49.2.1) rfl ?_
   refine dn ?_
   refine wp_ret ?_
   refine ret1 (fn := Tryz.f26) rfl ?_ ⟨s49.2.1, s49.1, rfl, h, (hC.getM 0 rfl), hC.belO⟩ (.inl rfl)
   exact res_tmp rfl
 ·skip
  exact ⟨(sk rfl (sk rfl (sk rfl (sk rfl sn)))), hC⟩
def f_laws_markFormS (a0 : List Vc.Form) (a1 : Int) (K : Int → List Vc.Form → Prop) : Prop :=
 whileP (fun (s129 : (List Vc.Form) × Int × Int) next130 => (if s129.2.2 < (s129.1.length : Int) then ((0 ≤ s129.2.2 ∧ s129.2.2 < (s129.1.length : Int)) ∧ f_laws_markTermS ((s129.1.getD s129.2.2.toNat default).terms) s129.2.1 (fun r160 m162 => next130 (s129.1.set s129.2.2.toNat (⟨m162⟩ : Vc.Form), r160, IntKind.i64.wrap (s129.2.2 + 1)))) else K s129.2.1 s129.1)) (a0, a1, 0)
theorem c_laws_markFormS (a0 : List Vc.Form) (a1 : Int) {u0_0 : Value} {fp0_0 : List Nat} {K : Int → List Vc.Form → Prop} (h : f_laws_markFormS a0 a1 K) (w0 : World) (qw0 : (Tr.item (Tr.sl 55 (TrForm 162)) a0 [u0_0] fp0_0).holds w0) :
  Calls Tryz.prog 52 #[u0_0, .int .i64 a1] w0 fun e w' => ∃ (r0 : Int) (mw : List Vc.Form), 
   e = .returned (.int .i64 r0) ∧ K r0 mw ∧ (Tr.item (Tr.sl 55 (TrForm 162)) mw [u0_0] fp0_0).holds w' ∧ BelO (fp0_0) w0 w' := by
 unfold f_laws_markFormS at h
 refine calls_of (args := [u0_0, .int .i64 a1]) Tryz.func52 rfl 20 Tryz.ntmps52 (Nat.le_of_ble_eq_true rfl) ?_
 have hC := Ctx.startL w0 (fp0_0) [Tr.item (Tr.sl 55 (TrForm 162)) a0 [u0_0] fp0_0] [] (by simp only [List.mem_cons, List.not_mem_nil, or_false, forall_eq_or_imp, forall_eq]; exact qw0) (by simp) (by simp only [List.mem_cons, List.not_mem_nil, or_false, forall_eq_or_imp, forall_eq]; exact fun b hb => hb) (List.pairwise_singleton _ _) (by simp)
 refine sr ?_
 refine s_as (v := .int .i64 0) rfl ?_
 refine dn ?_
 refine wp_seq ?_
 refine sr ?_
 refine s_as (v := .int .i64 0) rfl ?_
 refine dn ?_
 refine wp_block ?_
 refine loopW (S := (List Vc.Form) × Int × Int) _ (fun s129 e_ w_ => Slots e_ [(0, u0_0), (1, .int .i64 s129.2.1), (4, .int .i64 0), (5, .int .i64 s129.2.2)] ∧ Ctx (fun c_ => c_ ∈ fp0_0) w0 w_ [Tr.item (Tr.sl 55 (TrForm 162)) s129.1 [u0_0] fp0_0] []) ?_ (s0 := (a0, a1, 0)) ?_ h
 ·clear hC h
  rintro s129 e_ w133 next130 K131 ⟨hS_, hC⟩ h hK132
  refine wp_seq ?_
  refine sr ?_
  refine s_mv (v := .int .i64 s129.2.2) (sx hS_ 3 rfl) ?_
  refine s_mv (v := u0_0) (sx hS_ 0 rfl) ?_
  obtain ⟨Ad134, c135, hv136⟩ := tr_form (hC.getM 0 rfl)
  refine s_len Tryz.underlying30 (tr rfl hv136) ?_
  refine s_lss rfl rfl ?_
  refine dn ?_
  refine cw_cond rfl (fun hb137 => ?_) (fun hb137 => ?_)
  ·replace h := ift h (ct hb137)
   refine wp_skip ?_
   refine then_norm ?_
   refine wp_seq ?_
   refine wp_block ?_
   refine cw_region ?_
   refine s_mv (v := u0_0) (sx hS_ 0 rfl) ?_
   refine s_mv (v := .int .i64 s129.2.2) (sx hS_ 3 rfl) ?_
   obtain ⟨⟨h0_138, h1_139⟩, h⟩ := h
   obtain ⟨cs143, f144, ⟨g145, cap146, hv147, hcell148⟩, hin149, hsub150, hout151⟩ := tr_focus (hC.getM 0 rfl) s129.2.2.toNat (show s129.2.2.toNat < s129.1.length by omega)
   refine s_iaddrO (s129.2.2.toNat * 1) Tryz.underlying30 ag55.size (tr rfl hv147) rfl h0_138 h1_139 rfl ?_
   refine s_faddrB (s129.2.2.toNat * 1 + 0) Tryz.underlying55 rfl sc53.size rfl rfl ?_
   obtain ⟨u152, rfl⟩ := List.length_eq_one_iff.1 (show cs143.length = 1 from ((TrForm 162)).ty.len (Tr.trep _ hin149.1))
   have hin156 := hin149; rw [getD_eq _ _ (show s129.2.2.toNat < s129.1.length by omega)] at hin156
   obtain ⟨ho154, hf155⟩ := flat_tr (show (Tr.sl 162 ETerm.tr).tree ((s129.1.getD s129.2.2.toNat default).terms) [u152] f144 _ from hin156.1)
   subst hf155
   refine s_loadCS (u152) (cells_subO (o := 0) (k := 1) hcell148 rfl) sc53 rfl ?_
   refine s_mv (v := .int .i64 s129.2.1) (sx hS_ 1 rfl) ?_
   refine s_call [u152, .int .i64 s129.2.1] _ Tryz.func102 rfl rfl rfl (c_laws_markTermS ((s129.1.getD s129.2.2.toNat default).terms) s129.2.1 h _ ho154) (fun ret157 w159 hR158 => ?_)
   obtain ⟨r160, m162, rfl, h, hm163, hB161⟩ := hR158
   refine ⟨_, rfl, ?_⟩
   replace hC := hC.turn 0 (jt := Tr.item (Tr.sl 55 (TrForm 162)) (s129.1.set s129.2.2.toNat (⟨m162⟩ : Vc.Form)) [u0_0] fp0_0) rfl hB161.os hB161.tape hB161.output hB161.size hB161.drawn (fun c_ hc_ hn_ => hB161.old c_ hc_ (fun h_ => hn_ (hsub150 c_ h_))) (hout151 (⟨m162⟩ : Vc.Form) _ (tr_flat hm163) hB161) (fun b_ hb_ => .inl hb_)
   refine s_as (v := .int .i64 r160) rfl ?_
   refine done ?_
   refine blk_norm ?_
   refine then_norm ?_
   refine cw_region ?_
   refine s_mv (v := .int .i64 s129.2.2) (sx hS_ 3 rfl) ?_
   refine s_add rfl rfl ?_
   refine s_as (v := .int .i64 (IntKind.i64.wrap (s129.2.2 + 1))) rfl ?_
   refine done ?_
   exact hK132 (s129.1.set s129.2.2.toNat (⟨m162⟩ : Vc.Form), r160, IntKind.i64.wrap (s129.2.2 + 1)) _ _ ⟨(sk (sx hS_ 0 rfl) (sk rfl (sk (sx hS_ 2 rfl) (sk rfl sn)))), hC⟩ h
  ·replace h := iff_ h (cf hb137)
   refine wp_exit (then_exit (then_exit (exit_in ?_)))
   refine then_norm ?_
   refine sr ?_
   refine s_mv (v := .int .i64 s129.2.1) (sx hS_ 1 rfl) ?_
   refine s_as (v := .int .i64 s129.2.1) rfl ?_
   refine dn ?_
   refine wp_ret ?_
   refine ret1 (fn := Tryz.f52) rfl ?_ ⟨s129.2.1, s129.1, rfl, h, (hC.getM 0 rfl), hC.belO⟩ (.inl rfl)
   exact res_tmp rfl
 ·skip
  exact ⟨(sk rfl (sk rfl (sk rfl (sk rfl sn)))), hC⟩
def f_laws_markAlgebra (a0 : Alg) (a1 : Int) (K : Int → Alg → Prop) : Prop :=
 f_laws_markInt64S a0.degrees a1 (fun r9 m11 => f_laws_markFormS a0.images r9 (fun r16 m18 => K r16 (⟨m11, m18⟩ : Alg)))
theorem c_laws_markAlgebra (a0 : Alg) (a1 : Int) {u0_0 : Value} {u0_1 : Value} {fp0_1 : List Nat} {K : Int → Alg → Prop} (h : f_laws_markAlgebra a0 a1 K) (w0 : World) (qw0 : (own 2 1 u0_0 a0.degrees.length ((EI .i64).encs a0.degrees)).holds w0) (qw1 : (Tr.item (Tr.sl 55 (TrForm 162)) a0.images [u0_1] fp0_1).holds w0) (dw0_1 : ∀ x, x ∈ (Option.toList (Value.ownBlock u0_0)) → x ∉ fp0_1) :
  Calls Tryz.prog 16 #[.agg #[u0_0, u0_1], .int .i64 a1] w0 fun e w' => ∃ (r0 : Int) (mw : Alg), 
   e = .returned (.int .i64 r0) ∧ K r0 mw ∧ (own 2 1 u0_0 mw.degrees.length ((EI .i64).encs mw.degrees)).holds w' ∧ (Tr.item (Tr.sl 55 (TrForm 162)) mw.images [u0_1] fp0_1).holds w' ∧ BelO ((Option.toList (Value.ownBlock u0_0)) ++ fp0_1) w0 w' := by
 unfold f_laws_markAlgebra at h
 refine calls_of (args := [.agg #[u0_0, u0_1], .int .i64 a1]) Tryz.func16 rfl 14 Tryz.ntmps16 (Nat.le_of_ble_eq_true rfl) ?_
 have hC := Ctx.startL w0 ((Option.toList (Value.ownBlock u0_0)) ++ fp0_1) [own 2 1 u0_0 a0.degrees.length ((EI .i64).encs a0.degrees), Tr.item (Tr.sl 55 (TrForm 162)) a0.images [u0_1] fp0_1] [] (by simp only [List.mem_cons, List.not_mem_nil, or_false, forall_eq_or_imp, forall_eq]; exact ⟨qw0, qw1⟩) (by simp) (by simp only [List.mem_cons, List.not_mem_nil, or_false, forall_eq_or_imp, forall_eq]; exact ⟨fun b hb => (List.mem_append_left _ hb), fun b hb => (List.mem_append_right _ hb)⟩) (List.pairwise_cons.2 ⟨(by simp only [List.mem_cons, List.not_mem_nil, or_false, forall_eq_or_imp, forall_eq]; exact dw0_1), (List.pairwise_singleton _ _)⟩) (by simp)
 refine sr ?_
 refine s_box (v := .agg #[u0_0, u0_1]) hC [u0_0, u0_1] rfl rfl fun b3 w5 hB_ hC => ?_
 refine s_as (v := .int .i64 0) rfl ?_
 refine dn ?_
 refine sr ?_
 refine s_faddrB 0 Tryz.underlying32 rfl sc22.size rfl rfl ?_
 refine s_loadS hC 0 (u0_0) rfl sc22 rfl rfl ?_
 refine s_mv (v := .int .i64 a1) rfl ?_
 refine s_call [u0_0, .int .i64 a1] _ Tryz.func26 rfl rfl rfl (c_laws_markInt64S a0.degrees a1 h _ (hC.getM 1 rfl)) (fun ret6 w8 hR7 => ?_)
 obtain ⟨r9, m11, rfl, h, hm12, hB10⟩ := hR7
 refine ⟨_, rfl, ?_⟩
 replace hC := hC.turnL hB10 (M' := [blk b3 32 [u0_0, u0_1], own 2 1 u0_0 m11.length ((EI .i64).encs m11), Tr.item (Tr.sl 55 (TrForm 162)) a0.images [u0_1] fp0_1]) rfl (fun x_ hx_ => ⟨_, List.mem_of_getElem? (i := 1) rfl, hx_⟩) (by simp only [List.mem_cons, List.not_mem_nil, or_false, forall_eq_or_imp, forall_eq]; exact ⟨(hC.stay 0 rfl hB10 (fun x_ hq_ hx_ => hC.mm 0 1 rfl rfl (by decide) x_ hq_ hx_)), hm12, (hC.stay 2 rfl hB10 (fun x_ hq_ hx_ => hC.mm 2 1 rfl rfl (by decide) x_ hq_ hx_))⟩)
 refine s_as (v := .int .i64 r9) rfl ?_
 refine dn ?_
 refine sr ?_
 refine s_faddrB 1 Tryz.underlying32 rfl sc30.size rfl rfl ?_
 refine s_loadS hC 0 (u0_1) rfl sc30 rfl rfl ?_
 refine s_mv (v := .int .i64 r9) rfl ?_
 refine s_call [u0_1, .int .i64 r9] _ Tryz.func52 rfl rfl rfl (c_laws_markFormS a0.images r9 h _ (hC.getM 2 rfl)) (fun ret13 w15 hR14 => ?_)
 obtain ⟨r16, m18, rfl, h, hm19, hB17⟩ := hR14
 refine ⟨_, rfl, ?_⟩
 replace hC := hC.turnL hB17 (M' := [blk b3 32 [u0_0, u0_1], own 2 1 u0_0 m11.length ((EI .i64).encs m11), Tr.item (Tr.sl 55 (TrForm 162)) m18 [u0_1] fp0_1]) rfl (fun x_ hx_ => ⟨_, List.mem_of_getElem? (i := 2) rfl, hx_⟩) (by simp only [List.mem_cons, List.not_mem_nil, or_false, forall_eq_or_imp, forall_eq]; exact ⟨(hC.stay 0 rfl hB17 (fun x_ hq_ hx_ => hC.mm 0 2 rfl rfl (by decide) x_ hq_ hx_)), (hC.stay 1 rfl hB17 (fun x_ hq_ hx_ => hC.mm 1 2 rfl rfl (by decide) x_ hq_ hx_)), hm19⟩)
 refine s_as (v := .int .i64 r16) rfl ?_
 refine dn ?_
 refine sr ?_
 refine s_mv (v := .int .i64 r16) rfl ?_
 refine s_as (v := .int .i64 r16) rfl ?_
 refine dn ?_
 refine wp_ret ?_
 refine ret1 (fn := Tryz.f16) rfl ?_ ⟨r16, (⟨m11, m18⟩ : Alg), rfl, h, (hC.getM 1 rfl), (hC.getM 2 rfl), hC.belO⟩ (.inl rfl)
 exact res_tmp rfl
def f_laws_heldFormS (a0 : List Vc.Form) (a1 : Int) (K : Int → Prop) : Prop :=
 forN (fun i47 (s48 : Int) next50 => f_laws_heldTermS ((a0.getD i47 default).terms) s48 (fun r70 => (if r70 < 0 then K (-1) else next50 r70))) (fun (s48 : Int) => K s48) a0.length 0 a1
theorem c_laws_heldFormS (a0 : List Vc.Form) (a1 : Int) {u0_0 : Value} {fp0 : List Nat} {K : Int → Prop} (h : f_laws_heldFormS a0 a1 K) (w0 : World) (q0 : TForm.sl.rep a0 [u0_0] fp0 w0) :
  Calls Tryz.prog 53 #[u0_0, .int .i64 a1] w0 fun e w' => ∃ (r0 : Int), 
   e = .returned (.int .i64 r0) ∧ K r0 ∧ Bel w0 w' := by
 unfold f_laws_heldFormS at h
 refine calls_of (args := [u0_0, .int .i64 a1]) Tryz.func53 rfl 22 Tryz.ntmps53 (Nat.le_of_ble_eq_true rfl) ?_
 have hC := Ctx.start (X := Nox) w0 [Ty.item TForm.sl a0 [u0_0] fp0] (by simp only [List.mem_cons, List.not_mem_nil, or_false, forall_eq_or_imp, forall_eq]; exact q0)
 refine sr ?_
 refine s_as (v := .int .i64 0) rfl ?_
 refine dn ?_
 refine wp_seq ?_
 refine sr ?_
 refine s_as (v := .int .i64 0) rfl ?_
 refine dn ?_
 refine wp_block ?_
 have hN49 : a0.length ≤ 9223372036854775807 := sl_max (hC.getP 0 rfl)
 refine loopN (S := Int) _ _ (fun i47 s48 e_ w_ => Slots e_ [(0, u0_0), (1, .int .i64 s48), (4, .int .i64 0), (5, .int .i64 (i47 : Int))] ∧ Ctx Nox w0 w_ [] [Ty.item TForm.sl a0 [u0_0] fp0]) a0.length ?_ ?_ (s0 := a1) ?_ h
 ·clear hC h
  rintro i47 s48 e_ w54 next50 K51 hi53 ⟨hS_, hC⟩ h hK52
  refine wp_seq ?_
  refine sr ?_
  refine s_mv (v := .int .i64 (i47 : Int)) (sx hS_ 3 rfl) ?_
  refine s_mv (v := u0_0) (sx hS_ 0 rfl) ?_
  obtain ⟨Ad55, c56, hv57⟩ := sl_len (hC.getP 0 rfl)
  refine s_len Tryz.underlying30 (tr rfl hv57) ?_
  refine s_lss rfl rfl ?_
  refine dn ?_
  refine cw_true rfl (decide_eq_true (by omega)) ?_
  refine wp_skip ?_
  refine then_norm ?_
  refine wp_seq ?_
  refine wp_block ?_
  refine sr ?_
  refine s_mv (v := u0_0) (sx hS_ 0 rfl) ?_
  refine s_mv (v := .int .i64 (i47 : Int)) (sx hS_ 3 rfl) ?_
  obtain ⟨Ad58, c59, hv60⟩ := sl_form (hC.getP 0 rfl) i47 hi53
  refine s_iaddrS (len := a0.length) Tryz.underlying30 ag55.size (tr rfl hv60) rfl (Int.natCast_nonneg _) (Int.ofNat_lt.2 hi53) ?_
  refine s_faddrS (i47 * 1 + 0) Tryz.underlying55 rfl sc53.size rfl rfl ?_
  obtain ⟨cs_, hl62, hc63, hr64⟩ := sl_cells (hC.getP 0 rfl) hv60 i47 hi53
  obtain ⟨u61, rfl⟩ := List.length_eq_one_iff.1 hl62
  clear hl62
  rw [getD_eq _ _ hi53] at hr64
  have hp65 := hr64
  replace hC := hC.derive 0 rfl (Ty.item ETerm.ty.sl ((a0.getD i47 default).terms) [u61] fp0) (fun _ => (form_parts hp65)) (fun _ hb_ => hb_)
  refine s_loadCS (u61) (cells_subS (o := 0) (k := 1) hc63 rfl) sc53 rfl ?_
  refine s_mv (v := .int .i64 s48) (sx hS_ 1 rfl) ?_
  refine s_call [u61, .int .i64 s48] _ Tryz.func103 rfl rfl rfl (c_laws_heldTermS ((a0.getD i47 default).terms) s48 h _ (hC.getP 0 rfl)) (fun ret67 w69 hR68 => ?_)
  obtain ⟨r70, rfl, h, hB71⟩ := hR68
  refine ⟨_, rfl, ?_⟩
  replace hC := hC.grow hB71
  refine s_as (v := .int .i64 r70) rfl ?_
  refine dn ?_
  refine sr ?_
  refine s_mv (v := .int .i64 r70) rfl ?_
  refine s_lss rfl rfl ?_
  refine dn ?_
  refine cw_cond rfl (fun hb72 => ?_) (fun hb72 => ?_)
  ·replace h := ift h (ct hb72)
   refine sr ?_
   refine s_as (v := .int .i64 (-1)) rfl ?_
   refine dn ?_
   refine wp_ret (blk_ret (then_ret (then_ret (blk_ret (then_ret ?_)))))
   refine ret1 (fn := Tryz.f53) rfl ?_ ⟨(-1), rfl, h, hC.below⟩ (.inl rfl)
   exact res_tmp rfl
  ·replace h := iff_ h (cf hb72)
   refine wp_skip ?_
   refine blk_norm ?_
   refine then_norm ?_
   refine cw_region ?_
   refine s_mv (v := .int .i64 (i47 : Int)) (sx hS_ 3 rfl) ?_
   refine s_add rfl rfl ?_
   refine s_as (v := .int .i64 (IntKind.i64.wrap ((i47 : Int) + 1))) rfl ?_
   refine done ?_
   replace hC := hC.sP [1] (Ps' := [Ty.item TForm.sl a0 [u0_0] fp0]) rfl
   exact hK52 r70 _ _ ⟨(sk (sx hS_ 0 rfl) (sk rfl (sk (sx hS_ 2 rfl) (sk (tr rfl (congrArg _ (wrap64_nat hi53 hN49))) sn)))), hC⟩ h
 ·clear hC h
  rintro s48 e_ w73 K51 ⟨hS_, hC⟩ h
  refine wp_seq ?_
  refine sr ?_
  refine s_mv (v := .int .i64 (a0.length : Int)) (sx hS_ 3 rfl) ?_
  refine s_mv (v := u0_0) (sx hS_ 0 rfl) ?_
  obtain ⟨Ad74, c75, hv76⟩ := sl_len (hC.getP 0 rfl)
  refine s_len Tryz.underlying30 (tr rfl hv76) ?_
  refine s_lss rfl rfl ?_
  refine dn ?_
  refine cw_false rfl (decide_eq_false (by omega)) ?_
  refine wp_exit (then_exit (then_exit (exit_in ?_)))
  refine then_norm ?_
  refine sr ?_
  refine s_mv (v := .int .i64 s48) (sx hS_ 1 rfl) ?_
  refine s_as (v := .int .i64 s48) rfl ?_
  refine dn ?_
  refine wp_ret ?_
  refine ret1 (fn := Tryz.f53) rfl ?_ ⟨s48, rfl, h, hC.below⟩ (.inl rfl)
  exact res_tmp rfl
 ·skip
  exact ⟨(sk rfl (sk rfl (sk rfl (sk rfl sn)))), hC⟩
end Go.Proofs.YtaagfepgbofmlaaGreat
