/- Printed by vcgen.py: functions of the program as predicates, and that the machine's calls meet them. -/
import Derived.Test.YtgfmflmhcfkldaaGC
import Derived.KernelRfl
set_option linter.unusedVariables false
set_option linter.unusedSimpArgs false
set_option maxRecDepth 4000
set_option maxHeartbeats 4000000
namespace Go.Proofs.Ytgfmflmhcfkldaa
open Go Go.RowKit Vc
theorem ag25 : AggT Try.prog 25 2 := ⟨⟨_, Try.underlying25, rfl⟩, by kernel_rfl⟩
theorem z48 : ZeroT Try.prog 48 (.agg #[.slice none 0 0, .slice none 0 0, .slice none 0 0, .slice none 0 0, .slice none 0 0]) := by unfold ZeroT; kernel_rfl
theorem ag48 : AggT Try.prog 48 5 := ⟨⟨_, Try.underlying48, rfl⟩, by kernel_rfl⟩
theorem ag41 : AggT Try.prog 41 5 := ⟨⟨_, Try.underlying41, rfl⟩, by kernel_rfl⟩
def f_laws_szDesk (a0 : Vc.Desk) (a1 : Int) (K : Int → Prop) : Prop :=
 f_laws_szAlgebra (⟨a0.first.degrees, a0.first.images⟩ : Alg) a1 (fun r18 => (if r18 < 0 then K (-1) else f_laws_szAlgebra (⟨a0.second.degrees, a0.second.images⟩ : Alg) r18 (fun r24 => (if r24 < 0 then K (-1) else f_laws_szForm (⟨a0.form.terms⟩ : Vc.Form) r24 (fun r30 => (if r30 < 0 then K (-1) else K r30))))))
theorem c_laws_szDesk (a0 : Vc.Desk) (a1 : Int) {u0_0 : Value} {u0_1 : Value} {u0_2 : Value} {u0_3 : Value} {u0_4 : Value} {fp0 : List Nat} {K : Int → Prop} (h : f_laws_szDesk a0 a1 K) (w0 : World) (q0 : TDesk.rep a0 [u0_0, u0_1, u0_2, u0_3, u0_4] fp0 w0) :
  Calls Try.prog 20 #[.agg #[u0_0, u0_1, u0_2, u0_3, u0_4], .int .i64 a1] w0 fun e w' => ∃ (r0 : Int), 
   e = .returned (.int .i64 r0) ∧ K r0 ∧ Bel w0 w' := by
 unfold f_laws_szDesk at h
 refine calls_of (args := [.agg #[u0_0, u0_1, u0_2, u0_3, u0_4], .int .i64 a1]) Try.func20 rfl 24 Try.ntmps20 (Nat.le_of_ble_eq_true rfl) ?_
 have hC := Ctx.start (X := Nox) w0 [Ty.item TDesk a0 [u0_0, u0_1, u0_2, u0_3, u0_4] fp0] (by simp only [List.mem_cons, List.not_mem_nil, or_false, forall_eq_or_imp, forall_eq]; exact q0)
 have hp2 := (hC.getP 0 rfl)
 have hp3 := desk_parts hp2
 have hp4 := hp3.1
 replace hC := hC.derive 0 rfl (Ty.item ((EI .i64).ty.sl) a0.first.degrees [u0_0] fp0) (fun _ => (alg_parts hp4).1) (fun _ hb_ => hb_)
 replace hC := hC.derive 1 rfl (Ty.item TForm.sl a0.first.images [u0_1] fp0) (fun _ => (alg_parts hp4).2) (fun _ hb_ => hb_)
 have hp7 := hp3.2.1
 replace hC := hC.derive 2 rfl (Ty.item ((EI .i64).ty.sl) a0.second.degrees [u0_2] fp0) (fun _ => (alg_parts hp7).1) (fun _ hb_ => hb_)
 replace hC := hC.derive 3 rfl (Ty.item TForm.sl a0.second.images [u0_3] fp0) (fun _ => (alg_parts hp7).2) (fun _ hb_ => hb_)
 have hp10 := hp3.2.2
 replace hC := hC.derive 4 rfl (Ty.item ETerm.ty.sl a0.form.terms [u0_4] fp0) (fun _ => (form_parts hp10)) (fun _ hb_ => hb_)
 refine sr ?_
 refine s_box (v := .agg #[u0_0, u0_1, u0_2, u0_3, u0_4]) hC [u0_0, u0_1, u0_2, u0_3, u0_4] rfl rfl fun b12 w14 hB_ hC => ?_
 refine s_as (v := .int .i64 0) rfl ?_
 refine dn ?_
 refine sr ?_
 refine s_faddrB 0 Try.underlying41 rfl ag25.size rfl rfl ?_
 refine s_loadA hC 0 [u0_0, u0_1] rfl ag25 rfl rfl rfl ?_
 refine s_mv (v := .int .i64 a1) rfl ?_
 refine s_call [.agg #[u0_0, u0_1], .int .i64 a1] _ Try.func11 rfl rfl rfl (c_laws_szAlgebra (⟨a0.first.degrees, a0.first.images⟩ : Alg) a1 h _ (alg_mk (hC.getP 4 rfl) (hC.getP 3 rfl))) (fun ret15 w17 hR16 => ?_)
 obtain ⟨r18, rfl, h, hB19⟩ := hR16
 refine ⟨_, rfl, ?_⟩
 replace hC := hC.grow hB19
 refine s_as (v := .int .i64 r18) rfl ?_
 refine dn ?_
 refine wp_seq ?_
 refine sr ?_
 refine s_mv (v := .int .i64 r18) rfl ?_
 refine s_lss rfl rfl ?_
 refine dn ?_
 refine cw_cond rfl (fun hb20 => ?_) (fun hb20 => ?_)
 ·replace h := ift h (ct hb20)
  refine sr ?_
  refine s_as (v := .int .i64 (-1)) rfl ?_
  refine dn ?_
  refine wp_ret (then_ret ?_)
  refine ret1 (fn := Try.f20) rfl ?_ ⟨(-1), rfl, h, hC.below⟩ (.inl rfl)
  exact res_tmp rfl
 ·replace h := iff_ h (cf hb20)
  refine wp_skip ?_
  refine then_norm ?_
  refine sr ?_
  refine s_faddrB 2 Try.underlying41 rfl ag25.size rfl rfl ?_
  refine s_loadA hC 0 [u0_2, u0_3] rfl ag25 rfl rfl rfl ?_
  refine s_mv (v := .int .i64 r18) rfl ?_
  refine s_call [.agg #[u0_2, u0_3], .int .i64 r18] _ Try.func11 rfl rfl rfl (c_laws_szAlgebra (⟨a0.second.degrees, a0.second.images⟩ : Alg) r18 h _ (alg_mk (hC.getP 2 rfl) (hC.getP 1 rfl))) (fun ret21 w23 hR22 => ?_)
  obtain ⟨r24, rfl, h, hB25⟩ := hR22
  refine ⟨_, rfl, ?_⟩
  replace hC := hC.grow hB25
  refine s_as (v := .int .i64 r24) rfl ?_
  refine dn ?_
  refine wp_seq ?_
  refine sr ?_
  refine s_mv (v := .int .i64 r24) rfl ?_
  refine s_lss rfl rfl ?_
  refine dn ?_
  refine cw_cond rfl (fun hb26 => ?_) (fun hb26 => ?_)
  ·replace h := ift h (ct hb26)
   refine sr ?_
   refine s_as (v := .int .i64 (-1)) rfl ?_
   refine dn ?_
   refine wp_ret (then_ret ?_)
   refine ret1 (fn := Try.f20) rfl ?_ ⟨(-1), rfl, h, hC.below⟩ (.inl rfl)
   exact res_tmp rfl
  ·replace h := iff_ h (cf hb26)
   refine wp_skip ?_
   refine then_norm ?_
   refine sr ?_
   refine s_faddrB 4 Try.underlying41 rfl ag39.size rfl rfl ?_
   refine s_loadA hC 0 [u0_4] rfl ag39 rfl rfl rfl ?_
   refine s_mv (v := .int .i64 r24) rfl ?_
   refine s_call [.agg #[u0_4], .int .i64 r24] _ Try.func32 rfl rfl rfl (c_laws_szForm (⟨a0.form.terms⟩ : Vc.Form) r24 h _ (form_mk (hC.getP 0 rfl))) (fun ret27 w29 hR28 => ?_)
   obtain ⟨r30, rfl, h, hB31⟩ := hR28
   refine ⟨_, rfl, ?_⟩
   replace hC := hC.grow hB31
   refine s_as (v := .int .i64 r30) rfl ?_
   refine dn ?_
   refine wp_seq ?_
   refine sr ?_
   refine s_mv (v := .int .i64 r30) rfl ?_
   refine s_lss rfl rfl ?_
   refine dn ?_
   refine cw_cond rfl (fun hb32 => ?_) (fun hb32 => ?_)
   ·replace h := ift h (ct hb32)
    refine sr ?_
    refine s_as (v := .int .i64 (-1)) rfl ?_
    refine dn ?_
    refine wp_ret (then_ret ?_)
    refine ret1 (fn := Try.f20) rfl ?_ ⟨(-1), rfl, h, hC.below⟩ (.inl rfl)
    exact res_tmp rfl
   ·replace h := iff_ h (cf hb32)
    refine wp_skip ?_
    refine then_norm ?_
    refine sr ?_
    refine s_mv (v := .int .i64 r30) rfl ?_
    refine s_as (v := .int .i64 r30) rfl ?_
    refine dn ?_
    refine wp_ret ?_
    refine ret1 (fn := Try.f20) rfl ?_ ⟨r30, rfl, h, hC.below⟩ (.inl rfl)
    exact res_tmp rfl
def f_spec_IsDesk (a0 : Vc.Desk) (K : Bool → Prop) : Prop :=
 f_spec_l02Is (⟨a0.first.degrees, a0.first.images⟩ : Alg) (fun r18 => (if r18 = true then f_spec_l02Is (⟨a0.second.degrees, a0.second.images⟩ : Alg) (fun r24 => (if r24 = true then f_spec_l01Is a0.first.degrees (⟨a0.form.terms⟩ : Vc.Form) (fun r30 => K r30) else K false)) else K false))
theorem c_spec_IsDesk (a0 : Vc.Desk) {u0_0 : Value} {u0_1 : Value} {u0_2 : Value} {u0_3 : Value} {u0_4 : Value} {fp0 : List Nat} {K : Bool → Prop} (h : f_spec_IsDesk a0 K) (w0 : World) (q0 : TDesk.rep a0 [u0_0, u0_1, u0_2, u0_3, u0_4] fp0 w0) :
  Calls Try.prog 21 #[.agg #[u0_0, u0_1, u0_2, u0_3, u0_4]] w0 fun e w' => ∃ (r0 : Bool), 
   e = .returned (.bool r0) ∧ K r0 ∧ Bel w0 w' := by
 unfold f_spec_IsDesk at h
 refine calls_of (args := [.agg #[u0_0, u0_1, u0_2, u0_3, u0_4]]) Try.func21 rfl 19 Try.ntmps21 (Nat.le_of_ble_eq_true rfl) ?_
 have hC := Ctx.start (X := Nox) w0 [Ty.item TDesk a0 [u0_0, u0_1, u0_2, u0_3, u0_4] fp0] (by simp only [List.mem_cons, List.not_mem_nil, or_false, forall_eq_or_imp, forall_eq]; exact q0)
 have hp2 := (hC.getP 0 rfl)
 have hp3 := desk_parts hp2
 have hp4 := hp3.1
 replace hC := hC.derive 0 rfl (Ty.item ((EI .i64).ty.sl) a0.first.degrees [u0_0] fp0) (fun _ => (alg_parts hp4).1) (fun _ hb_ => hb_)
 replace hC := hC.derive 1 rfl (Ty.item TForm.sl a0.first.images [u0_1] fp0) (fun _ => (alg_parts hp4).2) (fun _ hb_ => hb_)
 have hp7 := hp3.2.1
 replace hC := hC.derive 2 rfl (Ty.item ((EI .i64).ty.sl) a0.second.degrees [u0_2] fp0) (fun _ => (alg_parts hp7).1) (fun _ hb_ => hb_)
 replace hC := hC.derive 3 rfl (Ty.item TForm.sl a0.second.images [u0_3] fp0) (fun _ => (alg_parts hp7).2) (fun _ hb_ => hb_)
 have hp10 := hp3.2.2
 replace hC := hC.derive 4 rfl (Ty.item ETerm.ty.sl a0.form.terms [u0_4] fp0) (fun _ => (form_parts hp10)) (fun _ hb_ => hb_)
 refine sr ?_
 refine s_box (v := .agg #[u0_0, u0_1, u0_2, u0_3, u0_4]) hC [u0_0, u0_1, u0_2, u0_3, u0_4] rfl rfl fun b12 w14 hB_ hC => ?_
 refine s_as (v := .bool false) rfl ?_
 refine dn ?_
 refine sr ?_
 refine s_faddrB 0 Try.underlying48 rfl ag31.size rfl rfl ?_
 refine s_loadA hC 0 [u0_0, u0_1] rfl ag31 rfl rfl rfl ?_
 refine s_call [.agg #[u0_0, u0_1]] _ Try.func47 rfl rfl rfl (c_spec_l02Is (⟨a0.first.degrees, a0.first.images⟩ : Alg) h _ (alg_mk (hC.getP 4 rfl) (hC.getP 3 rfl))) (fun ret15 w17 hR16 => ?_)
 obtain ⟨r18, rfl, h, hB19⟩ := hR16
 refine ⟨_, rfl, ?_⟩
 replace hC := hC.grow hB19
 refine s_mv (v := .bool r18) rfl ?_
 refine bsplit r18 (fun hb20 => ?_) (fun hb20 => ?_)
 ·replace h := ift h (hb20)
  refine guardOn 3 6 rfl rfl hb20 ?_
  refine s_faddrB 2 Try.underlying48 rfl ag31.size rfl rfl ?_
  refine guardOn 3 6 rfl rfl hb20 ?_
  refine s_loadA hC 0 [u0_2, u0_3] rfl ag31 rfl rfl rfl ?_
  refine guardOn 3 6 rfl rfl hb20 ?_
  refine s_call [.agg #[u0_2, u0_3]] _ Try.func47 rfl rfl rfl (c_spec_l02Is (⟨a0.second.degrees, a0.second.images⟩ : Alg) h _ (alg_mk (hC.getP 2 rfl) (hC.getP 1 rfl))) (fun ret21 w23 hR22 => ?_)
  obtain ⟨r24, rfl, h, hB25⟩ := hR22
  refine ⟨_, rfl, ?_⟩
  replace hC := hC.grow hB25
  refine s_pick (v := .bool r24) (b := true) (tr rfl (congrArg _ hb20)) rfl ?_
  refine s_mv (v := .bool r24) rfl ?_
  refine bsplit r24 (fun hb26 => ?_) (fun hb26 => ?_)
  ·replace h := ift h (hb26)
   refine guardOn 8 11 rfl rfl hb26 ?_
   refine s_faddrB 0 Try.underlying48 rfl ag31.size rfl rfl ?_
   refine guardOn 8 11 rfl rfl hb26 ?_
   refine s_faddrB 0 Try.underlying31 rfl sc22.size rfl rfl ?_
   refine guardOn 8 11 rfl rfl hb26 ?_
   refine s_loadS hC 0 (u0_0) rfl sc22 rfl rfl ?_
   refine guardOn 8 11 rfl rfl hb26 ?_
   refine s_faddrB 4 Try.underlying48 rfl ag46.size rfl rfl ?_
   refine guardOn 8 11 rfl rfl hb26 ?_
   refine s_loadA hC 0 [u0_4] rfl ag46 rfl rfl rfl ?_
   refine guardOn 8 11 rfl rfl hb26 ?_
   refine s_call [u0_0, .agg #[u0_4]] _ Try.func54 rfl rfl rfl (c_spec_l01Is a0.first.degrees (⟨a0.form.terms⟩ : Vc.Form) h _ (hC.getP 4 rfl) (form_mk (hC.getP 0 rfl))) (fun ret27 w29 hR28 => ?_)
   obtain ⟨r30, rfl, h, hB31⟩ := hR28
   refine ⟨_, rfl, ?_⟩
   replace hC := hC.grow hB31
   refine s_pick (v := .bool r30) (b := true) (tr rfl (congrArg _ hb26)) rfl ?_
   refine s_as (v := .bool r30) rfl ?_
   refine dn ?_
   refine wp_ret ?_
   refine ret1 (fn := Try.f21) rfl ?_ ⟨r30, rfl, h, hC.below⟩ (.inl rfl)
   exact res_tmp rfl
  ·replace h := iff_ h (ne_t hb26)
   refine guardOff (b := false) 8 11 rfl (tr rfl (congrArg _ hb26)) (by decide) ?_
   refine guardOff (b := false) 8 11 rfl (tr rfl (congrArg _ hb26)) (by decide) ?_
   refine guardOff (b := false) 8 11 rfl (tr rfl (congrArg _ hb26)) (by decide) ?_
   refine guardOff (b := false) 8 11 rfl (tr rfl (congrArg _ hb26)) (by decide) ?_
   refine guardOff (b := false) 8 11 rfl (tr rfl (congrArg _ hb26)) (by decide) ?_
   refine guardOff (b := false) 8 11 rfl (tr rfl (congrArg _ hb26)) (by decide) ?_
   refine s_pick (v := .bool false) (b := false) (tr rfl (congrArg _ hb26)) rfl ?_
   refine s_as (v := .bool false) rfl ?_
   refine dn ?_
   refine wp_ret ?_
   refine ret1 (fn := Try.f21) rfl ?_ ⟨false, rfl, h, hC.below⟩ (.inl rfl)
   exact res_tmp rfl
 ·replace h := iff_ h (ne_t hb20)
  refine guardOff (b := false) 3 6 rfl (tr rfl (congrArg _ hb20)) (by decide) ?_
  refine guardOff (b := false) 3 6 rfl (tr rfl (congrArg _ hb20)) (by decide) ?_
  refine guardOff (b := false) 3 6 rfl (tr rfl (congrArg _ hb20)) (by decide) ?_
  refine s_pick (v := .bool false) (b := false) (tr rfl (congrArg _ hb20)) rfl ?_
  refine s_mv (v := .bool false) rfl ?_
  refine guardOff (b := false) 8 11 rfl (tr rfl (congrArg _ rfl)) (by decide) ?_
  refine guardOff (b := false) 8 11 rfl (tr rfl (congrArg _ rfl)) (by decide) ?_
  refine guardOff (b := false) 8 11 rfl (tr rfl (congrArg _ rfl)) (by decide) ?_
  refine guardOff (b := false) 8 11 rfl (tr rfl (congrArg _ rfl)) (by decide) ?_
  refine guardOff (b := false) 8 11 rfl (tr rfl (congrArg _ rfl)) (by decide) ?_
  refine guardOff (b := false) 8 11 rfl (tr rfl (congrArg _ rfl)) (by decide) ?_
  refine s_pick (v := .bool false) (b := false) rfl rfl ?_
  refine s_as (v := .bool false) rfl ?_
  refine dn ?_
  refine wp_ret ?_
  refine ret1 (fn := Try.f21) rfl ?_ ⟨false, rfl, h, hC.below⟩ (.inl rfl)
  exact res_tmp rfl
def f_laws_toDesk (a0 : Vc.Desk) (K : Vc.Desk → Prop) : Prop :=
 f_laws_toAlgebra (⟨a0.first.degrees, a0.first.images⟩ : Alg) (fun r24 => f_laws_toAlgebra (⟨a0.second.degrees, a0.second.images⟩ : Alg) (fun r44 => f_laws_toForm (⟨a0.form.terms⟩ : Vc.Form) (fun r64 => K (⟨(⟨r24.degrees, r24.images⟩ : Alg), (⟨r44.degrees, r44.images⟩ : Alg), (⟨r64.terms⟩ : Vc.Form)⟩ : Vc.Desk))))
theorem c_laws_toDesk (a0 : Vc.Desk) {u0_0 : Value} {u0_1 : Value} {u0_2 : Value} {u0_3 : Value} {u0_4 : Value} {fp0 : List Nat} {K : Vc.Desk → Prop} (h : f_laws_toDesk a0 K) (w0 : World) (q0 : TDesk.rep a0 [u0_0, u0_1, u0_2, u0_3, u0_4] fp0 w0) :
  Calls Try.prog 22 #[.agg #[u0_0, u0_1, u0_2, u0_3, u0_4]] w0 fun e w' => ∃ (r0 : Vc.Desk) (z0_0 : Value) (z0_1 : Value) (z0_2 : Value) (z0_3 : Value) (z0_4 : Value) (fz0 : List Nat), 
   e = .returned (.agg #[z0_0, z0_1, z0_2, z0_3, z0_4]) ∧ K r0 ∧ TDesk.rep r0 [z0_0, z0_1, z0_2, z0_3, z0_4] fz0 w' ∧ (∀ b, b ∈ fz0 → w0.heap.size ≤ b) ∧ Bel w0 w' := by
 unfold f_laws_toDesk at h
 refine calls_of (args := [.agg #[u0_0, u0_1, u0_2, u0_3, u0_4]]) Try.func22 rfl 17 Try.ntmps22 (Nat.le_of_ble_eq_true rfl) ?_
 have hC := Ctx.start (X := Nox) w0 [Ty.item TDesk a0 [u0_0, u0_1, u0_2, u0_3, u0_4] fp0] (by simp only [List.mem_cons, List.not_mem_nil, or_false, forall_eq_or_imp, forall_eq]; exact q0)
 have hp2 := (hC.getP 0 rfl)
 have hp3 := desk_parts hp2
 have hp4 := hp3.1
 replace hC := hC.derive 0 rfl (Ty.item ((EI .i64).ty.sl) a0.first.degrees [u0_0] fp0) (fun _ => (alg_parts hp4).1) (fun _ hb_ => hb_)
 replace hC := hC.derive 1 rfl (Ty.item TForm.sl a0.first.images [u0_1] fp0) (fun _ => (alg_parts hp4).2) (fun _ hb_ => hb_)
 have hp7 := hp3.2.1
 replace hC := hC.derive 2 rfl (Ty.item ((EI .i64).ty.sl) a0.second.degrees [u0_2] fp0) (fun _ => (alg_parts hp7).1) (fun _ hb_ => hb_)
 replace hC := hC.derive 3 rfl (Ty.item TForm.sl a0.second.images [u0_3] fp0) (fun _ => (alg_parts hp7).2) (fun _ hb_ => hb_)
 have hp10 := hp3.2.2
 replace hC := hC.derive 4 rfl (Ty.item ETerm.ty.sl a0.form.terms [u0_4] fp0) (fun _ => (form_parts hp10)) (fun _ hb_ => hb_)
 refine sr ?_
 refine s_box (v := .agg #[u0_0, u0_1, u0_2, u0_3, u0_4]) hC [u0_0, u0_1, u0_2, u0_3, u0_4] rfl rfl fun b12 w14 hB_ hC => ?_
 refine s_alloc hC [.slice none 0 0, .slice none 0 0, .slice none 0 0, .slice none 0 0, .slice none 0 0] z48 rfl fun b15 w17 hB_ hC => ?_
 refine dn ?_
 refine sr ?_
 refine s_alloc hC [.slice none 0 0, .slice none 0 0, .slice none 0 0, .slice none 0 0, .slice none 0 0] z48 rfl fun b18 w20 hB_ hC => ?_
 refine dn ?_
 refine sr ?_
 refine s_faddrB 0 Try.underlying41 rfl ag25.size rfl rfl ?_
 refine s_loadA hC 2 [u0_0, u0_1] rfl ag25 rfl rfl rfl ?_
 refine s_call [.agg #[u0_0, u0_1]] _ Try.func13 rfl rfl rfl (c_laws_toAlgebra (⟨a0.first.degrees, a0.first.images⟩ : Alg) h _ (alg_mk (hC.getP 4 rfl) (hC.getP 3 rfl))) (fun ret21 w23 hR22 => ?_)
 obtain ⟨r24, u25, u26, f27, rfl, h, hr28, hf29, hB30⟩ := hR22
 refine ⟨_, rfl, ?_⟩
 replace hC := hC.push hB30 (Tr.item (TrAlg 2 86 46) r24 [u25, u26] f27) hr28 hf29
 obtain ⟨f32, ho33, ho34, hs35, hs36, hd37⟩ := alg_split (hC.getM 0 rfl)
 replace hC := hC.split (a := own 2 1 u25 r24.degrees.length ((EI .i64).encs r24.degrees)) (b := Tr.item (Tr.sl 46 (TrForm 86)) r24.images [u26] f32) hs35 hs36 ⟨ho33, ho34, hd37⟩
 refine s_faddrB 0 Try.underlying48 rfl ag31.size rfl rfl ?_
 refine s_store (v := .agg #[u25, u26]) hC 2 [u25, u26] [u25, u26, .slice none 0 0, .slice none 0 0, .slice none 0 0] rfl ag31.size rfl rfl rfl rfl (all_c (own_oneC (hC.getM 0 rfl)) (all_c (rep_oneC (Tr.trep _ (hC.getM 1 rfl).1)) rfl)) (Nat.le_of_ble_eq_true rfl) rfl fun w40 hC => ?_
 refine dn ?_
 refine sr ?_
 refine s_faddrB 2 Try.underlying41 rfl ag25.size rfl rfl ?_
 refine s_loadA hC 4 [u0_2, u0_3] rfl ag25 rfl rfl rfl ?_
 refine s_call [.agg #[u0_2, u0_3]] _ Try.func13 rfl rfl rfl (c_laws_toAlgebra (⟨a0.second.degrees, a0.second.images⟩ : Alg) h _ (alg_mk (hC.getP 2 rfl) (hC.getP 1 rfl))) (fun ret41 w43 hR42 => ?_)
 obtain ⟨r44, u45, u46, f47, rfl, h, hr48, hf49, hB50⟩ := hR42
 refine ⟨_, rfl, ?_⟩
 replace hC := hC.push hB50 (Tr.item (TrAlg 2 86 46) r44 [u45, u46] f47) hr48 hf49
 obtain ⟨f52, ho53, ho54, hs55, hs56, hd57⟩ := alg_split (hC.getM 0 rfl)
 replace hC := hC.split (a := own 2 1 u45 r44.degrees.length ((EI .i64).encs r44.degrees)) (b := Tr.item (Tr.sl 46 (TrForm 86)) r44.images [u46] f52) hs55 hs56 ⟨ho53, ho54, hd57⟩
 refine s_faddrB 2 Try.underlying48 rfl ag31.size rfl rfl ?_
 refine s_store (v := .agg #[u45, u46]) hC 4 [u45, u46] [u25, u26, u45, u46, .slice none 0 0] rfl ag31.size rfl rfl rfl rfl (all_c (own_oneC (hC.getM 0 rfl)) (all_c (rep_oneC (Tr.trep _ (hC.getM 1 rfl).1)) rfl)) (Nat.le_of_ble_eq_true rfl) rfl fun w60 hC => ?_
 refine dn ?_
 refine sr ?_
 refine s_faddrB 4 Try.underlying41 rfl ag39.size rfl rfl ?_
 refine s_loadA hC 6 [u0_4] rfl ag39 rfl rfl rfl ?_
 refine s_call [.agg #[u0_4]] _ Try.func34 rfl rfl rfl (c_laws_toForm (⟨a0.form.terms⟩ : Vc.Form) h _ (form_mk (hC.getP 0 rfl))) (fun ret61 w63 hR62 => ?_)
 obtain ⟨r64, u65, f66, rfl, h, hr67, hf68, hB69⟩ := hR62
 refine ⟨_, rfl, ?_⟩
 replace hC := hC.push hB69 (Tr.item (TrForm 86) r64 [u65] f66) hr67 hf68
 obtain ⟨ho71, hf72⟩ := form_split (hC.getM 0 rfl)
 subst hf72
 replace hC := hC.recast (c := own 86 9 u65 r64.terms.length (ETerm.encs r64.terms)) (fun _ h_ => h_) (fun _ => ho71)
 refine s_faddrB 4 Try.underlying48 rfl ag46.size rfl rfl ?_
 refine s_store (v := .agg #[u65]) hC 5 [u65] [u25, u26, u45, u46, u65] rfl ag46.size rfl rfl rfl rfl (all_c (own_oneC (hC.getM 0 rfl)) rfl) (Nat.le_of_ble_eq_true rfl) rfl fun w74 hC => ?_
 refine dn ?_
 refine sr ?_
 refine s_loadA hC 5 [u25, u26, u45, u46, u65] rfl ag48 rfl rfl rfl ?_
 refine s_store (v := .agg #[u25, u26, u45, u46, u65]) hC 6 [u25, u26, u45, u46, u65] [u25, u26, u45, u46, u65] rfl ag48.size rfl rfl rfl rfl (all_c (own_oneC (hC.getM 3 rfl)) (all_c (rep_oneC (Tr.trep _ (hC.getM 4 rfl).1)) (all_c (own_oneC (hC.getM 1 rfl)) (all_c (rep_oneC (Tr.trep _ (hC.getM 2 rfl).1)) (all_c (own_oneC (hC.getM 0 rfl)) rfl))))) (Nat.le_of_ble_eq_true rfl) rfl fun w75 hC => ?_
 refine dn ?_
 refine wp_ret ?_
 refine ret1 (fn := Try.f22) rfl ?_ ⟨(⟨(⟨r24.degrees, r24.images⟩ : Alg), (⟨r44.degrees, r44.images⟩ : Alg), (⟨r64.terms⟩ : Vc.Form)⟩ : Vc.Desk), u25, u26, u45, u46, u65, (((Option.toList (Value.ownBlock u25)) ++ f32) ++ ((Option.toList (Value.ownBlock u45)) ++ f52)) ++ (Option.toList (Value.ownBlock u65)), rfl, h, (desk_mk (alg_mk (own_repE (hC.getM 3 rfl)) (Tr.trep _ (hC.getM 4 rfl).1)) (alg_mk (own_repE (hC.getM 1 rfl)) (Tr.trep _ (hC.getM 2 rfl).1)) (form_mk (own_repE (hC.getM 0 rfl)))), (fun b hb => (List.mem_append.1 hb).elim (fun hb => (List.mem_append.1 hb).elim (fun hb => (List.mem_append.1 hb).elim (fun hb => (own_fresh hC 3 rfl) b hb) (fun hb => (tr_fresh hC 4 rfl) b hb)) (fun hb => (List.mem_append.1 hb).elim (fun hb => (own_fresh hC 1 rfl) b hb) (fun hb => (tr_fresh hC 2 rfl) b hb))) (fun hb => (own_fresh hC 0 rfl) b hb)), hC.below⟩ (.inl rfl)
 exact res_cellA hC 6 rfl ag48 rfl rfl
def f_impl_IsDesk (a0 : Vc.Desk) (K : Bool → Prop) : Prop :=
 f_impl_IsAlgebra (⟨a0.first.degrees, a0.first.images⟩ : Alg) (fun r18 => (if r18 = true then f_impl_IsAlgebra (⟨a0.second.degrees, a0.second.images⟩ : Alg) (fun r24 => (if r24 = true then f_impl_isForm a0.first.degrees (⟨a0.form.terms⟩ : Vc.Form) (fun r30 => K r30) else K false)) else K false))
theorem c_impl_IsDesk (a0 : Vc.Desk) {u0_0 : Value} {u0_1 : Value} {u0_2 : Value} {u0_3 : Value} {u0_4 : Value} {fp0 : List Nat} {K : Bool → Prop} (h : f_impl_IsDesk a0 K) (w0 : World) (q0 : TDesk.rep a0 [u0_0, u0_1, u0_2, u0_3, u0_4] fp0 w0) :
  Calls Try.prog 23 #[.agg #[u0_0, u0_1, u0_2, u0_3, u0_4]] w0 fun e w' => ∃ (r0 : Bool), 
   e = .returned (.bool r0) ∧ K r0 ∧ Bel w0 w' := by
 unfold f_impl_IsDesk at h
 refine calls_of (args := [.agg #[u0_0, u0_1, u0_2, u0_3, u0_4]]) Try.func23 rfl 19 Try.ntmps23 (Nat.le_of_ble_eq_true rfl) ?_
 have hC := Ctx.start (X := Nox) w0 [Ty.item TDesk a0 [u0_0, u0_1, u0_2, u0_3, u0_4] fp0] (by simp only [List.mem_cons, List.not_mem_nil, or_false, forall_eq_or_imp, forall_eq]; exact q0)
 have hp2 := (hC.getP 0 rfl)
 have hp3 := desk_parts hp2
 have hp4 := hp3.1
 replace hC := hC.derive 0 rfl (Ty.item ((EI .i64).ty.sl) a0.first.degrees [u0_0] fp0) (fun _ => (alg_parts hp4).1) (fun _ hb_ => hb_)
 replace hC := hC.derive 1 rfl (Ty.item TForm.sl a0.first.images [u0_1] fp0) (fun _ => (alg_parts hp4).2) (fun _ hb_ => hb_)
 have hp7 := hp3.2.1
 replace hC := hC.derive 2 rfl (Ty.item ((EI .i64).ty.sl) a0.second.degrees [u0_2] fp0) (fun _ => (alg_parts hp7).1) (fun _ hb_ => hb_)
 replace hC := hC.derive 3 rfl (Ty.item TForm.sl a0.second.images [u0_3] fp0) (fun _ => (alg_parts hp7).2) (fun _ hb_ => hb_)
 have hp10 := hp3.2.2
 replace hC := hC.derive 4 rfl (Ty.item ETerm.ty.sl a0.form.terms [u0_4] fp0) (fun _ => (form_parts hp10)) (fun _ hb_ => hb_)
 refine sr ?_
 refine s_box (v := .agg #[u0_0, u0_1, u0_2, u0_3, u0_4]) hC [u0_0, u0_1, u0_2, u0_3, u0_4] rfl rfl fun b12 w14 hB_ hC => ?_
 refine s_as (v := .bool false) rfl ?_
 refine dn ?_
 refine sr ?_
 refine s_faddrB 0 Try.underlying48 rfl ag31.size rfl rfl ?_
 refine s_loadA hC 0 [u0_0, u0_1] rfl ag31 rfl rfl rfl ?_
 refine s_call [.agg #[u0_0, u0_1]] _ Try.func55 rfl rfl rfl (c_impl_IsAlgebra (⟨a0.first.degrees, a0.first.images⟩ : Alg) h _ (alg_mk (hC.getP 4 rfl) (hC.getP 3 rfl))) (fun ret15 w17 hR16 => ?_)
 obtain ⟨r18, rfl, h, hB19⟩ := hR16
 refine ⟨_, rfl, ?_⟩
 replace hC := hC.grow hB19
 refine s_mv (v := .bool r18) rfl ?_
 refine bsplit r18 (fun hb20 => ?_) (fun hb20 => ?_)
 ·replace h := ift h (hb20)
  refine guardOn 3 6 rfl rfl hb20 ?_
  refine s_faddrB 2 Try.underlying48 rfl ag31.size rfl rfl ?_
  refine guardOn 3 6 rfl rfl hb20 ?_
  refine s_loadA hC 0 [u0_2, u0_3] rfl ag31 rfl rfl rfl ?_
  refine guardOn 3 6 rfl rfl hb20 ?_
  refine s_call [.agg #[u0_2, u0_3]] _ Try.func55 rfl rfl rfl (c_impl_IsAlgebra (⟨a0.second.degrees, a0.second.images⟩ : Alg) h _ (alg_mk (hC.getP 2 rfl) (hC.getP 1 rfl))) (fun ret21 w23 hR22 => ?_)
  obtain ⟨r24, rfl, h, hB25⟩ := hR22
  refine ⟨_, rfl, ?_⟩
  replace hC := hC.grow hB25
  refine s_pick (v := .bool r24) (b := true) (tr rfl (congrArg _ hb20)) rfl ?_
  refine s_mv (v := .bool r24) rfl ?_
  refine bsplit r24 (fun hb26 => ?_) (fun hb26 => ?_)
  ·replace h := ift h (hb26)
   refine guardOn 8 11 rfl rfl hb26 ?_
   refine s_faddrB 0 Try.underlying48 rfl ag31.size rfl rfl ?_
   refine guardOn 8 11 rfl rfl hb26 ?_
   refine s_faddrB 0 Try.underlying31 rfl sc22.size rfl rfl ?_
   refine guardOn 8 11 rfl rfl hb26 ?_
   refine s_loadS hC 0 (u0_0) rfl sc22 rfl rfl ?_
   refine guardOn 8 11 rfl rfl hb26 ?_
   refine s_faddrB 4 Try.underlying48 rfl ag46.size rfl rfl ?_
   refine guardOn 8 11 rfl rfl hb26 ?_
   refine s_loadA hC 0 [u0_4] rfl ag46 rfl rfl rfl ?_
   refine guardOn 8 11 rfl rfl hb26 ?_
   refine s_call [u0_0, .agg #[u0_4]] _ Try.func56 rfl rfl rfl (c_impl_isForm a0.first.degrees (⟨a0.form.terms⟩ : Vc.Form) h _ (hC.getP 4 rfl) (form_mk (hC.getP 0 rfl))) (fun ret27 w29 hR28 => ?_)
   obtain ⟨r30, rfl, h, hB31⟩ := hR28
   refine ⟨_, rfl, ?_⟩
   replace hC := hC.grow hB31
   refine s_pick (v := .bool r30) (b := true) (tr rfl (congrArg _ hb26)) rfl ?_
   refine s_as (v := .bool r30) rfl ?_
   refine dn ?_
   refine wp_ret ?_
   refine ret1 (fn := Try.f23) rfl ?_ ⟨r30, rfl, h, hC.below⟩ (.inl rfl)
   exact res_tmp rfl
  ·replace h := iff_ h (ne_t hb26)
   refine guardOff (b := false) 8 11 rfl (tr rfl (congrArg _ hb26)) (by decide) ?_
   refine guardOff (b := false) 8 11 rfl (tr rfl (congrArg _ hb26)) (by decide) ?_
   refine guardOff (b := false) 8 11 rfl (tr rfl (congrArg _ hb26)) (by decide) ?_
   refine guardOff (b := false) 8 11 rfl (tr rfl (congrArg _ hb26)) (by decide) ?_
   refine guardOff (b := false) 8 11 rfl (tr rfl (congrArg _ hb26)) (by decide) ?_
   refine guardOff (b := false) 8 11 rfl (tr rfl (congrArg _ hb26)) (by decide) ?_
   refine s_pick (v := .bool false) (b := false) (tr rfl (congrArg _ hb26)) rfl ?_
   refine s_as (v := .bool false) rfl ?_
   refine dn ?_
   refine wp_ret ?_
   refine ret1 (fn := Try.f23) rfl ?_ ⟨false, rfl, h, hC.below⟩ (.inl rfl)
   exact res_tmp rfl
 ·replace h := iff_ h (ne_t hb20)
  refine guardOff (b := false) 3 6 rfl (tr rfl (congrArg _ hb20)) (by decide) ?_
  refine guardOff (b := false) 3 6 rfl (tr rfl (congrArg _ hb20)) (by decide) ?_
  refine guardOff (b := false) 3 6 rfl (tr rfl (congrArg _ hb20)) (by decide) ?_
  refine s_pick (v := .bool false) (b := false) (tr rfl (congrArg _ hb20)) rfl ?_
  refine s_mv (v := .bool false) rfl ?_
  refine guardOff (b := false) 8 11 rfl (tr rfl (congrArg _ rfl)) (by decide) ?_
  refine guardOff (b := false) 8 11 rfl (tr rfl (congrArg _ rfl)) (by decide) ?_
  refine guardOff (b := false) 8 11 rfl (tr rfl (congrArg _ rfl)) (by decide) ?_
  refine guardOff (b := false) 8 11 rfl (tr rfl (congrArg _ rfl)) (by decide) ?_
  refine guardOff (b := false) 8 11 rfl (tr rfl (congrArg _ rfl)) (by decide) ?_
  refine guardOff (b := false) 8 11 rfl (tr rfl (congrArg _ rfl)) (by decide) ?_
  refine s_pick (v := .bool false) (b := false) rfl rfl ?_
  refine s_as (v := .bool false) rfl ?_
  refine dn ?_
  refine wp_ret ?_
  refine ret1 (fn := Try.f23) rfl ?_ ⟨false, rfl, h, hC.below⟩ (.inl rfl)
  exact res_tmp rfl
def f_laws_eqDesk (a0 : Vc.Desk) (a1 : Vc.Desk) (K : Bool → Prop) : Prop :=
 f_laws_eqAlgebra (⟨a0.first.degrees, a0.first.images⟩ : Alg) (⟨a1.first.degrees, a1.first.images⟩ : Alg) (fun r32 => (if ¬ (r32 = true) then K false else f_laws_eqAlgebra (⟨a0.second.degrees, a0.second.images⟩ : Alg) (⟨a1.second.degrees, a1.second.images⟩ : Alg) (fun r38 => (if ¬ (r38 = true) then K false else f_laws_eqForm (⟨a0.form.terms⟩ : Vc.Form) (⟨a1.form.terms⟩ : Vc.Form) (fun r44 => (if ¬ (r44 = true) then K false else K true))))))
theorem c_laws_eqDesk (a0 : Vc.Desk) (a1 : Vc.Desk) {u0_0 : Value} {u0_1 : Value} {u0_2 : Value} {u0_3 : Value} {u0_4 : Value} {u1_0 : Value} {u1_1 : Value} {u1_2 : Value} {u1_3 : Value} {u1_4 : Value} {fp0 : List Nat} {fp1 : List Nat} {K : Bool → Prop} (h : f_laws_eqDesk a0 a1 K) (w0 : World) (q0 : TDesk.rep a0 [u0_0, u0_1, u0_2, u0_3, u0_4] fp0 w0) (q1 : TDesk.rep a1 [u1_0, u1_1, u1_2, u1_3, u1_4] fp1 w0) :
  Calls Try.prog 24 #[.agg #[u0_0, u0_1, u0_2, u0_3, u0_4], .agg #[u1_0, u1_1, u1_2, u1_3, u1_4]] w0 fun e w' => ∃ (r0 : Bool), 
   e = .returned (.bool r0) ∧ K r0 ∧ Bel w0 w' := by
 unfold f_laws_eqDesk at h
 refine calls_of (args := [.agg #[u0_0, u0_1, u0_2, u0_3, u0_4], .agg #[u1_0, u1_1, u1_2, u1_3, u1_4]]) Try.func24 rfl 23 Try.ntmps24 (Nat.le_of_ble_eq_true rfl) ?_
 have hC := Ctx.start (X := Nox) w0 [Ty.item TDesk a0 [u0_0, u0_1, u0_2, u0_3, u0_4] fp0, Ty.item TDesk a1 [u1_0, u1_1, u1_2, u1_3, u1_4] fp1] (by simp only [List.mem_cons, List.not_mem_nil, or_false, forall_eq_or_imp, forall_eq]; exact ⟨q0, q1⟩)
 have hp3 := (hC.getP 0 rfl)
 have hp4 := desk_parts hp3
 have hp5 := hp4.1
 replace hC := hC.derive 0 rfl (Ty.item ((EI .i64).ty.sl) a0.first.degrees [u0_0] fp0) (fun _ => (alg_parts hp5).1) (fun _ hb_ => hb_)
 replace hC := hC.derive 1 rfl (Ty.item TForm.sl a0.first.images [u0_1] fp0) (fun _ => (alg_parts hp5).2) (fun _ hb_ => hb_)
 have hp8 := hp4.2.1
 replace hC := hC.derive 2 rfl (Ty.item ((EI .i64).ty.sl) a0.second.degrees [u0_2] fp0) (fun _ => (alg_parts hp8).1) (fun _ hb_ => hb_)
 replace hC := hC.derive 3 rfl (Ty.item TForm.sl a0.second.images [u0_3] fp0) (fun _ => (alg_parts hp8).2) (fun _ hb_ => hb_)
 have hp11 := hp4.2.2
 replace hC := hC.derive 4 rfl (Ty.item ETerm.ty.sl a0.form.terms [u0_4] fp0) (fun _ => (form_parts hp11)) (fun _ hb_ => hb_)
 have hp13 := (hC.getP 6 rfl)
 have hp14 := desk_parts hp13
 have hp15 := hp14.1
 replace hC := hC.derive 6 rfl (Ty.item ((EI .i64).ty.sl) a1.first.degrees [u1_0] fp1) (fun _ => (alg_parts hp15).1) (fun _ hb_ => hb_)
 replace hC := hC.derive 7 rfl (Ty.item TForm.sl a1.first.images [u1_1] fp1) (fun _ => (alg_parts hp15).2) (fun _ hb_ => hb_)
 have hp18 := hp14.2.1
 replace hC := hC.derive 8 rfl (Ty.item ((EI .i64).ty.sl) a1.second.degrees [u1_2] fp1) (fun _ => (alg_parts hp18).1) (fun _ hb_ => hb_)
 replace hC := hC.derive 9 rfl (Ty.item TForm.sl a1.second.images [u1_3] fp1) (fun _ => (alg_parts hp18).2) (fun _ hb_ => hb_)
 have hp21 := hp14.2.2
 replace hC := hC.derive 10 rfl (Ty.item ETerm.ty.sl a1.form.terms [u1_4] fp1) (fun _ => (form_parts hp21)) (fun _ hb_ => hb_)
 refine sr ?_
 refine s_box (v := .agg #[u0_0, u0_1, u0_2, u0_3, u0_4]) hC [u0_0, u0_1, u0_2, u0_3, u0_4] rfl rfl fun b23 w25 hB_ hC => ?_
 refine s_box (v := .agg #[u1_0, u1_1, u1_2, u1_3, u1_4]) hC [u1_0, u1_1, u1_2, u1_3, u1_4] rfl rfl fun b26 w28 hB_ hC => ?_
 refine s_as (v := .bool false) rfl ?_
 refine dn ?_
 refine wp_seq ?_
 refine sr ?_
 refine s_faddrB 0 Try.underlying48 rfl ag31.size rfl rfl ?_
 refine s_loadA hC 1 [u0_0, u0_1] rfl ag31 rfl rfl rfl ?_
 refine s_faddrB 0 Try.underlying48 rfl ag31.size rfl rfl ?_
 refine s_loadA hC 0 [u1_0, u1_1] rfl ag31 rfl rfl rfl ?_
 refine s_call [.agg #[u0_0, u0_1], .agg #[u1_0, u1_1]] _ Try.func15 rfl rfl rfl (c_laws_eqAlgebra (⟨a0.first.degrees, a0.first.images⟩ : Alg) (⟨a1.first.degrees, a1.first.images⟩ : Alg) h _ (alg_mk (hC.getP 9 rfl) (hC.getP 8 rfl)) (alg_mk (hC.getP 4 rfl) (hC.getP 3 rfl))) (fun ret29 w31 hR30 => ?_)
 obtain ⟨r32, rfl, h, hB33⟩ := hR30
 refine ⟨_, rfl, ?_⟩
 replace hC := hC.grow hB33
 refine s_not rfl ?_
 refine dn ?_
 refine cw_cond rfl (fun hb34 => ?_) (fun hb34 => ?_)
 ·replace h := ift h (ne_t (not_t hb34))
  refine sr ?_
  refine s_as (v := .bool false) rfl ?_
  refine dn ?_
  refine wp_ret (then_ret ?_)
  refine ret1 (fn := Try.f24) rfl ?_ ⟨false, rfl, h, hC.below⟩ (.inl rfl)
  exact res_tmp rfl
 ·replace h := iff_ h (not_not_intro ((not_f hb34)))
  refine wp_skip ?_
  refine then_norm ?_
  refine wp_seq ?_
  refine sr ?_
  refine s_faddrB 2 Try.underlying48 rfl ag31.size rfl rfl ?_
  refine s_loadA hC 1 [u0_2, u0_3] rfl ag31 rfl rfl rfl ?_
  refine s_faddrB 2 Try.underlying48 rfl ag31.size rfl rfl ?_
  refine s_loadA hC 0 [u1_2, u1_3] rfl ag31 rfl rfl rfl ?_
  refine s_call [.agg #[u0_2, u0_3], .agg #[u1_2, u1_3]] _ Try.func15 rfl rfl rfl (c_laws_eqAlgebra (⟨a0.second.degrees, a0.second.images⟩ : Alg) (⟨a1.second.degrees, a1.second.images⟩ : Alg) h _ (alg_mk (hC.getP 7 rfl) (hC.getP 6 rfl)) (alg_mk (hC.getP 2 rfl) (hC.getP 1 rfl))) (fun ret35 w37 hR36 => ?_)
  obtain ⟨r38, rfl, h, hB39⟩ := hR36
  refine ⟨_, rfl, ?_⟩
  replace hC := hC.grow hB39
  refine s_not rfl ?_
  refine dn ?_
  refine cw_cond rfl (fun hb40 => ?_) (fun hb40 => ?_)
  ·replace h := ift h (ne_t (not_t hb40))
   refine sr ?_
   refine s_as (v := .bool false) rfl ?_
   refine dn ?_
   refine wp_ret (then_ret ?_)
   refine ret1 (fn := Try.f24) rfl ?_ ⟨false, rfl, h, hC.below⟩ (.inl rfl)
   exact res_tmp rfl
  ·replace h := iff_ h (not_not_intro ((not_f hb40)))
   refine wp_skip ?_
   refine then_norm ?_
   refine wp_seq ?_
   refine sr ?_
   refine s_faddrB 4 Try.underlying48 rfl ag46.size rfl rfl ?_
   refine s_loadA hC 1 [u0_4] rfl ag46 rfl rfl rfl ?_
   refine s_faddrB 4 Try.underlying48 rfl ag46.size rfl rfl ?_
   refine s_loadA hC 0 [u1_4] rfl ag46 rfl rfl rfl ?_
   refine s_call [.agg #[u0_4], .agg #[u1_4]] _ Try.func36 rfl rfl rfl (c_laws_eqForm (⟨a0.form.terms⟩ : Vc.Form) (⟨a1.form.terms⟩ : Vc.Form) h _ (form_mk (hC.getP 5 rfl)) (form_mk (hC.getP 0 rfl))) (fun ret41 w43 hR42 => ?_)
   obtain ⟨r44, rfl, h, hB45⟩ := hR42
   refine ⟨_, rfl, ?_⟩
   replace hC := hC.grow hB45
   refine s_not rfl ?_
   refine dn ?_
   refine cw_cond rfl (fun hb46 => ?_) (fun hb46 => ?_)
   ·replace h := ift h (ne_t (not_t hb46))
    refine sr ?_
    refine s_as (v := .bool false) rfl ?_
    refine dn ?_
    refine wp_ret (then_ret ?_)
    refine ret1 (fn := Try.f24) rfl ?_ ⟨false, rfl, h, hC.below⟩ (.inl rfl)
    exact res_tmp rfl
   ·replace h := iff_ h (not_not_intro ((not_f hb46)))
    refine wp_skip ?_
    refine then_norm ?_
    refine sr ?_
    refine s_as (v := .bool true) rfl ?_
    refine dn ?_
    refine wp_ret ?_
    refine ret1 (fn := Try.f24) rfl ?_ ⟨true, rfl, h, hC.below⟩ (.inl rfl)
    exact res_tmp rfl
def f_laws_FnExactIsDesk (a0 : Vc.Desk) (K : Bool → Prop) : Prop :=
 f_laws_szDesk a0 1048576 (fun r18 => (if r18 < 0 then K true else f_laws_toDesk a0 (fun r24 => f_spec_IsDesk r24 (fun r49 => f_laws_toDesk a0 (fun r54 => f_impl_IsDesk r54 (fun r83 => (if r83 ≠ r49 then K false else f_laws_toDesk a0 (fun r92 => f_laws_eqDesk r54 r92 (fun r117 => (if ¬ (r117 = true) then K false else K true))))))))))
theorem c_laws_FnExactIsDesk (a0 : Vc.Desk) {u0_0 : Value} {u0_1 : Value} {u0_2 : Value} {u0_3 : Value} {u0_4 : Value} {fp0 : List Nat} {K : Bool → Prop} (h : f_laws_FnExactIsDesk a0 K) (w0 : World) (q0 : TDesk.rep a0 [u0_0, u0_1, u0_2, u0_3, u0_4] fp0 w0) :
  Calls Try.prog 6 #[.agg #[u0_0, u0_1, u0_2, u0_3, u0_4]] w0 fun e w' => ∃ (r0 : Bool), 
   e = .returned (.bool r0) ∧ K r0 ∧ Bel w0 w' := by
 unfold f_laws_FnExactIsDesk at h
 refine calls_of (args := [.agg #[u0_0, u0_1, u0_2, u0_3, u0_4]]) Try.func6 rfl 27 Try.ntmps6 (Nat.le_of_ble_eq_true rfl) ?_
 have hC := Ctx.start (X := Nox) w0 [Ty.item TDesk a0 [u0_0, u0_1, u0_2, u0_3, u0_4] fp0] (by simp only [List.mem_cons, List.not_mem_nil, or_false, forall_eq_or_imp, forall_eq]; exact q0)
 have hp2 := (hC.getP 0 rfl)
 have hp3 := desk_parts hp2
 have hp4 := hp3.1
 replace hC := hC.derive 0 rfl (Ty.item ((EI .i64).ty.sl) a0.first.degrees [u0_0] fp0) (fun _ => (alg_parts hp4).1) (fun _ hb_ => hb_)
 replace hC := hC.derive 1 rfl (Ty.item TForm.sl a0.first.images [u0_1] fp0) (fun _ => (alg_parts hp4).2) (fun _ hb_ => hb_)
 have hp7 := hp3.2.1
 replace hC := hC.derive 2 rfl (Ty.item ((EI .i64).ty.sl) a0.second.degrees [u0_2] fp0) (fun _ => (alg_parts hp7).1) (fun _ hb_ => hb_)
 replace hC := hC.derive 3 rfl (Ty.item TForm.sl a0.second.images [u0_3] fp0) (fun _ => (alg_parts hp7).2) (fun _ hb_ => hb_)
 have hp10 := hp3.2.2
 replace hC := hC.derive 4 rfl (Ty.item ETerm.ty.sl a0.form.terms [u0_4] fp0) (fun _ => (form_parts hp10)) (fun _ hb_ => hb_)
 refine sr ?_
 refine s_box (v := .agg #[u0_0, u0_1, u0_2, u0_3, u0_4]) hC [u0_0, u0_1, u0_2, u0_3, u0_4] rfl rfl fun b12 w14 hB_ hC => ?_
 refine s_as (v := .bool false) rfl ?_
 refine dn ?_
 refine sr ?_
 refine s_as (v := .int .i64 1048576) rfl ?_
 refine dn ?_
 refine sr ?_
 refine s_loadA hC 0 [u0_0, u0_1, u0_2, u0_3, u0_4] rfl ag41 rfl rfl rfl ?_
 refine s_mv (v := .int .i64 1048576) rfl ?_
 refine s_call [.agg #[u0_0, u0_1, u0_2, u0_3, u0_4], .int .i64 1048576] _ Try.func20 rfl rfl rfl (c_laws_szDesk a0 1048576 h _ (desk_mk (alg_mk (hC.getP 4 rfl) (hC.getP 3 rfl)) (alg_mk (hC.getP 2 rfl) (hC.getP 1 rfl)) (form_mk (hC.getP 0 rfl)))) (fun ret15 w17 hR16 => ?_)
 obtain ⟨r18, rfl, h, hB19⟩ := hR16
 refine ⟨_, rfl, ?_⟩
 replace hC := hC.grow hB19
 refine s_as (v := .int .i64 r18) rfl ?_
 refine dn ?_
 refine wp_seq ?_
 refine sr ?_
 refine s_mv (v := .int .i64 r18) rfl ?_
 refine s_lss rfl rfl ?_
 refine dn ?_
 refine cw_cond rfl (fun hb20 => ?_) (fun hb20 => ?_)
 ·replace h := ift h (ct hb20)
  refine sr ?_
  refine s_as (v := .bool true) rfl ?_
  refine dn ?_
  refine wp_ret (then_ret ?_)
  refine ret1 (fn := Try.f6) rfl ?_ ⟨true, rfl, h, hC.below⟩ (.inl rfl)
  exact res_tmp rfl
 ·replace h := iff_ h (cf hb20)
  refine wp_skip ?_
  refine then_norm ?_
  refine sr ?_
  refine s_loadA hC 0 [u0_0, u0_1, u0_2, u0_3, u0_4] rfl ag41 rfl rfl rfl ?_
  refine s_call [.agg #[u0_0, u0_1, u0_2, u0_3, u0_4]] _ Try.func22 rfl rfl rfl (c_laws_toDesk a0 h _ (desk_mk (alg_mk (hC.getP 4 rfl) (hC.getP 3 rfl)) (alg_mk (hC.getP 2 rfl) (hC.getP 1 rfl)) (form_mk (hC.getP 0 rfl)))) (fun ret21 w23 hR22 => ?_)
  obtain ⟨r24, u25, u26, u27, u28, u29, f30, rfl, h, hr31, hf32, hB33⟩ := hR22
  refine ⟨_, rfl, ?_⟩
  have hs34 := fresh_on hC.size hf32
  replace hC := hC.pushR hB33 (Ty.item TDesk r24 [u25, u26, u27, u28, u29] f30) hr31 (fun b hb => .inl (hf32 b hb))
  have hp36 := (hC.getP 0 rfl)
  have hp37 := desk_parts hp36
  have hp38 := hp37.1
  replace hC := hC.derive 0 rfl (Ty.item ((EI .i64).ty.sl) r24.first.degrees [u25] f30) (fun _ => (alg_parts hp38).1) (fun _ hb_ => hb_)
  replace hC := hC.derive 1 rfl (Ty.item TForm.sl r24.first.images [u26] f30) (fun _ => (alg_parts hp38).2) (fun _ hb_ => hb_)
  have hp41 := hp37.2.1
  replace hC := hC.derive 2 rfl (Ty.item ((EI .i64).ty.sl) r24.second.degrees [u27] f30) (fun _ => (alg_parts hp41).1) (fun _ hb_ => hb_)
  replace hC := hC.derive 3 rfl (Ty.item TForm.sl r24.second.images [u28] f30) (fun _ => (alg_parts hp41).2) (fun _ hb_ => hb_)
  have hp44 := hp37.2.2
  replace hC := hC.derive 4 rfl (Ty.item ETerm.ty.sl r24.form.terms [u29] f30) (fun _ => (form_parts hp44)) (fun _ hb_ => hb_)
  refine s_call [.agg #[u25, u26, u27, u28, u29]] _ Try.func21 rfl rfl rfl (c_spec_IsDesk r24 h _ (desk_mk (alg_mk (hC.getP 4 rfl) (hC.getP 3 rfl)) (alg_mk (hC.getP 2 rfl) (hC.getP 1 rfl)) (form_mk (hC.getP 0 rfl)))) (fun ret46 w48 hR47 => ?_)
  obtain ⟨r49, rfl, h, hB50⟩ := hR47
  refine ⟨_, rfl, ?_⟩
  replace hC := hC.grow hB50
  refine s_as (v := .bool r49) rfl ?_
  refine dn ?_
  refine sr ?_
  refine s_loadA hC 0 [u0_0, u0_1, u0_2, u0_3, u0_4] rfl ag41 rfl rfl rfl ?_
  refine s_call [.agg #[u0_0, u0_1, u0_2, u0_3, u0_4]] _ Try.func22 rfl rfl rfl (c_laws_toDesk a0 h _ (desk_mk (alg_mk (hC.getP 10 rfl) (hC.getP 9 rfl)) (alg_mk (hC.getP 8 rfl) (hC.getP 7 rfl)) (form_mk (hC.getP 6 rfl)))) (fun ret51 w53 hR52 => ?_)
  obtain ⟨r54, u55, u56, u57, u58, u59, f60, rfl, h, hr61, hf62, hB63⟩ := hR52
  refine ⟨_, rfl, ?_⟩
  have hs64 := fresh_on hC.size hf62
  replace hC := hC.pushR hB63 (Ty.item TDesk r54 [u55, u56, u57, u58, u59] f60) hr61 (fun b hb => .inl (hf62 b hb))
  have hp66 := (hC.getP 0 rfl)
  have hp67 := desk_parts hp66
  have hp68 := hp67.1
  replace hC := hC.derive 0 rfl (Ty.item ((EI .i64).ty.sl) r54.first.degrees [u55] f60) (fun _ => (alg_parts hp68).1) (fun _ hb_ => hb_)
  replace hC := hC.derive 1 rfl (Ty.item TForm.sl r54.first.images [u56] f60) (fun _ => (alg_parts hp68).2) (fun _ hb_ => hb_)
  have hp71 := hp67.2.1
  replace hC := hC.derive 2 rfl (Ty.item ((EI .i64).ty.sl) r54.second.degrees [u57] f60) (fun _ => (alg_parts hp71).1) (fun _ hb_ => hb_)
  replace hC := hC.derive 3 rfl (Ty.item TForm.sl r54.second.images [u58] f60) (fun _ => (alg_parts hp71).2) (fun _ hb_ => hb_)
  have hp74 := hp67.2.2
  replace hC := hC.derive 4 rfl (Ty.item ETerm.ty.sl r54.form.terms [u59] f60) (fun _ => (form_parts hp74)) (fun _ hb_ => hb_)
  refine s_alloc hC [.slice none 0 0, .slice none 0 0, .slice none 0 0, .slice none 0 0, .slice none 0 0] z48 rfl fun b76 w78 hB_ hC => ?_
  refine s_store (v := .agg #[u55, u56, u57, u58, u59]) hC 0 [u55, u56, u57, u58, u59] [u55, u56, u57, u58, u59] rfl ag48.size rfl rfl rfl rfl (all_c (rep_oneC (hC.getP 4 rfl)) (all_c (rep_oneC (hC.getP 3 rfl)) (all_c (rep_oneC (hC.getP 2 rfl)) (all_c (rep_oneC (hC.getP 1 rfl)) (all_c (rep_oneC (hC.getP 0 rfl)) rfl))))) (Nat.le_of_ble_eq_true rfl) rfl fun w79 hC => ?_
  refine dn ?_
  refine sr ?_
  refine s_loadA hC 0 [u55, u56, u57, u58, u59] rfl ag48 rfl rfl rfl ?_
  refine s_call [.agg #[u55, u56, u57, u58, u59]] _ Try.func23 rfl rfl rfl (c_impl_IsDesk r54 h _ (desk_mk (alg_mk (hC.getP 4 rfl) (hC.getP 3 rfl)) (alg_mk (hC.getP 2 rfl) (hC.getP 1 rfl)) (form_mk (hC.getP 0 rfl)))) (fun ret80 w82 hR81 => ?_)
  obtain ⟨r83, rfl, h, hB84⟩ := hR81
  refine ⟨_, rfl, ?_⟩
  replace hC := hC.grow hB84
  refine s_as (v := .bool r83) rfl ?_
  refine dn ?_
  refine wp_seq ?_
  refine sr ?_
  refine s_mv (v := .bool r83) rfl ?_
  refine s_mv (v := .bool r49) rfl ?_
  refine s_neqB Try.underlying4 rfl rfl ?_
  refine dn ?_
  refine cw_cond rfl (fun hb85 => ?_) (fun hb85 => ?_)
  ·replace h := ift h (bne_t hb85)
   refine sr ?_
   refine s_as (v := .bool false) rfl ?_
   refine dn ?_
   refine wp_ret (then_ret ?_)
   refine ret1 (fn := Try.f6) rfl ?_ ⟨false, rfl, h, hC.below⟩ (.inl rfl)
   exact res_tmp rfl
  ·replace h := iff_ h (bne_f hb85)
   refine wp_skip ?_
   refine then_norm ?_
   refine wp_seq ?_
   refine wp_seq ?_
   refine cw_draw 3 mixed [0, 0, 2, 7, 15] [0, 1] [] (by kernel_rfl) (by kernel_rfl) (by kernel_rfl) (fun hM87 hM88 w86 hB_ => ?_)
   replace hC := hC.grow hB_
   refine ae_look belPre 0 (.agg #[u55, u56, u57, u58, u59]) rfl rfl (by kernel_rfl) (hM87 0 rfl) (fun w_ hB_ => .inl ⟨rfl, by exact r_loadA (hC.grow hB_) 0 [u55, u56, u57, u58, u59] rfl ag48 rfl rfl rfl⟩) (listed' := (dbits 5 1)) (by kernel_rfl) ?_
   refine ae_look belPre 1 (.agg #[u0_0, u0_1, u0_2, u0_3, u0_4]) rfl rfl (by kernel_rfl) (hM87 1 rfl) (fun w_ hB_ => .inl ⟨rfl, by exact r_loadA (hC.grow hB_) 1 [u0_0, u0_1, u0_2, u0_3, u0_4] rfl ag41 rfl rfl rfl⟩) (listed' := (dbits 5 3)) (by kernel_rfl) ?_
   refine ae_one 2 rfl (by kernel_rfl) ?_
   refine s_call [.agg #[u0_0, u0_1, u0_2, u0_3, u0_4]] _ Try.func22 rfl rfl rfl (c_laws_toDesk a0 h _ (desk_mk (alg_mk (hC.getP 16 rfl) (hC.getP 15 rfl)) (alg_mk (hC.getP 14 rfl) (hC.getP 13 rfl)) (form_mk (hC.getP 12 rfl)))) (fun ret89 w91 hR90 => ?_)
   obtain ⟨r92, u93, u94, u95, u96, u97, f98, rfl, h, hr99, hf100, hB101⟩ := hR90
   refine ⟨_, rfl, ?_⟩
   have hs102 := fresh_on hC.size hf100
   replace hC := hC.pushR hB101 (Ty.item TDesk r92 [u93, u94, u95, u96, u97] f98) hr99 (fun b hb => .inl (hf100 b hb))
   have hp104 := (hC.getP 0 rfl)
   have hp105 := desk_parts hp104
   have hp106 := hp105.1
   replace hC := hC.derive 0 rfl (Ty.item ((EI .i64).ty.sl) r92.first.degrees [u93] f98) (fun _ => (alg_parts hp106).1) (fun _ hb_ => hb_)
   replace hC := hC.derive 1 rfl (Ty.item TForm.sl r92.first.images [u94] f98) (fun _ => (alg_parts hp106).2) (fun _ hb_ => hb_)
   have hp109 := hp105.2.1
   replace hC := hC.derive 2 rfl (Ty.item ((EI .i64).ty.sl) r92.second.degrees [u95] f98) (fun _ => (alg_parts hp109).1) (fun _ hb_ => hb_)
   replace hC := hC.derive 3 rfl (Ty.item TForm.sl r92.second.images [u96] f98) (fun _ => (alg_parts hp109).2) (fun _ hb_ => hb_)
   have hp112 := hp105.2.2
   replace hC := hC.derive 4 rfl (Ty.item ETerm.ty.sl r92.form.terms [u97] f98) (fun _ => (form_parts hp112)) (fun _ hb_ => hb_)
   refine done ?_
   refine ak_intro (by assumption) (listed' := (dbits 5 7)) (by kernel_rfl) ?_
   refine ae_tail 3 (by decide) (by decide) (by kernel_rfl) (by kernel_rfl) rfl ?_
   refine s_call [.agg #[u55, u56, u57, u58, u59], .agg #[u93, u94, u95, u96, u97]] _ Try.func24 rfl rfl rfl (c_laws_eqDesk r54 r92 h _ (desk_mk (alg_mk (hC.getP 10 rfl) (hC.getP 9 rfl)) (alg_mk (hC.getP 8 rfl) (hC.getP 7 rfl)) (form_mk (hC.getP 6 rfl))) (desk_mk (alg_mk (hC.getP 4 rfl) (hC.getP 3 rfl)) (alg_mk (hC.getP 2 rfl) (hC.getP 1 rfl)) (form_mk (hC.getP 0 rfl)))) (fun ret114 w116 hR115 => ?_)
   obtain ⟨r117, rfl, h, hB118⟩ := hR115
   refine ⟨_, rfl, ?_⟩
   replace hC := hC.grow hB118
   refine s_not rfl ?_
   refine done ?_
   refine qn_norm ?_
   refine then_norm ?_
   refine cw_cond rfl (fun hb119 => ?_) (fun hb119 => ?_)
   ·replace h := ift h (ne_t (not_t hb119))
    refine sr ?_
    refine s_as (v := .bool false) rfl ?_
    refine dn ?_
    refine wp_ret (then_ret ?_)
    refine ret1 (fn := Try.f6) rfl ?_ ⟨false, rfl, h, hC.below⟩ (.inl rfl)
    exact res_tmp rfl
   ·replace h := iff_ h (not_not_intro ((not_f hb119)))
    refine wp_skip ?_
    refine then_norm ?_
    refine sr ?_
    refine s_as (v := .bool true) rfl ?_
    refine dn ?_
    refine wp_ret ?_
    refine ret1 (fn := Try.f6) rfl ?_ ⟨true, rfl, h, hC.below⟩ (.inl rfl)
    exact res_tmp rfl
end Go.Proofs.Ytgfmflmhcfkldaa
