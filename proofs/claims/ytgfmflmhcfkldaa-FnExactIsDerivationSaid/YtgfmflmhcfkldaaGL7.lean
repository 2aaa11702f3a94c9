/- Printed by vcgen.py: functions of the program as predicates, and that the machine's calls meet them. -/
import Derived.Test.YtgfmflmhcfkldaaGC
import Derived.KernelRfl
set_option linter.unusedVariables false
set_option linter.unusedSimpArgs false
set_option maxRecDepth 4000
set_option maxHeartbeats 4000000
namespace Go.Proofs.Ytgfmflmhcfkldaa
open Go Go.RowKit Vc
theorem ag57 : AggT Try.prog 57 2 := ⟨⟨_, Try.underlying57, rfl⟩, by kernel_rfl⟩
theorem z57 : ZeroT Try.prog 57 (.agg #[.int .i64 0, .slice none 0 0]) := by unfold ZeroT; kernel_rfl
theorem ag25 : AggT Try.prog 25 2 := ⟨⟨_, Try.underlying25, rfl⟩, by kernel_rfl⟩
theorem ag53 : AggT Try.prog 53 2 := ⟨⟨_, Try.underlying53, rfl⟩, by kernel_rfl⟩
def f_laws_szDerivation (a0 : Der) (a1 : Int) (K : Int → Prop) : Prop :=
 f_laws_szFormS a0.images a1 (fun r10 => (if r10 < 0 then K (-1) else K r10))
theorem c_laws_szDerivation (a0 : Der) (a1 : Int) {u0_0 : Value} {u0_1 : Value} {fp0 : List Nat} {K : Int → Prop} (h : f_laws_szDerivation a0 a1 K) (w0 : World) (q0 : TDer.rep a0 [u0_0, u0_1] fp0 w0) :
  Calls Try.prog 25 #[.agg #[u0_0, u0_1], .int .i64 a1] w0 fun e w' => ∃ (r0 : Int), 
   e = .returned (.int .i64 r0) ∧ K r0 ∧ Bel w0 w' := by
 unfold f_laws_szDerivation at h
 refine calls_of (args := [.agg #[u0_0, u0_1], .int .i64 a1]) Try.func25 rfl 12 Try.ntmps25 (Nat.le_of_ble_eq_true rfl) ?_
 have hC := Ctx.start (X := Nox) w0 [Ty.item TDer a0 [u0_0, u0_1] fp0] (by simp only [List.mem_cons, List.not_mem_nil, or_false, forall_eq_or_imp, forall_eq]; exact q0)
 have hp2 := (hC.getP 0 rfl)
 obtain rfl := (der_parts hp2).1
 replace hC := hC.derive 0 rfl (Ty.item TForm.sl a0.images [u0_1] fp0) (fun _ => (der_parts hp2).2) (fun _ hb_ => hb_)
 refine sr ?_
 refine s_box (v := .agg #[.int .i64 a0.drop, u0_1]) hC [.int .i64 a0.drop, u0_1] rfl rfl fun b4 w6 hB_ hC => ?_
 refine s_as (v := .int .i64 0) rfl ?_
 refine dn ?_
 refine sr ?_
 refine s_faddrB 1 Try.underlying53 rfl sc23.size rfl rfl ?_
 refine s_loadS hC 0 (u0_1) rfl sc23 rfl rfl ?_
 refine s_mv (v := .int .i64 a1) rfl ?_
 refine s_call [u0_1, .int .i64 a1] _ Try.func46 rfl rfl rfl (c_laws_szFormS a0.images a1 h _ (hC.getP 0 rfl)) (fun ret7 w9 hR8 => ?_)
 obtain ⟨r10, rfl, h, hB11⟩ := hR8
 refine ⟨_, rfl, ?_⟩
 replace hC := hC.grow hB11
 refine s_as (v := .int .i64 r10) rfl ?_
 refine dn ?_
 refine wp_seq ?_
 refine sr ?_
 refine s_mv (v := .int .i64 r10) rfl ?_
 refine s_lss rfl rfl ?_
 refine dn ?_
 refine cw_cond rfl (fun hb12 => ?_) (fun hb12 => ?_)
 ·replace h := ift h (ct hb12)
  refine sr ?_
  refine s_as (v := .int .i64 (-1)) rfl ?_
  refine dn ?_
  refine wp_ret (then_ret ?_)
  refine ret1 (fn := Try.f25) rfl ?_ ⟨(-1), rfl, h, hC.below⟩ (.inl rfl)
  exact res_tmp rfl
 ·replace h := iff_ h (cf hb12)
  refine wp_skip ?_
  refine then_norm ?_
  refine sr ?_
  refine s_mv (v := .int .i64 r10) rfl ?_
  refine s_as (v := .int .i64 r10) rfl ?_
  refine dn ?_
  refine wp_ret ?_
  refine ret1 (fn := Try.f25) rfl ?_ ⟨r10, rfl, h, hC.below⟩ (.inl rfl)
  exact res_tmp rfl
def f_spec_l09Is (a0 : Alg) (a1 : Der) (K : Bool → Prop) : Prop :=
 f_spec_l02Is a0 (fun r17 => (if ¬ (r17 = true) then K false else f_spec_l01In a1.drop 0 12 (fun r23 => (if ¬ (r23 = true) then K false else (if (a1.images.length : Int) ≠ (a0.degrees.length : Int) then K false else whileP (fun (s139 : Int) next140 => (if s139 < (a1.images.length : Int) then ((0 ≤ s139 ∧ s139 < (a1.images.length : Int)) ∧ f_spec_l01Degree a0.degrees (a1.images.getD s139.toNat default) (fun r165 r166 => ((0 ≤ s139 ∧ s139 < (a1.images.length : Int)) ∧ f_spec_l01Is a0.degrees (a1.images.getD s139.toNat default) (fun r185 => (if ¬ (r185 = true) then K false else (if ¬ (r166 = true) then K false else (if r165 ≥ 0 then ((0 ≤ s139 ∧ s139 < (a0.degrees.length : Int)) ∧ (if r165 ≠ IntKind.i64.wrap ((a0.degrees.getD s139.toNat default) - a1.drop) then K false else next140 (IntKind.i64.wrap (s139 + 1)))) else next140 (IntKind.i64.wrap (s139 + 1))))))))) else K true)) 0)))))
theorem c_spec_l09Is (a0 : Alg) (a1 : Der) {u0_0 : Value} {u0_1 : Value} {u1_0 : Value} {u1_1 : Value} {fp0 : List Nat} {fp1 : List Nat} {K : Bool → Prop} (h : f_spec_l09Is a0 a1 K) (w0 : World) (q0 : TAlg.rep a0 [u0_0, u0_1] fp0 w0) (q1 : TDer.rep a1 [u1_0, u1_1] fp1 w0) :
  Calls Try.prog 57 #[.agg #[u0_0, u0_1], .agg #[u1_0, u1_1]] w0 fun e w' => ∃ (r0 : Bool), 
   e = .returned (.bool r0) ∧ K r0 ∧ Bel w0 w' := by
 unfold f_spec_l09Is at h
 refine calls_of (args := [.agg #[u0_0, u0_1], .agg #[u1_0, u1_1]]) Try.func57 rfl 73 Try.ntmps57 (Nat.le_of_ble_eq_true rfl) ?_
 have hC := Ctx.start (X := Nox) w0 [Ty.item TAlg a0 [u0_0, u0_1] fp0, Ty.item TDer a1 [u1_0, u1_1] fp1] (by simp only [List.mem_cons, List.not_mem_nil, or_false, forall_eq_or_imp, forall_eq]; exact ⟨q0, q1⟩)
 have hp3 := (hC.getP 0 rfl)
 replace hC := hC.derive 0 rfl (Ty.item ((EI .i64).ty.sl) a0.degrees [u0_0] fp0) (fun _ => (alg_parts hp3).1) (fun _ hb_ => hb_)
 replace hC := hC.derive 1 rfl (Ty.item TForm.sl a0.images [u0_1] fp0) (fun _ => (alg_parts hp3).2) (fun _ hb_ => hb_)
 have hp6 := (hC.getP 3 rfl)
 obtain rfl := (der_parts hp6).1
 replace hC := hC.derive 3 rfl (Ty.item TForm.sl a1.images [u1_1] fp1) (fun _ => (der_parts hp6).2) (fun _ hb_ => hb_)
 refine sr ?_
 refine s_box (v := .agg #[u0_0, u0_1]) hC [u0_0, u0_1] rfl rfl fun b8 w10 hB_ hC => ?_
 refine s_box (v := .agg #[.int .i64 a1.drop, u1_1]) hC [.int .i64 a1.drop, u1_1] rfl rfl fun b11 w13 hB_ hC => ?_
 refine s_as (v := .bool false) rfl ?_
 refine dn ?_
 refine wp_seq ?_
 refine sr ?_
 refine s_loadA hC 1 [u0_0, u0_1] rfl ag31 rfl rfl rfl ?_
 refine s_call [.agg #[u0_0, u0_1]] _ Try.func47 rfl rfl rfl (c_spec_l02Is a0 h _ (alg_mk (hC.getP 2 rfl) (hC.getP 1 rfl))) (fun ret14 w16 hR15 => ?_)
 obtain ⟨r17, rfl, h, hB18⟩ := hR15
 refine ⟨_, rfl, ?_⟩
 replace hC := hC.grow hB18
 refine s_not rfl ?_
 refine s_mv (v := .bool (!r17)) rfl ?_
 refine bsplit (!r17) (fun hb19 => ?_) (fun hb19 => ?_)
 ·replace h := ift h (ne_t (not_t hb19))
  refine guardOff (b := true) 3 11 rfl (tr rfl (congrArg _ hb19)) (by decide) ?_
  refine guardOff (b := true) 3 11 rfl (tr rfl (congrArg _ hb19)) (by decide) ?_
  refine guardOff (b := true) 3 11 rfl (tr rfl (congrArg _ hb19)) (by decide) ?_
  refine guardOff (b := true) 3 11 rfl (tr rfl (congrArg _ hb19)) (by decide) ?_
  refine s_pick (v := .bool true) (b := true) (tr rfl (congrArg _ hb19)) rfl ?_
  refine s_mv (v := .bool true) rfl ?_
  refine guardOff (b := true) 9 17 rfl (tr rfl (congrArg _ rfl)) (by decide) ?_
  refine guardOff (b := true) 9 17 rfl (tr rfl (congrArg _ rfl)) (by decide) ?_
  refine guardOff (b := true) 9 17 rfl (tr rfl (congrArg _ rfl)) (by decide) ?_
  refine guardOff (b := true) 9 17 rfl (tr rfl (congrArg _ rfl)) (by decide) ?_
  refine guardOff (b := true) 9 17 rfl (tr rfl (congrArg _ rfl)) (by decide) ?_
  refine guardOff (b := true) 9 17 rfl (tr rfl (congrArg _ rfl)) (by decide) ?_
  refine guardOff (b := true) 9 17 rfl (tr rfl (congrArg _ rfl)) (by decide) ?_
  refine s_pick (v := .bool true) (b := true) rfl rfl ?_
  refine dn ?_
  refine cw_true rfl rfl ?_
  refine sr ?_
  refine s_as (v := .bool false) rfl ?_
  refine dn ?_
  refine wp_ret (then_ret ?_)
  refine ret1 (fn := Try.f57) rfl ?_ ⟨false, rfl, h, hC.below⟩ (.inl rfl)
  exact res_tmp rfl
 ·replace h := iff_ h (not_not_intro ((not_f hb19)))
  refine guardOn 3 11 rfl rfl hb19 ?_
  refine s_faddrB 0 Try.underlying57 rfl sc2.size rfl rfl ?_
  refine guardOn 3 11 rfl rfl hb19 ?_
  refine s_loadS hC 0 (.int .i64 a1.drop) rfl sc2 rfl rfl ?_
  refine guardOn 3 11 rfl rfl hb19 ?_
  refine s_call [.int .i64 a1.drop, .int .i64 0, .int .i64 12] _ Try.func86 rfl rfl rfl (c_spec_l01In a1.drop 0 12 h _) (fun ret20 w22 hR21 => ?_)
  obtain ⟨r23, rfl, h, hB24⟩ := hR21
  refine ⟨_, rfl, ?_⟩
  replace hC := hC.grow hB24
  refine guardOn 3 11 rfl rfl hb19 ?_
  refine s_not rfl ?_
  refine s_pick (v := .bool (!r23)) (b := false) (tr rfl (congrArg _ hb19)) rfl ?_
  refine s_mv (v := .bool (!r23)) rfl ?_
  refine bsplit (!r23) (fun hb25 => ?_) (fun hb25 => ?_)
  ·replace h := ift h (ne_t (not_t hb25))
   refine guardOff (b := true) 9 17 rfl (tr rfl (congrArg _ hb25)) (by decide) ?_
   refine guardOff (b := true) 9 17 rfl (tr rfl (congrArg _ hb25)) (by decide) ?_
   refine guardOff (b := true) 9 17 rfl (tr rfl (congrArg _ hb25)) (by decide) ?_
   refine guardOff (b := true) 9 17 rfl (tr rfl (congrArg _ hb25)) (by decide) ?_
   refine guardOff (b := true) 9 17 rfl (tr rfl (congrArg _ hb25)) (by decide) ?_
   refine guardOff (b := true) 9 17 rfl (tr rfl (congrArg _ hb25)) (by decide) ?_
   refine guardOff (b := true) 9 17 rfl (tr rfl (congrArg _ hb25)) (by decide) ?_
   refine s_pick (v := .bool true) (b := true) (tr rfl (congrArg _ hb25)) rfl ?_
   refine dn ?_
   refine cw_true rfl rfl ?_
   refine sr ?_
   refine s_as (v := .bool false) rfl ?_
   refine dn ?_
   refine wp_ret (then_ret ?_)
   refine ret1 (fn := Try.f57) rfl ?_ ⟨false, rfl, h, hC.below⟩ (.inl rfl)
   exact res_tmp rfl
  ·replace h := iff_ h (not_not_intro ((not_f hb25)))
   refine guardOn 9 17 rfl rfl hb25 ?_
   refine s_faddrB 1 Try.underlying57 rfl sc29.size rfl rfl ?_
   refine guardOn 9 17 rfl rfl hb25 ?_
   refine s_loadS hC 0 (u1_1) rfl sc29 rfl rfl ?_
   refine guardOn 9 17 rfl rfl hb25 ?_
   obtain ⟨Ad26, c27, hv28⟩ := sl_len (hC.getP 0 rfl)
   refine s_len Try.underlying29 (tr rfl hv28) ?_
   refine guardOn 9 17 rfl rfl hb25 ?_
   refine s_faddrB 0 Try.underlying31 rfl sc22.size rfl rfl ?_
   refine guardOn 9 17 rfl rfl hb25 ?_
   refine s_loadS hC 1 (u0_0) rfl sc22 rfl rfl ?_
   refine guardOn 9 17 rfl rfl hb25 ?_
   obtain ⟨Ad29, c30, hv31⟩ := sl_len (hC.getP 2 rfl)
   refine s_len Try.underlying22 (tr rfl hv31) ?_
   refine guardOn 9 17 rfl rfl hb25 ?_
   refine s_neq rfl rfl ?_
   refine s_pick (v := .bool (decide ((a1.images.length : Int) ≠ (a0.degrees.length : Int)))) (b := false) (tr rfl (congrArg _ hb25)) rfl ?_
   refine dn ?_
   refine cw_cond rfl (fun hb32 => ?_) (fun hb32 => ?_)
   ·replace h := ift h (ct hb32)
    refine sr ?_
    refine s_as (v := .bool false) rfl ?_
    refine dn ?_
    refine wp_ret (then_ret ?_)
    refine ret1 (fn := Try.f57) rfl ?_ ⟨false, rfl, h, hC.below⟩ (.inl rfl)
    exact res_tmp rfl
   ·replace h := iff_ h (cf hb32)
    refine wp_skip ?_
    refine then_norm ?_
    refine wp_seq ?_
    refine sr ?_
    refine s_as (v := .int .i64 0) rfl ?_
    refine dn ?_
    refine wp_block ?_
    refine loopW (S := Int) _ (fun s139 e_ w_ => Slots e_ [(2, .pointer (some ⟨b8, 0, none⟩)), (3, .pointer (some ⟨b11, 0, none⟩)), (4, .bool false), (5, .int .i64 s139)] ∧ Ctx Nox w0 w_ [blk b11 57 [.int .i64 a1.drop, u1_1], blk b8 31 [u0_0, u0_1]] [Ty.item TForm.sl a1.images [u1_1] fp1, Ty.item TForm.sl a0.images [u0_1] fp0, Ty.item ((EI .i64).ty.sl) a0.degrees [u0_0] fp0, Ty.item TAlg a0 [u0_0, u0_1] fp0, Ty.item TDer a1 [.int .i64 a1.drop, u1_1] fp1]) ?_ (s0 := 0) ?_ h
    ·clear hC h
     rintro s139 e_ w143 next140 K141 ⟨hS_, hC⟩ h hK142
     refine wp_seq ?_
     refine sr ?_
     refine s_mv (v := .int .i64 s139) (sx hS_ 3 rfl) ?_
     refine s_faddrB 1 Try.underlying57 rfl sc29.size (sx hS_ 1 rfl) rfl ?_
     refine s_loadS hC 0 (u1_1) rfl sc29 rfl rfl ?_
     obtain ⟨Ad144, c145, hv146⟩ := sl_len (hC.getP 0 rfl)
     refine s_len Try.underlying29 (tr rfl hv146) ?_
     refine s_lss rfl rfl ?_
     refine dn ?_
     refine cw_cond rfl (fun hb147 => ?_) (fun hb147 => ?_)
     ·replace h := ift h (ct hb147)
      refine wp_skip ?_
      refine then_norm ?_
      refine wp_seq ?_
      refine wp_block ?_
      refine wp_seq ?_
      refine cw_draw 12 mixed [0, 1, 0, 4, 0, 28, 60, 127, 255, 511, 511, 1023, 4095] [1, 3, 5, 6] [0, 2, 4, 8, 9, 10, 11] (by kernel_rfl) (by kernel_rfl) (by kernel_rfl) (fun hM149 hM150 w148 hB_ => ?_)
      replace hC := hC.grow hB_
      refine ae_lookF belPre 0 (.pointer (some ⟨b8, 0, none⟩)) rfl rfl (by kernel_rfl) (hM150 0 rfl) (fun w_ => .inl ⟨rfl, by exact r_faddrB 0 Try.underlying31 rfl sc22.size (sx hS_ 0 rfl) rfl⟩) (listed' := (dbits 13 1)) (by kernel_rfl) ?_
      refine ae_look belPre 1 (u0_0) rfl rfl (by kernel_rfl) (hM149 1 rfl) (fun w_ hB_ => .inl ⟨rfl, by exact r_loadS (hC.grow hB_) 1 (u0_0) rfl sc22 rfl rfl⟩) (listed' := (dbits 13 3)) (by kernel_rfl) ?_
      refine ae_lookF belPre 2 (.pointer (some ⟨b11, 1, none⟩)) rfl rfl (by kernel_rfl) (hM150 2 rfl) (fun w_ => .inl ⟨rfl, by exact r_faddrB 1 Try.underlying57 rfl sc29.size (sx hS_ 1 rfl) rfl⟩) (listed' := (dbits 13 7)) (by kernel_rfl) ?_
      refine ae_look belPre 3 (u1_1) rfl rfl (by kernel_rfl) (hM149 3 rfl) (fun w_ hB_ => .inl ⟨rfl, by exact r_loadS (hC.grow hB_) 0 (u1_1) rfl sc29 rfl rfl⟩) (listed' := (dbits 13 15)) (by kernel_rfl) ?_
      refine ae_lookF belPre 4 (.int .i64 s139) rfl rfl (by kernel_rfl) (hM150 4 rfl) (fun w_ => .inl ⟨rfl, by exact r_mv (v := .int .i64 s139) (sx hS_ 3 rfl)⟩) (listed' := (dbits 13 31)) (by kernel_rfl) ?_
      obtain ⟨⟨h0_151, h1_152⟩, h⟩ := h
      obtain ⟨Ad153, c154, hv155⟩ := sl_form (hC.getP 0 rfl) s139.toNat (show s139.toNat < a1.images.length by omega)
      refine ae_look belPre 5 (.pointer (some (Ad153.add (s139.toNat * 1)))) rfl rfl (by kernel_rfl) (hM149 5 rfl) (fun w_ hB_ => .inl ⟨rfl, by exact r_iaddrS (len := a1.images.length) Try.underlying29 ag46.size (by exact tr rfl hv155) rfl h0_151 h1_152⟩) (listed' := (dbits 13 63)) (by kernel_rfl) ?_
      obtain ⟨cs_, hl157, hc158, hr159⟩ := sl_cells (hC.getP 0 rfl) hv155 s139.toNat (show s139.toNat < a1.images.length by omega)
      obtain ⟨u156, rfl⟩ := List.length_eq_one_iff.1 hl157
      clear hl157
      rw [getD_eq _ _ (show s139.toNat < a1.images.length by omega)] at hr159
      have hp160 := hr159
      replace hC := hC.derive 0 rfl (Ty.item ETerm.ty.sl ((a1.images.getD s139.toNat default).terms) [u156] fp1) (fun _ => (form_parts hp160)) (fun _ hb_ => hb_)
      refine ae_look belPre 6 (.agg #[u156]) rfl rfl (by kernel_rfl) (hM149 6 rfl) (fun w_ hB_ => .inl ⟨rfl, by exact r_loadCA [u156] (cellsAt_bel hB_ hc158) ag46 rfl rfl⟩) (listed' := (dbits 13 127)) (by kernel_rfl) ?_
      refine ae_one 7 rfl (by kernel_rfl) ?_
      refine s_call [u0_0, .agg #[u156]] _ Try.func81 rfl rfl rfl (c_spec_l01Degree a0.degrees (a1.images.getD s139.toNat default) h _ (hC.getP 3 rfl) (form_mk (hC.getP 0 rfl))) (fun ret162 w164 hR163 => ?_)
      obtain ⟨r165, r166, rfl, h, hB167⟩ := hR163
      refine ⟨_, rfl, ?_⟩
      replace hC := hC.grow hB167
      refine done ?_
      refine ak_intro (by assumption) (listed' := (dbits 13 255)) (by kernel_rfl) ?_
      refine ae_lookF belPre 8 (.tuple #[.int .i64 r165, .bool r166]) rfl rfl (by kernel_rfl) (hM150 8 rfl) (fun w_ => .inl ⟨rfl, by exact r_mv (v := .tuple #[.int .i64 r165, .bool r166]) rfl⟩) (listed' := (dbits 13 511)) (by kernel_rfl) ?_
      refine ae_lookF belPre 9 (.int .i64 r165) rfl rfl (by kernel_rfl) (hM150 9 rfl) (fun w_ => .inl ⟨rfl, by exact r_ext (v := .int .i64 r165) rfl rfl⟩) (listed' := (dbits 13 1023)) (by kernel_rfl) ?_
      refine ae_lookF belPre 10 (.bool r166) rfl rfl (by kernel_rfl) (hM150 10 rfl) (fun w_ => .inl ⟨rfl, by exact r_ext (v := .bool r166) rfl rfl⟩) (listed' := (dbits 13 2047)) (by kernel_rfl) ?_
      refine ae_lookF belPre 11 (.int .i64 r165) rfl rfl (by kernel_rfl) (hM150 11 rfl) (fun w_ => .inl ⟨rfl, by exact r_as (v := .int .i64 r165) rfl⟩) (listed' := (dbits 13 4095)) (by kernel_rfl) ?_
      refine ae_tail 12 (by decide) (by decide) (by kernel_rfl) (by kernel_rfl) rfl ?_
      refine s_as (v := .bool r166) rfl ?_
      refine done ?_
      refine qn_norm ?_
      refine then_norm ?_
      refine wp_seq ?_
      refine cw_draw 26 mixed [0, 1, 0, 4, 0, 28, 60, 127, 255, 511, 1023, 2047, 4095, 8191, 16383, 32767, 65535, 131071, 131071, 393215, 131071, 1966079, 4063231, 131071, 8519679, 33423359, 67108863, 134217727, 268435455] [1, 3, 5, 6, 19, 21, 22, 24] [0, 2, 4, 8, 9, 10, 11, 12, 13, 14, 15, 16, 17, 18, 19, 20, 21, 22, 23, 24, 25] (by kernel_rfl) (by kernel_rfl) (by kernel_rfl) (fun hM169 hM170 w168 hB_ => ?_)
      replace hC := hC.grow hB_
      refine ae_lookF belPre 0 (.pointer (some ⟨b8, 0, none⟩)) rfl rfl (by kernel_rfl) (hM170 0 rfl) (fun w_ => .inl ⟨rfl, by exact r_faddrB 0 Try.underlying31 rfl sc22.size (sx hS_ 0 rfl) rfl⟩) (listed' := (dbits 29 1)) (by kernel_rfl) ?_
      refine ae_look belPre 1 (u0_0) rfl rfl (by kernel_rfl) (hM169 1 rfl) (fun w_ hB_ => .inl ⟨rfl, by exact r_loadS (hC.grow hB_) 1 (u0_0) rfl sc22 rfl rfl⟩) (listed' := (dbits 29 3)) (by kernel_rfl) ?_
      refine ae_lookF belPre 2 (.pointer (some ⟨b11, 1, none⟩)) rfl rfl (by kernel_rfl) (hM170 2 rfl) (fun w_ => .inl ⟨rfl, by exact r_faddrB 1 Try.underlying57 rfl sc29.size (sx hS_ 1 rfl) rfl⟩) (listed' := (dbits 29 7)) (by kernel_rfl) ?_
      refine ae_look belPre 3 (u1_1) rfl rfl (by kernel_rfl) (hM169 3 rfl) (fun w_ hB_ => .inl ⟨rfl, by exact r_loadS (hC.grow hB_) 0 (u1_1) rfl sc29 rfl rfl⟩) (listed' := (dbits 29 15)) (by kernel_rfl) ?_
      refine ae_lookF belPre 4 (.int .i64 s139) rfl rfl (by kernel_rfl) (hM170 4 rfl) (fun w_ => .inl ⟨rfl, by exact r_mv (v := .int .i64 s139) (sx hS_ 3 rfl)⟩) (listed' := (dbits 29 31)) (by kernel_rfl) ?_
      obtain ⟨⟨h0_171, h1_172⟩, h⟩ := h
      obtain ⟨Ad173, c174, hv175⟩ := sl_form (hC.getP 1 rfl) s139.toNat (show s139.toNat < a1.images.length by omega)
      refine ae_look belPre 5 (.pointer (some (Ad173.add (s139.toNat * 1)))) rfl rfl (by kernel_rfl) (hM169 5 rfl) (fun w_ hB_ => .inl ⟨rfl, by exact r_iaddrS (len := a1.images.length) Try.underlying29 ag46.size (by exact tr rfl hv175) rfl h0_171 h1_172⟩) (listed' := (dbits 29 63)) (by kernel_rfl) ?_
      obtain ⟨cs_, hl177, hc178, hr179⟩ := sl_cells (hC.getP 1 rfl) hv175 s139.toNat (show s139.toNat < a1.images.length by omega)
      obtain ⟨u176, rfl⟩ := List.length_eq_one_iff.1 hl177
      clear hl177
      rw [getD_eq _ _ (show s139.toNat < a1.images.length by omega)] at hr179
      have hp180 := hr179
      replace hC := hC.derive 1 rfl (Ty.item ETerm.ty.sl ((a1.images.getD s139.toNat default).terms) [u176] fp1) (fun _ => (form_parts hp180)) (fun _ hb_ => hb_)
      refine ae_look belPre 6 (.agg #[u176]) rfl rfl (by kernel_rfl) (hM169 6 rfl) (fun w_ hB_ => .inl ⟨rfl, by exact r_loadCA [u176] (cellsAt_bel hB_ hc178) ag46 rfl rfl⟩) (listed' := (dbits 29 127)) (by kernel_rfl) ?_
      refine ae_one 7 rfl (by kernel_rfl) ?_
      refine s_call [u0_0, .agg #[u176]] _ Try.func54 rfl rfl rfl (c_spec_l01Is a0.degrees (a1.images.getD s139.toNat default) h _ (hC.getP 4 rfl) (form_mk (hC.getP 0 rfl))) (fun ret182 w184 hR183 => ?_)
      obtain ⟨r185, rfl, h, hB186⟩ := hR183
      refine ⟨_, rfl, ?_⟩
      replace hC := hC.grow hB186
      refine done ?_
      refine ak_intro (by assumption) (listed' := (dbits 29 255)) (by kernel_rfl) ?_
      refine ae_lookF belPre 8 (.bool (!r185)) rfl rfl (by kernel_rfl) (hM170 8 rfl) (fun w_ => .inl ⟨rfl, by exact r_not rfl⟩) (listed' := (dbits 29 511)) (by kernel_rfl) ?_
      refine ae_lookF belPre 9 (.bool (!r185)) rfl rfl (by kernel_rfl) (hM170 9 rfl) (fun w_ => .inl ⟨rfl, by exact r_mv (v := .bool (!r185)) rfl⟩) (listed' := (dbits 29 1023)) (by kernel_rfl) ?_
      refine bsplit (!r185) (fun hb187 => ?_) (fun hb187 => ?_)
      ·replace h := ift h (ne_t (not_t hb187))
       refine ae_lookF belPre 10 undef rfl rfl (by kernel_rfl) (hM170 10 rfl) (fun w_ => .inr ⟨wanted_off (b := true) 9 53 rfl (tr rfl (congrArg _ hb187)) (by decide), rfl⟩) (listed' := (dbits 29 2047)) (by kernel_rfl) ?_
       refine ae_lookF belPre 11 undef rfl rfl (by kernel_rfl) (hM170 11 rfl) (fun w_ => .inr ⟨wanted_off (b := true) 9 53 rfl (tr rfl (congrArg _ hb187)) (by decide), rfl⟩) (listed' := (dbits 29 4095)) (by kernel_rfl) ?_
       refine ae_lookF belPre 12 (.bool true) rfl rfl (by kernel_rfl) (hM170 12 rfl) (fun w_ => .inl ⟨rfl, by exact r_pick (v := .bool true) (b := true) (by exact tr rfl (congrArg _ hb187)) rfl⟩) (listed' := (dbits 29 8191)) (by kernel_rfl) ?_
       refine ae_lookF belPre 13 (.bool true) rfl rfl (by kernel_rfl) (hM170 13 rfl) (fun w_ => .inl ⟨rfl, by exact r_mv (v := .bool true) rfl⟩) (listed' := (dbits 29 16383)) (by kernel_rfl) ?_
       refine ae_lookF belPre 14 undef rfl rfl (by kernel_rfl) (hM170 14 rfl) (fun w_ => .inr ⟨wanted_off (b := true) 13 57 rfl (tr rfl (congrArg _ rfl)) (by decide), rfl⟩) (listed' := (dbits 29 32767)) (by kernel_rfl) ?_
       refine ae_lookF belPre 15 undef rfl rfl (by kernel_rfl) (hM170 15 rfl) (fun w_ => .inr ⟨wanted_off (b := true) 13 57 rfl (tr rfl (congrArg _ rfl)) (by decide), rfl⟩) (listed' := (dbits 29 65535)) (by kernel_rfl) ?_
       refine ae_lookF belPre 16 undef rfl rfl (by kernel_rfl) (hM170 16 rfl) (fun w_ => .inr ⟨wanted_off (b := true) 13 57 rfl (tr rfl (congrArg _ rfl)) (by decide), rfl⟩) (listed' := (dbits 29 131071)) (by kernel_rfl) ?_
       refine ae_lookF belPre 17 undef rfl rfl (by kernel_rfl) (hM170 17 rfl) (fun w_ => .inr ⟨wanted_offU 16 60 rfl rfl, rfl⟩) (listed' := (dbits 29 262143)) (by kernel_rfl) ?_
       refine ae_lookF belPre 18 undef rfl rfl (by kernel_rfl) (hM170 18 rfl) (fun w_ => .inr ⟨wanted_offU 16 60 rfl rfl, rfl⟩) (listed' := (dbits 29 524287)) (by kernel_rfl) ?_
       refine ae_lookF belPre 19 undef rfl rfl (by kernel_rfl) (hM170 19 rfl) (fun w_ => .inr ⟨wanted_offU 16 60 rfl rfl, rfl⟩) (listed' := (dbits 29 1048575)) (by kernel_rfl) ?_
       refine ae_lookF belPre 20 undef rfl rfl (by kernel_rfl) (hM170 20 rfl) (fun w_ => .inr ⟨wanted_offU 16 60 rfl rfl, rfl⟩) (listed' := (dbits 29 2097151)) (by kernel_rfl) ?_
       refine ae_lookF belPre 21 undef rfl rfl (by kernel_rfl) (hM170 21 rfl) (fun w_ => .inr ⟨wanted_offU 16 60 rfl rfl, rfl⟩) (listed' := (dbits 29 4194303)) (by kernel_rfl) ?_
       refine ae_lookF belPre 22 undef rfl rfl (by kernel_rfl) (hM170 22 rfl) (fun w_ => .inr ⟨wanted_offU 16 60 rfl rfl, rfl⟩) (listed' := (dbits 29 8388607)) (by kernel_rfl) ?_
       refine ae_lookF belPre 23 undef rfl rfl (by kernel_rfl) (hM170 23 rfl) (fun w_ => .inr ⟨wanted_offU 16 60 rfl rfl, rfl⟩) (listed' := (dbits 29 16777215)) (by kernel_rfl) ?_
       refine ae_lookF belPre 24 undef rfl rfl (by kernel_rfl) (hM170 24 rfl) (fun w_ => .inr ⟨wanted_offU 16 60 rfl rfl, rfl⟩) (listed' := (dbits 29 33554431)) (by kernel_rfl) ?_
       refine ae_lookF belPre 25 undef rfl rfl (by kernel_rfl) (hM170 25 rfl) (fun w_ => .inr ⟨wanted_offU 16 60 rfl rfl, rfl⟩) (listed' := (dbits 29 67108863)) (by kernel_rfl) ?_
       refine ae_tail 26 (by decide) (by decide) (by kernel_rfl) (by kernel_rfl) rfl ?_
       refine guardOffU 16 60 rfl rfl ?_
       refine guardOff (b := true) 13 57 rfl (tr rfl (congrArg _ rfl)) (by decide) ?_
       refine s_pick (v := .bool true) (b := true) rfl rfl ?_
       refine done ?_
       refine qn_norm ?_
       refine then_norm ?_
       refine cw_true rfl rfl ?_
       refine sr ?_
       refine s_as (v := .bool false) rfl ?_
       refine dn ?_
       refine wp_ret (blk_ret (then_ret (then_ret (blk_ret (then_ret ?_)))))
       refine ret1 (fn := Try.f57) rfl ?_ ⟨false, rfl, h, hC.below⟩ (.inl rfl)
       exact res_tmp rfl
      ·replace h := iff_ h (not_not_intro ((not_f hb187)))
       refine ae_lookF belPre 10 (.bool r166) rfl rfl (by kernel_rfl) (hM170 10 rfl) (fun w_ => .inl ⟨wanted_on 9 53 rfl rfl hb187, by exact r_mv (v := .bool r166) rfl⟩) (listed' := (dbits 29 2047)) (by kernel_rfl) ?_
       refine ae_lookF belPre 11 (.bool (!r166)) rfl rfl (by kernel_rfl) (hM170 11 rfl) (fun w_ => .inl ⟨wanted_on 9 53 rfl rfl hb187, by exact r_not rfl⟩) (listed' := (dbits 29 4095)) (by kernel_rfl) ?_
       refine ae_lookF belPre 12 (.bool (!r166)) rfl rfl (by kernel_rfl) (hM170 12 rfl) (fun w_ => .inl ⟨rfl, by exact r_pick (v := .bool (!r166)) (b := false) (by exact tr rfl (congrArg _ hb187)) rfl⟩) (listed' := (dbits 29 8191)) (by kernel_rfl) ?_
       refine ae_lookF belPre 13 (.bool (!r166)) rfl rfl (by kernel_rfl) (hM170 13 rfl) (fun w_ => .inl ⟨rfl, by exact r_mv (v := .bool (!r166)) rfl⟩) (listed' := (dbits 29 16383)) (by kernel_rfl) ?_
       refine bsplit (!r166) (fun hb188 => ?_) (fun hb188 => ?_)
       ·replace h := ift h (ne_t (not_t hb188))
        refine ae_lookF belPre 14 undef rfl rfl (by kernel_rfl) (hM170 14 rfl) (fun w_ => .inr ⟨wanted_off (b := true) 13 57 rfl (tr rfl (congrArg _ hb188)) (by decide), rfl⟩) (listed' := (dbits 29 32767)) (by kernel_rfl) ?_
        refine ae_lookF belPre 15 undef rfl rfl (by kernel_rfl) (hM170 15 rfl) (fun w_ => .inr ⟨wanted_off (b := true) 13 57 rfl (tr rfl (congrArg _ hb188)) (by decide), rfl⟩) (listed' := (dbits 29 65535)) (by kernel_rfl) ?_
        refine ae_lookF belPre 16 undef rfl rfl (by kernel_rfl) (hM170 16 rfl) (fun w_ => .inr ⟨wanted_off (b := true) 13 57 rfl (tr rfl (congrArg _ hb188)) (by decide), rfl⟩) (listed' := (dbits 29 131071)) (by kernel_rfl) ?_
        refine ae_lookF belPre 17 undef rfl rfl (by kernel_rfl) (hM170 17 rfl) (fun w_ => .inr ⟨wanted_offU 16 60 rfl rfl, rfl⟩) (listed' := (dbits 29 262143)) (by kernel_rfl) ?_
        refine ae_lookF belPre 18 undef rfl rfl (by kernel_rfl) (hM170 18 rfl) (fun w_ => .inr ⟨wanted_offU 16 60 rfl rfl, rfl⟩) (listed' := (dbits 29 524287)) (by kernel_rfl) ?_
        refine ae_lookF belPre 19 undef rfl rfl (by kernel_rfl) (hM170 19 rfl) (fun w_ => .inr ⟨wanted_offU 16 60 rfl rfl, rfl⟩) (listed' := (dbits 29 1048575)) (by kernel_rfl) ?_
        refine ae_lookF belPre 20 undef rfl rfl (by kernel_rfl) (hM170 20 rfl) (fun w_ => .inr ⟨wanted_offU 16 60 rfl rfl, rfl⟩) (listed' := (dbits 29 2097151)) (by kernel_rfl) ?_
        refine ae_lookF belPre 21 undef rfl rfl (by kernel_rfl) (hM170 21 rfl) (fun w_ => .inr ⟨wanted_offU 16 60 rfl rfl, rfl⟩) (listed' := (dbits 29 4194303)) (by kernel_rfl) ?_
        refine ae_lookF belPre 22 undef rfl rfl (by kernel_rfl) (hM170 22 rfl) (fun w_ => .inr ⟨wanted_offU 16 60 rfl rfl, rfl⟩) (listed' := (dbits 29 8388607)) (by kernel_rfl) ?_
        refine ae_lookF belPre 23 undef rfl rfl (by kernel_rfl) (hM170 23 rfl) (fun w_ => .inr ⟨wanted_offU 16 60 rfl rfl, rfl⟩) (listed' := (dbits 29 16777215)) (by kernel_rfl) ?_
        refine ae_lookF belPre 24 undef rfl rfl (by kernel_rfl) (hM170 24 rfl) (fun w_ => .inr ⟨wanted_offU 16 60 rfl rfl, rfl⟩) (listed' := (dbits 29 33554431)) (by kernel_rfl) ?_
        refine ae_lookF belPre 25 undef rfl rfl (by kernel_rfl) (hM170 25 rfl) (fun w_ => .inr ⟨wanted_offU 16 60 rfl rfl, rfl⟩) (listed' := (dbits 29 67108863)) (by kernel_rfl) ?_
        refine ae_tail 26 (by decide) (by decide) (by kernel_rfl) (by kernel_rfl) rfl ?_
        refine guardOffU 16 60 rfl rfl ?_
        refine guardOff (b := true) 13 57 rfl (tr rfl (congrArg _ hb188)) (by decide) ?_
        refine s_pick (v := .bool true) (b := true) (tr rfl (congrArg _ hb188)) rfl ?_
        refine done ?_
        refine qn_norm ?_
        refine then_norm ?_
        refine cw_true rfl rfl ?_
        refine sr ?_
        refine s_as (v := .bool false) rfl ?_
        refine dn ?_
        refine wp_ret (blk_ret (then_ret (then_ret (blk_ret (then_ret ?_)))))
        refine ret1 (fn := Try.f57) rfl ?_ ⟨false, rfl, h, hC.below⟩ (.inl rfl)
        exact res_tmp rfl
       ·replace h := iff_ h (not_not_intro ((not_f hb188)))
        refine ae_lookF belPre 14 (.int .i64 r165) rfl rfl (by kernel_rfl) (hM170 14 rfl) (fun w_ => .inl ⟨wanted_on 13 57 rfl rfl hb188, by exact r_mv (v := .int .i64 r165) rfl⟩) (listed' := (dbits 29 32767)) (by kernel_rfl) ?_
        refine ae_lookF belPre 15 (.bool (decide (r165 ≥ 0))) rfl rfl (by kernel_rfl) (hM170 15 rfl) (fun w_ => .inl ⟨wanted_on 13 57 rfl rfl hb188, by exact r_geq rfl rfl⟩) (listed' := (dbits 29 65535)) (by kernel_rfl) ?_
        refine ae_lookF belPre 16 (.bool (decide (r165 ≥ 0))) rfl rfl (by kernel_rfl) (hM170 16 rfl) (fun w_ => .inl ⟨wanted_on 13 57 rfl rfl hb188, by exact r_mv (v := .bool (decide (r165 ≥ 0))) rfl⟩) (listed' := (dbits 29 131071)) (by kernel_rfl) ?_
        refine bsplit (decide (r165 ≥ 0)) (fun hb189 => ?_) (fun hb189 => ?_)
        ·replace h := ift h (ct hb189)
         refine ae_lookF belPre 17 (.int .i64 r165) rfl rfl (by kernel_rfl) (hM170 17 rfl) (fun w_ => .inl ⟨wanted_on 16 60 rfl rfl hb189, by exact r_mv (v := .int .i64 r165) rfl⟩) (listed' := (dbits 29 262143)) (by kernel_rfl) ?_
         refine ae_lookF belPre 18 (.pointer (some ⟨b8, 0, none⟩)) rfl rfl (by kernel_rfl) (hM170 18 rfl) (fun w_ => .inl ⟨wanted_on 16 60 rfl rfl hb189, by exact r_faddrB 0 Try.underlying31 rfl sc22.size (sx hS_ 0 rfl) rfl⟩) (listed' := (dbits 29 524287)) (by kernel_rfl) ?_
         refine ae_look belPre 19 (u0_0) rfl rfl (by kernel_rfl) (hM169 19 rfl) (fun w_ hB_ => .inl ⟨wanted_on 16 60 rfl rfl hb189, by exact r_loadS (hC.grow hB_) 1 (u0_0) rfl sc22 rfl rfl⟩) (listed' := (dbits 29 1048575)) (by kernel_rfl) ?_
         refine ae_lookF belPre 20 (.int .i64 s139) rfl rfl (by kernel_rfl) (hM170 20 rfl) (fun w_ => .inl ⟨wanted_on 16 60 rfl rfl hb189, by exact r_mv (v := .int .i64 s139) (sx hS_ 3 rfl)⟩) (listed' := (dbits 29 2097151)) (by kernel_rfl) ?_
         obtain ⟨⟨h0_190, h1_191⟩, h⟩ := h
         obtain ⟨Ad192, c193, hv194⟩ := sl_form (hC.getP 4 rfl) s139.toNat (show s139.toNat < a0.degrees.length by omega)
         refine ae_look belPre 21 (.pointer (some (Ad192.add (s139.toNat * 1)))) rfl rfl (by kernel_rfl) (hM169 21 rfl) (fun w_ hB_ => .inl ⟨wanted_on 16 60 rfl rfl hb189, by exact r_iaddrS (len := a0.degrees.length) Try.underlying22 sc2.size (by exact tr rfl hv194) rfl h0_190 h1_191⟩) (listed' := (dbits 29 4194303)) (by kernel_rfl) ?_
         refine ae_look belPre 22 (.int .i64 (a0.degrees.getD s139.toNat default)) rfl rfl (by kernel_rfl) (hM169 22 rfl) (fun w_ hB_ => .inl ⟨wanted_on 16 60 rfl rfl hb189, by exact r_loadCS (.int .i64 (a0.degrees.getD s139.toNat default)) (sl_cellsE ((hC.grow hB_).getP 4 rfl) hv194 s139.toNat (show s139.toNat < a0.degrees.length by omega)) sc2 rfl⟩) (listed' := (dbits 29 8388607)) (by kernel_rfl) ?_
         refine ae_lookF belPre 23 (.pointer (some ⟨b11, 0, none⟩)) rfl rfl (by kernel_rfl) (hM170 23 rfl) (fun w_ => .inl ⟨wanted_on 16 60 rfl rfl hb189, by exact r_faddrB 0 Try.underlying57 rfl sc2.size (sx hS_ 1 rfl) rfl⟩) (listed' := (dbits 29 16777215)) (by kernel_rfl) ?_
         refine ae_look belPre 24 (.int .i64 a1.drop) rfl rfl (by kernel_rfl) (hM169 24 rfl) (fun w_ hB_ => .inl ⟨wanted_on 16 60 rfl rfl hb189, by exact r_loadS (hC.grow hB_) 0 (.int .i64 a1.drop) rfl sc2 rfl rfl⟩) (listed' := (dbits 29 33554431)) (by kernel_rfl) ?_
         refine ae_lookF belPre 25 (.int .i64 (IntKind.i64.wrap ((a0.degrees.getD s139.toNat default) - a1.drop))) rfl rfl (by kernel_rfl) (hM170 25 rfl) (fun w_ => .inl ⟨wanted_on 16 60 rfl rfl hb189, by exact r_sub rfl rfl⟩) (listed' := (dbits 29 67108863)) (by kernel_rfl) ?_
         refine ae_tail 26 (by decide) (by decide) (by kernel_rfl) (by kernel_rfl) rfl ?_
         refine guardOn 16 60 rfl rfl hb189 ?_
         refine s_neq rfl rfl ?_
         refine guardOn 13 57 rfl rfl hb188 ?_
         refine s_pick (v := .bool (decide (r165 ≠ IntKind.i64.wrap ((a0.degrees.getD s139.toNat default) - a1.drop)))) (b := true) (tr rfl (congrArg _ hb189)) rfl ?_
         refine s_pick (v := .bool (decide (r165 ≠ IntKind.i64.wrap ((a0.degrees.getD s139.toNat default) - a1.drop)))) (b := false) (tr rfl (congrArg _ hb188)) rfl ?_
         refine done ?_
         refine qn_norm ?_
         refine then_norm ?_
         refine cw_cond rfl (fun hb195 => ?_) (fun hb195 => ?_)
         ·replace h := ift h (ct hb195)
          refine sr ?_
          refine s_as (v := .bool false) rfl ?_
          refine dn ?_
          refine wp_ret (blk_ret (then_ret (then_ret (blk_ret (then_ret ?_)))))
          refine ret1 (fn := Try.f57) rfl ?_ ⟨false, rfl, h, hC.below⟩ (.inl rfl)
          exact res_tmp rfl
         ·replace h := iff_ h (cf hb195)
          refine wp_skip ?_
          refine blk_norm ?_
          refine then_norm ?_
          refine cw_region ?_
          refine s_mv (v := .int .i64 s139) (sx hS_ 3 rfl) ?_
          refine s_add rfl rfl ?_
          refine s_as (v := .int .i64 (IntKind.i64.wrap (s139 + 1))) rfl ?_
          refine done ?_
          replace hC := hC.sel [0, 1] [2, 3, 4, 5, 6] (M' := [blk b11 57 [.int .i64 a1.drop, u1_1], blk b8 31 [u0_0, u0_1]]) (Ps' := [Ty.item TForm.sl a1.images [u1_1] fp1, Ty.item TForm.sl a0.images [u0_1] fp0, Ty.item ((EI .i64).ty.sl) a0.degrees [u0_0] fp0, Ty.item TAlg a0 [u0_0, u0_1] fp0, Ty.item TDer a1 [.int .i64 a1.drop, u1_1] fp1]) (by decide) rfl rfl
          exact hK142 (IntKind.i64.wrap (s139 + 1)) _ _ ⟨(sk (sx hS_ 0 rfl) (sk (sx hS_ 1 rfl) (sk (sx hS_ 2 rfl) (sk rfl sn)))), hC⟩ h
        ·replace h := iff_ h (cf hb189)
         refine ae_lookF belPre 17 undef rfl rfl (by kernel_rfl) (hM170 17 rfl) (fun w_ => .inr ⟨wanted_off (b := false) 16 60 rfl (tr rfl (congrArg _ hb189)) (by decide), rfl⟩) (listed' := (dbits 29 262143)) (by kernel_rfl) ?_
         refine ae_lookF belPre 18 undef rfl rfl (by kernel_rfl) (hM170 18 rfl) (fun w_ => .inr ⟨wanted_off (b := false) 16 60 rfl (tr rfl (congrArg _ hb189)) (by decide), rfl⟩) (listed' := (dbits 29 524287)) (by kernel_rfl) ?_
         refine ae_lookF belPre 19 undef rfl rfl (by kernel_rfl) (hM170 19 rfl) (fun w_ => .inr ⟨wanted_off (b := false) 16 60 rfl (tr rfl (congrArg _ hb189)) (by decide), rfl⟩) (listed' := (dbits 29 1048575)) (by kernel_rfl) ?_
         refine ae_lookF belPre 20 undef rfl rfl (by kernel_rfl) (hM170 20 rfl) (fun w_ => .inr ⟨wanted_off (b := false) 16 60 rfl (tr rfl (congrArg _ hb189)) (by decide), rfl⟩) (listed' := (dbits 29 2097151)) (by kernel_rfl) ?_
         refine ae_lookF belPre 21 undef rfl rfl (by kernel_rfl) (hM170 21 rfl) (fun w_ => .inr ⟨wanted_off (b := false) 16 60 rfl (tr rfl (congrArg _ hb189)) (by decide), rfl⟩) (listed' := (dbits 29 4194303)) (by kernel_rfl) ?_
         refine ae_lookF belPre 22 undef rfl rfl (by kernel_rfl) (hM170 22 rfl) (fun w_ => .inr ⟨wanted_off (b := false) 16 60 rfl (tr rfl (congrArg _ hb189)) (by decide), rfl⟩) (listed' := (dbits 29 8388607)) (by kernel_rfl) ?_
         refine ae_lookF belPre 23 undef rfl rfl (by kernel_rfl) (hM170 23 rfl) (fun w_ => .inr ⟨wanted_off (b := false) 16 60 rfl (tr rfl (congrArg _ hb189)) (by decide), rfl⟩) (listed' := (dbits 29 16777215)) (by kernel_rfl) ?_
         refine ae_lookF belPre 24 undef rfl rfl (by kernel_rfl) (hM170 24 rfl) (fun w_ => .inr ⟨wanted_off (b := false) 16 60 rfl (tr rfl (congrArg _ hb189)) (by decide), rfl⟩) (listed' := (dbits 29 33554431)) (by kernel_rfl) ?_
         refine ae_lookF belPre 25 undef rfl rfl (by kernel_rfl) (hM170 25 rfl) (fun w_ => .inr ⟨wanted_off (b := false) 16 60 rfl (tr rfl (congrArg _ hb189)) (by decide), rfl⟩) (listed' := (dbits 29 67108863)) (by kernel_rfl) ?_
         refine ae_tail 26 (by decide) (by decide) (by kernel_rfl) (by kernel_rfl) rfl ?_
         refine guardOff (b := false) 16 60 rfl (tr rfl (congrArg _ hb189)) (by decide) ?_
         refine guardOn 13 57 rfl rfl hb188 ?_
         refine s_pick (v := .bool false) (b := false) (tr rfl (congrArg _ hb189)) rfl ?_
         refine s_pick (v := .bool false) (b := false) (tr rfl (congrArg _ hb188)) rfl ?_
         refine done ?_
         refine qn_norm ?_
         refine then_norm ?_
         refine cw_false rfl rfl ?_
         refine wp_skip ?_
         refine blk_norm ?_
         refine then_norm ?_
         refine cw_region ?_
         refine s_mv (v := .int .i64 s139) (sx hS_ 3 rfl) ?_
         refine s_add rfl rfl ?_
         refine s_as (v := .int .i64 (IntKind.i64.wrap (s139 + 1))) rfl ?_
         refine done ?_
         replace hC := hC.sel [0, 1] [2, 3, 4, 5, 6] (M' := [blk b11 57 [.int .i64 a1.drop, u1_1], blk b8 31 [u0_0, u0_1]]) (Ps' := [Ty.item TForm.sl a1.images [u1_1] fp1, Ty.item TForm.sl a0.images [u0_1] fp0, Ty.item ((EI .i64).ty.sl) a0.degrees [u0_0] fp0, Ty.item TAlg a0 [u0_0, u0_1] fp0, Ty.item TDer a1 [.int .i64 a1.drop, u1_1] fp1]) (by decide) rfl rfl
         exact hK142 (IntKind.i64.wrap (s139 + 1)) _ _ ⟨(sk (sx hS_ 0 rfl) (sk (sx hS_ 1 rfl) (sk (sx hS_ 2 rfl) (sk rfl sn)))), hC⟩ h
     ·replace h := iff_ h (cf hb147)
      refine wp_exit (then_exit (then_exit (exit_in ?_)))
      refine then_norm ?_
      refine sr ?_
      refine s_as (v := .bool true) rfl ?_
      refine dn ?_
      refine wp_ret ?_
      refine ret1 (fn := Try.f57) rfl ?_ ⟨true, rfl, h, hC.below⟩ (.inl rfl)
      exact res_tmp rfl
    ·skip
     exact ⟨(sk rfl (sk rfl (sk rfl (sk rfl sn)))), hC⟩
def f_spec_IsDerivation (a0 : Alg) (a1 : Der) (K : Bool → Prop) : Prop :=
 f_spec_l09Is a0 a1 (fun r17 => K r17)
theorem c_spec_IsDerivation (a0 : Alg) (a1 : Der) {u0_0 : Value} {u0_1 : Value} {u1_0 : Value} {u1_1 : Value} {fp0 : List Nat} {fp1 : List Nat} {K : Bool → Prop} (h : f_spec_IsDerivation a0 a1 K) (w0 : World) (q0 : TAlg.rep a0 [u0_0, u0_1] fp0 w0) (q1 : TDer.rep a1 [u1_0, u1_1] fp1 w0) :
  Calls Try.prog 26 #[.agg #[u0_0, u0_1], .agg #[u1_0, u1_1]] w0 fun e w' => ∃ (r0 : Bool), 
   e = .returned (.bool r0) ∧ K r0 ∧ Bel w0 w' := by
 unfold f_spec_IsDerivation at h
 refine calls_of (args := [.agg #[u0_0, u0_1], .agg #[u1_0, u1_1]]) Try.func26 rfl 8 Try.ntmps26 (Nat.le_of_ble_eq_true rfl) ?_
 have hC := Ctx.start (X := Nox) w0 [Ty.item TAlg a0 [u0_0, u0_1] fp0, Ty.item TDer a1 [u1_0, u1_1] fp1] (by simp only [List.mem_cons, List.not_mem_nil, or_false, forall_eq_or_imp, forall_eq]; exact ⟨q0, q1⟩)
 have hp3 := (hC.getP 0 rfl)
 replace hC := hC.derive 0 rfl (Ty.item ((EI .i64).ty.sl) a0.degrees [u0_0] fp0) (fun _ => (alg_parts hp3).1) (fun _ hb_ => hb_)
 replace hC := hC.derive 1 rfl (Ty.item TForm.sl a0.images [u0_1] fp0) (fun _ => (alg_parts hp3).2) (fun _ hb_ => hb_)
 have hp6 := (hC.getP 3 rfl)
 obtain rfl := (der_parts hp6).1
 replace hC := hC.derive 3 rfl (Ty.item TForm.sl a1.images [u1_1] fp1) (fun _ => (der_parts hp6).2) (fun _ hb_ => hb_)
 refine sr ?_
 refine s_box (v := .agg #[u0_0, u0_1]) hC [u0_0, u0_1] rfl rfl fun b8 w10 hB_ hC => ?_
 refine s_box (v := .agg #[.int .i64 a1.drop, u1_1]) hC [.int .i64 a1.drop, u1_1] rfl rfl fun b11 w13 hB_ hC => ?_
 refine s_as (v := .bool false) rfl ?_
 refine dn ?_
 refine sr ?_
 refine s_loadA hC 1 [u0_0, u0_1] rfl ag31 rfl rfl rfl ?_
 refine s_loadA hC 0 [.int .i64 a1.drop, u1_1] rfl ag57 rfl rfl rfl ?_
 refine s_call [.agg #[u0_0, u0_1], .agg #[.int .i64 a1.drop, u1_1]] _ Try.func57 rfl rfl rfl (c_spec_l09Is a0 a1 h _ (alg_mk (hC.getP 2 rfl) (hC.getP 1 rfl)) (der_mk (hC.getP 0 rfl))) (fun ret14 w16 hR15 => ?_)
 obtain ⟨r17, rfl, h, hB18⟩ := hR15
 refine ⟨_, rfl, ?_⟩
 replace hC := hC.grow hB18
 refine s_as (v := .bool r17) rfl ?_
 refine dn ?_
 refine wp_ret ?_
 refine ret1 (fn := Try.f26) rfl ?_ ⟨r17, rfl, h, hC.below⟩ (.inl rfl)
 exact res_tmp rfl
def f_laws_toDerivation (a0 : Der) (K : Der → Prop) : Prop :=
 f_laws_toFormS a0.images (fun r17 => K (⟨a0.drop, r17⟩ : Der))
theorem c_laws_toDerivation (a0 : Der) {u0_0 : Value} {u0_1 : Value} {fp0 : List Nat} {K : Der → Prop} (h : f_laws_toDerivation a0 K) (w0 : World) (q0 : TDer.rep a0 [u0_0, u0_1] fp0 w0) :
  Calls Try.prog 27 #[.agg #[u0_0, u0_1]] w0 fun e w' => ∃ (r0 : Der) (z0_0 : Value) (z0_1 : Value) (fz0 : List Nat), 
   e = .returned (.agg #[z0_0, z0_1]) ∧ K r0 ∧ TDer.rep r0 [z0_0, z0_1] fz0 w' ∧ (∀ b, b ∈ fz0 → w0.heap.size ≤ b) ∧ Bel w0 w' := by
 unfold f_laws_toDerivation at h
 refine calls_of (args := [.agg #[u0_0, u0_1]]) Try.func27 rfl 12 Try.ntmps27 (Nat.le_of_ble_eq_true rfl) ?_
 have hC := Ctx.start (X := Nox) w0 [Ty.item TDer a0 [u0_0, u0_1] fp0] (by simp only [List.mem_cons, List.not_mem_nil, or_false, forall_eq_or_imp, forall_eq]; exact q0)
 have hp2 := (hC.getP 0 rfl)
 obtain rfl := (der_parts hp2).1
 replace hC := hC.derive 0 rfl (Ty.item TForm.sl a0.images [u0_1] fp0) (fun _ => (der_parts hp2).2) (fun _ hb_ => hb_)
 refine sr ?_
 refine s_box (v := .agg #[.int .i64 a0.drop, u0_1]) hC [.int .i64 a0.drop, u0_1] rfl rfl fun b4 w6 hB_ hC => ?_
 refine s_alloc hC [.int .i64 0, .slice none 0 0] z57 rfl fun b7 w9 hB_ hC => ?_
 refine dn ?_
 refine sr ?_
 refine s_alloc hC [.int .i64 0, .slice none 0 0] z57 rfl fun b10 w12 hB_ hC => ?_
 refine dn ?_
 refine sr ?_
 refine s_faddrB 0 Try.underlying53 rfl sc2.size rfl rfl ?_
 refine s_loadS hC 2 (.int .i64 a0.drop) rfl sc2 rfl rfl ?_
 refine s_faddrB 0 Try.underlying57 rfl sc2.size rfl rfl ?_
 refine s_store (v := .int .i64 a0.drop) hC 0 [.int .i64 a0.drop] [.int .i64 a0.drop, .slice none 0 0] rfl sc2.size rfl rfl rfl rfl rfl (Nat.le_of_ble_eq_true rfl) rfl fun w13 hC => ?_
 refine dn ?_
 refine sr ?_
 refine s_faddrB 1 Try.underlying53 rfl sc23.size rfl rfl ?_
 refine s_loadS hC 2 (u0_1) rfl sc23 rfl rfl ?_
 refine s_call [u0_1] _ Try.func49 rfl rfl rfl (c_laws_toFormS a0.images h _ (hC.getP 0 rfl)) (fun ret14 w16 hR15 => ?_)
 obtain ⟨r17, u18, f19, rfl, h, hr20, hf21, hB22⟩ := hR15
 refine ⟨_, rfl, ?_⟩
 replace hC := hC.push hB22 (Tr.item (Tr.sl 46 (TrForm 86)) r17 [u18] f19) hr20 hf21
 refine s_faddrB 1 Try.underlying57 rfl sc29.size rfl rfl ?_
 refine s_store (v := u18) hC 1 [u18] [.int .i64 a0.drop, u18] rfl sc29.size rfl rfl (rep_cellsV (Tr.trep _ (hC.getM 0 rfl).1)) rfl (all_c (rep_oneC (Tr.trep _ (hC.getM 0 rfl).1)) rfl) (Nat.le_of_ble_eq_true rfl) rfl fun w25 hC => ?_
 refine dn ?_
 refine sr ?_
 refine s_loadA hC 1 [.int .i64 a0.drop, u18] rfl ag57 rfl rfl rfl ?_
 refine s_store (v := .agg #[.int .i64 a0.drop, u18]) hC 2 [.int .i64 a0.drop, u18] [.int .i64 a0.drop, u18] rfl ag57.size rfl rfl rfl rfl (all_c rfl (all_c (rep_oneC (Tr.trep _ (hC.getM 0 rfl).1)) rfl)) (Nat.le_of_ble_eq_true rfl) rfl fun w26 hC => ?_
 refine dn ?_
 refine wp_ret ?_
 refine ret1 (fn := Try.f27) rfl ?_ ⟨(⟨a0.drop, r17⟩ : Der), .int .i64 a0.drop, u18, f19, rfl, h, (der_mk (Tr.trep _ (hC.getM 0 rfl).1)), (fun b hb => (tr_fresh hC 0 rfl) b hb), hC.below⟩ (.inl rfl)
 exact res_cellA hC 2 rfl ag57 rfl rfl
def f_impl_isDerivation (a0 : Alg) (a1 : Der) (K : Bool → Prop) : Prop :=
 f_impl_within a1.drop 0 12 (fun r18 => (if ¬ (r18 = true) then K false else (if (a1.images.length : Int) ≠ (a0.degrees.length : Int) then K false else forN (fun i67 (s68 : Unit) next70 => f_impl_isForm a0.degrees (a1.images.getD i67 default) (fun r94 => (if ¬ (r94 = true) then K false else ((0 ≤ (i67 : Int) ∧ (i67 : Int) < (a0.degrees.length : Int)) ∧ f_impl_isOfDegree a0.degrees (a1.images.getD i67 default) (IntKind.i64.wrap ((a0.degrees.getD i67 default) - a1.drop)) (fun r105 => (if ¬ (r105 = true) then K false else next70 ())))))) (fun (s68 : Unit) => K true) a1.images.length 0 ())))
theorem c_impl_isDerivation (a0 : Alg) (a1 : Der) {b0 : Nat} {u0_0 : Value} {u0_1 : Value} {u1_0 : Value} {u1_1 : Value} {fp0 : List Nat} {fp1 : List Nat} {K : Bool → Prop} (h : f_impl_isDerivation a0 a1 K) (w0 : World) (q0 : TAlg.rep a0 [u0_0, u0_1] fp0 w0) (qb0 : (blk b0 31 [u0_0, u0_1]).holds w0) (q1 : TDer.rep a1 [u1_0, u1_1] fp1 w0) :
  Calls Try.prog 58 #[.pointer (some ⟨b0, 0, none⟩), .agg #[u1_0, u1_1]] w0 fun e w' => ∃ (r0 : Bool), 
   e = .returned (.bool r0) ∧ K r0 ∧ Bel w0 w' := by
 unfold f_impl_isDerivation at h
 refine calls_of (args := [.pointer (some ⟨b0, 0, none⟩), .agg #[u1_0, u1_1]]) Try.func58 rfl 57 Try.ntmps58 (Nat.le_of_ble_eq_true rfl) ?_
 have hC := Ctx.start (X := Nox) w0 [Ty.item TAlg a0 [u0_0, u0_1] fp0, Ty.item TDer a1 [u1_0, u1_1] fp1, blk b0 31 [u0_0, u0_1]] (by simp only [List.mem_cons, List.not_mem_nil, or_false, forall_eq_or_imp, forall_eq]; exact ⟨q0, q1, qb0⟩)
 have hp4 := (hC.getP 0 rfl)
 replace hC := hC.derive 0 rfl (Ty.item ((EI .i64).ty.sl) a0.degrees [u0_0] fp0) (fun _ => (alg_parts hp4).1) (fun _ hb_ => hb_)
 replace hC := hC.derive 1 rfl (Ty.item TForm.sl a0.images [u0_1] fp0) (fun _ => (alg_parts hp4).2) (fun _ hb_ => hb_)
 have hp7 := (hC.getP 3 rfl)
 obtain rfl := (der_parts hp7).1
 replace hC := hC.derive 3 rfl (Ty.item TForm.sl a1.images [u1_1] fp1) (fun _ => (der_parts hp7).2) (fun _ hb_ => hb_)
 refine sr ?_
 refine s_box (v := .agg #[.int .i64 a1.drop, u1_1]) hC [.int .i64 a1.drop, u1_1] rfl rfl fun b9 w11 hB_ hC => ?_
 refine s_as (v := .bool false) rfl ?_
 refine dn ?_
 refine wp_seq ?_
 refine wp_seq ?_
 refine cw_draw 13 mixed [0, 1, 3, 7, 15, 31, 63, 127, 31, 287, 799, 1823, 3871, 8191, 16383] [1, 6, 7, 11, 12] [0, 3, 4, 5, 6, 7, 8, 9, 10, 11, 12] (by kernel_rfl) (by kernel_rfl) (by kernel_rfl) (fun hM13 hM14 w12 hB_ => ?_)
 replace hC := hC.grow hB_
 refine ae_lookF belPre 0 (.pointer (some ⟨b9, 0, none⟩)) rfl rfl (by kernel_rfl) (hM14 0 rfl) (fun w_ => .inl ⟨rfl, by exact r_faddrB 0 Try.underlying57 rfl sc2.size rfl rfl⟩) (listed' := (dbits 15 1)) (by kernel_rfl) ?_
 refine ae_look belPre 1 (.int .i64 a1.drop) rfl rfl (by kernel_rfl) (hM13 1 rfl) (fun w_ hB_ => .inl ⟨rfl, by exact r_loadS (hC.grow hB_) 0 (.int .i64 a1.drop) rfl sc2 rfl rfl⟩) (listed' := (dbits 15 3)) (by kernel_rfl) ?_
 refine ae_one 2 rfl (by kernel_rfl) ?_
 refine s_call [.int .i64 a1.drop, .int .i64 0, .int .i64 12] _ Try.func94 rfl rfl rfl (c_impl_within a1.drop 0 12 h _) (fun ret15 w17 hR16 => ?_)
 obtain ⟨r18, rfl, h, hB19⟩ := hR16
 refine ⟨_, rfl, ?_⟩
 replace hC := hC.grow hB19
 refine done ?_
 refine ak_intro (by assumption) (listed' := (dbits 15 7)) (by kernel_rfl) ?_
 refine ae_lookF belPre 3 (.bool (!r18)) rfl rfl (by kernel_rfl) (hM14 3 rfl) (fun w_ => .inl ⟨rfl, by exact r_not rfl⟩) (listed' := (dbits 15 15)) (by kernel_rfl) ?_
 refine ae_lookF belPre 4 (.bool (!r18)) rfl rfl (by kernel_rfl) (hM14 4 rfl) (fun w_ => .inl ⟨rfl, by exact r_mv (v := .bool (!r18)) rfl⟩) (listed' := (dbits 15 31)) (by kernel_rfl) ?_
 refine bsplit (!r18) (fun hb20 => ?_) (fun hb20 => ?_)
 ·replace h := ift h (ne_t (not_t hb20))
  refine ae_lookF belPre 5 undef rfl rfl (by kernel_rfl) (hM14 5 rfl) (fun w_ => .inr ⟨wanted_off (b := true) 4 11 rfl (tr rfl (congrArg _ hb20)) (by decide), rfl⟩) (listed' := (dbits 15 63)) (by kernel_rfl) ?_
  refine ae_lookF belPre 6 undef rfl rfl (by kernel_rfl) (hM14 6 rfl) (fun w_ => .inr ⟨wanted_off (b := true) 4 11 rfl (tr rfl (congrArg _ hb20)) (by decide), rfl⟩) (listed' := (dbits 15 127)) (by kernel_rfl) ?_
  refine ae_lookF belPre 7 undef rfl rfl (by kernel_rfl) (hM14 7 rfl) (fun w_ => .inr ⟨wanted_off (b := true) 4 11 rfl (tr rfl (congrArg _ hb20)) (by decide), rfl⟩) (listed' := (dbits 15 255)) (by kernel_rfl) ?_
  refine ae_lookF belPre 8 undef rfl rfl (by kernel_rfl) (hM14 8 rfl) (fun w_ => .inr ⟨wanted_off (b := true) 4 11 rfl (tr rfl (congrArg _ hb20)) (by decide), rfl⟩) (listed' := (dbits 15 511)) (by kernel_rfl) ?_
  refine ae_lookF belPre 9 undef rfl rfl (by kernel_rfl) (hM14 9 rfl) (fun w_ => .inr ⟨wanted_off (b := true) 4 11 rfl (tr rfl (congrArg _ hb20)) (by decide), rfl⟩) (listed' := (dbits 15 1023)) (by kernel_rfl) ?_
  refine ae_lookF belPre 10 undef rfl rfl (by kernel_rfl) (hM14 10 rfl) (fun w_ => .inr ⟨wanted_off (b := true) 4 11 rfl (tr rfl (congrArg _ hb20)) (by decide), rfl⟩) (listed' := (dbits 15 2047)) (by kernel_rfl) ?_
  refine ae_lookF belPre 11 undef rfl rfl (by kernel_rfl) (hM14 11 rfl) (fun w_ => .inr ⟨wanted_off (b := true) 4 11 rfl (tr rfl (congrArg _ hb20)) (by decide), rfl⟩) (listed' := (dbits 15 4095)) (by kernel_rfl) ?_
  refine ae_lookF belPre 12 undef rfl rfl (by kernel_rfl) (hM14 12 rfl) (fun w_ => .inr ⟨wanted_off (b := true) 4 11 rfl (tr rfl (congrArg _ hb20)) (by decide), rfl⟩) (listed' := (dbits 15 8191)) (by kernel_rfl) ?_
  refine ae_tail 13 (by decide) (by decide) (by kernel_rfl) (by kernel_rfl) rfl ?_
  refine guardOff (b := true) 4 11 rfl (tr rfl (congrArg _ hb20)) (by decide) ?_
  refine s_pick (v := .bool true) (b := true) (tr rfl (congrArg _ hb20)) rfl ?_
  refine done ?_
  refine qn_norm ?_
  refine then_norm ?_
  refine cw_true rfl rfl ?_
  refine sr ?_
  refine s_as (v := .bool false) rfl ?_
  refine dn ?_
  refine wp_ret (then_ret ?_)
  refine ret1 (fn := Try.f58) rfl ?_ ⟨false, rfl, h, hC.below⟩ (.inl rfl)
  exact res_tmp rfl
 ·replace h := iff_ h (not_not_intro ((not_f hb20)))
  refine ae_lookF belPre 5 (.pointer (some ⟨b9, 1, none⟩)) rfl rfl (by kernel_rfl) (hM14 5 rfl) (fun w_ => .inl ⟨wanted_on 4 11 rfl rfl hb20, by exact r_faddrB 1 Try.underlying57 rfl sc29.size rfl rfl⟩) (listed' := (dbits 15 63)) (by kernel_rfl) ?_
  refine ae_look belPre 6 (u1_1) rfl rfl (by kernel_rfl) (hM13 6 rfl) (fun w_ hB_ => .inl ⟨wanted_on 4 11 rfl rfl hb20, by exact r_loadS (hC.grow hB_) 0 (u1_1) rfl sc29 rfl rfl⟩) (listed' := (dbits 15 127)) (by kernel_rfl) ?_
  obtain ⟨Ad21, c22, hv23⟩ := sl_len (hC.getP 0 rfl)
  refine ae_look belPre 7 (.int .i64 (a1.images.length : Int)) rfl rfl (by kernel_rfl) (hM13 7 rfl) (fun w_ hB_ => .inl ⟨wanted_on 4 11 rfl rfl hb20, by exact r_len Try.underlying29 (by exact tr rfl hv23)⟩) (listed' := (dbits 15 255)) (by kernel_rfl) ?_
  refine ae_lookF belPre 8 (.pointer (some ⟨b0, 0, none⟩)) rfl rfl (by kernel_rfl) (hM14 8 rfl) (fun w_ => .inl ⟨wanted_on 4 11 rfl rfl hb20, by exact r_mv (v := .pointer (some ⟨b0, 0, none⟩)) rfl⟩) (listed' := (dbits 15 511)) (by kernel_rfl) ?_
  refine ae_lookF belPre 9 (.pointer (some ⟨b0, 0, none⟩)) rfl rfl (by kernel_rfl) (hM14 9 rfl) (fun w_ => .inl ⟨wanted_on 4 11 rfl rfl hb20, by exact r_nilchk rfl⟩) (listed' := (dbits 15 1023)) (by kernel_rfl) ?_
  refine ae_lookF belPre 10 (.pointer (some ⟨b0, 0, none⟩)) rfl rfl (by kernel_rfl) (hM14 10 rfl) (fun w_ => .inl ⟨wanted_on 4 11 rfl rfl hb20, by exact r_faddrB 0 Try.underlying31 rfl sc22.size rfl rfl⟩) (listed' := (dbits 15 2047)) (by kernel_rfl) ?_
  refine ae_look belPre 11 (u0_0) rfl rfl (by kernel_rfl) (hM13 11 rfl) (fun w_ hB_ => .inl ⟨wanted_on 4 11 rfl rfl hb20, by exact r_loadSh (u0_0) ((hC.grow hB_).getP 5 rfl) sc22 rfl rfl⟩) (listed' := (dbits 15 4095)) (by kernel_rfl) ?_
  obtain ⟨Ad24, c25, hv26⟩ := sl_len (hC.getP 2 rfl)
  refine ae_look belPre 12 (.int .i64 (a0.degrees.length : Int)) rfl rfl (by kernel_rfl) (hM13 12 rfl) (fun w_ hB_ => .inl ⟨wanted_on 4 11 rfl rfl hb20, by exact r_len Try.underlying22 (by exact tr rfl hv26)⟩) (listed' := (dbits 15 8191)) (by kernel_rfl) ?_
  refine ae_tail 13 (by decide) (by decide) (by kernel_rfl) (by kernel_rfl) rfl ?_
  refine guardOn 4 11 rfl rfl hb20 ?_
  refine s_neq rfl rfl ?_
  refine s_pick (v := .bool (decide ((a1.images.length : Int) ≠ (a0.degrees.length : Int)))) (b := false) (tr rfl (congrArg _ hb20)) rfl ?_
  refine done ?_
  refine qn_norm ?_
  refine then_norm ?_
  refine cw_cond rfl (fun hb27 => ?_) (fun hb27 => ?_)
  ·replace h := ift h (ct hb27)
   refine sr ?_
   refine s_as (v := .bool false) rfl ?_
   refine dn ?_
   refine wp_ret (then_ret ?_)
   refine ret1 (fn := Try.f58) rfl ?_ ⟨false, rfl, h, hC.below⟩ (.inl rfl)
   exact res_tmp rfl
  ·replace h := iff_ h (cf hb27)
   refine wp_skip ?_
   refine then_norm ?_
   refine wp_seq ?_
   refine sr ?_
   refine s_faddrB 1 Try.underlying57 rfl sc29.size rfl rfl ?_
   refine s_loadS hC 0 (u1_1) rfl sc29 rfl rfl ?_
   obtain ⟨Ad28, c29, hv30⟩ := sl_len (hC.getP 0 rfl)
   refine s_len Try.underlying29 (tr rfl hv30) ?_
   refine s_mv (v := .int .i64 0) rfl ?_
   refine dn ?_
   refine wp_block ?_
   have hN69 : a1.images.length ≤ 9223372036854775807 := sl_max (hC.getP 0 rfl)
   refine loopN (S := Unit) _ _ (fun i67 s68 e_ w_ => Slots e_ [(0, .pointer (some ⟨b0, 0, none⟩)), (3, .pointer (some ⟨b9, 0, none⟩)), (4, .bool false), (23, u1_1), (24, .int .i64 (a1.images.length : Int)), (25, .int .i64 (i67 : Int))] ∧ Ctx Nox w0 w_ [blk b9 57 [.int .i64 a1.drop, u1_1]] [Ty.item TForm.sl a1.images [u1_1] fp1, Ty.item TForm.sl a0.images [u0_1] fp0, Ty.item ((EI .i64).ty.sl) a0.degrees [u0_0] fp0, Ty.item TAlg a0 [u0_0, u0_1] fp0, Ty.item TDer a1 [.int .i64 a1.drop, u1_1] fp1, blk b0 31 [u0_0, u0_1]]) a1.images.length ?_ ?_ (s0 := ()) ?_ h
   ·clear hC h
    rintro i67 s68 e_ w74 next70 K71 hi73 ⟨hS_, hC⟩ h hK72
    refine sr ?_
    refine s_lss (sx hS_ 5 rfl) (sx hS_ 4 rfl) ?_
    refine dn ?_
    refine wp_seq ?_
    refine cw_true rfl (decide_eq_true (by omega)) ?_
    refine wp_skip ?_
    refine then_norm ?_
    refine wp_seq ?_
    refine wp_block ?_
    refine sr ?_
    refine s_mv (v := .int .i64 (i67 : Int)) (sx hS_ 5 rfl) ?_
    obtain ⟨Ad75, c76, hv77⟩ := sl_form (hC.getP 0 rfl) i67 hi73
    refine s_iaddrS (len := a1.images.length) Try.underlying29 ag46.size (tr (sx hS_ 3 rfl) hv77) (sx hS_ 5 rfl) (Int.natCast_nonneg _) (Int.ofNat_lt.2 hi73) ?_
    obtain ⟨cs_, hl79, hc80, hr81⟩ := sl_cells (hC.getP 0 rfl) hv77 i67 hi73
    obtain ⟨u78, rfl⟩ := List.length_eq_one_iff.1 hl79
    clear hl79
    rw [getD_eq _ _ hi73] at hr81
    have hp82 := hr81
    replace hC := hC.derive 0 rfl (Ty.item ETerm.ty.sl ((a1.images.getD i67 default).terms) [u78] fp1) (fun _ => (form_parts hp82)) (fun _ hb_ => hb_)
    refine s_loadCA [u78] hc80 ag46 rfl rfl ?_
    refine s_alloc hC [.slice none 0 0] z46 rfl fun b84 w86 hB_ hC => ?_
    refine s_as (v := .int .i64 (i67 : Int)) rfl ?_
    refine s_store (v := .agg #[u78]) hC 0 [u78] [u78] rfl ag46.size rfl rfl rfl rfl (all_c (rep_oneC (hC.getP 0 rfl)) rfl) (Nat.le_of_ble_eq_true rfl) rfl fun w87 hC => ?_
    refine dn ?_
    refine wp_seq ?_
    refine cw_draw 23 mixed [0, 1, 3, 7, 0, 31, 63, 127, 255, 511, 1023, 2047, 255, 255, 8447, 24831, 57599, 255, 254207, 516351, 255, 1048831, 4186367, 8388607, 16777215, 33554431] [3, 4, 11, 12, 16, 18, 19, 21] [0, 1, 2, 6, 7, 8, 9, 10, 11, 12, 13, 14, 15, 16, 17, 18, 19, 20, 21, 22] (by kernel_rfl) (by kernel_rfl) (by kernel_rfl) (fun hM89 hM90 w88 hB_ => ?_)
    replace hC := hC.grow hB_
    refine ae_lookF belPre 0 (.pointer (some ⟨b0, 0, none⟩)) rfl rfl (by kernel_rfl) (hM90 0 rfl) (fun w_ => .inl ⟨rfl, by exact r_mv (v := .pointer (some ⟨b0, 0, none⟩)) (sx hS_ 0 rfl)⟩) (listed' := (dbits 26 1)) (by kernel_rfl) ?_
    refine ae_lookF belPre 1 (.pointer (some ⟨b0, 0, none⟩)) rfl rfl (by kernel_rfl) (hM90 1 rfl) (fun w_ => .inl ⟨rfl, by exact r_nilchk rfl⟩) (listed' := (dbits 26 3)) (by kernel_rfl) ?_
    refine ae_lookF belPre 2 (.pointer (some ⟨b0, 0, none⟩)) rfl rfl (by kernel_rfl) (hM90 2 rfl) (fun w_ => .inl ⟨rfl, by exact r_faddrB 0 Try.underlying31 rfl sc22.size rfl rfl⟩) (listed' := (dbits 26 7)) (by kernel_rfl) ?_
    refine ae_look belPre 3 (u0_0) rfl rfl (by kernel_rfl) (hM89 3 rfl) (fun w_ hB_ => .inl ⟨rfl, by exact r_loadSh (u0_0) ((hC.grow hB_).getP 6 rfl) sc22 rfl rfl⟩) (listed' := (dbits 26 15)) (by kernel_rfl) ?_
    refine ae_look belPre 4 (.agg #[u78]) rfl rfl (by kernel_rfl) (hM89 4 rfl) (fun w_ hB_ => .inl ⟨rfl, by exact r_loadA (hC.grow hB_) 0 [u78] rfl ag46 rfl rfl rfl⟩) (listed' := (dbits 26 31)) (by kernel_rfl) ?_
    refine ae_one 5 rfl (by kernel_rfl) ?_
    refine s_call [u0_0, .agg #[u78]] _ Try.func56 rfl rfl rfl (c_impl_isForm a0.degrees (a1.images.getD i67 default) h _ (hC.getP 3 rfl) (form_mk (hC.getP 0 rfl))) (fun ret91 w93 hR92 => ?_)
    obtain ⟨r94, rfl, h, hB95⟩ := hR92
    refine ⟨_, rfl, ?_⟩
    replace hC := hC.grow hB95
    refine done ?_
    refine ak_intro (by assumption) (listed' := (dbits 26 63)) (by kernel_rfl) ?_
    refine ae_lookF belPre 6 (.bool (!r94)) rfl rfl (by kernel_rfl) (hM90 6 rfl) (fun w_ => .inl ⟨rfl, by exact r_not rfl⟩) (listed' := (dbits 26 127)) (by kernel_rfl) ?_
    refine ae_lookF belPre 7 (.bool (!r94)) rfl rfl (by kernel_rfl) (hM90 7 rfl) (fun w_ => .inl ⟨rfl, by exact r_mv (v := .bool (!r94)) rfl⟩) (listed' := (dbits 26 255)) (by kernel_rfl) ?_
    refine bsplit (!r94) (fun hb96 => ?_) (fun hb96 => ?_)
    ·replace h := ift h (ne_t (not_t hb96))
     refine ae_lookF belPre 8 undef rfl rfl (by kernel_rfl) (hM90 8 rfl) (fun w_ => .inr ⟨wanted_off (b := true) 7 37 rfl (tr rfl (congrArg _ hb96)) (by decide), rfl⟩) (listed' := (dbits 26 511)) (by kernel_rfl) ?_
     refine ae_lookF belPre 9 undef rfl rfl (by kernel_rfl) (hM90 9 rfl) (fun w_ => .inr ⟨wanted_off (b := true) 7 37 rfl (tr rfl (congrArg _ hb96)) (by decide), rfl⟩) (listed' := (dbits 26 1023)) (by kernel_rfl) ?_
     refine ae_lookF belPre 10 undef rfl rfl (by kernel_rfl) (hM90 10 rfl) (fun w_ => .inr ⟨wanted_off (b := true) 7 37 rfl (tr rfl (congrArg _ hb96)) (by decide), rfl⟩) (listed' := (dbits 26 2047)) (by kernel_rfl) ?_
     refine ae_lookF belPre 11 undef rfl rfl (by kernel_rfl) (hM90 11 rfl) (fun w_ => .inr ⟨wanted_off (b := true) 7 37 rfl (tr rfl (congrArg _ hb96)) (by decide), rfl⟩) (listed' := (dbits 26 4095)) (by kernel_rfl) ?_
     refine ae_lookF belPre 12 undef rfl rfl (by kernel_rfl) (hM90 12 rfl) (fun w_ => .inr ⟨wanted_off (b := true) 7 37 rfl (tr rfl (congrArg _ hb96)) (by decide), rfl⟩) (listed' := (dbits 26 8191)) (by kernel_rfl) ?_
     refine ae_lookF belPre 13 undef rfl rfl (by kernel_rfl) (hM90 13 rfl) (fun w_ => .inr ⟨wanted_off (b := true) 7 37 rfl (tr rfl (congrArg _ hb96)) (by decide), rfl⟩) (listed' := (dbits 26 16383)) (by kernel_rfl) ?_
     refine ae_lookF belPre 14 undef rfl rfl (by kernel_rfl) (hM90 14 rfl) (fun w_ => .inr ⟨wanted_off (b := true) 7 37 rfl (tr rfl (congrArg _ hb96)) (by decide), rfl⟩) (listed' := (dbits 26 32767)) (by kernel_rfl) ?_
     refine ae_lookF belPre 15 undef rfl rfl (by kernel_rfl) (hM90 15 rfl) (fun w_ => .inr ⟨wanted_off (b := true) 7 37 rfl (tr rfl (congrArg _ hb96)) (by decide), rfl⟩) (listed' := (dbits 26 65535)) (by kernel_rfl) ?_
     refine ae_lookF belPre 16 undef rfl rfl (by kernel_rfl) (hM90 16 rfl) (fun w_ => .inr ⟨wanted_off (b := true) 7 37 rfl (tr rfl (congrArg _ hb96)) (by decide), rfl⟩) (listed' := (dbits 26 131071)) (by kernel_rfl) ?_
     refine ae_lookF belPre 17 undef rfl rfl (by kernel_rfl) (hM90 17 rfl) (fun w_ => .inr ⟨wanted_off (b := true) 7 37 rfl (tr rfl (congrArg _ hb96)) (by decide), rfl⟩) (listed' := (dbits 26 262143)) (by kernel_rfl) ?_
     refine ae_lookF belPre 18 undef rfl rfl (by kernel_rfl) (hM90 18 rfl) (fun w_ => .inr ⟨wanted_off (b := true) 7 37 rfl (tr rfl (congrArg _ hb96)) (by decide), rfl⟩) (listed' := (dbits 26 524287)) (by kernel_rfl) ?_
     refine ae_lookF belPre 19 undef rfl rfl (by kernel_rfl) (hM90 19 rfl) (fun w_ => .inr ⟨wanted_off (b := true) 7 37 rfl (tr rfl (congrArg _ hb96)) (by decide), rfl⟩) (listed' := (dbits 26 1048575)) (by kernel_rfl) ?_
     refine ae_lookF belPre 20 undef rfl rfl (by kernel_rfl) (hM90 20 rfl) (fun w_ => .inr ⟨wanted_off (b := true) 7 37 rfl (tr rfl (congrArg _ hb96)) (by decide), rfl⟩) (listed' := (dbits 26 2097151)) (by kernel_rfl) ?_
     refine ae_lookF belPre 21 undef rfl rfl (by kernel_rfl) (hM90 21 rfl) (fun w_ => .inr ⟨wanted_off (b := true) 7 37 rfl (tr rfl (congrArg _ hb96)) (by decide), rfl⟩) (listed' := (dbits 26 4194303)) (by kernel_rfl) ?_
     refine ae_lookF belPre 22 undef rfl rfl (by kernel_rfl) (hM90 22 rfl) (fun w_ => .inr ⟨wanted_off (b := true) 7 37 rfl (tr rfl (congrArg _ hb96)) (by decide), rfl⟩) (listed' := (dbits 26 8388607)) (by kernel_rfl) ?_
     refine ae_tail 23 (by decide) (by decide) (by kernel_rfl) (by kernel_rfl) rfl ?_
     refine guardOff (b := true) 7 37 rfl (tr rfl (congrArg _ hb96)) (by decide) ?_
     refine guardOff (b := true) 7 37 rfl (tr rfl (congrArg _ hb96)) (by decide) ?_
     refine s_pick (v := .bool true) (b := true) (tr rfl (congrArg _ hb96)) rfl ?_
     refine done ?_
     refine qn_norm ?_
     refine then_norm ?_
     refine cw_true rfl rfl ?_
     refine sr ?_
     refine s_as (v := .bool false) rfl ?_
     refine dn ?_
     refine wp_ret (blk_ret (then_ret (then_ret (blk_ret (then_ret ?_)))))
     refine ret1 (fn := Try.f58) rfl ?_ ⟨false, rfl, h, hC.below⟩ (.inl rfl)
     exact res_tmp rfl
    ·replace h := iff_ h (not_not_intro ((not_f hb96)))
     refine ae_lookF belPre 8 (.pointer (some ⟨b0, 0, none⟩)) rfl rfl (by kernel_rfl) (hM90 8 rfl) (fun w_ => .inl ⟨wanted_on 7 37 rfl rfl hb96, by exact r_mv (v := .pointer (some ⟨b0, 0, none⟩)) (sx hS_ 0 rfl)⟩) (listed' := (dbits 26 511)) (by kernel_rfl) ?_
     refine ae_lookF belPre 9 (.pointer (some ⟨b0, 0, none⟩)) rfl rfl (by kernel_rfl) (hM90 9 rfl) (fun w_ => .inl ⟨wanted_on 7 37 rfl rfl hb96, by exact r_nilchk rfl⟩) (listed' := (dbits 26 1023)) (by kernel_rfl) ?_
     refine ae_lookF belPre 10 (.pointer (some ⟨b0, 0, none⟩)) rfl rfl (by kernel_rfl) (hM90 10 rfl) (fun w_ => .inl ⟨wanted_on 7 37 rfl rfl hb96, by exact r_faddrB 0 Try.underlying31 rfl sc22.size rfl rfl⟩) (listed' := (dbits 26 2047)) (by kernel_rfl) ?_
     refine ae_look belPre 11 (u0_0) rfl rfl (by kernel_rfl) (hM89 11 rfl) (fun w_ hB_ => .inl ⟨wanted_on 7 37 rfl rfl hb96, by exact r_loadSh (u0_0) ((hC.grow hB_).getP 6 rfl) sc22 rfl rfl⟩) (listed' := (dbits 26 4095)) (by kernel_rfl) ?_
     refine ae_look belPre 12 (.agg #[u78]) rfl rfl (by kernel_rfl) (hM89 12 rfl) (fun w_ hB_ => .inl ⟨wanted_on 7 37 rfl rfl hb96, by exact r_loadA (hC.grow hB_) 0 [u78] rfl ag46 rfl rfl rfl⟩) (listed' := (dbits 26 8191)) (by kernel_rfl) ?_
     refine ae_lookF belPre 13 (.pointer (some ⟨b0, 0, none⟩)) rfl rfl (by kernel_rfl) (hM90 13 rfl) (fun w_ => .inl ⟨wanted_on 7 37 rfl rfl hb96, by exact r_mv (v := .pointer (some ⟨b0, 0, none⟩)) (sx hS_ 0 rfl)⟩) (listed' := (dbits 26 16383)) (by kernel_rfl) ?_
     refine ae_lookF belPre 14 (.pointer (some ⟨b0, 0, none⟩)) rfl rfl (by kernel_rfl) (hM90 14 rfl) (fun w_ => .inl ⟨wanted_on 7 37 rfl rfl hb96, by exact r_nilchk rfl⟩) (listed' := (dbits 26 32767)) (by kernel_rfl) ?_
     refine ae_lookF belPre 15 (.pointer (some ⟨b0, 0, none⟩)) rfl rfl (by kernel_rfl) (hM90 15 rfl) (fun w_ => .inl ⟨wanted_on 7 37 rfl rfl hb96, by exact r_faddrB 0 Try.underlying31 rfl sc22.size rfl rfl⟩) (listed' := (dbits 26 65535)) (by kernel_rfl) ?_
     refine ae_look belPre 16 (u0_0) rfl rfl (by kernel_rfl) (hM89 16 rfl) (fun w_ hB_ => .inl ⟨wanted_on 7 37 rfl rfl hb96, by exact r_loadSh (u0_0) ((hC.grow hB_).getP 6 rfl) sc22 rfl rfl⟩) (listed' := (dbits 26 131071)) (by kernel_rfl) ?_
     refine ae_lookF belPre 17 (.int .i64 (i67 : Int)) rfl rfl (by kernel_rfl) (hM90 17 rfl) (fun w_ => .inl ⟨wanted_on 7 37 rfl rfl hb96, by exact r_mv (v := .int .i64 (i67 : Int)) rfl⟩) (listed' := (dbits 26 262143)) (by kernel_rfl) ?_
     obtain ⟨⟨h0_97, h1_98⟩, h⟩ := h
     obtain ⟨Ad99, c100, hv101⟩ := sl_form (hC.getP 3 rfl) i67 (show i67 < a0.degrees.length by omega)
     refine ae_look belPre 18 (.pointer (some (Ad99.add (i67 * 1)))) rfl rfl (by kernel_rfl) (hM89 18 rfl) (fun w_ hB_ => .inl ⟨wanted_on 7 37 rfl rfl hb96, by exact r_iaddrS (len := a0.degrees.length) Try.underlying22 sc2.size (by exact tr rfl hv101) rfl h0_97 h1_98⟩) (listed' := (dbits 26 524287)) (by kernel_rfl) ?_
     refine ae_look belPre 19 (.int .i64 (a0.degrees.getD i67 default)) rfl rfl (by kernel_rfl) (hM89 19 rfl) (fun w_ hB_ => .inl ⟨wanted_on 7 37 rfl rfl hb96, by exact r_loadCS (.int .i64 (a0.degrees.getD i67 default)) (sl_cellsE ((hC.grow hB_).getP 3 rfl) hv101 i67 (show i67 < a0.degrees.length by omega)) sc2 rfl⟩) (listed' := (dbits 26 1048575)) (by kernel_rfl) ?_
     refine ae_lookF belPre 20 (.pointer (some ⟨b9, 0, none⟩)) rfl rfl (by kernel_rfl) (hM90 20 rfl) (fun w_ => .inl ⟨wanted_on 7 37 rfl rfl hb96, by exact r_faddrB 0 Try.underlying57 rfl sc2.size (sx hS_ 1 rfl) rfl⟩) (listed' := (dbits 26 2097151)) (by kernel_rfl) ?_
     refine ae_look belPre 21 (.int .i64 a1.drop) rfl rfl (by kernel_rfl) (hM89 21 rfl) (fun w_ hB_ => .inl ⟨wanted_on 7 37 rfl rfl hb96, by exact r_loadS (hC.grow hB_) 1 (.int .i64 a1.drop) rfl sc2 rfl rfl⟩) (listed' := (dbits 26 4194303)) (by kernel_rfl) ?_
     refine ae_lookF belPre 22 (.int .i64 (IntKind.i64.wrap ((a0.degrees.getD i67 default) - a1.drop))) rfl rfl (by kernel_rfl) (hM90 22 rfl) (fun w_ => .inl ⟨wanted_on 7 37 rfl rfl hb96, by exact r_sub rfl rfl⟩) (listed' := (dbits 26 8388607)) (by kernel_rfl) ?_
     refine ae_tail 23 (by decide) (by decide) (by kernel_rfl) (by kernel_rfl) rfl ?_
     refine guardOn 7 37 rfl rfl hb96 ?_
     refine s_call [u0_0, .agg #[u78], .int .i64 (IntKind.i64.wrap ((a0.degrees.getD i67 default) - a1.drop))] _ Try.func89 rfl rfl rfl (c_impl_isOfDegree a0.degrees (a1.images.getD i67 default) (IntKind.i64.wrap ((a0.degrees.getD i67 default) - a1.drop)) h _ (hC.getP 3 rfl) (form_mk (hC.getP 0 rfl))) (fun ret102 w104 hR103 => ?_)
     obtain ⟨r105, rfl, h, hB106⟩ := hR103
     refine ⟨_, rfl, ?_⟩
     replace hC := hC.grow hB106
     refine guardOn 7 37 rfl rfl hb96 ?_
     refine s_not rfl ?_
     refine s_pick (v := .bool (!r105)) (b := false) (tr rfl (congrArg _ hb96)) rfl ?_
     refine done ?_
     refine qn_norm ?_
     refine then_norm ?_
     refine cw_cond rfl (fun hb107 => ?_) (fun hb107 => ?_)
     ·replace h := ift h (ne_t (not_t hb107))
      refine sr ?_
      refine s_as (v := .bool false) rfl ?_
      refine dn ?_
      refine wp_ret (blk_ret (then_ret (then_ret (blk_ret (then_ret ?_)))))
      refine ret1 (fn := Try.f58) rfl ?_ ⟨false, rfl, h, hC.below⟩ (.inl rfl)
      exact res_tmp rfl
     ·replace h := iff_ h (not_not_intro ((not_f hb107)))
      refine wp_skip ?_
      refine blk_norm ?_
      refine then_norm ?_
      refine cw_region ?_
      refine s_add (sx hS_ 5 rfl) rfl ?_
      refine s_mv (v := .int .i64 (IntKind.i64.wrap ((i67 : Int) + 1))) rfl ?_
      refine done ?_
      replace hC := hC.sel [1] [1, 2, 3, 4, 5, 6] (M' := [blk b9 57 [.int .i64 a1.drop, u1_1]]) (Ps' := [Ty.item TForm.sl a1.images [u1_1] fp1, Ty.item TForm.sl a0.images [u0_1] fp0, Ty.item ((EI .i64).ty.sl) a0.degrees [u0_0] fp0, Ty.item TAlg a0 [u0_0, u0_1] fp0, Ty.item TDer a1 [.int .i64 a1.drop, u1_1] fp1, blk b0 31 [u0_0, u0_1]]) (by decide) rfl rfl
      exact hK72 () _ _ ⟨(sk (sx hS_ 0 rfl) (sk (sx hS_ 1 rfl) (sk (sx hS_ 2 rfl) (sk (sx hS_ 3 rfl) (sk (sx hS_ 4 rfl) (sk (tr rfl (congrArg _ (wrap64_nat hi73 hN69))) sn)))))), hC⟩ h
   ·clear hC h
    rintro s68 e_ w108 K71 ⟨hS_, hC⟩ h
    refine sr ?_
    refine s_lss (sx hS_ 5 rfl) (sx hS_ 4 rfl) ?_
    refine dn ?_
    refine wp_seq ?_
    refine cw_false rfl (decide_eq_false (by omega)) ?_
    refine wp_exit (then_exit (then_exit (exit_in ?_)))
    refine then_norm ?_
    refine sr ?_
    refine s_as (v := .bool true) rfl ?_
    refine dn ?_
    refine wp_ret ?_
    refine ret1 (fn := Try.f58) rfl ?_ ⟨true, rfl, h, hC.below⟩ (.inl rfl)
    exact res_tmp rfl
   ·skip
    exact ⟨(sk rfl (sk rfl (sk rfl (sk rfl (sk rfl (sk rfl sn)))))), hC⟩
def f_impl_IsDerivation (a0 : Alg) (a1 : Der) (K : Bool → Prop) : Prop :=
 f_impl_IsAlgebra a0 (fun r17 => (if r17 = true then f_impl_isDerivation a0 a1 (fun r23 => K r23) else K false))
theorem c_impl_IsDerivation (a0 : Alg) (a1 : Der) {u0_0 : Value} {u0_1 : Value} {u1_0 : Value} {u1_1 : Value} {fp0 : List Nat} {fp1 : List Nat} {K : Bool → Prop} (h : f_impl_IsDerivation a0 a1 K) (w0 : World) (q0 : TAlg.rep a0 [u0_0, u0_1] fp0 w0) (q1 : TDer.rep a1 [u1_0, u1_1] fp1 w0) :
  Calls Try.prog 28 #[.agg #[u0_0, u0_1], .agg #[u1_0, u1_1]] w0 fun e w' => ∃ (r0 : Bool), 
   e = .returned (.bool r0) ∧ K r0 ∧ Bel w0 w' := by
 unfold f_impl_IsDerivation at h
 refine calls_of (args := [.agg #[u0_0, u0_1], .agg #[u1_0, u1_1]]) Try.func28 rfl 11 Try.ntmps28 (Nat.le_of_ble_eq_true rfl) ?_
 have hC := Ctx.start (X := Nox) w0 [Ty.item TAlg a0 [u0_0, u0_1] fp0, Ty.item TDer a1 [u1_0, u1_1] fp1] (by simp only [List.mem_cons, List.not_mem_nil, or_false, forall_eq_or_imp, forall_eq]; exact ⟨q0, q1⟩)
 have hp3 := (hC.getP 0 rfl)
 replace hC := hC.derive 0 rfl (Ty.item ((EI .i64).ty.sl) a0.degrees [u0_0] fp0) (fun _ => (alg_parts hp3).1) (fun _ hb_ => hb_)
 replace hC := hC.derive 1 rfl (Ty.item TForm.sl a0.images [u0_1] fp0) (fun _ => (alg_parts hp3).2) (fun _ hb_ => hb_)
 have hp6 := (hC.getP 3 rfl)
 obtain rfl := (der_parts hp6).1
 replace hC := hC.derive 3 rfl (Ty.item TForm.sl a1.images [u1_1] fp1) (fun _ => (der_parts hp6).2) (fun _ hb_ => hb_)
 refine sr ?_
 refine s_box (v := .agg #[u0_0, u0_1]) hC [u0_0, u0_1] rfl rfl fun b8 w10 hB_ hC => ?_
 refine s_box (v := .agg #[.int .i64 a1.drop, u1_1]) hC [.int .i64 a1.drop, u1_1] rfl rfl fun b11 w13 hB_ hC => ?_
 refine s_as (v := .bool false) rfl ?_
 refine dn ?_
 refine sr ?_
 refine s_loadA hC 1 [u0_0, u0_1] rfl ag31 rfl rfl rfl ?_
 refine s_call [.agg #[u0_0, u0_1]] _ Try.func55 rfl rfl rfl (c_impl_IsAlgebra a0 h _ (alg_mk (hC.getP 2 rfl) (hC.getP 1 rfl))) (fun ret14 w16 hR15 => ?_)
 obtain ⟨r17, rfl, h, hB18⟩ := hR15
 refine ⟨_, rfl, ?_⟩
 replace hC := hC.grow hB18
 refine s_mv (v := .bool r17) rfl ?_
 refine bsplit r17 (fun hb19 => ?_) (fun hb19 => ?_)
 ·replace h := ift h (hb19)
  refine guardOn 2 7 rfl rfl hb19 ?_
  refine s_loadA hC 0 [.int .i64 a1.drop, u1_1] rfl ag57 rfl rfl rfl ?_
  refine guardOn 2 7 rfl rfl hb19 ?_
  refine s_call [.pointer (some ⟨b8, 0, none⟩), .agg #[.int .i64 a1.drop, u1_1]] _ Try.func58 rfl rfl rfl (c_impl_isDerivation a0 a1 h _ (alg_mk (hC.getP 2 rfl) (hC.getP 1 rfl)) (hC.getM 1 rfl) (der_mk (hC.getP 0 rfl))) (fun ret20 w22 hR21 => ?_)
  obtain ⟨r23, rfl, h, hB24⟩ := hR21
  refine ⟨_, rfl, ?_⟩
  replace hC := hC.grow hB24
  refine s_pick (v := .bool r23) (b := true) (tr rfl (congrArg _ hb19)) rfl ?_
  refine s_as (v := .bool r23) rfl ?_
  refine dn ?_
  refine wp_ret ?_
  refine ret1 (fn := Try.f28) rfl ?_ ⟨r23, rfl, h, hC.below⟩ (.inl rfl)
  exact res_tmp rfl
 ·replace h := iff_ h (ne_t hb19)
  refine guardOff (b := false) 2 7 rfl (tr rfl (congrArg _ hb19)) (by decide) ?_
  refine guardOff (b := false) 2 7 rfl (tr rfl (congrArg _ hb19)) (by decide) ?_
  refine s_pick (v := .bool false) (b := false) (tr rfl (congrArg _ hb19)) rfl ?_
  refine s_as (v := .bool false) rfl ?_
  refine dn ?_
  refine wp_ret ?_
  refine ret1 (fn := Try.f28) rfl ?_ ⟨false, rfl, h, hC.below⟩ (.inl rfl)
  exact res_tmp rfl
def f_laws_eqDerivation (a0 : Der) (a1 : Der) (K : Bool → Prop) : Prop :=
 (if a0.drop ≠ a1.drop then K false else f_laws_eqFormS a0.images a1.images (fun r17 => (if ¬ (r17 = true) then K false else K true)))
theorem c_laws_eqDerivation (a0 : Der) (a1 : Der) {u0_0 : Value} {u0_1 : Value} {u1_0 : Value} {u1_1 : Value} {fp0 : List Nat} {fp1 : List Nat} {K : Bool → Prop} (h : f_laws_eqDerivation a0 a1 K) (w0 : World) (q0 : TDer.rep a0 [u0_0, u0_1] fp0 w0) (q1 : TDer.rep a1 [u1_0, u1_1] fp1 w0) :
  Calls Try.prog 29 #[.agg #[u0_0, u0_1], .agg #[u1_0, u1_1]] w0 fun e w' => ∃ (r0 : Bool), 
   e = .returned (.bool r0) ∧ K r0 ∧ Bel w0 w' := by
 unfold f_laws_eqDerivation at h
 refine calls_of (args := [.agg #[u0_0, u0_1], .agg #[u1_0, u1_1]]) Try.func29 rfl 16 Try.ntmps29 (Nat.le_of_ble_eq_true rfl) ?_
 have hC := Ctx.start (X := Nox) w0 [Ty.item TDer a0 [u0_0, u0_1] fp0, Ty.item TDer a1 [u1_0, u1_1] fp1] (by simp only [List.mem_cons, List.not_mem_nil, or_false, forall_eq_or_imp, forall_eq]; exact ⟨q0, q1⟩)
 have hp3 := (hC.getP 0 rfl)
 obtain rfl := (der_parts hp3).1
 replace hC := hC.derive 0 rfl (Ty.item TForm.sl a0.images [u0_1] fp0) (fun _ => (der_parts hp3).2) (fun _ hb_ => hb_)
 have hp5 := (hC.getP 2 rfl)
 obtain rfl := (der_parts hp5).1
 replace hC := hC.derive 2 rfl (Ty.item TForm.sl a1.images [u1_1] fp1) (fun _ => (der_parts hp5).2) (fun _ hb_ => hb_)
 refine sr ?_
 refine s_box (v := .agg #[.int .i64 a0.drop, u0_1]) hC [.int .i64 a0.drop, u0_1] rfl rfl fun b7 w9 hB_ hC => ?_
 refine s_box (v := .agg #[.int .i64 a1.drop, u1_1]) hC [.int .i64 a1.drop, u1_1] rfl rfl fun b10 w12 hB_ hC => ?_
 refine s_as (v := .bool false) rfl ?_
 refine dn ?_
 refine wp_seq ?_
 refine sr ?_
 refine s_faddrB 0 Try.underlying57 rfl sc2.size rfl rfl ?_
 refine s_loadS hC 1 (.int .i64 a0.drop) rfl sc2 rfl rfl ?_
 refine s_faddrB 0 Try.underlying57 rfl sc2.size rfl rfl ?_
 refine s_loadS hC 0 (.int .i64 a1.drop) rfl sc2 rfl rfl ?_
 refine s_neq rfl rfl ?_
 refine dn ?_
 refine cw_cond rfl (fun hb13 => ?_) (fun hb13 => ?_)
 ·replace h := ift h (ct hb13)
  refine sr ?_
  refine s_as (v := .bool false) rfl ?_
  refine dn ?_
  refine wp_ret (then_ret ?_)
  refine ret1 (fn := Try.f29) rfl ?_ ⟨false, rfl, h, hC.below⟩ (.inl rfl)
  exact res_tmp rfl
 ·replace h := iff_ h (cf hb13)
  refine wp_skip ?_
  refine then_norm ?_
  refine wp_seq ?_
  refine sr ?_
  refine s_faddrB 1 Try.underlying57 rfl sc29.size rfl rfl ?_
  refine s_loadS hC 1 (u0_1) rfl sc29 rfl rfl ?_
  refine s_faddrB 1 Try.underlying57 rfl sc29.size rfl rfl ?_
  refine s_loadS hC 0 (u1_1) rfl sc29 rfl rfl ?_
  refine s_call [u0_1, u1_1] _ Try.func42 rfl rfl rfl (c_laws_eqFormS a0.images a1.images h _ (hC.getP 1 rfl) (hC.getP 0 rfl)) (fun ret14 w16 hR15 => ?_)
  obtain ⟨r17, rfl, h, hB18⟩ := hR15
  refine ⟨_, rfl, ?_⟩
  replace hC := hC.grow hB18
  refine s_not rfl ?_
  refine dn ?_
  refine cw_cond rfl (fun hb19 => ?_) (fun hb19 => ?_)
  ·replace h := ift h (ne_t (not_t hb19))
   refine sr ?_
   refine s_as (v := .bool false) rfl ?_
   refine dn ?_
   refine wp_ret (then_ret ?_)
   refine ret1 (fn := Try.f29) rfl ?_ ⟨false, rfl, h, hC.below⟩ (.inl rfl)
   exact res_tmp rfl
  ·replace h := iff_ h (not_not_intro ((not_f hb19)))
   refine wp_skip ?_
   refine then_norm ?_
   refine sr ?_
   refine s_as (v := .bool true) rfl ?_
   refine dn ?_
   refine wp_ret ?_
   refine ret1 (fn := Try.f29) rfl ?_ ⟨true, rfl, h, hC.below⟩ (.inl rfl)
   exact res_tmp rfl
def f_laws_FnExactIsDerivation (a0 : Alg) (a1 : Der) (K : Bool → Prop) : Prop :=
 f_laws_szAlgebra a0 1048576 (fun r17 => (if r17 < 0 then K true else f_laws_szDerivation a1 r17 (fun r23 => (if r23 < 0 then K true else f_laws_toAlgebra a0 (fun r32 => f_laws_toDerivation a1 (fun r51 => f_spec_IsDerivation r32 r51 (fun r65 => f_laws_toAlgebra a0 (fun r70 => f_laws_toDerivation a1 (fun r93 => f_impl_IsDerivation r70 r93 (fun r111 => (if r111 ≠ r65 then K false else f_laws_toAlgebra a0 (fun r120 => f_laws_eqAlgebra r70 r120 (fun r139 => (if ¬ (r139 = true) then K false else f_laws_toDerivation a1 (fun r148 => f_laws_eqDerivation r93 r148 (fun r162 => (if ¬ (r162 = true) then K false else K true)))))))))))))))))
theorem c_laws_FnExactIsDerivation (a0 : Alg) (a1 : Der) {u0_0 : Value} {u0_1 : Value} {u1_0 : Value} {u1_1 : Value} {fp0 : List Nat} {fp1 : List Nat} {K : Bool → Prop} (h : f_laws_FnExactIsDerivation a0 a1 K) (w0 : World) (q0 : TAlg.rep a0 [u0_0, u0_1] fp0 w0) (q1 : TDer.rep a1 [u1_0, u1_1] fp1 w0) :
  Calls Try.prog 7 #[.agg #[u0_0, u0_1], .agg #[u1_0, u1_1]] w0 fun e w' => ∃ (r0 : Bool), 
   e = .returned (.bool r0) ∧ K r0 ∧ Bel w0 w' := by
 unfold f_laws_FnExactIsDerivation at h
 refine calls_of (args := [.agg #[u0_0, u0_1], .agg #[u1_0, u1_1]]) Try.func7 rfl 45 Try.ntmps7 (Nat.le_of_ble_eq_true rfl) ?_
 have hC := Ctx.start (X := Nox) w0 [Ty.item TAlg a0 [u0_0, u0_1] fp0, Ty.item TDer a1 [u1_0, u1_1] fp1] (by simp only [List.mem_cons, List.not_mem_nil, or_false, forall_eq_or_imp, forall_eq]; exact ⟨q0, q1⟩)
 have hp3 := (hC.getP 0 rfl)
 replace hC := hC.derive 0 rfl (Ty.item ((EI .i64).ty.sl) a0.degrees [u0_0] fp0) (fun _ => (alg_parts hp3).1) (fun _ hb_ => hb_)
 replace hC := hC.derive 1 rfl (Ty.item TForm.sl a0.images [u0_1] fp0) (fun _ => (alg_parts hp3).2) (fun _ hb_ => hb_)
 have hp6 := (hC.getP 3 rfl)
 obtain rfl := (der_parts hp6).1
 replace hC := hC.derive 3 rfl (Ty.item TForm.sl a1.images [u1_1] fp1) (fun _ => (der_parts hp6).2) (fun _ hb_ => hb_)
 refine sr ?_
 refine s_box (v := .agg #[u0_0, u0_1]) hC [u0_0, u0_1] rfl rfl fun b8 w10 hB_ hC => ?_
 refine s_box (v := .agg #[.int .i64 a1.drop, u1_1]) hC [.int .i64 a1.drop, u1_1] rfl rfl fun b11 w13 hB_ hC => ?_
 refine s_as (v := .bool false) rfl ?_
 refine dn ?_
 refine sr ?_
 refine s_as (v := .int .i64 1048576) rfl ?_
 refine dn ?_
 refine sr ?_
 refine s_loadA hC 1 [u0_0, u0_1] rfl ag25 rfl rfl rfl ?_
 refine s_mv (v := .int .i64 1048576) rfl ?_
 refine s_call [.agg #[u0_0, u0_1], .int .i64 1048576] _ Try.func11 rfl rfl rfl (c_laws_szAlgebra a0 1048576 h _ (alg_mk (hC.getP 2 rfl) (hC.getP 1 rfl))) (fun ret14 w16 hR15 => ?_)
 obtain ⟨r17, rfl, h, hB18⟩ := hR15
 refine ⟨_, rfl, ?_⟩
 replace hC := hC.grow hB18
 refine s_as (v := .int .i64 r17) rfl ?_
 refine dn ?_
 refine wp_seq ?_
 refine sr ?_
 refine s_mv (v := .int .i64 r17) rfl ?_
 refine s_lss rfl rfl ?_
 refine dn ?_
 refine cw_cond rfl (fun hb19 => ?_) (fun hb19 => ?_)
 ·replace h := ift h (ct hb19)
  refine sr ?_
  refine s_as (v := .bool true) rfl ?_
  refine dn ?_
  refine wp_ret (then_ret ?_)
  refine ret1 (fn := Try.f7) rfl ?_ ⟨true, rfl, h, hC.below⟩ (.inl rfl)
  exact res_tmp rfl
 ·replace h := iff_ h (cf hb19)
  refine wp_skip ?_
  refine then_norm ?_
  refine sr ?_
  refine s_loadA hC 0 [.int .i64 a1.drop, u1_1] rfl ag53 rfl rfl rfl ?_
  refine s_mv (v := .int .i64 r17) rfl ?_
  refine s_call [.agg #[.int .i64 a1.drop, u1_1], .int .i64 r17] _ Try.func25 rfl rfl rfl (c_laws_szDerivation a1 r17 h _ (der_mk (hC.getP 0 rfl))) (fun ret20 w22 hR21 => ?_)
  obtain ⟨r23, rfl, h, hB24⟩ := hR21
  refine ⟨_, rfl, ?_⟩
  replace hC := hC.grow hB24
  refine s_as (v := .int .i64 r23) rfl ?_
  refine dn ?_
  refine wp_seq ?_
  refine sr ?_
  refine s_mv (v := .int .i64 r23) rfl ?_
  refine s_lss rfl rfl ?_
  refine dn ?_
  refine cw_cond rfl (fun hb25 => ?_) (fun hb25 => ?_)
  ·replace h := ift h (ct hb25)
   refine sr ?_
   refine s_as (v := .bool true) rfl ?_
   refine dn ?_
   refine wp_ret (then_ret ?_)
   refine ret1 (fn := Try.f7) rfl ?_ ⟨true, rfl, h, hC.below⟩ (.inl rfl)
   exact res_tmp rfl
  ·replace h := iff_ h (cf hb25)
   refine wp_skip ?_
   refine then_norm ?_
   refine wp_seq ?_
   refine cw_draw 3 mixed [0, 1, 0, 7, 15, 31] [0, 2] [] (by kernel_rfl) (by kernel_rfl) (by kernel_rfl) (fun hM27 hM28 w26 hB_ => ?_)
   replace hC := hC.grow hB_
   refine ae_look belPre 0 (.agg #[u0_0, u0_1]) rfl rfl (by kernel_rfl) (hM27 0 rfl) (fun w_ hB_ => .inl ⟨rfl, by exact r_loadA (hC.grow hB_) 1 [u0_0, u0_1] rfl ag25 rfl rfl rfl⟩) (listed' := (dbits 6 1)) (by kernel_rfl) ?_
   refine ae_look belPre 2 (.agg #[.int .i64 a1.drop, u1_1]) rfl rfl (by kernel_rfl) (hM27 2 rfl) (fun w_ hB_ => .inl ⟨rfl, by exact r_loadA (hC.grow hB_) 0 [.int .i64 a1.drop, u1_1] rfl ag53 rfl rfl rfl⟩) (listed' := (dbits 6 5)) (by kernel_rfl) ?_
   refine ae_one 1 rfl (by kernel_rfl) ?_
   refine s_call [.agg #[u0_0, u0_1]] _ Try.func13 rfl rfl rfl (c_laws_toAlgebra a0 h _ (alg_mk (hC.getP 2 rfl) (hC.getP 1 rfl))) (fun ret29 w31 hR30 => ?_)
   obtain ⟨r32, u33, u34, f35, rfl, h, hr36, hf37, hB38⟩ := hR30
   refine ⟨_, rfl, ?_⟩
   replace hC := hC.push hB38 (Tr.item (TrAlg 2 86 46) r32 [u33, u34] f35) hr36 hf37
   obtain ⟨f40, ho41, ho42, hs43, hs44, hd45⟩ := alg_split (hC.getM 0 rfl)
   replace hC := hC.split (a := own 2 1 u33 r32.degrees.length ((EI .i64).encs r32.degrees)) (b := Tr.item (Tr.sl 46 (TrForm 86)) r32.images [u34] f40) hs43 hs44 ⟨ho41, ho42, hd45⟩
   refine done ?_
   refine ak_intro (by assumption) (listed' := (dbits 6 7)) (by kernel_rfl) ?_
   refine ae_tail 3 (by decide) (by decide) (by kernel_rfl) (by kernel_rfl) rfl ?_
   refine s_call [.agg #[.int .i64 a1.drop, u1_1]] _ Try.func27 rfl rfl rfl (c_laws_toDerivation a1 h _ (der_mk (hC.getP 0 rfl))) (fun ret48 w50 hR49 => ?_)
   obtain ⟨r51, u52, u53, f54, rfl, h, hr55, hf56, hB57⟩ := hR49
   refine ⟨_, rfl, ?_⟩
   have hs58 := fresh_on hC.size hf56
   replace hC := hC.pushR hB57 (Ty.item TDer r51 [u52, u53] f54) hr55 (fun b hb => .inl (hf56 b hb))
   have hp60 := (hC.getP 0 rfl)
   obtain rfl := (der_parts hp60).1
   replace hC := hC.derive 0 rfl (Ty.item TForm.sl r51.images [u53] f54) (fun _ => (der_parts hp60).2) (fun _ hb_ => hb_)
   refine s_call [.agg #[u33, u34], .agg #[.int .i64 r51.drop, u53]] _ Try.func26 rfl rfl rfl (c_spec_IsDerivation r32 r51 h _ (alg_mk (own_repE (hC.getM 0 rfl)) (Tr.trep _ (hC.getM 1 rfl).1)) (der_mk (hC.getP 0 rfl))) (fun ret62 w64 hR63 => ?_)
   obtain ⟨r65, rfl, h, hB66⟩ := hR63
   refine ⟨_, rfl, ?_⟩
   replace hC := hC.grow hB66
   refine s_as (v := .bool r65) rfl ?_
   refine done ?_
   refine qn_norm ?_
   refine then_norm ?_
   refine sr ?_
   refine s_loadA hC 3 [u0_0, u0_1] rfl ag25 rfl rfl rfl ?_
   refine s_call [.agg #[u0_0, u0_1]] _ Try.func13 rfl rfl rfl (c_laws_toAlgebra a0 h _ (alg_mk (hC.getP 4 rfl) (hC.getP 3 rfl))) (fun ret67 w69 hR68 => ?_)
   obtain ⟨r70, u71, u72, f73, rfl, h, hr74, hf75, hB76⟩ := hR68
   refine ⟨_, rfl, ?_⟩
   replace hC := hC.push hB76 (Tr.item (TrAlg 2 86 46) r70 [u71, u72] f73) hr74 hf75
   obtain ⟨f78, ho79, ho80, hs81, hs82, hd83⟩ := alg_split (hC.getM 0 rfl)
   replace hC := hC.split (a := own 2 1 u71 r70.degrees.length ((EI .i64).encs r70.degrees)) (b := Tr.item (Tr.sl 46 (TrForm 86)) r70.images [u72] f78) hs81 hs82 ⟨ho79, ho80, hd83⟩
   refine s_alloc hC [.slice none 0 0, .slice none 0 0] z31 rfl fun b86 w88 hB_ hC => ?_
   refine s_store (v := .agg #[u71, u72]) hC 0 [u71, u72] [u71, u72] rfl ag31.size rfl rfl rfl rfl (all_c (own_oneC (hC.getM 1 rfl)) (all_c (rep_oneC (Tr.trep _ (hC.getM 2 rfl).1)) rfl)) (Nat.le_of_ble_eq_true rfl) rfl fun w89 hC => ?_
   refine dn ?_
   refine sr ?_
   refine s_loadA hC 5 [.int .i64 a1.drop, u1_1] rfl ag53 rfl rfl rfl ?_
   refine s_call [.agg #[.int .i64 a1.drop, u1_1]] _ Try.func27 rfl rfl rfl (c_laws_toDerivation a1 h _ (der_mk (hC.getP 2 rfl))) (fun ret90 w92 hR91 => ?_)
   obtain ⟨r93, u94, u95, f96, rfl, h, hr97, hf98, hB99⟩ := hR91
   refine ⟨_, rfl, ?_⟩
   have hs100 := fresh_on hC.size hf98
   replace hC := hC.pushR hB99 (Ty.item TDer r93 [u94, u95] f96) hr97 (fun b hb => .inl (hf98 b hb))
   have hp102 := (hC.getP 0 rfl)
   obtain rfl := (der_parts hp102).1
   replace hC := hC.derive 0 rfl (Ty.item TForm.sl r93.images [u95] f96) (fun _ => (der_parts hp102).2) (fun _ hb_ => hb_)
   refine s_alloc hC [.int .i64 0, .slice none 0 0] z57 rfl fun b104 w106 hB_ hC => ?_
   refine s_store (v := .agg #[.int .i64 r93.drop, u95]) hC 0 [.int .i64 r93.drop, u95] [.int .i64 r93.drop, u95] rfl ag57.size rfl rfl rfl rfl (all_c rfl (all_c (rep_oneC (hC.getP 0 rfl)) rfl)) (Nat.le_of_ble_eq_true rfl) rfl fun w107 hC => ?_
   refine dn ?_
   refine sr ?_
   refine s_loadA hC 1 [u71, u72] rfl ag31 rfl rfl rfl ?_
   refine s_loadA hC 0 [.int .i64 r93.drop, u95] rfl ag57 rfl rfl rfl ?_
   refine s_call [.agg #[u71, u72], .agg #[.int .i64 r93.drop, u95]] _ Try.func28 rfl rfl rfl (c_impl_IsDerivation r70 r93 h _ (alg_mk (own_repE (hC.getM 2 rfl)) (Tr.trep _ (hC.getM 3 rfl).1)) (der_mk (hC.getP 0 rfl))) (fun ret108 w110 hR109 => ?_)
   obtain ⟨r111, rfl, h, hB112⟩ := hR109
   refine ⟨_, rfl, ?_⟩
   replace hC := hC.grow hB112
   refine s_as (v := .bool r111) rfl ?_
   refine dn ?_
   refine wp_seq ?_
   refine sr ?_
   refine s_mv (v := .bool r111) rfl ?_
   refine s_mv (v := .bool r65) rfl ?_
   refine s_neqB Try.underlying4 rfl rfl ?_
   refine dn ?_
   refine cw_cond rfl (fun hb113 => ?_) (fun hb113 => ?_)
   ·replace h := ift h (bne_t hb113)
    refine sr ?_
    refine s_as (v := .bool false) rfl ?_
    refine dn ?_
    refine wp_ret (then_ret ?_)
    refine ret1 (fn := Try.f7) rfl ?_ ⟨false, rfl, h, hC.below⟩ (.inl rfl)
    exact res_tmp rfl
   ·replace h := iff_ h (bne_f hb113)
    refine wp_skip ?_
    refine then_norm ?_
    refine wp_seq ?_
    refine wp_seq ?_
    refine cw_draw 3 mixed [0, 0, 2, 7, 15] [0, 1] [] (by kernel_rfl) (by kernel_rfl) (by kernel_rfl) (fun hM115 hM116 w114 hB_ => ?_)
    replace hC := hC.grow hB_
    refine ae_look belPre 0 (.agg #[u71, u72]) rfl rfl (by kernel_rfl) (hM115 0 rfl) (fun w_ hB_ => .inl ⟨rfl, by exact r_loadA (hC.grow hB_) 1 [u71, u72] rfl ag31 rfl rfl rfl⟩) (listed' := (dbits 5 1)) (by kernel_rfl) ?_
    refine ae_look belPre 1 (.agg #[u0_0, u0_1]) rfl rfl (by kernel_rfl) (hM115 1 rfl) (fun w_ hB_ => .inl ⟨rfl, by exact r_loadA (hC.grow hB_) 7 [u0_0, u0_1] rfl ag25 rfl rfl rfl⟩) (listed' := (dbits 5 3)) (by kernel_rfl) ?_
    refine ae_one 2 rfl (by kernel_rfl) ?_
    refine s_call [.agg #[u0_0, u0_1]] _ Try.func13 rfl rfl rfl (c_laws_toAlgebra a0 h _ (alg_mk (hC.getP 6 rfl) (hC.getP 5 rfl))) (fun ret117 w119 hR118 => ?_)
    obtain ⟨r120, u121, u122, f123, rfl, h, hr124, hf125, hB126⟩ := hR118
    refine ⟨_, rfl, ?_⟩
    replace hC := hC.push hB126 (Tr.item (TrAlg 2 86 46) r120 [u121, u122] f123) hr124 hf125
    obtain ⟨f128, ho129, ho130, hs131, hs132, hd133⟩ := alg_split (hC.getM 0 rfl)
    replace hC := hC.split (a := own 2 1 u121 r120.degrees.length ((EI .i64).encs r120.degrees)) (b := Tr.item (Tr.sl 46 (TrForm 86)) r120.images [u122] f128) hs131 hs132 ⟨ho129, ho130, hd133⟩
    refine done ?_
    refine ak_intro (by assumption) (listed' := (dbits 5 7)) (by kernel_rfl) ?_
    refine ae_tail 3 (by decide) (by decide) (by kernel_rfl) (by kernel_rfl) rfl ?_
    refine s_call [.agg #[u71, u72], .agg #[u121, u122]] _ Try.func15 rfl rfl rfl (c_laws_eqAlgebra r70 r120 h _ (alg_mk (own_repE (hC.getM 4 rfl)) (Tr.trep _ (hC.getM 5 rfl).1)) (alg_mk (own_repE (hC.getM 0 rfl)) (Tr.trep _ (hC.getM 1 rfl).1))) (fun ret136 w138 hR137 => ?_)
    obtain ⟨r139, rfl, h, hB140⟩ := hR137
    refine ⟨_, rfl, ?_⟩
    replace hC := hC.grow hB140
    refine s_not rfl ?_
    refine done ?_
    refine qn_norm ?_
    refine then_norm ?_
    refine cw_cond rfl (fun hb141 => ?_) (fun hb141 => ?_)
    ·replace h := ift h (ne_t (not_t hb141))
     refine sr ?_
     refine s_as (v := .bool false) rfl ?_
     refine dn ?_
     refine wp_ret (then_ret ?_)
     refine ret1 (fn := Try.f7) rfl ?_ ⟨false, rfl, h, hC.below⟩ (.inl rfl)
     exact res_tmp rfl
    ·replace h := iff_ h (not_not_intro ((not_f hb141)))
     refine wp_skip ?_
     refine then_norm ?_
     refine wp_seq ?_
     refine wp_seq ?_
     refine cw_draw 3 mixed [0, 0, 2, 7, 15] [0, 1] [] (by kernel_rfl) (by kernel_rfl) (by kernel_rfl) (fun hM143 hM144 w142 hB_ => ?_)
     replace hC := hC.grow hB_
     refine ae_look belPre 0 (.agg #[.int .i64 r93.drop, u95]) rfl rfl (by kernel_rfl) (hM143 0 rfl) (fun w_ hB_ => .inl ⟨rfl, by exact r_loadA (hC.grow hB_) 2 [.int .i64 r93.drop, u95] rfl ag57 rfl rfl rfl⟩) (listed' := (dbits 5 1)) (by kernel_rfl) ?_
     refine ae_look belPre 1 (.agg #[.int .i64 a1.drop, u1_1]) rfl rfl (by kernel_rfl) (hM143 1 rfl) (fun w_ hB_ => .inl ⟨rfl, by exact r_loadA (hC.grow hB_) 8 [.int .i64 a1.drop, u1_1] rfl ag53 rfl rfl rfl⟩) (listed' := (dbits 5 3)) (by kernel_rfl) ?_
     refine ae_one 2 rfl (by kernel_rfl) ?_
     refine s_call [.agg #[.int .i64 a1.drop, u1_1]] _ Try.func27 rfl rfl rfl (c_laws_toDerivation a1 h _ (der_mk (hC.getP 4 rfl))) (fun ret145 w147 hR146 => ?_)
     obtain ⟨r148, u149, u150, f151, rfl, h, hr152, hf153, hB154⟩ := hR146
     refine ⟨_, rfl, ?_⟩
     have hs155 := fresh_on hC.size hf153
     replace hC := hC.pushR hB154 (Ty.item TDer r148 [u149, u150] f151) hr152 (fun b hb => .inl (hf153 b hb))
     have hp157 := (hC.getP 0 rfl)
     obtain rfl := (der_parts hp157).1
     replace hC := hC.derive 0 rfl (Ty.item TForm.sl r148.images [u150] f151) (fun _ => (der_parts hp157).2) (fun _ hb_ => hb_)
     refine done ?_
     refine ak_intro (by assumption) (listed' := (dbits 5 7)) (by kernel_rfl) ?_
     refine ae_tail 3 (by decide) (by decide) (by kernel_rfl) (by kernel_rfl) rfl ?_
     refine s_call [.agg #[.int .i64 r93.drop, u95], .agg #[.int .i64 r148.drop, u150]] _ Try.func29 rfl rfl rfl (c_laws_eqDerivation r93 r148 h _ (der_mk (hC.getP 2 rfl)) (der_mk (hC.getP 0 rfl))) (fun ret159 w161 hR160 => ?_)
     obtain ⟨r162, rfl, h, hB163⟩ := hR160
     refine ⟨_, rfl, ?_⟩
     replace hC := hC.grow hB163
     refine s_not rfl ?_
     refine done ?_
     refine qn_norm ?_
     refine then_norm ?_
     refine cw_cond rfl (fun hb164 => ?_) (fun hb164 => ?_)
     ·replace h := ift h (ne_t (not_t hb164))
      refine sr ?_
      refine s_as (v := .bool false) rfl ?_
      refine dn ?_
      refine wp_ret (then_ret ?_)
      refine ret1 (fn := Try.f7) rfl ?_ ⟨false, rfl, h, hC.below⟩ (.inl rfl)
      exact res_tmp rfl
     ·replace h := iff_ h (not_not_intro ((not_f hb164)))
      refine wp_skip ?_
      refine then_norm ?_
      refine sr ?_
      refine s_as (v := .bool true) rfl ?_
      refine dn ?_
      refine wp_ret ?_
      refine ret1 (fn := Try.f7) rfl ?_ ⟨true, rfl, h, hC.below⟩ (.inl rfl)
      exact res_tmp rfl
end Go.Proofs.Ytgfmflmhcfkldaa
