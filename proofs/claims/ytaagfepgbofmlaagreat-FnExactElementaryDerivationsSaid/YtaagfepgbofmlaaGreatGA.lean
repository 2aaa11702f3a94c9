/- Printed by vcgen.py: functions of the program as predicates, and that the machine's calls meet them. -/
import Derived.Test.YtaagfepgbofmlaaGreatGAb
set_option linter.unusedVariables false
set_option linter.unusedSimpArgs false
set_option maxRecDepth 4000
set_option maxHeartbeats 4000000
namespace Go.Proofs.YtaagfepgbofmlaaGreat
open Go Go.RowKit Vc
def f_impl_degreeOf (a0 : List Int) (a1 : Vc.Form) (K : Int → Bool → Prop) : Prop :=
 forN (fun i55 (s56 : Int) next58 => f_impl_powerOf ((a1.terms.getD i55 default).mono) (fun r73 => f_impl_power_degree r73 a0 (fun r78 => (if s56 ≥ 0 then (if r78 ≠ s56 then K 0 false else next58 r78) else next58 r78)))) (fun (s56 : Int) => K s56 true) a1.terms.length 0 (-1)
theorem c_impl_degreeOf (a0 : List Int) (a1 : Vc.Form) {u0_0 : Value} {u1_0 : Value} {fp0 : List Nat} {fp1 : List Nat} {K : Int → Bool → Prop} (h : f_impl_degreeOf a0 a1 K) (w0 : World) (q0 : ((EI .i64).ty.sl).rep a0 [u0_0] fp0 w0) (q1 : TForm.rep a1 [u1_0] fp1 w0) :
  Calls Tryz.prog 132 #[u0_0, .agg #[u1_0]] w0 fun e w' => ∃ (r0 : Int) (r1 : Bool), 
   e = .returned (.tuple #[.int .i64 r0, .bool r1]) ∧ K r0 r1 ∧ Bel w0 w' := by
 unfold f_impl_degreeOf at h
 refine calls_of (args := [u0_0, .agg #[u1_0]]) Tryz.func132 rfl 32 Tryz.ntmps132 (Nat.le_of_ble_eq_true rfl) ?_
 have hC := Ctx.start (X := Nox) w0 [Ty.item ((EI .i64).ty.sl) a0 [u0_0] fp0, Ty.item TForm a1 [u1_0] fp1] (by simp only [List.mem_cons, List.not_mem_nil, or_false, forall_eq_or_imp, forall_eq]; exact ⟨q0, q1⟩)
 have hp3 := (hC.getP 1 rfl)
 replace hC := hC.derive 1 rfl (Ty.item ETerm.ty.sl a1.terms [u1_0] fp1) (fun _ => (form_parts hp3)) (fun _ hb_ => hb_)
 refine sr ?_
 refine s_box (v := .agg #[u1_0]) hC [u1_0] rfl rfl fun b5 w7 hB_ hC => ?_
 refine s_as (v := .int .i64 0) rfl ?_
 refine s_as (v := .bool false) rfl ?_
 refine dn ?_
 refine sr ?_
 refine s_as (v := .int .i64 (-1)) rfl ?_
 refine dn ?_
 refine wp_seq ?_
 refine sr ?_
 refine s_faddrB 0 Tryz.underlying55 rfl sc53.size rfl rfl ?_
 refine s_loadS hC 0 (u1_0) rfl sc53 rfl rfl ?_
 obtain ⟨Ad8, c9, hv10⟩ := sl_len (hC.getP 0 rfl)
 refine s_len Tryz.underlying53 (tr rfl hv10) ?_
 refine s_mv (v := .int .i64 0) rfl ?_
 refine dn ?_
 refine wp_block ?_
 have hN57 : a1.terms.length ≤ 9223372036854775807 := sl_max (hC.getP 0 rfl)
 refine loopN (S := Int) _ _ (fun i55 s56 e_ w_ => Slots e_ [(0, u0_0), (4, .int .i64 0), (5, .bool false), (6, .int .i64 s56), (11, u1_0), (12, .int .i64 (a1.terms.length : Int)), (13, .int .i64 (i55 : Int))] ∧ Ctx Nox w0 w_ [] [Ty.item ETerm.ty.sl a1.terms [u1_0] fp1, Ty.item ((EI .i64).ty.sl) a0 [u0_0] fp0, Ty.item TForm a1 [u1_0] fp1]) a1.terms.length ?_ ?_ (s0 := (-1)) ?_ h
 ·clear hC h
  rintro i55 s56 e_ w62 next58 K59 hi61 ⟨hS_, hC⟩ h hK60
  refine sr ?_
  refine s_lss (sx hS_ 6 rfl) (sx hS_ 5 rfl) ?_
  refine dn ?_
  refine wp_seq ?_
  refine cw_true rfl (decide_eq_true (by omega)) ?_
  refine wp_skip ?_
  refine then_norm ?_
  refine wp_seq ?_
  refine wp_block ?_
  refine sr ?_
  obtain ⟨Ad63, c64, hv65⟩ := sl_form (hC.getP 0 rfl) i55 hi61
  refine s_iaddrS (len := a1.terms.length) Tryz.underlying53 ag162.size (tr (sx hS_ 4 rfl) hv65) (sx hS_ 6 rfl) (Int.natCast_nonneg _) (Int.ofNat_lt.2 hi61) ?_
  refine s_loadCA (Term.enc (a1.terms.getD i55 default)) (sl_cellsE (hC.getP 0 rfl) hv65 i55 hi61) ag162 rfl rfl ?_
  refine s_alloc hC (Term.enc (⟨A8.zero, 0⟩ : Term)) z162 rfl fun b66 w68 hB_ hC => ?_
  refine s_store (v := .agg (List.toArray (Term.enc (a1.terms.getD i55 default)))) hC 0 (Term.enc (a1.terms.getD i55 default)) (Term.enc (a1.terms.getD i55 default)) rfl ag162.size rfl rfl rfl rfl rfl (Nat.le_of_ble_eq_true rfl) rfl fun w69 hC => ?_
  refine dn ?_
  refine sr ?_
  refine s_faddrB 0 Tryz.underlying162 rfl ag136.size rfl rfl ?_
  refine s_loadA hC 0 (A8.enc .u8 ((a1.terms.getD i55 default).mono)) rfl ag136 rfl rfl rfl ?_
  refine s_call [.agg (List.toArray (A8.enc .u8 ((a1.terms.getD i55 default).mono)))] _ Tryz.func134 rfl rfl rfl (c_impl_powerOf ((a1.terms.getD i55 default).mono) h _) (fun ret70 w72 hR71 => ?_)
  obtain ⟨r73, rfl, h, hB74⟩ := hR71
  refine ⟨_, rfl, ?_⟩
  replace hC := hC.grow hB74
  refine s_mv (v := u0_0) (sx hS_ 0 rfl) ?_
  refine s_call [.agg (List.toArray (A8.enc .i64 r73)), u0_0] _ Tryz.func183 rfl rfl rfl (c_impl_power_degree r73 a0 h _ (hC.getP 1 rfl)) (fun ret75 w77 hR76 => ?_)
  obtain ⟨r78, rfl, h, hB79⟩ := hR76
  refine ⟨_, rfl, ?_⟩
  replace hC := hC.grow hB79
  refine s_as (v := .int .i64 r78) rfl ?_
  refine dn ?_
  refine wp_seq ?_
  refine sr ?_
  refine s_mv (v := .int .i64 s56) (sx hS_ 3 rfl) ?_
  refine s_geq rfl rfl ?_
  refine s_mv (v := .bool (decide (s56 ≥ 0))) rfl ?_
  refine bsplit (decide (s56 ≥ 0)) (fun hb80 => ?_) (fun hb80 => ?_)
  ·replace h := ift h (ct hb80)
   refine guardOn 2 24 rfl rfl hb80 ?_
   refine s_mv (v := .int .i64 r78) rfl ?_
   refine guardOn 2 24 rfl rfl hb80 ?_
   refine s_mv (v := .int .i64 s56) (sx hS_ 3 rfl) ?_
   refine guardOn 2 24 rfl rfl hb80 ?_
   refine s_neq rfl rfl ?_
   refine s_pick (v := .bool (decide (r78 ≠ s56))) (b := true) (tr rfl (congrArg _ hb80)) rfl ?_
   refine dn ?_
   refine cw_cond rfl (fun hb81 => ?_) (fun hb81 => ?_)
   ·replace h := ift h (ct hb81)
    refine sr ?_
    refine s_as (v := .int .i64 0) rfl ?_
    refine s_as (v := .bool false) rfl ?_
    refine dn ?_
    refine wp_ret (then_ret (blk_ret (then_ret (then_ret (blk_ret (then_ret ?_))))))
    refine ret2 (fn := Tryz.f132) rfl ?_ ?_ ⟨0, false, rfl, h, hC.below⟩ (.inl rfl)
    ·exact res_tmp rfl
    ·exact res_tmp rfl
   ·replace h := iff_ h (cf hb81)
    refine wp_skip ?_
    refine then_norm ?_
    refine cw_region ?_
    refine s_mv (v := .int .i64 r78) rfl ?_
    refine s_as (v := .int .i64 r78) rfl ?_
    refine done ?_
    refine blk_norm ?_
    refine then_norm ?_
    refine cw_region ?_
    refine s_add (sx hS_ 6 rfl) rfl ?_
    refine s_mv (v := .int .i64 (IntKind.i64.wrap ((i55 : Int) + 1))) rfl ?_
    refine done ?_
    replace hC := hC.sM [] (M' := []) (by decide) rfl
    exact hK60 r78 _ _ ⟨(sk (sx hS_ 0 rfl) (sk (sx hS_ 1 rfl) (sk (sx hS_ 2 rfl) (sk rfl (sk (sx hS_ 4 rfl) (sk (sx hS_ 5 rfl) (sk (tr rfl (congrArg _ (wrap64_nat hi61 hN57))) sn))))))), hC⟩ h
  ·replace h := iff_ h (cf hb80)
   refine guardOff (b := false) 2 24 rfl (tr rfl (congrArg _ hb80)) (by decide) ?_
   refine guardOff (b := false) 2 24 rfl (tr rfl (congrArg _ hb80)) (by decide) ?_
   refine guardOff (b := false) 2 24 rfl (tr rfl (congrArg _ hb80)) (by decide) ?_
   refine s_pick (v := .bool false) (b := false) (tr rfl (congrArg _ hb80)) rfl ?_
   refine dn ?_
   refine cw_false rfl rfl ?_
   refine wp_skip ?_
   refine then_norm ?_
   refine cw_region ?_
   refine s_mv (v := .int .i64 r78) rfl ?_
   refine s_as (v := .int .i64 r78) rfl ?_
   refine done ?_
   refine blk_norm ?_
   refine then_norm ?_
   refine cw_region ?_
   refine s_add (sx hS_ 6 rfl) rfl ?_
   refine s_mv (v := .int .i64 (IntKind.i64.wrap ((i55 : Int) + 1))) rfl ?_
   refine done ?_
   replace hC := hC.sM [] (M' := []) (by decide) rfl
   exact hK60 r78 _ _ ⟨(sk (sx hS_ 0 rfl) (sk (sx hS_ 1 rfl) (sk (sx hS_ 2 rfl) (sk rfl (sk (sx hS_ 4 rfl) (sk (sx hS_ 5 rfl) (sk (tr rfl (congrArg _ (wrap64_nat hi61 hN57))) sn))))))), hC⟩ h
 ·clear hC h
  rintro s56 e_ w82 K59 ⟨hS_, hC⟩ h
  refine sr ?_
  refine s_lss (sx hS_ 6 rfl) (sx hS_ 5 rfl) ?_
  refine dn ?_
  refine wp_seq ?_
  refine cw_false rfl (decide_eq_false (by omega)) ?_
  refine wp_exit (then_exit (then_exit (exit_in ?_)))
  refine then_norm ?_
  refine sr ?_
  refine s_mv (v := .int .i64 s56) (sx hS_ 3 rfl) ?_
  refine s_as (v := .int .i64 s56) rfl ?_
  refine s_as (v := .bool true) rfl ?_
  refine dn ?_
  refine wp_ret ?_
  refine ret2 (fn := Tryz.f132) rfl ?_ ?_ ⟨s56, true, rfl, h, hC.below⟩ (.inl rfl)
  ·exact res_tmp rfl
  ·exact res_tmp rfl
 ·skip
  replace hC := hC.sM [] (M' := []) (by decide) rfl
  exact ⟨(sk rfl (sk rfl (sk rfl (sk rfl (sk rfl (sk rfl (sk rfl sn))))))), hC⟩
def f_impl_isOfDegree (a0 : List Int) (a1 : Vc.Form) (a2 : Int) (K : Bool → Prop) : Prop :=
 f_impl_degreeOf a0 a1 (fun r11 r12 => (if r12 = true then (if r11 = (-1) then K true else K (decide (r11 = a2))) else K false))
theorem c_impl_isOfDegree (a0 : List Int) (a1 : Vc.Form) (a2 : Int) {u0_0 : Value} {u1_0 : Value} {fp0 : List Nat} {fp1 : List Nat} {K : Bool → Prop} (h : f_impl_isOfDegree a0 a1 a2 K) (w0 : World) (q0 : ((EI .i64).ty.sl).rep a0 [u0_0] fp0 w0) (q1 : TForm.rep a1 [u1_0] fp1 w0) :
  Calls Tryz.prog 152 #[u0_0, .agg #[u1_0], .int .i64 a2] w0 fun e w' => ∃ (r0 : Bool), 
   e = .returned (.bool r0) ∧ K r0 ∧ Bel w0 w' := by
 unfold f_impl_isOfDegree at h
 refine calls_of (args := [u0_0, .agg #[u1_0], .int .i64 a2]) Tryz.func152 rfl 25 Tryz.ntmps152 (Nat.le_of_ble_eq_true rfl) ?_
 have hC := Ctx.start (X := Nox) w0 [Ty.item ((EI .i64).ty.sl) a0 [u0_0] fp0, Ty.item TForm a1 [u1_0] fp1] (by simp only [List.mem_cons, List.not_mem_nil, or_false, forall_eq_or_imp, forall_eq]; exact ⟨q0, q1⟩)
 have hp3 := (hC.getP 1 rfl)
 replace hC := hC.derive 1 rfl (Ty.item ETerm.ty.sl a1.terms [u1_0] fp1) (fun _ => (form_parts hp3)) (fun _ hb_ => hb_)
 refine sr ?_
 refine s_box (v := .agg #[u1_0]) hC [u1_0] rfl rfl fun b5 w7 hB_ hC => ?_
 refine s_as (v := .bool false) rfl ?_
 refine dn ?_
 refine sr ?_
 refine s_mv (v := u0_0) rfl ?_
 refine s_loadA hC 0 [u1_0] rfl ag55 rfl rfl rfl ?_
 refine s_call [u0_0, .agg #[u1_0]] _ Tryz.func132 rfl rfl rfl (c_impl_degreeOf a0 a1 h _ (hC.getP 1 rfl) (form_mk (hC.getP 0 rfl))) (fun ret8 w10 hR9 => ?_)
 obtain ⟨r11, r12, rfl, h, hB13⟩ := hR9
 refine ⟨_, rfl, ?_⟩
 replace hC := hC.grow hB13
 refine s_mv (v := .tuple #[.int .i64 r11, .bool r12]) rfl ?_
 refine s_ext (v := .int .i64 r11) rfl rfl ?_
 refine s_ext (v := .bool r12) rfl rfl ?_
 refine s_as (v := .int .i64 r11) rfl ?_
 refine s_as (v := .bool r12) rfl ?_
 refine dn ?_
 refine sr ?_
 refine s_mv (v := .bool r12) rfl ?_
 refine s_mv (v := .bool r12) rfl ?_
 refine bsplit r12 (fun hb14 => ?_) (fun hb14 => ?_)
 ·replace h := ift h (hb14)
  refine guardOn 1 16 rfl rfl hb14 ?_
  refine s_mv (v := .int .i64 r11) rfl ?_
  refine guardOn 1 16 rfl rfl hb14 ?_
  refine s_eql rfl rfl ?_
  refine guardOn 1 16 rfl rfl hb14 ?_
  refine s_mv (v := .bool (decide (r11 = (-1)))) rfl ?_
  refine bsplit (decide (r11 = (-1))) (fun hb15 => ?_) (fun hb15 => ?_)
  ·replace h := ift h (ct hb15)
   refine guardOff (b := true) 4 19 rfl (tr rfl (congrArg _ hb15)) (by decide) ?_
   refine guardOff (b := true) 4 19 rfl (tr rfl (congrArg _ hb15)) (by decide) ?_
   refine guardOff (b := true) 4 19 rfl (tr rfl (congrArg _ hb15)) (by decide) ?_
   refine guardOn 1 16 rfl rfl hb14 ?_
   refine s_pick (v := .bool true) (b := true) (tr rfl (congrArg _ hb15)) rfl ?_
   refine s_pick (v := .bool true) (b := true) (tr rfl (congrArg _ hb14)) rfl ?_
   refine s_as (v := .bool true) rfl ?_
   refine dn ?_
   refine wp_ret ?_
   refine ret1 (fn := Tryz.f152) rfl ?_ ⟨true, rfl, h, hC.below⟩ (.inl rfl)
   exact res_tmp rfl
  ·replace h := iff_ h (cf hb15)
   refine guardOn 4 19 rfl rfl hb15 ?_
   refine s_mv (v := .int .i64 r11) rfl ?_
   refine guardOn 4 19 rfl rfl hb15 ?_
   refine s_mv (v := .int .i64 a2) rfl ?_
   refine guardOn 4 19 rfl rfl hb15 ?_
   refine s_eql rfl rfl ?_
   refine guardOn 1 16 rfl rfl hb14 ?_
   refine s_pick (v := .bool (decide (r11 = a2))) (b := false) (tr rfl (congrArg _ hb15)) rfl ?_
   refine s_pick (v := .bool (decide (r11 = a2))) (b := true) (tr rfl (congrArg _ hb14)) rfl ?_
   refine s_as (v := .bool (decide (r11 = a2))) rfl ?_
   refine dn ?_
   refine wp_ret ?_
   refine ret1 (fn := Tryz.f152) rfl ?_ ⟨decide (r11 = a2), rfl, h, hC.below⟩ (.inl rfl)
   exact res_tmp rfl
 ·replace h := iff_ h (ne_t hb14)
  refine guardOff (b := false) 1 16 rfl (tr rfl (congrArg _ hb14)) (by decide) ?_
  refine guardOff (b := false) 1 16 rfl (tr rfl (congrArg _ hb14)) (by decide) ?_
  refine guardOff (b := false) 1 16 rfl (tr rfl (congrArg _ hb14)) (by decide) ?_
  refine guardOffU 4 19 rfl rfl ?_
  refine guardOffU 4 19 rfl rfl ?_
  refine guardOffU 4 19 rfl rfl ?_
  refine guardOff (b := false) 1 16 rfl (tr rfl (congrArg _ hb14)) (by decide) ?_
  refine s_pick (v := .bool false) (b := false) (tr rfl (congrArg _ hb14)) rfl ?_
  refine s_as (v := .bool false) rfl ?_
  refine dn ?_
  refine wp_ret ?_
  refine ret1 (fn := Tryz.f152) rfl ?_ ⟨false, rfl, h, hC.below⟩ (.inl rfl)
  exact res_tmp rfl
def f_impl_Algebra_images (a0 : Alg) (K : List (Option (List (A8 × Int))) → Prop) : Prop :=
 forN (fun i100 (s101 : (List (Option (List (A8 × Int))))) next107 => f_impl_sumOf (a0.images.getD i100 default) (fun r128 => ((0 ≤ (i100 : Int) ∧ (i100 : Int) < 8) ∧ next107 (s101.set i100 (some r128))))) (fun (s101 : (List (Option (List (A8 × Int))))) => K s101) a0.images.length 0 (List.replicate 8 none : List (Option (List (A8 × Int))))
theorem c_impl_Algebra_images (a0 : Alg) {b0 : Nat} {u0_0 : Value} {u0_1 : Value} {fp0 : List Nat} {K : List (Option (List (A8 × Int))) → Prop} (h : f_impl_Algebra_images a0 K) (w0 : World) (q0 : TAlg.rep a0 [u0_0, u0_1] fp0 w0) (qb0 : (blk b0 32 [u0_0, u0_1]).holds w0) :
  Calls Tryz.prog 191 #[.pointer (some ⟨b0, 0, none⟩)] w0 fun e w' => ∃ (r0 : List (Option (List (A8 × Int)))) (zc0 : List Value) (fz0 : List Nat), 
   e = .returned (.agg (List.toArray zc0)) ∧ K r0 ∧ (TMaps (kvA .i64) (vvI .i64) 8).rep r0 zc0 fz0 w' ∧ (∀ b, b ∈ fz0 → w0.heap.size ≤ b) ∧ Bel w0 w' := by
 unfold f_impl_Algebra_images at h
 refine calls_of (args := [.pointer (some ⟨b0, 0, none⟩)]) Tryz.func191 rfl 23 Tryz.ntmps191 (Nat.le_of_ble_eq_true rfl) ?_
 have hC := Ctx.start (X := Nox) w0 [Ty.item TAlg a0 [u0_0, u0_1] fp0, blk b0 32 [u0_0, u0_1]] (by simp only [List.mem_cons, List.not_mem_nil, or_false, forall_eq_or_imp, forall_eq]; exact ⟨q0, qb0⟩)
 have hp3 := (hC.getP 0 rfl)
 replace hC := hC.derive 0 rfl (Ty.item ((EI .i64).ty.sl) a0.degrees [u0_0] fp0) (fun _ => (alg_parts hp3).1) (fun _ hb_ => hb_)
 replace hC := hC.derive 1 rfl (Ty.item TForm.sl a0.images [u0_1] fp0) (fun _ => (alg_parts hp3).2) (fun _ hb_ => hb_)
 refine sr ?_
 refine s_alloc hC (List.replicate 8 (Value.map none)) z211 rfl fun b6 w8 hB_ hC => ?_
 refine dn ?_
 refine sr ?_
 refine s_build (v := .agg (List.toArray (List.replicate 8 (Value.map none)))) [] rfl (bl211 _) ?_
 refine s_alloc hC (List.replicate 8 (Value.map none)) z211 rfl fun b9 w11 hB_ hC => ?_
 replace hC := hC.pushE (Ty.item (TMaps (kvA .i64) (vvI .i64) 8) (List.replicate 8 none : List (Option (List (A8 × Int)))) (List.replicate 8 (Value.map none)) []) (maps_zero (kvA .i64) (vvI .i64) 8 _) rfl
 replace hC := hC.pushE (Ty.item (TMaps (kvA .i64) (vvI .i64) 8) (List.replicate 8 none : List (Option (List (A8 × Int)))) (List.replicate 8 (Value.map none)) []) (maps_zero (kvA .i64) (vvI .i64) 8 _) rfl
 have hl13 := maps_len (hC.getP 1 rfl)
 have hl15 := maps_len (hC.getP 0 rfl)
 refine s_store (v := .agg (List.toArray (List.replicate 8 (Value.map none)))) hC 0 (List.replicate 8 (Value.map none)) (List.replicate 8 (Value.map none)) rfl ag211.size rfl rfl rfl hl15 (maps_all (hC.getP 0 rfl)) (by rw [hl13]; exact Nat.le_refl _) (splice_all (hl15.trans hl13.symm)) fun w16 hC => ?_
 refine dn ?_
 refine wp_seq ?_
 refine sr ?_
 refine s_mv (v := .pointer (some ⟨b0, 0, none⟩)) rfl ?_
 refine s_nilchk rfl ?_
 refine s_faddrB 1 Tryz.underlying32 rfl sc30.size rfl rfl ?_
 refine s_loadSh (u0_1) (hC.getP 5 rfl) sc30 rfl rfl ?_
 obtain ⟨Ad17, c18, hv19⟩ := sl_len (hC.getP 2 rfl)
 refine s_len Tryz.underlying30 (tr rfl hv19) ?_
 refine s_mv (v := .int .i64 0) rfl ?_
 refine dn ?_
 refine wp_block ?_
 have hN106 : a0.images.length ≤ 9223372036854775807 := sl_max (hC.getP 2 rfl)
 refine loopN (S := (List (Option (List (A8 × Int))))) _ _ (fun i100 s101 e_ w_ => ∃ (v102 : List Value), ∃ (f103 : List Nat), Slots e_ [(2, .pointer (some ⟨b6, 0, none⟩)), (3, .pointer (some ⟨b9, 0, none⟩)), (10, u0_1), (11, .int .i64 (a0.images.length : Int)), (12, .int .i64 (i100 : Int))] ∧ (∀ b, b ∈ f103 → w0.heap.size ≤ b) ∧ Ctx Nox w0 w_ [blk b9 211 v102, blk b6 211 (List.replicate 8 (Value.map none))] [Ty.item (TMaps (kvA .i64) (vvI .i64) 8) s101 v102 f103, Ty.item TForm.sl a0.images [u0_1] fp0, Ty.item ((EI .i64).ty.sl) a0.degrees [u0_0] fp0, Ty.item TAlg a0 [u0_0, u0_1] fp0, blk b0 32 [u0_0, u0_1]]) a0.images.length ?_ ?_ (s0 := (List.replicate 8 none : List (Option (List (A8 × Int))))) ?_ h
 ·clear hC h
  rintro i100 s101 e_ w111 next107 K108 hi110 ⟨v102, f103, hS_, hq104, hC⟩ h hK109
  refine sr ?_
  refine s_lss (sx hS_ 4 rfl) (sx hS_ 3 rfl) ?_
  refine dn ?_
  refine wp_seq ?_
  refine cw_true rfl (decide_eq_true (by omega)) ?_
  refine wp_skip ?_
  refine then_norm ?_
  refine wp_seq ?_
  refine wp_block ?_
  refine sr ?_
  refine s_mv (v := .int .i64 (i100 : Int)) (sx hS_ 4 rfl) ?_
  obtain ⟨Ad112, c113, hv114⟩ := sl_form (hC.getP 1 rfl) i100 hi110
  refine s_iaddrS (len := a0.images.length) Tryz.underlying30 ag55.size (tr (sx hS_ 2 rfl) hv114) (sx hS_ 4 rfl) (Int.natCast_nonneg _) (Int.ofNat_lt.2 hi110) ?_
  obtain ⟨cs_, hl116, hc117, hr118⟩ := sl_cells (hC.getP 1 rfl) hv114 i100 hi110
  obtain ⟨u115, rfl⟩ := List.length_eq_one_iff.1 hl116
  clear hl116
  rw [getD_eq _ _ hi110] at hr118
  have hp119 := hr118
  replace hC := hC.derive 1 rfl (Ty.item ETerm.ty.sl ((a0.images.getD i100 default).terms) [u115] fp0) (fun _ => (form_parts hp119)) (fun _ hb_ => hb_)
  refine s_loadCA [u115] hc117 ag55 rfl rfl ?_
  refine s_alloc hC [.slice none 0 0] z55 rfl fun b121 w123 hB_ hC => ?_
  refine s_as (v := .int .i64 (i100 : Int)) rfl ?_
  refine s_store (v := .agg #[u115]) hC 0 [u115] [u115] rfl ag55.size rfl rfl rfl rfl (all_c (rep_oneC (hC.getP 0 rfl)) rfl) (Nat.le_of_ble_eq_true rfl) rfl fun w124 hC => ?_
  refine dn ?_
  refine cw_region ?_
  refine s_mv (v := .int .i64 (i100 : Int)) rfl ?_
  refine s_loadA hC 0 [u115] rfl ag55 rfl rfl rfl ?_
  refine s_call [.agg #[u115]] _ Tryz.func78 rfl rfl rfl (c_impl_sumOf (a0.images.getD i100 default) h _ (form_mk (hC.getP 0 rfl))) (fun ret125 w127 hR126 => ?_)
  obtain ⟨r128, b129, rfl, h, hr130, hf131, hB132⟩ := hR126
  refine ⟨_, rfl, ?_⟩
  replace hC := hC.push hB132 (mapI (kvA .i64) (vvI .i64) b129 r128) hr130 (fun b_ hb_ => by obtain rfl := List.mem_singleton.1 hb_; exact hf131)
  obtain ⟨⟨h0_134, h1_135⟩, h⟩ := h
  refine s_iaddrB i100 Tryz.underlying211 sc115.size (sx hS_ 1 rfl) rfl h0_134 h1_135 (by omega) ?_
  have hf137 := map_fresh hC 0 rfl
  replace hC := hC.thaw 0 rfl (mapI (kvA .i64) (vvI .i64) b129 r128) id (fun _ hb_ => hb_)
  replace hC := hC.joinP 0 2 rfl rfl (Ty.item (TMaps (kvA .i64) (vvI .i64) 8) (s101.set i100 (some r128)) (v102.set i100 (Value.map (some b129))) (b129 :: f103)) (fun a_ b_ => maps_set b_ a_) (fun c_ hc_ => (List.mem_cons.1 hc_).elim (fun h_ => .inl (by rw [h_]; exact List.mem_singleton.2 rfl)) .inr)
  have hs138 : ∀ b, b ∈ (b129 :: f103) → w0.heap.size ≤ b := (fun b hb => (List.mem_cons.1 hb).elim (fun h_ => by rw [h_]; exact hf137) (fun hb => hq104 b hb))
  have hl136 := maps_len (hC.getP 3 rfl)
  refine s_store (v := .map (some b129)) hC 1 [.map (some b129)] (v102.set i100 (Value.map (some b129))) rfl sc115.size rfl rfl rfl rfl rfl (by rw [hl136]; omega) (splice1 (by rw [hl136]; omega) (by omega)) fun w141 hC => ?_
  refine done ?_
  refine blk_norm ?_
  refine then_norm ?_
  refine cw_region ?_
  refine s_add (sx hS_ 4 rfl) rfl ?_
  refine s_mv (v := .int .i64 (IntKind.i64.wrap ((i100 : Int) + 1))) rfl ?_
  refine done ?_
  replace hC := hC.sM [1, 2] (M' := [blk b9 211 (v102.set i100 (Value.map (some b129))), blk b6 211 (List.replicate 8 (Value.map none))]) (by decide) rfl
  replace hC := hC.sP [0, 4, 5, 6, 7] (Ps' := [Ty.item (TMaps (kvA .i64) (vvI .i64) 8) (s101.set i100 (some r128)) (v102.set i100 (Value.map (some b129))) (b129 :: f103), Ty.item TForm.sl a0.images [u0_1] fp0, Ty.item ((EI .i64).ty.sl) a0.degrees [u0_0] fp0, Ty.item TAlg a0 [u0_0, u0_1] fp0, blk b0 32 [u0_0, u0_1]]) rfl
  exact hK109 (s101.set i100 (some r128)) _ _ ⟨v102.set i100 (Value.map (some b129)), (b129 :: f103), (sk (sx hS_ 0 rfl) (sk (sx hS_ 1 rfl) (sk (sx hS_ 2 rfl) (sk (sx hS_ 3 rfl) (sk (tr rfl (congrArg _ (wrap64_nat hi110 hN106))) sn))))), hs138, hC⟩ h
 ·clear hC h
  rintro s101 e_ w142 K108 ⟨v102, f103, hS_, hq104, hC⟩ h
  refine sr ?_
  refine s_lss (sx hS_ 4 rfl) (sx hS_ 3 rfl) ?_
  refine dn ?_
  refine wp_seq ?_
  refine cw_false rfl (decide_eq_false (by omega)) ?_
  refine wp_exit (then_exit (then_exit (exit_in ?_)))
  refine then_norm ?_
  refine sr ?_
  have hl143 := maps_len (hC.getP 0 rfl)
  refine s_loadA hC 0 v102 rfl ag211 (sx hS_ 1 rfl) (drop0_take hl143) hl143 ?_
  replace hC := hC.pushE (Ty.item (TMaps (kvA .i64) (vvI .i64) 8) (List.replicate 8 none : List (Option (List (A8 × Int)))) (List.replicate 8 (Value.map none)) []) (maps_zero (kvA .i64) (vvI .i64) 8 _) rfl
  have hl145 := maps_len (hC.getP 0 rfl)
  have hl146 := maps_len (hC.getP 1 rfl)
  refine s_store (v := .agg (List.toArray v102)) hC 1 v102 v102 rfl ag211.size (sx hS_ 0 rfl) rfl rfl hl146 (maps_all (hC.getP 1 rfl)) (by rw [hl145]; exact Nat.le_refl _) (splice_all (hl146.trans hl145.symm)) fun w147 hC => ?_
  refine dn ?_
  refine wp_ret ?_
  refine ret1 (fn := Tryz.f191) rfl ?_ ⟨s101, v102, f103, rfl, h, (hC.getP 1 rfl), (fun b hb => hq104 b hb), hC.below⟩ (.inl rfl)
  exact res_cellA hC 1 rfl ag211 (sx hS_ 0 rfl) (maps_len (hC.getP 1 rfl))
 ·skip
  replace hC := hC.sP [0, 2, 3, 4, 5] (Ps' := [Ty.item (TMaps (kvA .i64) (vvI .i64) 8) (List.replicate 8 none : List (Option (List (A8 × Int)))) (List.replicate 8 (Value.map none)) [], Ty.item TForm.sl a0.images [u0_1] fp0, Ty.item ((EI .i64).ty.sl) a0.degrees [u0_0] fp0, Ty.item TAlg a0 [u0_0, u0_1] fp0, blk b0 32 [u0_0, u0_1]]) rfl
  exact ⟨List.replicate 8 (Value.map none), [], (sk rfl (sk rfl (sk rfl (sk rfl (sk rfl sn))))), (fun b hb => absurd hb (by simp)), hC⟩
def f_impl_Algebra_d (a0 : Alg) (a1 : List (A8 × Int)) (K : List (A8 × Int) → Prop) : Prop :=
 f_impl_Algebra_images a0 (fun r13 => mapP (fun (q36 : A8 × Int) (s8815 : (List (A8 × Int))) next8816 => forN (fun i11745 (s11746 : A8 × (List (A8 × Int)) × Int) next11747 => (if q36.1.get i11745 > 0 then whileP (fun (s12711 : A8 × Int) next12712 => (if s12711.2 < IntKind.i64.wrap ((i11745 : Int) + 1) then ((0 ≤ s12711.2 ∧ s12711.2 < 8) ∧ next12712 (s12711.1.set s12711.2.toNat 0, IntKind.i64.wrap (s12711.2 + 1))) else (∃ ml12728, r13[i11745]? = some (some ml12728) ∧ f_impl_sum_times (mset ([] : List (A8 × Int)) (s11746.1.set i11745 (IntKind.i64.wrap ((q36.1.get i11745) - 1))) 1) a0.degrees ml12728 (fun r12983 => f_impl_sum_times r12983 a0.degrees (mset ([] : List (A8 × Int)) s12711.1 1) (fun r12996 => f_impl_field (IntKind.i64.wrap ((IntKind.i64.wrap (s11746.2.2 * q36.2)) * (q36.1.get i11745))) (fun r12956 => f_impl_sum_addAll s11746.2.1 r12996 r12956 (fun m12962 => (if (i11745 : Int) < (a0.degrees.length : Int) then ((0 ≤ (i11745 : Int) ∧ (i11745 : Int) < (a0.degrees.length : Int)) ∧ (if Int.tmod (a0.degrees.getD i11745 default) 2 = 1 then (if Int.tmod (q36.1.get i11745) 2 = 1 then next11747 (s11746.1.set i11745 (q36.1.get i11745), m12962, IntKind.i64.wrap (0 - s11746.2.2)) else next11747 (s11746.1.set i11745 (q36.1.get i11745), m12962, s11746.2.2)) else next11747 (s11746.1.set i11745 (q36.1.get i11745), m12962, s11746.2.2))) else next11747 (s11746.1.set i11745 (q36.1.get i11745), m12962, s11746.2.2))))))))) (q36.1, 0) else (if (i11745 : Int) < (a0.degrees.length : Int) then ((0 ≤ (i11745 : Int) ∧ (i11745 : Int) < (a0.degrees.length : Int)) ∧ (if Int.tmod (a0.degrees.getD i11745 default) 2 = 1 then (if Int.tmod (q36.1.get i11745) 2 = 1 then next11747 (s11746.1.set i11745 (q36.1.get i11745), s11746.2.1, IntKind.i64.wrap (0 - s11746.2.2)) else next11747 (s11746.1.set i11745 (q36.1.get i11745), s11746.2.1, s11746.2.2)) else next11747 (s11746.1.set i11745 (q36.1.get i11745), s11746.2.1, s11746.2.2))) else next11747 (s11746.1.set i11745 (q36.1.get i11745), s11746.2.1, s11746.2.2)))) (fun (s11746 : A8 × (List (A8 × Int)) × Int) => next8816 s11746.2.1) 8 0 (A8.zero, s8815, 1)) (fun (s8815 : (List (A8 × Int))) => K s8815) a1.length a1 ([] : List (A8 × Int)))
theorem c_impl_Algebra_d (a0 : Alg) (a1 : List (A8 × Int)) {b0 : Nat} {b1 : Nat} {u0_0 : Value} {u0_1 : Value} {fp0 : List Nat} {K : List (A8 × Int) → Prop} (h : f_impl_Algebra_d a0 a1 K) (w0 : World) (q0 : TAlg.rep a0 [u0_0, u0_1] fp0 w0) (qb0 : (blk b0 32 [u0_0, u0_1]).holds w0) (q1 : (mapI (kvA .i64) (vvI .i64) b1 a1).holds w0) :
  Calls Tryz.prog 154 #[.pointer (some ⟨b0, 0, none⟩), .map (some b1)] w0 fun e w' => ∃ (r0 : List (A8 × Int)) (zb0 : Nat), 
   e = .returned (.map (some zb0)) ∧ K r0 ∧ (mapI (kvA .i64) (vvI .i64) zb0 r0).holds w' ∧ w0.heap.size ≤ zb0 ∧ Bel w0 w' := by
 unfold f_impl_Algebra_d at h
 refine calls_of (args := [.pointer (some ⟨b0, 0, none⟩), .map (some b1)]) Tryz.func154 rfl 107 Tryz.ntmps154 (Nat.le_of_ble_eq_true rfl) ?_
 have hC := Ctx.start (X := Nox) w0 [Ty.item TAlg a0 [u0_0, u0_1] fp0, blk b0 32 [u0_0, u0_1], mapI (kvA .i64) (vvI .i64) b1 a1] (by simp only [List.mem_cons, List.not_mem_nil, or_false, forall_eq_or_imp, forall_eq]; exact ⟨q0, qb0, q1⟩)
 have hp4 := (hC.getP 0 rfl)
 replace hC := hC.derive 0 rfl (Ty.item ((EI .i64).ty.sl) a0.degrees [u0_0] fp0) (fun _ => (alg_parts hp4).1) (fun _ hb_ => hb_)
 replace hC := hC.derive 1 rfl (Ty.item TForm.sl a0.images [u0_1] fp0) (fun _ => (alg_parts hp4).2) (fun _ hb_ => hb_)
 refine sr ?_
 refine s_as (v := .map none) rfl ?_
 refine dn ?_
 refine sr ?_
 refine s_makeMap hC (kvA .i64) (vvI .i64) fun b7 w9 hB_ hC => ?_
 refine s_mv (v := .pointer (some ⟨b0, 0, none⟩)) rfl ?_
 refine s_call [.pointer (some ⟨b0, 0, none⟩)] _ Tryz.func191 rfl rfl rfl (c_impl_Algebra_images a0 h _ (alg_mk (hC.getP 1 rfl) (hC.getP 0 rfl)) (hC.getP 3 rfl)) (fun ret10 w12 hR11 => ?_)
 obtain ⟨r13, cs14, f15, rfl, h, hr16, hf17, hB18⟩ := hR11
 refine ⟨_, rfl, ?_⟩
 have hs19 := fresh_on hC.size hf17
 replace hC := hC.pushR hB18 (Ty.item (TMaps (kvA .i64) (vvI .i64) 8) r13 cs14 f15) hr16 (fun b hb => .inl (hf17 b hb))
 refine s_alloc hC (List.replicate 8 (Value.map none)) z211 rfl fun b21 w23 hB_ hC => ?_
 refine s_as (v := .map (some b7)) rfl ?_
 replace hC := hC.pushE (Ty.item (TMaps (kvA .i64) (vvI .i64) 8) (List.replicate 8 none : List (Option (List (A8 × Int)))) (List.replicate 8 (Value.map none)) []) (maps_zero (kvA .i64) (vvI .i64) 8 _) rfl
 have hl25 := maps_len (hC.getP 0 rfl)
 have hl26 := maps_len (hC.getP 1 rfl)
 refine s_store (v := .agg (List.toArray cs14)) hC 0 cs14 cs14 rfl ag211.size rfl rfl rfl hl26 (maps_all (hC.getP 1 rfl)) (by rw [hl25]; exact Nat.le_refl _) (splice_all (hl26.trans hl25.symm)) fun w27 hC => ?_
 refine dn ?_
 refine wp_seq ?_
 refine sr ?_
 refine s_mv (v := .map (some b1)) rfl ?_
 refine s_range hC 6 rfl Tryz.underlying115 rfl fun r28 es29 ck30 w35 hB_ hn31 hbn32 hC => ?_
 refine dn ?_
 refine wp_block ?_
 refine loopM (S := (List (A8 × Int))) _ _ (fun l38 s8815 e_ w_ => ∃ (la40 : Option MapEntry), Slots e_ [(0, .pointer (some ⟨b0, 0, none⟩)), (4, .map none), (5, .map (some b7)), (6, .pointer (some ⟨b21, 0, none⟩)), (21, .pointer (some ⟨r28, 0, none⟩))] ∧ Ctx Nox w0 w_ [itI (kvA .i64) (vvI .i64) r28 b1 es29 ck30 la40 l38, blk b21 211 cs14, mapI (kvA .i64) (vvI .i64) b7 s8815] [mapE b1 es29 ck30, Ty.item (TMaps (kvA .i64) (vvI .i64) 8) r13 cs14 f15, Ty.item TForm.sl a0.images [u0_1] fp0, Ty.item ((EI .i64).ty.sl) a0.degrees [u0_0] fp0, Ty.item TAlg a0 [u0_0, u0_1] fp0, blk b0 32 [u0_0, u0_1], mapI (kvA .i64) (vvI .i64) b1 a1]) ?_ (l0 := a1) (s0 := ([] : List (A8 × Int))) ?_ h
 ·clear hC h
  rintro l38 s8815 e_ w8819 next8816 K8817 ⟨la40, hS_, hC⟩ h hK8818
  refine sr ?_
  refine s_next hC 0 0 rfl rfl hn31 hbn32 (sx hS_ 4 rfl) (fun hr8820 => ?_) (fun q36 l37 ent8821 w8824 hp39 hk8822 hv8823 hC => ?_)
  ·replace h := h.1 hr8820
   refine s_ext (v := .bool false) rfl rfl ?_
   refine dn ?_
   refine wp_seq ?_
   refine cw_false rfl rfl ?_
   refine wp_exit (then_exit (then_exit (exit_in ?_)))
   refine then_norm ?_
   refine sr ?_
   refine s_mv (v := .map (some b7)) (sx hS_ 2 rfl) ?_
   refine s_as (v := .map (some b7)) rfl ?_
   refine dn ?_
   refine wp_ret ?_
   refine ret1 (fn := Tryz.f154) rfl ?_ ⟨s8815, b7, rfl, h, (hC.getM 2 rfl), (map_fresh hC 2 rfl), hC.below⟩ (.inl rfl)
   exact res_tmp rfl
  ·replace h := h.2 q36 l37 hp39
   refine s_ext (v := .bool true) rfl rfl ?_
   refine dn ?_
   refine wp_seq ?_
   refine cw_true rfl rfl ?_
   refine wp_skip ?_
   refine then_norm ?_
   refine wp_block ?_
   refine sr ?_
   refine s_entry hC 0 0 q36 rfl rfl hn31 (sx hS_ 4 rfl) hk8822 hv8823 ?_
   refine s_ext (v := .agg (List.toArray (A8.enc .i64 q36.1))) rfl rfl ?_
   refine s_ext (v := .int .i64 q36.2) rfl rfl ?_
   refine s_alloc hC (A8.enc .i64 A8.zero) z73 rfl fun b8825 w8827 hB_ hC => ?_
   refine s_store (v := .agg (List.toArray (A8.enc .i64 q36.1))) hC 0 (A8.enc .i64 q36.1) (A8.enc .i64 q36.1) rfl ag73.size rfl rfl rfl rfl rfl (Nat.le_of_ble_eq_true rfl) rfl fun w8828 hC => ?_
   refine s_as (v := .int .i64 q36.2) rfl ?_
   refine dn ?_
   refine sr ?_
   refine s_build [] rfl (bl73   _) ?_
   refine s_alloc hC (A8.enc .i64 A8.zero) z73 rfl fun b8829 w8831 hB_ hC => ?_
   refine s_store (v := .agg (List.toArray (A8.enc .i64 A8.zero))) hC 0 (A8.enc .i64 A8.zero) (A8.enc .i64 A8.zero) rfl ag73.size rfl rfl rfl rfl rfl (Nat.le_of_ble_eq_true rfl) rfl fun w8832 hC => ?_
   refine s_as (v := .int .i64 1) rfl ?_
   refine dn ?_
   refine sr ?_
   refine s_loadA hC 1 (A8.enc .i64 q36.1) rfl ag73 rfl rfl rfl ?_
   refine s_mv (v := .int .i64 0) rfl ?_
   refine dn ?_
   refine wp_block ?_
   refine loopN (S := A8 × (List (A8 × Int)) × Int) _ _ (fun i11745 s11746 e_ w_ => Slots e_ [(0, .pointer (some ⟨b0, 0, none⟩)), (4, .map none), (5, .map (some b7)), (6, .pointer (some ⟨b21, 0, none⟩)), (7, .pointer (some ⟨b8825, 0, none⟩)), (8, .int .i64 q36.2), (9, .pointer (some ⟨b8829, 0, none⟩)), (10, .int .i64 s11746.2.2), (21, .pointer (some ⟨r28, 0, none⟩)), (22, .tuple #[.bool true, .agg (List.toArray (A8.enc .i64 q36.1)), .int .i64 q36.2]), (23, .bool true), (24, .tuple #[.agg (List.toArray (A8.enc .i64 q36.1)), .int .i64 q36.2]), (25, .agg (List.toArray (A8.enc .i64 q36.1))), (26, .int .i64 q36.2), (27, .agg (List.toArray (A8.enc .i64 A8.zero))), (28, .agg (List.toArray (A8.enc .i64 q36.1))), (29, .int .i64 (i11745 : Int))] ∧ Ctx Nox w0 w_ [blk b8829 73 (A8.enc .i64 s11746.1), blk b8825 73 (A8.enc .i64 q36.1), itI (kvA .i64) (vvI .i64) r28 b1 es29 ck30 (some ent8821) l37, blk b21 211 cs14, mapI (kvA .i64) (vvI .i64) b7 s11746.2.1] [mapE b1 es29 ck30, Ty.item (TMaps (kvA .i64) (vvI .i64) 8) r13 cs14 f15, Ty.item TForm.sl a0.images [u0_1] fp0, Ty.item ((EI .i64).ty.sl) a0.degrees [u0_0] fp0, Ty.item TAlg a0 [u0_0, u0_1] fp0, blk b0 32 [u0_0, u0_1], mapI (kvA .i64) (vvI .i64) b1 a1]) 8 ?_ ?_ (s0 := (A8.zero, s8815, 1)) ?_ h
   ·clear hC h
    rintro i11745 s11746 e_ w11751 next11747 K11748 hi11750 ⟨hS_, hC⟩ h hK11749
    refine sr ?_
    refine s_lss (sx hS_ 16 rfl) rfl ?_
    refine dn ?_
    refine wp_seq ?_
    refine cw_true rfl (decide_eq_true (by omega)) ?_
    refine wp_skip ?_
    refine then_norm ?_
    refine wp_seq ?_
    refine wp_block ?_
    refine sr ?_
    refine s_mv (v := .int .i64 (i11745 : Int)) (sx hS_ 16 rfl) ?_
    refine s_index (.int .i64 (q36.1.get i11745)) Tryz.underlying73 (sx hS_ 15 rfl) (sx hS_ 16 rfl) (Int.natCast_nonneg _) (by omega) sc3 (A8.enc_get _ _ hi11750) ?_
    refine s_as (v := .int .i64 (i11745 : Int)) rfl ?_
    refine s_as (v := .int .i64 (q36.1.get i11745)) rfl ?_
    refine dn ?_
    refine wp_seq ?_
    refine sr ?_
    refine s_mv (v := .int .i64 (q36.1.get i11745)) rfl ?_
    refine s_gtr rfl rfl ?_
    refine dn ?_
    refine cw_cond rfl (fun hb11752 => ?_) (fun hb11752 => ?_)
    ·replace h := ift h (ct hb11752)
     refine sr ?_
     refine s_loadA hC 1 (A8.enc .i64 q36.1) rfl ag73 (sx hS_ 4 rfl) rfl rfl ?_
     refine s_alloc hC (A8.enc .i64 A8.zero) z73 rfl fun b11753 w11755 hB_ hC => ?_
     refine s_store (v := .agg (List.toArray (A8.enc .i64 q36.1))) hC 0 (A8.enc .i64 q36.1) (A8.enc .i64 q36.1) rfl ag73.size rfl rfl rfl rfl rfl (Nat.le_of_ble_eq_true rfl) rfl fun w11756 hC => ?_
     refine dn ?_
     refine wp_seq ?_
     refine sr ?_
     refine s_mv (v := .int .i64 (i11745 : Int)) rfl ?_
     refine s_add rfl rfl ?_
     refine s_mv (v := .int .i64 0) rfl ?_
     refine dn ?_
     refine wp_block ?_
     refine loopW (S := A8 × Int) _ (fun s12711 e_ w_ => Slots e_ [(0, .pointer (some ⟨b0, 0, none⟩)), (4, .map none), (5, .map (some b7)), (6, .pointer (some ⟨b21, 0, none⟩)), (7, .pointer (some ⟨b8825, 0, none⟩)), (8, .int .i64 q36.2), (9, .pointer (some ⟨b8829, 0, none⟩)), (10, .int .i64 s11746.2.2), (11, .int .i64 (i11745 : Int)), (12, .int .i64 (q36.1.get i11745)), (13, .pointer (some ⟨b11753, 0, none⟩)), (21, .pointer (some ⟨r28, 0, none⟩)), (22, .tuple #[.bool true, .agg (List.toArray (A8.enc .i64 q36.1)), .int .i64 q36.2]), (23, .bool true), (24, .tuple #[.agg (List.toArray (A8.enc .i64 q36.1)), .int .i64 q36.2]), (25, .agg (List.toArray (A8.enc .i64 q36.1))), (26, .int .i64 q36.2), (27, .agg (List.toArray (A8.enc .i64 A8.zero))), (28, .agg (List.toArray (A8.enc .i64 q36.1))), (29, .int .i64 (i11745 : Int)), (30, .bool (decide ((i11745 : Int) < 8))), (31, .int .i64 (i11745 : Int)), (32, .int .i64 (q36.1.get i11745)), (33, .int .i64 (q36.1.get i11745)), (34, .bool (decide (q36.1.get i11745 > 0))), (35, .agg (List.toArray (A8.enc .i64 q36.1))), (36, .int .i64 (i11745 : Int)), (37, .int .i64 (IntKind.i64.wrap ((i11745 : Int) + 1))), (38, .int .i64 s12711.2)] ∧ Ctx Nox w0 w_ [blk b11753 73 (A8.enc .i64 s12711.1), blk b8829 73 (A8.enc .i64 s11746.1), blk b8825 73 (A8.enc .i64 q36.1), itI (kvA .i64) (vvI .i64) r28 b1 es29 ck30 (some ent8821) l37, blk b21 211 cs14, mapI (kvA .i64) (vvI .i64) b7 s11746.2.1] [mapE b1 es29 ck30, Ty.item (TMaps (kvA .i64) (vvI .i64) 8) r13 cs14 f15, Ty.item TForm.sl a0.images [u0_1] fp0, Ty.item ((EI .i64).ty.sl) a0.degrees [u0_0] fp0, Ty.item TAlg a0 [u0_0, u0_1] fp0, blk b0 32 [u0_0, u0_1], mapI (kvA .i64) (vvI .i64) b1 a1]) ?_ (s0 := (q36.1, 0)) ?_ h
     ·clear hC h
      rintro s12711 e_ w12715 next12712 K12713 ⟨hS_, hC⟩ h hK12714
      refine sr ?_
      refine s_lss (sx hS_ 28 rfl) (sx hS_ 27 rfl) ?_
      refine dn ?_
      refine wp_seq ?_
      refine cw_cond rfl (fun hb12716 => ?_) (fun hb12716 => ?_)
      ·replace h := ift h (ct hb12716)
       refine wp_skip ?_
       refine then_norm ?_
       refine wp_seq ?_
       refine wp_block ?_
       refine sr ?_
       refine s_mv (v := .int .i64 s12711.2) (sx hS_ 28 rfl) ?_
       refine s_as (v := .int .i64 s12711.2) rfl ?_
       refine dn ?_
       refine cw_region ?_
       refine s_mv (v := .int .i64 s12711.2) rfl ?_
       obtain ⟨⟨h0_12717, h1_12718⟩, h⟩ := h
       refine s_iaddrB s12711.2.toNat Tryz.underlying73 sc3.size (sx hS_ 10 rfl) rfl h0_12717 h1_12718 (by omega) ?_
       refine s_store (v := .int .i64 0) hC 0 [.int .i64 0] (A8.enc .i64 (s12711.1.set s12711.2.toNat 0)) rfl sc3.size rfl rfl rfl rfl rfl (show s12711.2.toNat < 8 by omega) (A8.enc_set _ _ _ (show s12711.2.toNat < 8 by omega)) fun w12719 hC => ?_
       refine done ?_
       refine blk_norm ?_
       refine then_norm ?_
       refine cw_region ?_
       refine s_add (sx hS_ 28 rfl) rfl ?_
       refine s_mv (v := .int .i64 (IntKind.i64.wrap (s12711.2 + 1))) rfl ?_
       refine done ?_
       exact hK12714 (s12711.1.set s12711.2.toNat 0, IntKind.i64.wrap (s12711.2 + 1)) _ _ ⟨(sk (sx hS_ 0 rfl) (sk (sx hS_ 1 rfl) (sk (sx hS_ 2 rfl) (sk (sx hS_ 3 rfl) (sk (sx hS_ 4 rfl) (sk (sx hS_ 5 rfl) (sk (sx hS_ 6 rfl) (sk (sx hS_ 7 rfl) (sk (sx hS_ 8 rfl) (sk (sx hS_ 9 rfl) (sk (sx hS_ 10 rfl) (sk (sx hS_ 11 rfl) (sk (sx hS_ 12 rfl) (sk (sx hS_ 13 rfl) (sk (sx hS_ 14 rfl) (sk (sx hS_ 15 rfl) (sk (sx hS_ 16 rfl) (sk (sx hS_ 17 rfl) (sk (sx hS_ 18 rfl) (sk (sx hS_ 19 rfl) (sk (sx hS_ 20 rfl) (sk (sx hS_ 21 rfl) (sk (sx hS_ 22 rfl) (sk (sx hS_ 23 rfl) (sk (sx hS_ 24 rfl) (sk (sx hS_ 25 rfl) (sk (sx hS_ 26 rfl) (sk (sx hS_ 27 rfl) (sk rfl sn))))))))))))))))))))))))))))), hC⟩ h
      ·replace h := iff_ h (cf hb12716)
       refine wp_exit (then_exit (then_exit (exit_in ?_)))
       refine then_norm ?_
       refine sr ?_
       refine s_loadA hC 1 (A8.enc .i64 s11746.1) rfl ag73 (sx hS_ 6 rfl) rfl rfl ?_
       refine s_alloc hC (A8.enc .i64 A8.zero) z73 rfl fun b12720 w12722 hB_ hC => ?_
       refine s_store (v := .agg (List.toArray (A8.enc .i64 s11746.1))) hC 0 (A8.enc .i64 s11746.1) (A8.enc .i64 s11746.1) rfl ag73.size rfl rfl rfl rfl rfl (Nat.le_of_ble_eq_true rfl) rfl fun w12723 hC => ?_
       refine dn ?_
       refine sr ?_
       refine s_mv (v := .int .i64 (i11745 : Int)) (sx hS_ 8 rfl) ?_
       refine s_mv (v := .int .i64 (q36.1.get i11745)) (sx hS_ 9 rfl) ?_
       refine s_sub rfl rfl ?_
       refine s_iaddrB i11745 Tryz.underlying73 sc3.size rfl rfl (Int.natCast_nonneg _) (by omega) (by omega) ?_
       refine s_store (v := .int .i64 (IntKind.i64.wrap ((q36.1.get i11745) - 1))) hC 0 [.int .i64 (IntKind.i64.wrap ((q36.1.get i11745) - 1))] (A8.enc .i64 (s11746.1.set i11745 (IntKind.i64.wrap ((q36.1.get i11745) - 1)))) rfl sc3.size rfl rfl rfl rfl rfl hi11750 (A8.enc_set _ _ _ hi11750) fun w12724 hC => ?_
       refine dn ?_
       refine wp_seq ?_
       refine cw_drawN 20 mixed [0, 0, 3, 7, 0, 16, 48, 112, 0, 256, 768, 2047, 0, 4096, 12288, 28672, 0, 0, 196608, 458752, 1048575, 2097151] [1, 7, 9, 10, 15, 17] [3, 4, 5, 6, 8, 12, 13, 14, 19] (by kernel_rfl) (by kernel_rfl) (by kernel_rfl) (fun hM12726 hM12727 w12725 hB_ => ?_)
       replace hC := hC.grow hB_
       have hN_ : w12725.heap.size ≤ w12725.heap.size := Nat.le_refl _
       refine ae_look (belNPre _) 1 (.agg (List.toArray (A8.enc .i64 (s11746.1.set i11745 (IntKind.i64.wrap ((q36.1.get i11745) - 1)))))) rfl rfl (by kernel_rfl) (hM12726 1 rfl) (fun w_ hB_ => .inl ⟨rfl, by exact r_loadA (hC.grow (belN_bel hB_)) 0 (A8.enc .i64 (s11746.1.set i11745 (IntKind.i64.wrap ((q36.1.get i11745) - 1)))) rfl ag73 rfl rfl rfl⟩) (l9 := (dbits 22 2)) (by kernel_rfl) ?_
       refine ae_lookF (belNPre _) 4 (.pointer (some ⟨b0, 0, none⟩)) rfl rfl (by kernel_rfl) (hM12727 4 rfl) (fun w_ => .inl ⟨rfl, by exact r_mv (v := .pointer (some ⟨b0, 0, none⟩)) (sx hS_ 0 rfl)⟩) (l9 := (dbits 22 18)) (by kernel_rfl) ?_
       refine ae_lookF (belNPre _) 5 (.pointer (some ⟨b0, 0, none⟩)) rfl rfl (by kernel_rfl) (hM12727 5 rfl) (fun w_ => .inl ⟨rfl, by exact r_nilchk rfl⟩) (l9 := (dbits 22 50)) (by kernel_rfl) ?_
       refine ae_lookF (belNPre _) 6 (.pointer (some ⟨b0, 0, none⟩)) rfl rfl (by kernel_rfl) (hM12727 6 rfl) (fun w_ => .inl ⟨rfl, by exact r_faddrB 0 Tryz.underlying32 rfl sc22.size rfl rfl⟩) (l9 := (dbits 22 114)) (by kernel_rfl) ?_
       refine ae_look (belNPre _) 7 (u0_0) rfl rfl (by kernel_rfl) (hM12726 7 rfl) (fun w_ hB_ => .inl ⟨rfl, by exact r_loadSh (u0_0) ((hC.grow (belN_bel hB_)).getP 5 rfl) sc22 rfl rfl⟩) (l9 := (dbits 22 242)) (by kernel_rfl) ?_
       refine ae_lookF (belNPre _) 8 (.int .i64 (i11745 : Int)) rfl rfl (by kernel_rfl) (hM12727 8 rfl) (fun w_ => .inl ⟨rfl, by exact r_mv (v := .int .i64 (i11745 : Int)) (sx hS_ 8 rfl)⟩) (l9 := (dbits 22 498)) (by kernel_rfl) ?_
       refine ae_look (belNPre _) 9 (.pointer (some ⟨b21, i11745, none⟩)) rfl rfl (by kernel_rfl) (hM12726 9 rfl) (fun w_ hB_ => .inl ⟨rfl, by exact r_iaddrB i11745 Tryz.underlying211 sc115.size (sx hS_ 3 rfl) rfl (Int.natCast_nonneg _) (by omega) (by omega)⟩) (l9 := (dbits 22 1010)) (by kernel_rfl) ?_
       obtain ⟨ml12728, hl12730, h⟩ := h
       obtain ⟨b12729, hb12731, hbf12732, hm12733⟩ := maps_get (hC.getP 1 rfl) hl12730
       replace hC := hC.derive 1 rfl (mapI (kvA .i64) (vvI .i64) b12729 ml12728) (fun _ => hm12733) (fun c_ hc_ => by obtain rfl := List.mem_singleton.1 hc_; exact hbf12732)
       refine ae_look (belNPre _) 10 (.map (some b12729)) rfl rfl (by kernel_rfl) (hM12726 10 rfl) (fun w_ hB_ => .inl ⟨rfl, by exact r_loadS (hC.grow (belN_bel hB_)) 5 (.map (some b12729)) rfl sc115 rfl (cell_at hb12731 (by omega))⟩) (l9 := (dbits 22 2034)) (by kernel_rfl) ?_
       refine ae_lookF (belNPre _) 12 (.pointer (some ⟨b0, 0, none⟩)) rfl rfl (by kernel_rfl) (hM12727 12 rfl) (fun w_ => .inl ⟨rfl, by exact r_mv (v := .pointer (some ⟨b0, 0, none⟩)) (sx hS_ 0 rfl)⟩) (l9 := (dbits 22 6130)) (by kernel_rfl) ?_
       refine ae_lookF (belNPre _) 13 (.pointer (some ⟨b0, 0, none⟩)) rfl rfl (by kernel_rfl) (hM12727 13 rfl) (fun w_ => .inl ⟨rfl, by exact r_nilchk rfl⟩) (l9 := (dbits 22 14322)) (by kernel_rfl) ?_
       refine ae_lookF (belNPre _) 14 (.pointer (some ⟨b0, 0, none⟩)) rfl rfl (by kernel_rfl) (hM12727 14 rfl) (fun w_ => .inl ⟨rfl, by exact r_faddrB 0 Tryz.underlying32 rfl sc22.size rfl rfl⟩) (l9 := (dbits 22 30706)) (by kernel_rfl) ?_
       refine ae_look (belNPre _) 15 (u0_0) rfl rfl (by kernel_rfl) (hM12726 15 rfl) (fun w_ hB_ => .inl ⟨rfl, by exact r_loadSh (u0_0) ((hC.grow (belN_bel hB_)).getP 6 rfl) sc22 rfl rfl⟩) (l9 := (dbits 22 63474)) (by kernel_rfl) ?_
       refine ae_look (belNPre _) 17 (.agg (List.toArray (A8.enc .i64 s12711.1))) rfl rfl (by kernel_rfl) (hM12726 17 rfl) (fun w_ hB_ => .inl ⟨rfl, by exact r_loadA (hC.grow (belN_bel hB_)) 1 (A8.enc .i64 s12711.1) rfl ag73 (sx hS_ 10 rfl) rfl rfl⟩) (l9 := (dbits 22 194546)) (by kernel_rfl) ?_
       refine ae_join (fun e_ w_ => ∃ (b12756 : Nat), ∃ (r12755 : List (A8 × Int)), ∃ (b12748 : Nat), ∃ (b12743 : Nat), ∃ (r12742 : List (A8 × Int)), ∃ (b12735 : Nat), Slots e_ [(0, .pointer (some ⟨b0, 0, none⟩)), (4, .map none), (5, .map (some b7)), (6, .pointer (some ⟨b21, 0, none⟩)), (7, .pointer (some ⟨b8825, 0, none⟩)), (8, .int .i64 q36.2), (9, .pointer (some ⟨b8829, 0, none⟩)), (10, .int .i64 s11746.2.2), (11, .int .i64 (i11745 : Int)), (12, .int .i64 (q36.1.get i11745)), (13, .pointer (some ⟨b11753, 0, none⟩)), (15, .pointer (some ⟨b12720, 0, none⟩)), (16, .map (some b12756)), (21, .pointer (some ⟨r28, 0, none⟩)), (22, .tuple #[.bool true, .agg (List.toArray (A8.enc .i64 q36.1)), .int .i64 q36.2]), (23, .bool true), (24, .tuple #[.agg (List.toArray (A8.enc .i64 q36.1)), .int .i64 q36.2]), (25, .agg (List.toArray (A8.enc .i64 q36.1))), (26, .int .i64 q36.2), (27, .agg (List.toArray (A8.enc .i64 A8.zero))), (28, .agg (List.toArray (A8.enc .i64 q36.1))), (29, .int .i64 (i11745 : Int)), (30, .bool (decide ((i11745 : Int) < 8))), (31, .int .i64 (i11745 : Int)), (32, .int .i64 (q36.1.get i11745)), (33, .int .i64 (q36.1.get i11745)), (34, .bool (decide (q36.1.get i11745 > 0))), (35, .agg (List.toArray (A8.enc .i64 q36.1))), (36, .int .i64 (i11745 : Int)), (37, .int .i64 (IntKind.i64.wrap ((i11745 : Int) + 1))), (38, .int .i64 s12711.2), (39, .bool (decide (s12711.2 < IntKind.i64.wrap ((i11745 : Int) + 1)))), (44, .agg (List.toArray (A8.enc .i64 s11746.1))), (45, .int .i64 (i11745 : Int)), (46, .int .i64 (q36.1.get i11745)), (47, .int .i64 (IntKind.i64.wrap ((q36.1.get i11745) - 1))), (48, .pointer (some ⟨b12720, i11745, none⟩)), (49, .map (some b12735)), (50, .agg (List.toArray (A8.enc .i64 (s11746.1.set i11745 (IntKind.i64.wrap ((q36.1.get i11745) - 1)))))), (51, .map (some b12735)), (52, .pointer (some ⟨b0, 0, none⟩)), (53, .pointer (some ⟨b0, 0, none⟩)), (54, .pointer (some ⟨b0, 0, none⟩)), (55, u0_0), (56, .int .i64 (i11745 : Int)), (57, .pointer (some ⟨b21, i11745, none⟩)), (58, .map (some b12729)), (59, .map (some b12743)), (60, .pointer (some ⟨b0, 0, none⟩)), (61, .pointer (some ⟨b0, 0, none⟩)), (62, .pointer (some ⟨b0, 0, none⟩)), (63, u0_0), (64, .map (some b12748)), (65, .agg (List.toArray (A8.enc .i64 s12711.1))), (66, .map (some b12748)), (67, .map (some b12756))] ∧ Ctx Nox w0 w_ [mapI (kvA .i64) (vvI .i64) b12756 r12755, mapI (kvA .i64) (vvI .i64) b12748 (mset ([] : List (A8 × Int)) s12711.1 1), mapI (kvA .i64) (vvI .i64) b12743 r12742, mapI (kvA .i64) (vvI .i64) b12735 (mset ([] : List (A8 × Int)) (s11746.1.set i11745 (IntKind.i64.wrap ((q36.1.get i11745) - 1))) 1), blk b12720 73 (A8.enc .i64 (s11746.1.set i11745 (IntKind.i64.wrap ((q36.1.get i11745) - 1)))), blk b11753 73 (A8.enc .i64 s12711.1), blk b8829 73 (A8.enc .i64 s11746.1), blk b8825 73 (A8.enc .i64 q36.1), itI (kvA .i64) (vvI .i64) r28 b1 es29 ck30 (some ent8821) l37, blk b21 211 cs14, mapI (kvA .i64) (vvI .i64) b7 s11746.2.1] [mapI (kvA .i64) (vvI .i64) b12729 ml12728, mapE b1 es29 ck30, Ty.item (TMaps (kvA .i64) (vvI .i64) 8) r13 cs14 f15, Ty.item TForm.sl a0.images [u0_1] fp0, Ty.item ((EI .i64).ty.sl) a0.degrees [u0_0] fp0, Ty.item TAlg a0 [u0_0, u0_1] fp0, blk b0 32 [u0_0, u0_1], mapI (kvA .i64) (vvI .i64) b1 a1] ∧ (f_impl_field (IntKind.i64.wrap ((IntKind.i64.wrap (s11746.2.2 * q36.2)) * (q36.1.get i11745))) (fun r12956 => f_impl_sum_addAll s11746.2.1 r12755 r12956 (fun m12962 => (if (i11745 : Int) < (a0.degrees.length : Int) then ((0 ≤ (i11745 : Int) ∧ (i11745 : Int) < (a0.degrees.length : Int)) ∧ (if Int.tmod (a0.degrees.getD i11745 default) 2 = 1 then (if Int.tmod (q36.1.get i11745) 2 = 1 then next11747 (s11746.1.set i11745 (q36.1.get i11745), m12962, IntKind.i64.wrap (0 - s11746.2.2)) else next11747 (s11746.1.set i11745 (q36.1.get i11745), m12962, s11746.2.2)) else next11747 (s11746.1.set i11745 (q36.1.get i11745), m12962, s11746.2.2))) else next11747 (s11746.1.set i11745 (q36.1.get i11745), m12962, s11746.2.2)))))) ?_ ?_
       ·clear hC h
        rintro e_ w12952 ⟨b12756, r12755, b12748, b12743, r12742, b12735, hS_, hC, h⟩
        refine then_norm ?_
        refine cw_region ?_
        refine s_mv (v := .map (some b7)) (sx hS_ 2 rfl) ?_
        refine s_mv (v := .map (some b12756)) (sx hS_ 12 rfl) ?_
        refine s_mv (v := .int .i64 s11746.2.2) (sx hS_ 7 rfl) ?_
        refine s_mv (v := .int .i64 q36.2) (sx hS_ 5 rfl) ?_
        refine s_mul rfl rfl ?_
        refine s_mv (v := .int .i64 (q36.1.get i11745)) (sx hS_ 9 rfl) ?_
        refine s_mul rfl rfl ?_
        refine s_call [.int .i64 (IntKind.i64.wrap ((IntKind.i64.wrap (s11746.2.2 * q36.2)) * (q36.1.get i11745)))] _ Tryz.func187 rfl rfl rfl (c_impl_field (IntKind.i64.wrap ((IntKind.i64.wrap (s11746.2.2 * q36.2)) * (q36.1.get i11745))) h _) (fun ret12953 w12955 hR12954 => ?_)
        obtain ⟨r12956, rfl, h, hB12957⟩ := hR12954
        refine ⟨_, rfl, ?_⟩
        replace hC := hC.grow hB12957
        refine s_call [.map (some b7), .map (some b12756), .int .i64 r12956] _ Tryz.func165 rfl rfl rfl (c_impl_sum_addAll s11746.2.1 r12755 r12956 h _ (hC.getM 10 rfl) (fun c_ hc_ e_ => hC.mm 0 10 rfl rfl (by decide) c_ hc_ (List.mem_singleton.2 e_)) (hC.getM 0 rfl)) (fun ret12958 w12960 hR12959 => ?_)
        obtain ⟨m12962, rfl, h, hm12963, hB12961⟩ := hR12959
        refine ⟨_, rfl, ?_⟩
        replace hC := hC.turnB 10 rfl hB12961 rfl rfl hm12963
        refine dn ?_
        refine sr ?_
        refine s_mv (v := .int .i64 (i11745 : Int)) (sx hS_ 8 rfl) ?_
        refine s_mv (v := .int .i64 (q36.1.get i11745)) (sx hS_ 9 rfl) ?_
        refine s_iaddrB i11745 Tryz.underlying73 sc3.size (sx hS_ 6 rfl) rfl (Int.natCast_nonneg _) (by omega) (by omega) ?_
        refine s_store (v := .int .i64 (q36.1.get i11745)) hC 6 [.int .i64 (q36.1.get i11745)] (A8.enc .i64 (s11746.1.set i11745 (q36.1.get i11745))) rfl sc3.size rfl rfl rfl rfl rfl hi11750 (A8.enc_set _ _ _ hi11750) fun w12964 hC => ?_
        refine dn ?_
        refine sr ?_
        refine s_mv (v := .int .i64 (i11745 : Int)) (sx hS_ 8 rfl) ?_
        refine s_mv (v := .pointer (some ⟨b0, 0, none⟩)) (sx hS_ 0 rfl) ?_
        refine s_nilchk rfl ?_
        refine s_faddrB 0 Tryz.underlying32 rfl sc22.size rfl rfl ?_
        refine s_loadSh (u0_0) (hC.getP 6 rfl) sc22 rfl rfl ?_
        obtain ⟨Ad12965, c12966, hv12967⟩ := sl_len (hC.getP 4 rfl)
        refine s_len Tryz.underlying22 (tr rfl hv12967) ?_
        refine s_lss rfl rfl ?_
        refine s_mv (v := .bool (decide ((i11745 : Int) < (a0.degrees.length : Int)))) rfl ?_
        refine bsplit (decide ((i11745 : Int) < (a0.degrees.length : Int))) (fun hb12968 => ?_) (fun hb12968 => ?_)
        ·replace h := ift h (ct hb12968)
         refine guardOn 7 87 rfl rfl hb12968 ?_
         refine s_mv (v := .pointer (some ⟨b0, 0, none⟩)) (sx hS_ 0 rfl) ?_
         refine guardOn 7 87 rfl rfl hb12968 ?_
         refine s_nilchk rfl ?_
         refine guardOn 7 87 rfl rfl hb12968 ?_
         refine s_faddrB 0 Tryz.underlying32 rfl sc22.size rfl rfl ?_
         refine guardOn 7 87 rfl rfl hb12968 ?_
         refine s_loadSh (u0_0) (hC.getP 6 rfl) sc22 rfl rfl ?_
         refine guardOn 7 87 rfl rfl hb12968 ?_
         refine s_mv (v := .int .i64 (i11745 : Int)) (sx hS_ 8 rfl) ?_
         refine guardOn 7 87 rfl rfl hb12968 ?_
         obtain ⟨⟨h0_12969, h1_12970⟩, h⟩ := h
         obtain ⟨Ad12971, c12972, hv12973⟩ := sl_form (hC.getP 4 rfl) i11745 (show i11745 < a0.degrees.length by omega)
         refine s_iaddrS (len := a0.degrees.length) Tryz.underlying22 sc2.size (tr rfl hv12973) rfl h0_12969 h1_12970 ?_
         refine guardOn 7 87 rfl rfl hb12968 ?_
         refine s_loadCS (.int .i64 (a0.degrees.getD i11745 default)) (sl_cellsE (hC.getP 4 rfl) hv12973 i11745 (show i11745 < a0.degrees.length by omega)) sc2 rfl ?_
         refine guardOn 7 87 rfl rfl hb12968 ?_
         refine s_rem rfl rfl (by decide) ?_
         refine guardOn 7 87 rfl rfl hb12968 ?_
         refine s_eql rfl rfl ?_
         refine s_pick (v := .bool (decide (Int.tmod (a0.degrees.getD i11745 default) 2 = 1))) (b := true) (tr rfl (congrArg _ hb12968)) rfl ?_
         refine s_mv (v := .bool (decide (Int.tmod (a0.degrees.getD i11745 default) 2 = 1))) rfl ?_
         refine bsplit (decide (Int.tmod (a0.degrees.getD i11745 default) 2 = 1)) (fun hb12974 => ?_) (fun hb12974 => ?_)
         ·replace h := ift h (ct hb12974)
          refine guardOn 18 98 rfl rfl hb12974 ?_
          refine s_mv (v := .int .i64 (q36.1.get i11745)) (sx hS_ 9 rfl) ?_
          refine guardOn 18 98 rfl rfl hb12974 ?_
          refine s_rem rfl rfl (by decide) ?_
          refine guardOn 18 98 rfl rfl hb12974 ?_
          refine s_eql rfl rfl ?_
          refine s_pick (v := .bool (decide (Int.tmod (q36.1.get i11745) 2 = 1))) (b := true) (tr rfl (congrArg _ hb12974)) rfl ?_
          refine dn ?_
          refine cw_cond rfl (fun hb12975 => ?_) (fun hb12975 => ?_)
          ·replace h := ift h (ct hb12975)
           refine cw_region ?_
           refine s_mv (v := .int .i64 s11746.2.2) (sx hS_ 7 rfl) ?_
           refine s_neg rfl ?_
           refine s_as (v := .int .i64 (IntKind.i64.wrap (0 - s11746.2.2))) rfl ?_
           refine done ?_
           refine blk_norm ?_
           refine then_norm ?_
           refine cw_region ?_
           refine s_add (sx hS_ 21 rfl) rfl ?_
           refine s_mv (v := .int .i64 (IntKind.i64.wrap ((i11745 : Int) + 1))) rfl ?_
           refine done ?_
           replace hC := hC.sM [6, 7, 8, 9, 10] (M' := [blk b8829 73 (A8.enc .i64 (s11746.1.set i11745 (q36.1.get i11745))), blk b8825 73 (A8.enc .i64 q36.1), itI (kvA .i64) (vvI .i64) r28 b1 es29 ck30 (some ent8821) l37, blk b21 211 cs14, mapI (kvA .i64) (vvI .i64) b7 m12962]) (by decide) rfl
           replace hC := hC.sP [1, 2, 3, 4, 5, 6, 7] (Ps' := [mapE b1 es29 ck30, Ty.item (TMaps (kvA .i64) (vvI .i64) 8) r13 cs14 f15, Ty.item TForm.sl a0.images [u0_1] fp0, Ty.item ((EI .i64).ty.sl) a0.degrees [u0_0] fp0, Ty.item TAlg a0 [u0_0, u0_1] fp0, blk b0 32 [u0_0, u0_1], mapI (kvA .i64) (vvI .i64) b1 a1]) rfl
           exact hK11749 (s11746.1.set i11745 (q36.1.get i11745), m12962, IntKind.i64.wrap (0 - s11746.2.2)) _ _ ⟨(sk (sx hS_ 0 rfl) (sk (sx hS_ 1 rfl) (sk (sx hS_ 2 rfl) (sk (sx hS_ 3 rfl) (sk (sx hS_ 4 rfl) (sk (sx hS_ 5 rfl) (sk (sx hS_ 6 rfl) (sk rfl (sk (sx hS_ 13 rfl) (sk (sx hS_ 14 rfl) (sk (sx hS_ 15 rfl) (sk (sx hS_ 16 rfl) (sk (sx hS_ 17 rfl) (sk (sx hS_ 18 rfl) (sk (sx hS_ 19 rfl) (sk (sx hS_ 20 rfl) (sk (tr rfl (congrArg _ (wrap64_nat hi11750 (by decide)))) sn))))))))))))))))), hC⟩ h
          ·replace h := iff_ h (cf hb12975)
           refine wp_skip ?_
           refine blk_norm ?_
           refine then_norm ?_
           refine cw_region ?_
           refine s_add (sx hS_ 21 rfl) rfl ?_
           refine s_mv (v := .int .i64 (IntKind.i64.wrap ((i11745 : Int) + 1))) rfl ?_
           refine done ?_
           replace hC := hC.sM [6, 7, 8, 9, 10] (M' := [blk b8829 73 (A8.enc .i64 (s11746.1.set i11745 (q36.1.get i11745))), blk b8825 73 (A8.enc .i64 q36.1), itI (kvA .i64) (vvI .i64) r28 b1 es29 ck30 (some ent8821) l37, blk b21 211 cs14, mapI (kvA .i64) (vvI .i64) b7 m12962]) (by decide) rfl
           replace hC := hC.sP [1, 2, 3, 4, 5, 6, 7] (Ps' := [mapE b1 es29 ck30, Ty.item (TMaps (kvA .i64) (vvI .i64) 8) r13 cs14 f15, Ty.item TForm.sl a0.images [u0_1] fp0, Ty.item ((EI .i64).ty.sl) a0.degrees [u0_0] fp0, Ty.item TAlg a0 [u0_0, u0_1] fp0, blk b0 32 [u0_0, u0_1], mapI (kvA .i64) (vvI .i64) b1 a1]) rfl
           exact hK11749 (s11746.1.set i11745 (q36.1.get i11745), m12962, s11746.2.2) _ _ ⟨(sk (sx hS_ 0 rfl) (sk (sx hS_ 1 rfl) (sk (sx hS_ 2 rfl) (sk (sx hS_ 3 rfl) (sk (sx hS_ 4 rfl) (sk (sx hS_ 5 rfl) (sk (sx hS_ 6 rfl) (sk (sx hS_ 7 rfl) (sk (sx hS_ 13 rfl) (sk (sx hS_ 14 rfl) (sk (sx hS_ 15 rfl) (sk (sx hS_ 16 rfl) (sk (sx hS_ 17 rfl) (sk (sx hS_ 18 rfl) (sk (sx hS_ 19 rfl) (sk (sx hS_ 20 rfl) (sk (tr rfl (congrArg _ (wrap64_nat hi11750 (by decide)))) sn))))))))))))))))), hC⟩ h
         ·replace h := iff_ h (cf hb12974)
          refine guardOff (b := false) 18 98 rfl (tr rfl (congrArg _ hb12974)) (by decide) ?_
          refine guardOff (b := false) 18 98 rfl (tr rfl (congrArg _ hb12974)) (by decide) ?_
          refine guardOff (b := false) 18 98 rfl (tr rfl (congrArg _ hb12974)) (by decide) ?_
          refine s_pick (v := .bool false) (b := false) (tr rfl (congrArg _ hb12974)) rfl ?_
          refine dn ?_
          refine cw_false rfl rfl ?_
          refine wp_skip ?_
          refine blk_norm ?_
          refine then_norm ?_
          refine cw_region ?_
          refine s_add (sx hS_ 21 rfl) rfl ?_
          refine s_mv (v := .int .i64 (IntKind.i64.wrap ((i11745 : Int) + 1))) rfl ?_
          refine done ?_
          replace hC := hC.sM [6, 7, 8, 9, 10] (M' := [blk b8829 73 (A8.enc .i64 (s11746.1.set i11745 (q36.1.get i11745))), blk b8825 73 (A8.enc .i64 q36.1), itI (kvA .i64) (vvI .i64) r28 b1 es29 ck30 (some ent8821) l37, blk b21 211 cs14, mapI (kvA .i64) (vvI .i64) b7 m12962]) (by decide) rfl
          replace hC := hC.sP [1, 2, 3, 4, 5, 6, 7] (Ps' := [mapE b1 es29 ck30, Ty.item (TMaps (kvA .i64) (vvI .i64) 8) r13 cs14 f15, Ty.item TForm.sl a0.images [u0_1] fp0, Ty.item ((EI .i64).ty.sl) a0.degrees [u0_0] fp0, Ty.item TAlg a0 [u0_0, u0_1] fp0, blk b0 32 [u0_0, u0_1], mapI (kvA .i64) (vvI .i64) b1 a1]) rfl
          exact hK11749 (s11746.1.set i11745 (q36.1.get i11745), m12962, s11746.2.2) _ _ ⟨(sk (sx hS_ 0 rfl) (sk (sx hS_ 1 rfl) (sk (sx hS_ 2 rfl) (sk (sx hS_ 3 rfl) (sk (sx hS_ 4 rfl) (sk (sx hS_ 5 rfl) (sk (sx hS_ 6 rfl) (sk (sx hS_ 7 rfl) (sk (sx hS_ 13 rfl) (sk (sx hS_ 14 rfl) (sk (sx hS_ 15 rfl) (sk (sx hS_ 16 rfl) (sk (sx hS_ 17 rfl) (sk (sx hS_ 18 rfl) (sk (sx hS_ 19 rfl) (sk (sx hS_ 20 rfl) (sk (tr rfl (congrArg _ (wrap64_nat hi11750 (by decide)))) sn))))))))))))))))), hC⟩ h
        ·replace h := iff_ h (cf hb12968)
         refine guardOff (b := false) 7 87 rfl (tr rfl (congrArg _ hb12968)) (by decide) ?_
         refine guardOff (b := false) 7 87 rfl (tr rfl (congrArg _ hb12968)) (by decide) ?_
         refine guardOff (b := false) 7 87 rfl (tr rfl (congrArg _ hb12968)) (by decide) ?_
         refine guardOff (b := false) 7 87 rfl (tr rfl (congrArg _ hb12968)) (by decide) ?_
         refine guardOff (b := false) 7 87 rfl (tr rfl (congrArg _ hb12968)) (by decide) ?_
         refine guardOff (b := false) 7 87 rfl (tr rfl (congrArg _ hb12968)) (by decide) ?_
         refine guardOff (b := false) 7 87 rfl (tr rfl (congrArg _ hb12968)) (by decide) ?_
         refine guardOff (b := false) 7 87 rfl (tr rfl (congrArg _ hb12968)) (by decide) ?_
         refine guardOff (b := false) 7 87 rfl (tr rfl (congrArg _ hb12968)) (by decide) ?_
         refine s_pick (v := .bool false) (b := false) (tr rfl (congrArg _ hb12968)) rfl ?_
         refine s_mv (v := .bool false) rfl ?_
         refine guardOff (b := false) 18 98 rfl (tr rfl (congrArg _ rfl)) (by decide) ?_
         refine guardOff (b := false) 18 98 rfl (tr rfl (congrArg _ rfl)) (by decide) ?_
         refine guardOff (b := false) 18 98 rfl (tr rfl (congrArg _ rfl)) (by decide) ?_
         refine s_pick (v := .bool false) (b := false) rfl rfl ?_
         refine dn ?_
         refine cw_false rfl rfl ?_
         refine wp_skip ?_
         refine blk_norm ?_
         refine then_norm ?_
         refine cw_region ?_
         refine s_add (sx hS_ 21 rfl) rfl ?_
         refine s_mv (v := .int .i64 (IntKind.i64.wrap ((i11745 : Int) + 1))) rfl ?_
         refine done ?_
         replace hC := hC.sM [6, 7, 8, 9, 10] (M' := [blk b8829 73 (A8.enc .i64 (s11746.1.set i11745 (q36.1.get i11745))), blk b8825 73 (A8.enc .i64 q36.1), itI (kvA .i64) (vvI .i64) r28 b1 es29 ck30 (some ent8821) l37, blk b21 211 cs14, mapI (kvA .i64) (vvI .i64) b7 m12962]) (by decide) rfl
         replace hC := hC.sP [1, 2, 3, 4, 5, 6, 7] (Ps' := [mapE b1 es29 ck30, Ty.item (TMaps (kvA .i64) (vvI .i64) 8) r13 cs14 f15, Ty.item TForm.sl a0.images [u0_1] fp0, Ty.item ((EI .i64).ty.sl) a0.degrees [u0_0] fp0, Ty.item TAlg a0 [u0_0, u0_1] fp0, blk b0 32 [u0_0, u0_1], mapI (kvA .i64) (vvI .i64) b1 a1]) rfl
         exact hK11749 (s11746.1.set i11745 (q36.1.get i11745), m12962, s11746.2.2) _ _ ⟨(sk (sx hS_ 0 rfl) (sk (sx hS_ 1 rfl) (sk (sx hS_ 2 rfl) (sk (sx hS_ 3 rfl) (sk (sx hS_ 4 rfl) (sk (sx hS_ 5 rfl) (sk (sx hS_ 6 rfl) (sk (sx hS_ 7 rfl) (sk (sx hS_ 13 rfl) (sk (sx hS_ 14 rfl) (sk (sx hS_ 15 rfl) (sk (sx hS_ 16 rfl) (sk (sx hS_ 17 rfl) (sk (sx hS_ 18 rfl) (sk (sx hS_ 19 rfl) (sk (sx hS_ 20 rfl) (sk (tr rfl (congrArg _ (wrap64_nat hi11750 (by decide)))) sn))))))))))))))))), hC⟩ h
       refine ae_two 0 16 rfl rfl (by kernel_rfl) ?_ ?_
       ·skip
        refine s_makeMapN hC (kvA .i64) (vvI .i64) fun b12976 w12978 hn_ hB_ hC => ?_
        have hnb_b12976 := Nat.le_trans hN_ hn_
        refine done ?_
        refine ak_introM (belN_of hN_ (by assumption)) hN_ (l9 := (dbits 22 194547)) (by kernel_rfl) (fun hN_ => ?_)
        refine ae_two 2 16 rfl rfl (by kernel_rfl) ?_ ?_
        ·skip
         refine s_mapsetN hC 0 (s11746.1.set i11745 (IntKind.i64.wrap ((q36.1.get i11745) - 1))) 1 rfl kt73 Tryz.underlying115 rfl rfl rfl (fun w12979 hBB_ hC => ?_) (.inr rfl)
         refine done ?_
         refine ak_introM (belN_belB hN_ hnb_b12976 hBB_) hN_ (l9 := (dbits 22 194551)) (by kernel_rfl) (fun hN_ => ?_)
         refine ae_lookF (belNPre _) 3 (.map (some b12976)) rfl rfl (by kernel_rfl) (hM12727 3 rfl) (fun w_ => .inl ⟨rfl, by exact r_mv (v := .map (some b12976)) rfl⟩) (l9 := (dbits 22 194559)) (by kernel_rfl) ?_
         refine ae_two 11 16 rfl rfl (by kernel_rfl) ?_ ?_
         ·skip
          refine s_call [.map (some b12976), u0_0, .map (some b12729)] _ Tryz.func192 rfl rfl rfl (c_impl_sum_times (mset ([] : List (A8 × Int)) (s11746.1.set i11745 (IntKind.i64.wrap ((q36.1.get i11745) - 1))) 1) a0.degrees ml12728 h _ (hC.getM 0 rfl) (hC.getP 4 rfl) (hC.getP 0 rfl)) (fun ret12980 w12982 hR12981 => ?_)
          obtain ⟨r12983, b12984, rfl, h, hr12985, hf12986, hB12987⟩ := hR12981
          refine ⟨_, rfl, ?_⟩
          replace hC := hC.push hB12987 (mapI (kvA .i64) (vvI .i64) b12984 r12983) hr12985 (fun b_ hb_ => by obtain rfl := List.mem_singleton.1 hb_; exact hf12986)
          refine done ?_
          refine ak_introM (belN_of hN_ (by assumption)) hN_ (l9 := (dbits 22 196607)) (by kernel_rfl) (fun hN_ => ?_)
          refine aO 16 rfl ?_
          refine s_makeMapN hC (kvA .i64) (vvI .i64) fun b12989 w12991 hn_ hB_ hC => ?_
          have hnb_b12989 := Nat.le_trans hN_ hn_
          refine done ?_
          refine ak_introM (belN_of hN_ (by assumption)) hN_ (l9 := (dbits 22 262143)) (by kernel_rfl) (fun hN_ => ?_)
          refine aO 18 rfl ?_
          refine s_mapsetN hC 0 s12711.1 1 rfl kt73 Tryz.underlying115 rfl rfl rfl (fun w12992 hBB_ hC => ?_) (.inr rfl)
          refine done ?_
          refine ak_introM (belN_belB hN_ hnb_b12989 hBB_) hN_ (l9 := (dbits 22 524287)) (by kernel_rfl) (fun hN_ => ?_)
          refine ae_lookF (belNPre _) 19 (.map (some b12989)) rfl rfl (by kernel_rfl) (hM12727 19 rfl) (fun w_ => .inl ⟨rfl, by exact r_mv (v := .map (some b12989)) rfl⟩) (l9 := (dbits 22 1048575)) (by kernel_rfl) ?_
          refine ae_tail 20 (by decide) (by decide) (by kernel_rfl) (by kernel_rfl) rfl ?_
          refine s_call [.map (some b12984), u0_0, .map (some b12989)] _ Tryz.func192 rfl rfl rfl (c_impl_sum_times r12983 a0.degrees (mset ([] : List (A8 × Int)) s12711.1 1) h _ (hC.getM 1 rfl) (hC.getP 4 rfl) (hC.getM 0 rfl)) (fun ret12993 w12995 hR12994 => ?_)
          obtain ⟨r12996, b12997, rfl, h, hr12998, hf12999, hB13000⟩ := hR12994
          refine ⟨_, rfl, ?_⟩
          replace hC := hC.push hB13000 (mapI (kvA .i64) (vvI .i64) b12997 r12996) hr12998 (fun b_ hb_ => by obtain rfl := List.mem_singleton.1 hb_; exact hf12999)
          refine s_as (v := .map (some b12997)) rfl ?_
          refine done ?_
          refine qn_norm ?_
          exact ⟨rfl, _, rfl, ⟨b12997, r12996, b12989, b12984, r12983, b12976, (sk (sx hS_ 0 rfl) (sk (sx hS_ 1 rfl) (sk (sx hS_ 2 rfl) (sk (sx hS_ 3 rfl) (sk (sx hS_ 4 rfl) (sk (sx hS_ 5 rfl) (sk (sx hS_ 6 rfl) (sk (sx hS_ 7 rfl) (sk (sx hS_ 8 rfl) (sk (sx hS_ 9 rfl) (sk (sx hS_ 10 rfl) (sk rfl (sk rfl (sk (sx hS_ 11 rfl) (sk (sx hS_ 12 rfl) (sk (sx hS_ 13 rfl) (sk (sx hS_ 14 rfl) (sk (sx hS_ 15 rfl) (sk (sx hS_ 16 rfl) (sk (sx hS_ 17 rfl) (sk (sx hS_ 18 rfl) (sk (sx hS_ 19 rfl) (sk (sx hS_ 20 rfl) (sk (sx hS_ 21 rfl) (sk (sx hS_ 22 rfl) (sk (sx hS_ 23 rfl) (sk (sx hS_ 24 rfl) (sk (sx hS_ 25 rfl) (sk (sx hS_ 26 rfl) (sk (sx hS_ 27 rfl) (sk (sx hS_ 28 rfl) (sk rfl (sk rfl (sk rfl (sk rfl (sk rfl (sk rfl (sk rfl (sk rfl (sk rfl (sk rfl (sk rfl (sk rfl (sk rfl (sk rfl (sk rfl (sk rfl (sk rfl (sk rfl (sk rfl (sk rfl (sk rfl (sk rfl (sk rfl (sk rfl (sk rfl sn)))))))))))))))))))))))))))))))))))))))))))))))))))))))), hC, h⟩⟩
         ·skip
          refine s_makeMapN hC (kvA .i64) (vvI .i64) fun b13002 w13004 hn_ hB_ hC => ?_
          have hnb_b13002 := Nat.le_trans hN_ hn_
          refine done ?_
          refine ak_introM (belN_of hN_ (by assumption)) hN_ (l9 := (dbits 22 260095)) (by kernel_rfl) (fun hN_ => ?_)
          refine ae_two 11 18 rfl rfl (by kernel_rfl) ?_ ?_
          ·skip
           refine s_call [.map (some b12976), u0_0, .map (some b12729)] _ Tryz.func192 rfl rfl rfl (c_impl_sum_times (mset ([] : List (A8 × Int)) (s11746.1.set i11745 (IntKind.i64.wrap ((q36.1.get i11745) - 1))) 1) a0.degrees ml12728 h _ (hC.getM 1 rfl) (hC.getP 4 rfl) (hC.getP 0 rfl)) (fun ret13005 w13007 hR13006 => ?_)
           obtain ⟨r13008, b13009, rfl, h, hr13010, hf13011, hB13012⟩ := hR13006
           refine ⟨_, rfl, ?_⟩
           replace hC := hC.push hB13012 (mapI (kvA .i64) (vvI .i64) b13009 r13008) hr13010 (fun b_ hb_ => by obtain rfl := List.mem_singleton.1 hb_; exact hf13011)
           refine done ?_
           refine ak_introM (belN_of hN_ (by assumption)) hN_ (l9 := (dbits 22 262143)) (by kernel_rfl) (fun hN_ => ?_)
           refine aO 18 rfl ?_
           refine s_mapsetN hC 1 s12711.1 1 rfl kt73 Tryz.underlying115 rfl rfl rfl (fun w13014 hBB_ hC => ?_) (.inr rfl)
           refine done ?_
           refine ak_introM (belN_belB hN_ hnb_b13002 hBB_) hN_ (l9 := (dbits 22 524287)) (by kernel_rfl) (fun hN_ => ?_)
           refine ae_lookF (belNPre _) 19 (.map (some b13002)) rfl rfl (by kernel_rfl) (hM12727 19 rfl) (fun w_ => .inl ⟨rfl, by exact r_mv (v := .map (some b13002)) rfl⟩) (l9 := (dbits 22 1048575)) (by kernel_rfl) ?_
           refine ae_tail 20 (by decide) (by decide) (by kernel_rfl) (by kernel_rfl) rfl ?_
           refine s_call [.map (some b13009), u0_0, .map (some b13002)] _ Tryz.func192 rfl rfl rfl (c_impl_sum_times r13008 a0.degrees (mset ([] : List (A8 × Int)) s12711.1 1) h _ (hC.getM 0 rfl) (hC.getP 4 rfl) (hC.getM 1 rfl)) (fun ret13015 w13017 hR13016 => ?_)
           obtain ⟨r13018, b13019, rfl, h, hr13020, hf13021, hB13022⟩ := hR13016
           refine ⟨_, rfl, ?_⟩
           replace hC := hC.push hB13022 (mapI (kvA .i64) (vvI .i64) b13019 r13018) hr13020 (fun b_ hb_ => by obtain rfl := List.mem_singleton.1 hb_; exact hf13021)
           refine s_as (v := .map (some b13019)) rfl ?_
           refine done ?_
           refine qn_norm ?_
           replace hC := hC.sM [0, 2, 1, 3, 4, 5, 6, 7, 8, 9, 10] (M' := [mapI (kvA .i64) (vvI .i64) b13019 r13018, mapI (kvA .i64) (vvI .i64) b13002 (mset ([] : List (A8 × Int)) s12711.1 1), mapI (kvA .i64) (vvI .i64) b13009 r13008, mapI (kvA .i64) (vvI .i64) b12976 (mset ([] : List (A8 × Int)) (s11746.1.set i11745 (IntKind.i64.wrap ((q36.1.get i11745) - 1))) 1), blk b12720 73 (A8.enc .i64 (s11746.1.set i11745 (IntKind.i64.wrap ((q36.1.get i11745) - 1)))), blk b11753 73 (A8.enc .i64 s12711.1), blk b8829 73 (A8.enc .i64 s11746.1), blk b8825 73 (A8.enc .i64 q36.1), itI (kvA .i64) (vvI .i64) r28 b1 es29 ck30 (some ent8821) l37, blk b21 211 cs14, mapI (kvA .i64) (vvI .i64) b7 s11746.2.1]) (by decide) rfl
           exact ⟨rfl, _, rfl, ⟨b13019, r13018, b13002, b13009, r13008, b12976, (sk (sx hS_ 0 rfl) (sk (sx hS_ 1 rfl) (sk (sx hS_ 2 rfl) (sk (sx hS_ 3 rfl) (sk (sx hS_ 4 rfl) (sk (sx hS_ 5 rfl) (sk (sx hS_ 6 rfl) (sk (sx hS_ 7 rfl) (sk (sx hS_ 8 rfl) (sk (sx hS_ 9 rfl) (sk (sx hS_ 10 rfl) (sk rfl (sk rfl (sk (sx hS_ 11 rfl) (sk (sx hS_ 12 rfl) (sk (sx hS_ 13 rfl) (sk (sx hS_ 14 rfl) (sk (sx hS_ 15 rfl) (sk (sx hS_ 16 rfl) (sk (sx hS_ 17 rfl) (sk (sx hS_ 18 rfl) (sk (sx hS_ 19 rfl) (sk (sx hS_ 20 rfl) (sk (sx hS_ 21 rfl) (sk (sx hS_ 22 rfl) (sk (sx hS_ 23 rfl) (sk (sx hS_ 24 rfl) (sk (sx hS_ 25 rfl) (sk (sx hS_ 26 rfl) (sk (sx hS_ 27 rfl) (sk (sx hS_ 28 rfl) (sk rfl (sk rfl (sk rfl (sk rfl (sk rfl (sk rfl (sk rfl (sk rfl (sk rfl (sk rfl (sk rfl (sk rfl (sk rfl (sk rfl (sk rfl (sk rfl (sk rfl (sk rfl (sk rfl (sk rfl (sk rfl (sk rfl (sk rfl (sk rfl (sk rfl sn)))))))))))))))))))))))))))))))))))))))))))))))))))))))), hC, h⟩⟩
          ·skip
           refine s_mapsetN hC 0 s12711.1 1 rfl kt73 Tryz.underlying115 rfl rfl rfl (fun w13024 hBB_ hC => ?_) (.inr rfl)
           refine done ?_
           refine ak_introM (belN_belB hN_ hnb_b13002 hBB_) hN_ (l9 := (dbits 22 522239)) (by kernel_rfl) (fun hN_ => ?_)
           refine ae_lookF (belNPre _) 19 (.map (some b13002)) rfl rfl (by kernel_rfl) (hM12727 19 rfl) (fun w_ => .inl ⟨rfl, by exact r_mv (v := .map (some b13002)) rfl⟩) (l9 := (dbits 22 1046527)) (by kernel_rfl) ?_
           refine aO 11 rfl ?_
           refine s_call [.map (some b12976), u0_0, .map (some b12729)] _ Tryz.func192 rfl rfl rfl (c_impl_sum_times (mset ([] : List (A8 × Int)) (s11746.1.set i11745 (IntKind.i64.wrap ((q36.1.get i11745) - 1))) 1) a0.degrees ml12728 h _ (hC.getM 1 rfl) (hC.getP 4 rfl) (hC.getP 0 rfl)) (fun ret13025 w13027 hR13026 => ?_)
           obtain ⟨r13028, b13029, rfl, h, hr13030, hf13031, hB13032⟩ := hR13026
           refine ⟨_, rfl, ?_⟩
           replace hC := hC.push hB13032 (mapI (kvA .i64) (vvI .i64) b13029 r13028) hr13030 (fun b_ hb_ => by obtain rfl := List.mem_singleton.1 hb_; exact hf13031)
           refine done ?_
           refine ak_introM (belN_of hN_ (by assumption)) hN_ (l9 := (dbits 22 1048575)) (by kernel_rfl) (fun hN_ => ?_)
           refine ae_tail 20 (by decide) (by decide) (by kernel_rfl) (by kernel_rfl) rfl ?_
           refine s_call [.map (some b13029), u0_0, .map (some b13002)] _ Tryz.func192 rfl rfl rfl (c_impl_sum_times r13028 a0.degrees (mset ([] : List (A8 × Int)) s12711.1 1) h _ (hC.getM 0 rfl) (hC.getP 4 rfl) (hC.getM 1 rfl)) (fun ret13034 w13036 hR13035 => ?_)
           obtain ⟨r13037, b13038, rfl, h, hr13039, hf13040, hB13041⟩ := hR13035
           refine ⟨_, rfl, ?_⟩
           replace hC := hC.push hB13041 (mapI (kvA .i64) (vvI .i64) b13038 r13037) hr13039 (fun b_ hb_ => by obtain rfl := List.mem_singleton.1 hb_; exact hf13040)
           refine s_as (v := .map (some b13038)) rfl ?_
           refine done ?_
           refine qn_norm ?_
           replace hC := hC.sM [0, 2, 1, 3, 4, 5, 6, 7, 8, 9, 10] (M' := [mapI (kvA .i64) (vvI .i64) b13038 r13037, mapI (kvA .i64) (vvI .i64) b13002 (mset ([] : List (A8 × Int)) s12711.1 1), mapI (kvA .i64) (vvI .i64) b13029 r13028, mapI (kvA .i64) (vvI .i64) b12976 (mset ([] : List (A8 × Int)) (s11746.1.set i11745 (IntKind.i64.wrap ((q36.1.get i11745) - 1))) 1), blk b12720 73 (A8.enc .i64 (s11746.1.set i11745 (IntKind.i64.wrap ((q36.1.get i11745) - 1)))), blk b11753 73 (A8.enc .i64 s12711.1), blk b8829 73 (A8.enc .i64 s11746.1), blk b8825 73 (A8.enc .i64 q36.1), itI (kvA .i64) (vvI .i64) r28 b1 es29 ck30 (some ent8821) l37, blk b21 211 cs14, mapI (kvA .i64) (vvI .i64) b7 s11746.2.1]) (by decide) rfl
           exact ⟨rfl, _, rfl, ⟨b13038, r13037, b13002, b13029, r13028, b12976, (sk (sx hS_ 0 rfl) (sk (sx hS_ 1 rfl) (sk (sx hS_ 2 rfl) (sk (sx hS_ 3 rfl) (sk (sx hS_ 4 rfl) (sk (sx hS_ 5 rfl) (sk (sx hS_ 6 rfl) (sk (sx hS_ 7 rfl) (sk (sx hS_ 8 rfl) (sk (sx hS_ 9 rfl) (sk (sx hS_ 10 rfl) (sk rfl (sk rfl (sk (sx hS_ 11 rfl) (sk (sx hS_ 12 rfl) (sk (sx hS_ 13 rfl) (sk (sx hS_ 14 rfl) (sk (sx hS_ 15 rfl) (sk (sx hS_ 16 rfl) (sk (sx hS_ 17 rfl) (sk (sx hS_ 18 rfl) (sk (sx hS_ 19 rfl) (sk (sx hS_ 20 rfl) (sk (sx hS_ 21 rfl) (sk (sx hS_ 22 rfl) (sk (sx hS_ 23 rfl) (sk (sx hS_ 24 rfl) (sk (sx hS_ 25 rfl) (sk (sx hS_ 26 rfl) (sk (sx hS_ 27 rfl) (sk (sx hS_ 28 rfl) (sk rfl (sk rfl (sk rfl (sk rfl (sk rfl (sk rfl (sk rfl (sk rfl (sk rfl (sk rfl (sk rfl (sk rfl (sk rfl (sk rfl (sk rfl (sk rfl (sk rfl (sk rfl (sk rfl (sk rfl (sk rfl (sk rfl (sk rfl (sk rfl (sk rfl sn)))))))))))))))))))))))))))))))))))))))))))))))))))))))), hC, h⟩⟩
        ·skip
         refine s_makeMapN hC (kvA .i64) (vvI .i64) fun b13043 w13045 hn_ hB_ hC => ?_
         have hnb_b13043 := Nat.le_trans hN_ hn_
         refine done ?_
         refine ak_introM (belN_of hN_ (by assumption)) hN_ (l9 := (dbits 22 260083)) (by kernel_rfl) (fun hN_ => ?_)
         refine ae_two 2 18 rfl rfl (by kernel_rfl) ?_ ?_
         ·skip
          refine s_mapsetN hC 1 (s11746.1.set i11745 (IntKind.i64.wrap ((q36.1.get i11745) - 1))) 1 rfl kt73 Tryz.underlying115 rfl rfl rfl (fun w13046 hBB_ hC => ?_) (.inr rfl)
          refine done ?_
          refine ak_introM (belN_belB hN_ hnb_b12976 hBB_) hN_ (l9 := (dbits 22 260087)) (by kernel_rfl) (fun hN_ => ?_)
          refine ae_lookF (belNPre _) 3 (.map (some b12976)) rfl rfl (by kernel_rfl) (hM12727 3 rfl) (fun w_ => .inl ⟨rfl, by exact r_mv (v := .map (some b12976)) rfl⟩) (l9 := (dbits 22 260095)) (by kernel_rfl) ?_
          refine ae_two 11 18 rfl rfl (by kernel_rfl) ?_ ?_
          ·skip
           refine s_call [.map (some b12976), u0_0, .map (some b12729)] _ Tryz.func192 rfl rfl rfl (c_impl_sum_times (mset ([] : List (A8 × Int)) (s11746.1.set i11745 (IntKind.i64.wrap ((q36.1.get i11745) - 1))) 1) a0.degrees ml12728 h _ (hC.getM 1 rfl) (hC.getP 4 rfl) (hC.getP 0 rfl)) (fun ret13047 w13049 hR13048 => ?_)
           obtain ⟨r13050, b13051, rfl, h, hr13052, hf13053, hB13054⟩ := hR13048
           refine ⟨_, rfl, ?_⟩
           replace hC := hC.push hB13054 (mapI (kvA .i64) (vvI .i64) b13051 r13050) hr13052 (fun b_ hb_ => by obtain rfl := List.mem_singleton.1 hb_; exact hf13053)
           refine done ?_
           refine ak_introM (belN_of hN_ (by assumption)) hN_ (l9 := (dbits 22 262143)) (by kernel_rfl) (fun hN_ => ?_)
           refine aO 18 rfl ?_
           refine s_mapsetN hC 1 s12711.1 1 rfl kt73 Tryz.underlying115 rfl rfl rfl (fun w13056 hBB_ hC => ?_) (.inr rfl)
           refine done ?_
           refine ak_introM (belN_belB hN_ hnb_b13043 hBB_) hN_ (l9 := (dbits 22 524287)) (by kernel_rfl) (fun hN_ => ?_)
           refine ae_lookF (belNPre _) 19 (.map (some b13043)) rfl rfl (by kernel_rfl) (hM12727 19 rfl) (fun w_ => .inl ⟨rfl, by exact r_mv (v := .map (some b13043)) rfl⟩) (l9 := (dbits 22 1048575)) (by kernel_rfl) ?_
           refine ae_tail 20 (by decide) (by decide) (by kernel_rfl) (by kernel_rfl) rfl ?_
           refine s_call [.map (some b13051), u0_0, .map (some b13043)] _ Tryz.func192 rfl rfl rfl (c_impl_sum_times r13050 a0.degrees (mset ([] : List (A8 × Int)) s12711.1 1) h _ (hC.getM 0 rfl) (hC.getP 4 rfl) (hC.getM 1 rfl)) (fun ret13057 w13059 hR13058 => ?_)
           obtain ⟨r13060, b13061, rfl, h, hr13062, hf13063, hB13064⟩ := hR13058
           refine ⟨_, rfl, ?_⟩
           replace hC := hC.push hB13064 (mapI (kvA .i64) (vvI .i64) b13061 r13060) hr13062 (fun b_ hb_ => by obtain rfl := List.mem_singleton.1 hb_; exact hf13063)
           refine s_as (v := .map (some b13061)) rfl ?_
           refine done ?_
           refine qn_norm ?_
           replace hC := hC.sM [0, 2, 1, 3, 4, 5, 6, 7, 8, 9, 10] (M' := [mapI (kvA .i64) (vvI .i64) b13061 r13060, mapI (kvA .i64) (vvI .i64) b13043 (mset ([] : List (A8 × Int)) s12711.1 1), mapI (kvA .i64) (vvI .i64) b13051 r13050, mapI (kvA .i64) (vvI .i64) b12976 (mset ([] : List (A8 × Int)) (s11746.1.set i11745 (IntKind.i64.wrap ((q36.1.get i11745) - 1))) 1), blk b12720 73 (A8.enc .i64 (s11746.1.set i11745 (IntKind.i64.wrap ((q36.1.get i11745) - 1)))), blk b11753 73 (A8.enc .i64 s12711.1), blk b8829 73 (A8.enc .i64 s11746.1), blk b8825 73 (A8.enc .i64 q36.1), itI (kvA .i64) (vvI .i64) r28 b1 es29 ck30 (some ent8821) l37, blk b21 211 cs14, mapI (kvA .i64) (vvI .i64) b7 s11746.2.1]) (by decide) rfl
           exact ⟨rfl, _, rfl, ⟨b13061, r13060, b13043, b13051, r13050, b12976, (sk (sx hS_ 0 rfl) (sk (sx hS_ 1 rfl) (sk (sx hS_ 2 rfl) (sk (sx hS_ 3 rfl) (sk (sx hS_ 4 rfl) (sk (sx hS_ 5 rfl) (sk (sx hS_ 6 rfl) (sk (sx hS_ 7 rfl) (sk (sx hS_ 8 rfl) (sk (sx hS_ 9 rfl) (sk (sx hS_ 10 rfl) (sk rfl (sk rfl (sk (sx hS_ 11 rfl) (sk (sx hS_ 12 rfl) (sk (sx hS_ 13 rfl) (sk (sx hS_ 14 rfl) (sk (sx hS_ 15 rfl) (sk (sx hS_ 16 rfl) (sk (sx hS_ 17 rfl) (sk (sx hS_ 18 rfl) (sk (sx hS_ 19 rfl) (sk (sx hS_ 20 rfl) (sk (sx hS_ 21 rfl) (sk (sx hS_ 22 rfl) (sk (sx hS_ 23 rfl) (sk (sx hS_ 24 rfl) (sk (sx hS_ 25 rfl) (sk (sx hS_ 26 rfl) (sk (sx hS_ 27 rfl) (sk (sx hS_ 28 rfl) (sk rfl (sk rfl (sk rfl (sk rfl (sk rfl (sk rfl (sk rfl (sk rfl (sk rfl (sk rfl (sk rfl (sk rfl (sk rfl (sk rfl (sk rfl (sk rfl (sk rfl (sk rfl (sk rfl (sk rfl (sk rfl (sk rfl (sk rfl (sk rfl (sk rfl sn)))))))))))))))))))))))))))))))))))))))))))))))))))))))), hC, h⟩⟩
          ·skip
           refine s_mapsetN hC 0 s12711.1 1 rfl kt73 Tryz.underlying115 rfl rfl rfl (fun w13066 hBB_ hC => ?_) (.inr rfl)
           refine done ?_
           refine ak_introM (belN_belB hN_ hnb_b13043 hBB_) hN_ (l9 := (dbits 22 522239)) (by kernel_rfl) (fun hN_ => ?_)
           refine ae_lookF (belNPre _) 19 (.map (some b13043)) rfl rfl (by kernel_rfl) (hM12727 19 rfl) (fun w_ => .inl ⟨rfl, by exact r_mv (v := .map (some b13043)) rfl⟩) (l9 := (dbits 22 1046527)) (by kernel_rfl) ?_
           refine aO 11 rfl ?_
           refine s_call [.map (some b12976), u0_0, .map (some b12729)] _ Tryz.func192 rfl rfl rfl (c_impl_sum_times (mset ([] : List (A8 × Int)) (s11746.1.set i11745 (IntKind.i64.wrap ((q36.1.get i11745) - 1))) 1) a0.degrees ml12728 h _ (hC.getM 1 rfl) (hC.getP 4 rfl) (hC.getP 0 rfl)) (fun ret13067 w13069 hR13068 => ?_)
           obtain ⟨r13070, b13071, rfl, h, hr13072, hf13073, hB13074⟩ := hR13068
           refine ⟨_, rfl, ?_⟩
           replace hC := hC.push hB13074 (mapI (kvA .i64) (vvI .i64) b13071 r13070) hr13072 (fun b_ hb_ => by obtain rfl := List.mem_singleton.1 hb_; exact hf13073)
           refine done ?_
           refine ak_introM (belN_of hN_ (by assumption)) hN_ (l9 := (dbits 22 1048575)) (by kernel_rfl) (fun hN_ => ?_)
           refine ae_tail 20 (by decide) (by decide) (by kernel_rfl) (by kernel_rfl) rfl ?_
           refine s_call [.map (some b13071), u0_0, .map (some b13043)] _ Tryz.func192 rfl rfl rfl (c_impl_sum_times r13070 a0.degrees (mset ([] : List (A8 × Int)) s12711.1 1) h _ (hC.getM 0 rfl) (hC.getP 4 rfl) (hC.getM 1 rfl)) (fun ret13076 w13078 hR13077 => ?_)
           obtain ⟨r13079, b13080, rfl, h, hr13081, hf13082, hB13083⟩ := hR13077
           refine ⟨_, rfl, ?_⟩
           replace hC := hC.push hB13083 (mapI (kvA .i64) (vvI .i64) b13080 r13079) hr13081 (fun b_ hb_ => by obtain rfl := List.mem_singleton.1 hb_; exact hf13082)
           refine s_as (v := .map (some b13080)) rfl ?_
           refine done ?_
           refine qn_norm ?_
           replace hC := hC.sM [0, 2, 1, 3, 4, 5, 6, 7, 8, 9, 10] (M' := [mapI (kvA .i64) (vvI .i64) b13080 r13079, mapI (kvA .i64) (vvI .i64) b13043 (mset ([] : List (A8 × Int)) s12711.1 1), mapI (kvA .i64) (vvI .i64) b13071 r13070, mapI (kvA .i64) (vvI .i64) b12976 (mset ([] : List (A8 × Int)) (s11746.1.set i11745 (IntKind.i64.wrap ((q36.1.get i11745) - 1))) 1), blk b12720 73 (A8.enc .i64 (s11746.1.set i11745 (IntKind.i64.wrap ((q36.1.get i11745) - 1)))), blk b11753 73 (A8.enc .i64 s12711.1), blk b8829 73 (A8.enc .i64 s11746.1), blk b8825 73 (A8.enc .i64 q36.1), itI (kvA .i64) (vvI .i64) r28 b1 es29 ck30 (some ent8821) l37, blk b21 211 cs14, mapI (kvA .i64) (vvI .i64) b7 s11746.2.1]) (by decide) rfl
           exact ⟨rfl, _, rfl, ⟨b13080, r13079, b13043, b13071, r13070, b12976, (sk (sx hS_ 0 rfl) (sk (sx hS_ 1 rfl) (sk (sx hS_ 2 rfl) (sk (sx hS_ 3 rfl) (sk (sx hS_ 4 rfl) (sk (sx hS_ 5 rfl) (sk (sx hS_ 6 rfl) (sk (sx hS_ 7 rfl) (sk (sx hS_ 8 rfl) (sk (sx hS_ 9 rfl) (sk (sx hS_ 10 rfl) (sk rfl (sk rfl (sk (sx hS_ 11 rfl) (sk (sx hS_ 12 rfl) (sk (sx hS_ 13 rfl) (sk (sx hS_ 14 rfl) (sk (sx hS_ 15 rfl) (sk (sx hS_ 16 rfl) (sk (sx hS_ 17 rfl) (sk (sx hS_ 18 rfl) (sk (sx hS_ 19 rfl) (sk (sx hS_ 20 rfl) (sk (sx hS_ 21 rfl) (sk (sx hS_ 22 rfl) (sk (sx hS_ 23 rfl) (sk (sx hS_ 24 rfl) (sk (sx hS_ 25 rfl) (sk (sx hS_ 26 rfl) (sk (sx hS_ 27 rfl) (sk (sx hS_ 28 rfl) (sk rfl (sk rfl (sk rfl (sk rfl (sk rfl (sk rfl (sk rfl (sk rfl (sk rfl (sk rfl (sk rfl (sk rfl (sk rfl (sk rfl (sk rfl (sk rfl (sk rfl (sk rfl (sk rfl (sk rfl (sk rfl (sk rfl (sk rfl (sk rfl (sk rfl sn)))))))))))))))))))))))))))))))))))))))))))))))))))))))), hC, h⟩⟩
         ·skip
          refine s_mapsetN hC 0 s12711.1 1 rfl kt73 Tryz.underlying115 rfl rfl rfl (fun w13085 hBB_ hC => ?_) (.inr rfl)
          refine done ?_
          refine ak_introM (belN_belB hN_ hnb_b13043 hBB_) hN_ (l9 := (dbits 22 522227)) (by kernel_rfl) (fun hN_ => ?_)
          refine ae_lookF (belNPre _) 19 (.map (some b13043)) rfl rfl (by kernel_rfl) (hM12727 19 rfl) (fun w_ => .inl ⟨rfl, by exact r_mv (v := .map (some b13043)) rfl⟩) (l9 := (dbits 22 1046515)) (by kernel_rfl) ?_
          refine aO 2 rfl ?_
          refine s_mapsetN hC 1 (s11746.1.set i11745 (IntKind.i64.wrap ((q36.1.get i11745) - 1))) 1 rfl kt73 Tryz.underlying115 rfl rfl rfl (fun w13086 hBB_ hC => ?_) (.inr rfl)
          refine done ?_
          refine ak_introM (belN_belB hN_ hnb_b12976 hBB_) hN_ (l9 := (dbits 22 1046519)) (by kernel_rfl) (fun hN_ => ?_)
          refine ae_lookF (belNPre _) 3 (.map (some b12976)) rfl rfl (by kernel_rfl) (hM12727 3 rfl) (fun w_ => .inl ⟨rfl, by exact r_mv (v := .map (some b12976)) rfl⟩) (l9 := (dbits 22 1046527)) (by kernel_rfl) ?_
          refine aO 11 rfl ?_
          refine s_call [.map (some b12976), u0_0, .map (some b12729)] _ Tryz.func192 rfl rfl rfl (c_impl_sum_times (mset ([] : List (A8 × Int)) (s11746.1.set i11745 (IntKind.i64.wrap ((q36.1.get i11745) - 1))) 1) a0.degrees ml12728 h _ (hC.getM 1 rfl) (hC.getP 4 rfl) (hC.getP 0 rfl)) (fun ret13087 w13089 hR13088 => ?_)
          obtain ⟨r13090, b13091, rfl, h, hr13092, hf13093, hB13094⟩ := hR13088
          refine ⟨_, rfl, ?_⟩
          replace hC := hC.push hB13094 (mapI (kvA .i64) (vvI .i64) b13091 r13090) hr13092 (fun b_ hb_ => by obtain rfl := List.mem_singleton.1 hb_; exact hf13093)
          refine done ?_
          refine ak_introM (belN_of hN_ (by assumption)) hN_ (l9 := (dbits 22 1048575)) (by kernel_rfl) (fun hN_ => ?_)
          refine ae_tail 20 (by decide) (by decide) (by kernel_rfl) (by kernel_rfl) rfl ?_
          refine s_call [.map (some b13091), u0_0, .map (some b13043)] _ Tryz.func192 rfl rfl rfl (c_impl_sum_times r13090 a0.degrees (mset ([] : List (A8 × Int)) s12711.1 1) h _ (hC.getM 0 rfl) (hC.getP 4 rfl) (hC.getM 1 rfl)) (fun ret13096 w13098 hR13097 => ?_)
          obtain ⟨r13099, b13100, rfl, h, hr13101, hf13102, hB13103⟩ := hR13097
          refine ⟨_, rfl, ?_⟩
          replace hC := hC.push hB13103 (mapI (kvA .i64) (vvI .i64) b13100 r13099) hr13101 (fun b_ hb_ => by obtain rfl := List.mem_singleton.1 hb_; exact hf13102)
          refine s_as (v := .map (some b13100)) rfl ?_
          refine done ?_
          refine qn_norm ?_
          replace hC := hC.sM [0, 2, 1, 3, 4, 5, 6, 7, 8, 9, 10] (M' := [mapI (kvA .i64) (vvI .i64) b13100 r13099, mapI (kvA .i64) (vvI .i64) b13043 (mset ([] : List (A8 × Int)) s12711.1 1), mapI (kvA .i64) (vvI .i64) b13091 r13090, mapI (kvA .i64) (vvI .i64) b12976 (mset ([] : List (A8 × Int)) (s11746.1.set i11745 (IntKind.i64.wrap ((q36.1.get i11745) - 1))) 1), blk b12720 73 (A8.enc .i64 (s11746.1.set i11745 (IntKind.i64.wrap ((q36.1.get i11745) - 1)))), blk b11753 73 (A8.enc .i64 s12711.1), blk b8829 73 (A8.enc .i64 s11746.1), blk b8825 73 (A8.enc .i64 q36.1), itI (kvA .i64) (vvI .i64) r28 b1 es29 ck30 (some ent8821) l37, blk b21 211 cs14, mapI (kvA .i64) (vvI .i64) b7 s11746.2.1]) (by decide) rfl
          exact ⟨rfl, _, rfl, ⟨b13100, r13099, b13043, b13091, r13090, b12976, (sk (sx hS_ 0 rfl) (sk (sx hS_ 1 rfl) (sk (sx hS_ 2 rfl) (sk (sx hS_ 3 rfl) (sk (sx hS_ 4 rfl) (sk (sx hS_ 5 rfl) (sk (sx hS_ 6 rfl) (sk (sx hS_ 7 rfl) (sk (sx hS_ 8 rfl) (sk (sx hS_ 9 rfl) (sk (sx hS_ 10 rfl) (sk rfl (sk rfl (sk (sx hS_ 11 rfl) (sk (sx hS_ 12 rfl) (sk (sx hS_ 13 rfl) (sk (sx hS_ 14 rfl) (sk (sx hS_ 15 rfl) (sk (sx hS_ 16 rfl) (sk (sx hS_ 17 rfl) (sk (sx hS_ 18 rfl) (sk (sx hS_ 19 rfl) (sk (sx hS_ 20 rfl) (sk (sx hS_ 21 rfl) (sk (sx hS_ 22 rfl) (sk (sx hS_ 23 rfl) (sk (sx hS_ 24 rfl) (sk (sx hS_ 25 rfl) (sk (sx hS_ 26 rfl) (sk (sx hS_ 27 rfl) (sk (sx hS_ 28 rfl) (sk rfl (sk rfl (sk rfl (sk rfl (sk rfl (sk rfl (sk rfl (sk rfl (sk rfl (sk rfl (sk rfl (sk rfl (sk rfl (sk rfl (sk rfl (sk rfl (sk rfl (sk rfl (sk rfl (sk rfl (sk rfl (sk rfl (sk rfl (sk rfl (sk rfl sn)))))))))))))))))))))))))))))))))))))))))))))))))))))))), hC, h⟩⟩
       ·skip
        refine s_makeMapN hC (kvA .i64) (vvI .i64) fun b13105 w13107 hn_ hB_ hC => ?_
        have hnb_b13105 := Nat.le_trans hN_ hn_
        refine done ?_
        refine ak_introM (belN_of hN_ (by assumption)) hN_ (l9 := (dbits 22 260082)) (by kernel_rfl) (fun hN_ => ?_)
        refine ae_two 0 18 rfl rfl (by kernel_rfl) ?_ ?_
        ·skip
         refine s_makeMapN hC (kvA .i64) (vvI .i64) fun b13108 w13110 hn_ hB_ hC => ?_
         have hnb_b13108 := Nat.le_trans hN_ hn_
         refine done ?_
         refine ak_introM (belN_of hN_ (by assumption)) hN_ (l9 := (dbits 22 260083)) (by kernel_rfl) (fun hN_ => ?_)
         refine ae_two 2 18 rfl rfl (by kernel_rfl) ?_ ?_
         ·skip
          refine s_mapsetN hC 0 (s11746.1.set i11745 (IntKind.i64.wrap ((q36.1.get i11745) - 1))) 1 rfl kt73 Tryz.underlying115 rfl rfl rfl (fun w13111 hBB_ hC => ?_) (.inr rfl)
          refine done ?_
          refine ak_introM (belN_belB hN_ hnb_b13108 hBB_) hN_ (l9 := (dbits 22 260087)) (by kernel_rfl) (fun hN_ => ?_)
          refine ae_lookF (belNPre _) 3 (.map (some b13108)) rfl rfl (by kernel_rfl) (hM12727 3 rfl) (fun w_ => .inl ⟨rfl, by exact r_mv (v := .map (some b13108)) rfl⟩) (l9 := (dbits 22 260095)) (by kernel_rfl) ?_
          refine ae_two 11 18 rfl rfl (by kernel_rfl) ?_ ?_
          ·skip
           refine s_call [.map (some b13108), u0_0, .map (some b12729)] _ Tryz.func192 rfl rfl rfl (c_impl_sum_times (mset ([] : List (A8 × Int)) (s11746.1.set i11745 (IntKind.i64.wrap ((q36.1.get i11745) - 1))) 1) a0.degrees ml12728 h _ (hC.getM 0 rfl) (hC.getP 4 rfl) (hC.getP 0 rfl)) (fun ret13112 w13114 hR13113 => ?_)
           obtain ⟨r13115, b13116, rfl, h, hr13117, hf13118, hB13119⟩ := hR13113
           refine ⟨_, rfl, ?_⟩
           replace hC := hC.push hB13119 (mapI (kvA .i64) (vvI .i64) b13116 r13115) hr13117 (fun b_ hb_ => by obtain rfl := List.mem_singleton.1 hb_; exact hf13118)
           refine done ?_
           refine ak_introM (belN_of hN_ (by assumption)) hN_ (l9 := (dbits 22 262143)) (by kernel_rfl) (fun hN_ => ?_)
           refine aO 18 rfl ?_
           refine s_mapsetN hC 2 s12711.1 1 rfl kt73 Tryz.underlying115 rfl rfl rfl (fun w13121 hBB_ hC => ?_) (.inr rfl)
           refine done ?_
           refine ak_introM (belN_belB hN_ hnb_b13105 hBB_) hN_ (l9 := (dbits 22 524287)) (by kernel_rfl) (fun hN_ => ?_)
           refine ae_lookF (belNPre _) 19 (.map (some b13105)) rfl rfl (by kernel_rfl) (hM12727 19 rfl) (fun w_ => .inl ⟨rfl, by exact r_mv (v := .map (some b13105)) rfl⟩) (l9 := (dbits 22 1048575)) (by kernel_rfl) ?_
           refine ae_tail 20 (by decide) (by decide) (by kernel_rfl) (by kernel_rfl) rfl ?_
           refine s_call [.map (some b13116), u0_0, .map (some b13105)] _ Tryz.func192 rfl rfl rfl (c_impl_sum_times r13115 a0.degrees (mset ([] : List (A8 × Int)) s12711.1 1) h _ (hC.getM 0 rfl) (hC.getP 4 rfl) (hC.getM 2 rfl)) (fun ret13122 w13124 hR13123 => ?_)
           obtain ⟨r13125, b13126, rfl, h, hr13127, hf13128, hB13129⟩ := hR13123
           refine ⟨_, rfl, ?_⟩
           replace hC := hC.push hB13129 (mapI (kvA .i64) (vvI .i64) b13126 r13125) hr13127 (fun b_ hb_ => by obtain rfl := List.mem_singleton.1 hb_; exact hf13128)
           refine s_as (v := .map (some b13126)) rfl ?_
           refine done ?_
           refine qn_norm ?_
           replace hC := hC.sM [0, 3, 1, 2, 4, 5, 6, 7, 8, 9, 10] (M' := [mapI (kvA .i64) (vvI .i64) b13126 r13125, mapI (kvA .i64) (vvI .i64) b13105 (mset ([] : List (A8 × Int)) s12711.1 1), mapI (kvA .i64) (vvI .i64) b13116 r13115, mapI (kvA .i64) (vvI .i64) b13108 (mset ([] : List (A8 × Int)) (s11746.1.set i11745 (IntKind.i64.wrap ((q36.1.get i11745) - 1))) 1), blk b12720 73 (A8.enc .i64 (s11746.1.set i11745 (IntKind.i64.wrap ((q36.1.get i11745) - 1)))), blk b11753 73 (A8.enc .i64 s12711.1), blk b8829 73 (A8.enc .i64 s11746.1), blk b8825 73 (A8.enc .i64 q36.1), itI (kvA .i64) (vvI .i64) r28 b1 es29 ck30 (some ent8821) l37, blk b21 211 cs14, mapI (kvA .i64) (vvI .i64) b7 s11746.2.1]) (by decide) rfl
           exact ⟨rfl, _, rfl, ⟨b13126, r13125, b13105, b13116, r13115, b13108, (sk (sx hS_ 0 rfl) (sk (sx hS_ 1 rfl) (sk (sx hS_ 2 rfl) (sk (sx hS_ 3 rfl) (sk (sx hS_ 4 rfl) (sk (sx hS_ 5 rfl) (sk (sx hS_ 6 rfl) (sk (sx hS_ 7 rfl) (sk (sx hS_ 8 rfl) (sk (sx hS_ 9 rfl) (sk (sx hS_ 10 rfl) (sk rfl (sk rfl (sk (sx hS_ 11 rfl) (sk (sx hS_ 12 rfl) (sk (sx hS_ 13 rfl) (sk (sx hS_ 14 rfl) (sk (sx hS_ 15 rfl) (sk (sx hS_ 16 rfl) (sk (sx hS_ 17 rfl) (sk (sx hS_ 18 rfl) (sk (sx hS_ 19 rfl) (sk (sx hS_ 20 rfl) (sk (sx hS_ 21 rfl) (sk (sx hS_ 22 rfl) (sk (sx hS_ 23 rfl) (sk (sx hS_ 24 rfl) (sk (sx hS_ 25 rfl) (sk (sx hS_ 26 rfl) (sk (sx hS_ 27 rfl) (sk (sx hS_ 28 rfl) (sk rfl (sk rfl (sk rfl (sk rfl (sk rfl (sk rfl (sk rfl (sk rfl (sk rfl (sk rfl (sk rfl (sk rfl (sk rfl (sk rfl (sk rfl (sk rfl (sk rfl (sk rfl (sk rfl (sk rfl (sk rfl (sk rfl (sk rfl (sk rfl (sk rfl sn)))))))))))))))))))))))))))))))))))))))))))))))))))))))), hC, h⟩⟩
          ·skip
           refine s_mapsetN hC 1 s12711.1 1 rfl kt73 Tryz.underlying115 rfl rfl rfl (fun w13131 hBB_ hC => ?_) (.inr rfl)
           refine done ?_
           refine ak_introM (belN_belB hN_ hnb_b13105 hBB_) hN_ (l9 := (dbits 22 522239)) (by kernel_rfl) (fun hN_ => ?_)
           refine ae_lookF (belNPre _) 19 (.map (some b13105)) rfl rfl (by kernel_rfl) (hM12727 19 rfl) (fun w_ => .inl ⟨rfl, by exact r_mv (v := .map (some b13105)) rfl⟩) (l9 := (dbits 22 1046527)) (by kernel_rfl) ?_
           refine aO 11 rfl ?_
           refine s_call [.map (some b13108), u0_0, .map (some b12729)] _ Tryz.func192 rfl rfl rfl (c_impl_sum_times (mset ([] : List (A8 × Int)) (s11746.1.set i11745 (IntKind.i64.wrap ((q36.1.get i11745) - 1))) 1) a0.degrees ml12728 h _ (hC.getM 0 rfl) (hC.getP 4 rfl) (hC.getP 0 rfl)) (fun ret13132 w13134 hR13133 => ?_)
           obtain ⟨r13135, b13136, rfl, h, hr13137, hf13138, hB13139⟩ := hR13133
           refine ⟨_, rfl, ?_⟩
           replace hC := hC.push hB13139 (mapI (kvA .i64) (vvI .i64) b13136 r13135) hr13137 (fun b_ hb_ => by obtain rfl := List.mem_singleton.1 hb_; exact hf13138)
           refine done ?_
           refine ak_introM (belN_of hN_ (by assumption)) hN_ (l9 := (dbits 22 1048575)) (by kernel_rfl) (fun hN_ => ?_)
           refine ae_tail 20 (by decide) (by decide) (by kernel_rfl) (by kernel_rfl) rfl ?_
           refine s_call [.map (some b13136), u0_0, .map (some b13105)] _ Tryz.func192 rfl rfl rfl (c_impl_sum_times r13135 a0.degrees (mset ([] : List (A8 × Int)) s12711.1 1) h _ (hC.getM 0 rfl) (hC.getP 4 rfl) (hC.getM 2 rfl)) (fun ret13141 w13143 hR13142 => ?_)
           obtain ⟨r13144, b13145, rfl, h, hr13146, hf13147, hB13148⟩ := hR13142
           refine ⟨_, rfl, ?_⟩
           replace hC := hC.push hB13148 (mapI (kvA .i64) (vvI .i64) b13145 r13144) hr13146 (fun b_ hb_ => by obtain rfl := List.mem_singleton.1 hb_; exact hf13147)
           refine s_as (v := .map (some b13145)) rfl ?_
           refine done ?_
           refine qn_norm ?_
           replace hC := hC.sM [0, 3, 1, 2, 4, 5, 6, 7, 8, 9, 10] (M' := [mapI (kvA .i64) (vvI .i64) b13145 r13144, mapI (kvA .i64) (vvI .i64) b13105 (mset ([] : List (A8 × Int)) s12711.1 1), mapI (kvA .i64) (vvI .i64) b13136 r13135, mapI (kvA .i64) (vvI .i64) b13108 (mset ([] : List (A8 × Int)) (s11746.1.set i11745 (IntKind.i64.wrap ((q36.1.get i11745) - 1))) 1), blk b12720 73 (A8.enc .i64 (s11746.1.set i11745 (IntKind.i64.wrap ((q36.1.get i11745) - 1)))), blk b11753 73 (A8.enc .i64 s12711.1), blk b8829 73 (A8.enc .i64 s11746.1), blk b8825 73 (A8.enc .i64 q36.1), itI (kvA .i64) (vvI .i64) r28 b1 es29 ck30 (some ent8821) l37, blk b21 211 cs14, mapI (kvA .i64) (vvI .i64) b7 s11746.2.1]) (by decide) rfl
           exact ⟨rfl, _, rfl, ⟨b13145, r13144, b13105, b13136, r13135, b13108, (sk (sx hS_ 0 rfl) (sk (sx hS_ 1 rfl) (sk (sx hS_ 2 rfl) (sk (sx hS_ 3 rfl) (sk (sx hS_ 4 rfl) (sk (sx hS_ 5 rfl) (sk (sx hS_ 6 rfl) (sk (sx hS_ 7 rfl) (sk (sx hS_ 8 rfl) (sk (sx hS_ 9 rfl) (sk (sx hS_ 10 rfl) (sk rfl (sk rfl (sk (sx hS_ 11 rfl) (sk (sx hS_ 12 rfl) (sk (sx hS_ 13 rfl) (sk (sx hS_ 14 rfl) (sk (sx hS_ 15 rfl) (sk (sx hS_ 16 rfl) (sk (sx hS_ 17 rfl) (sk (sx hS_ 18 rfl) (sk (sx hS_ 19 rfl) (sk (sx hS_ 20 rfl) (sk (sx hS_ 21 rfl) (sk (sx hS_ 22 rfl) (sk (sx hS_ 23 rfl) (sk (sx hS_ 24 rfl) (sk (sx hS_ 25 rfl) (sk (sx hS_ 26 rfl) (sk (sx hS_ 27 rfl) (sk (sx hS_ 28 rfl) (sk rfl (sk rfl (sk rfl (sk rfl (sk rfl (sk rfl (sk rfl (sk rfl (sk rfl (sk rfl (sk rfl (sk rfl (sk rfl (sk rfl (sk rfl (sk rfl (sk rfl (sk rfl (sk rfl (sk rfl (sk rfl (sk rfl (sk rfl (sk rfl (sk rfl sn)))))))))))))))))))))))))))))))))))))))))))))))))))))))), hC, h⟩⟩
         ·skip
          refine s_mapsetN hC 1 s12711.1 1 rfl kt73 Tryz.underlying115 rfl rfl rfl (fun w13150 hBB_ hC => ?_) (.inr rfl)
          refine done ?_
          refine ak_introM (belN_belB hN_ hnb_b13105 hBB_) hN_ (l9 := (dbits 22 522227)) (by kernel_rfl) (fun hN_ => ?_)
          refine ae_lookF (belNPre _) 19 (.map (some b13105)) rfl rfl (by kernel_rfl) (hM12727 19 rfl) (fun w_ => .inl ⟨rfl, by exact r_mv (v := .map (some b13105)) rfl⟩) (l9 := (dbits 22 1046515)) (by kernel_rfl) ?_
          refine aO 2 rfl ?_
          refine s_mapsetN hC 0 (s11746.1.set i11745 (IntKind.i64.wrap ((q36.1.get i11745) - 1))) 1 rfl kt73 Tryz.underlying115 rfl rfl rfl (fun w13151 hBB_ hC => ?_) (.inr rfl)
          refine done ?_
          refine ak_introM (belN_belB hN_ hnb_b13108 hBB_) hN_ (l9 := (dbits 22 1046519)) (by kernel_rfl) (fun hN_ => ?_)
          refine ae_lookF (belNPre _) 3 (.map (some b13108)) rfl rfl (by kernel_rfl) (hM12727 3 rfl) (fun w_ => .inl ⟨rfl, by exact r_mv (v := .map (some b13108)) rfl⟩) (l9 := (dbits 22 1046527)) (by kernel_rfl) ?_
          refine aO 11 rfl ?_
          refine s_call [.map (some b13108), u0_0, .map (some b12729)] _ Tryz.func192 rfl rfl rfl (c_impl_sum_times (mset ([] : List (A8 × Int)) (s11746.1.set i11745 (IntKind.i64.wrap ((q36.1.get i11745) - 1))) 1) a0.degrees ml12728 h _ (hC.getM 0 rfl) (hC.getP 4 rfl) (hC.getP 0 rfl)) (fun ret13152 w13154 hR13153 => ?_)
          obtain ⟨r13155, b13156, rfl, h, hr13157, hf13158, hB13159⟩ := hR13153
          refine ⟨_, rfl, ?_⟩
          replace hC := hC.push hB13159 (mapI (kvA .i64) (vvI .i64) b13156 r13155) hr13157 (fun b_ hb_ => by obtain rfl := List.mem_singleton.1 hb_; exact hf13158)
          refine done ?_
          refine ak_introM (belN_of hN_ (by assumption)) hN_ (l9 := (dbits 22 1048575)) (by kernel_rfl) (fun hN_ => ?_)
          refine ae_tail 20 (by decide) (by decide) (by kernel_rfl) (by kernel_rfl) rfl ?_
          refine s_call [.map (some b13156), u0_0, .map (some b13105)] _ Tryz.func192 rfl rfl rfl (c_impl_sum_times r13155 a0.degrees (mset ([] : List (A8 × Int)) s12711.1 1) h _ (hC.getM 0 rfl) (hC.getP 4 rfl) (hC.getM 2 rfl)) (fun ret13161 w13163 hR13162 => ?_)
          obtain ⟨r13164, b13165, rfl, h, hr13166, hf13167, hB13168⟩ := hR13162
          refine ⟨_, rfl, ?_⟩
          replace hC := hC.push hB13168 (mapI (kvA .i64) (vvI .i64) b13165 r13164) hr13166 (fun b_ hb_ => by obtain rfl := List.mem_singleton.1 hb_; exact hf13167)
          refine s_as (v := .map (some b13165)) rfl ?_
          refine done ?_
          refine qn_norm ?_
          replace hC := hC.sM [0, 3, 1, 2, 4, 5, 6, 7, 8, 9, 10] (M' := [mapI (kvA .i64) (vvI .i64) b13165 r13164, mapI (kvA .i64) (vvI .i64) b13105 (mset ([] : List (A8 × Int)) s12711.1 1), mapI (kvA .i64) (vvI .i64) b13156 r13155, mapI (kvA .i64) (vvI .i64) b13108 (mset ([] : List (A8 × Int)) (s11746.1.set i11745 (IntKind.i64.wrap ((q36.1.get i11745) - 1))) 1), blk b12720 73 (A8.enc .i64 (s11746.1.set i11745 (IntKind.i64.wrap ((q36.1.get i11745) - 1)))), blk b11753 73 (A8.enc .i64 s12711.1), blk b8829 73 (A8.enc .i64 s11746.1), blk b8825 73 (A8.enc .i64 q36.1), itI (kvA .i64) (vvI .i64) r28 b1 es29 ck30 (some ent8821) l37, blk b21 211 cs14, mapI (kvA .i64) (vvI .i64) b7 s11746.2.1]) (by decide) rfl
          exact ⟨rfl, _, rfl, ⟨b13165, r13164, b13105, b13156, r13155, b13108, (sk (sx hS_ 0 rfl) (sk (sx hS_ 1 rfl) (sk (sx hS_ 2 rfl) (sk (sx hS_ 3 rfl) (sk (sx hS_ 4 rfl) (sk (sx hS_ 5 rfl) (sk (sx hS_ 6 rfl) (sk (sx hS_ 7 rfl) (sk (sx hS_ 8 rfl) (sk (sx hS_ 9 rfl) (sk (sx hS_ 10 rfl) (sk rfl (sk rfl (sk (sx hS_ 11 rfl) (sk (sx hS_ 12 rfl) (sk (sx hS_ 13 rfl) (sk (sx hS_ 14 rfl) (sk (sx hS_ 15 rfl) (sk (sx hS_ 16 rfl) (sk (sx hS_ 17 rfl) (sk (sx hS_ 18 rfl) (sk (sx hS_ 19 rfl) (sk (sx hS_ 20 rfl) (sk (sx hS_ 21 rfl) (sk (sx hS_ 22 rfl) (sk (sx hS_ 23 rfl) (sk (sx hS_ 24 rfl) (sk (sx hS_ 25 rfl) (sk (sx hS_ 26 rfl) (sk (sx hS_ 27 rfl) (sk (sx hS_ 28 rfl) (sk rfl (sk rfl (sk rfl (sk rfl (sk rfl (sk rfl (sk rfl (sk rfl (sk rfl (sk rfl (sk rfl (sk rfl (sk rfl (sk rfl (sk rfl (sk rfl (sk rfl (sk rfl (sk rfl (sk rfl (sk rfl (sk rfl (sk rfl (sk rfl (sk rfl sn)))))))))))))))))))))))))))))))))))))))))))))))))))))))), hC, h⟩⟩
        ·skip
         refine s_mapsetN hC 0 s12711.1 1 rfl kt73 Tryz.underlying115 rfl rfl rfl (fun w13170 hBB_ hC => ?_) (.inr rfl)
         refine done ?_
         refine ak_introM (belN_belB hN_ hnb_b13105 hBB_) hN_ (l9 := (dbits 22 522226)) (by kernel_rfl) (fun hN_ => ?_)
         refine ae_lookF (belNPre _) 19 (.map (some b13105)) rfl rfl (by kernel_rfl) (hM12727 19 rfl) (fun w_ => .inl ⟨rfl, by exact r_mv (v := .map (some b13105)) rfl⟩) (l9 := (dbits 22 1046514)) (by kernel_rfl) ?_
         refine aO 0 rfl ?_
         refine s_makeMapN hC (kvA .i64) (vvI .i64) fun b13171 w13173 hn_ hB_ hC => ?_
         have hnb_b13171 := Nat.le_trans hN_ hn_
         refine done ?_
         refine ak_introM (belN_of hN_ (by assumption)) hN_ (l9 := (dbits 22 1046515)) (by kernel_rfl) (fun hN_ => ?_)
         refine aO 2 rfl ?_
         refine s_mapsetN hC 0 (s11746.1.set i11745 (IntKind.i64.wrap ((q36.1.get i11745) - 1))) 1 rfl kt73 Tryz.underlying115 rfl rfl rfl (fun w13174 hBB_ hC => ?_) (.inr rfl)
         refine done ?_
         refine ak_introM (belN_belB hN_ hnb_b13171 hBB_) hN_ (l9 := (dbits 22 1046519)) (by kernel_rfl) (fun hN_ => ?_)
         refine ae_lookF (belNPre _) 3 (.map (some b13171)) rfl rfl (by kernel_rfl) (hM12727 3 rfl) (fun w_ => .inl ⟨rfl, by exact r_mv (v := .map (some b13171)) rfl⟩) (l9 := (dbits 22 1046527)) (by kernel_rfl) ?_
         refine aO 11 rfl ?_
         refine s_call [.map (some b13171), u0_0, .map (some b12729)] _ Tryz.func192 rfl rfl rfl (c_impl_sum_times (mset ([] : List (A8 × Int)) (s11746.1.set i11745 (IntKind.i64.wrap ((q36.1.get i11745) - 1))) 1) a0.degrees ml12728 h _ (hC.getM 0 rfl) (hC.getP 4 rfl) (hC.getP 0 rfl)) (fun ret13175 w13177 hR13176 => ?_)
         obtain ⟨r13178, b13179, rfl, h, hr13180, hf13181, hB13182⟩ := hR13176
         refine ⟨_, rfl, ?_⟩
         replace hC := hC.push hB13182 (mapI (kvA .i64) (vvI .i64) b13179 r13178) hr13180 (fun b_ hb_ => by obtain rfl := List.mem_singleton.1 hb_; exact hf13181)
         refine done ?_
         refine ak_introM (belN_of hN_ (by assumption)) hN_ (l9 := (dbits 22 1048575)) (by kernel_rfl) (fun hN_ => ?_)
         refine ae_tail 20 (by decide) (by decide) (by kernel_rfl) (by kernel_rfl) rfl ?_
         refine s_call [.map (some b13179), u0_0, .map (some b13105)] _ Tryz.func192 rfl rfl rfl (c_impl_sum_times r13178 a0.degrees (mset ([] : List (A8 × Int)) s12711.1 1) h _ (hC.getM 0 rfl) (hC.getP 4 rfl) (hC.getM 2 rfl)) (fun ret13184 w13186 hR13185 => ?_)
         obtain ⟨r13187, b13188, rfl, h, hr13189, hf13190, hB13191⟩ := hR13185
         refine ⟨_, rfl, ?_⟩
         replace hC := hC.push hB13191 (mapI (kvA .i64) (vvI .i64) b13188 r13187) hr13189 (fun b_ hb_ => by obtain rfl := List.mem_singleton.1 hb_; exact hf13190)
         refine s_as (v := .map (some b13188)) rfl ?_
         refine done ?_
         refine qn_norm ?_
         replace hC := hC.sM [0, 3, 1, 2, 4, 5, 6, 7, 8, 9, 10] (M' := [mapI (kvA .i64) (vvI .i64) b13188 r13187, mapI (kvA .i64) (vvI .i64) b13105 (mset ([] : List (A8 × Int)) s12711.1 1), mapI (kvA .i64) (vvI .i64) b13179 r13178, mapI (kvA .i64) (vvI .i64) b13171 (mset ([] : List (A8 × Int)) (s11746.1.set i11745 (IntKind.i64.wrap ((q36.1.get i11745) - 1))) 1), blk b12720 73 (A8.enc .i64 (s11746.1.set i11745 (IntKind.i64.wrap ((q36.1.get i11745) - 1)))), blk b11753 73 (A8.enc .i64 s12711.1), blk b8829 73 (A8.enc .i64 s11746.1), blk b8825 73 (A8.enc .i64 q36.1), itI (kvA .i64) (vvI .i64) r28 b1 es29 ck30 (some ent8821) l37, blk b21 211 cs14, mapI (kvA .i64) (vvI .i64) b7 s11746.2.1]) (by decide) rfl
         exact ⟨rfl, _, rfl, ⟨b13188, r13187, b13105, b13179, r13178, b13171, (sk (sx hS_ 0 rfl) (sk (sx hS_ 1 rfl) (sk (sx hS_ 2 rfl) (sk (sx hS_ 3 rfl) (sk (sx hS_ 4 rfl) (sk (sx hS_ 5 rfl) (sk (sx hS_ 6 rfl) (sk (sx hS_ 7 rfl) (sk (sx hS_ 8 rfl) (sk (sx hS_ 9 rfl) (sk (sx hS_ 10 rfl) (sk rfl (sk rfl (sk (sx hS_ 11 rfl) (sk (sx hS_ 12 rfl) (sk (sx hS_ 13 rfl) (sk (sx hS_ 14 rfl) (sk (sx hS_ 15 rfl) (sk (sx hS_ 16 rfl) (sk (sx hS_ 17 rfl) (sk (sx hS_ 18 rfl) (sk (sx hS_ 19 rfl) (sk (sx hS_ 20 rfl) (sk (sx hS_ 21 rfl) (sk (sx hS_ 22 rfl) (sk (sx hS_ 23 rfl) (sk (sx hS_ 24 rfl) (sk (sx hS_ 25 rfl) (sk (sx hS_ 26 rfl) (sk (sx hS_ 27 rfl) (sk (sx hS_ 28 rfl) (sk rfl (sk rfl (sk rfl (sk rfl (sk rfl (sk rfl (sk rfl (sk rfl (sk rfl (sk rfl (sk rfl (sk rfl (sk rfl (sk rfl (sk rfl (sk rfl (sk rfl (sk rfl (sk rfl (sk rfl (sk rfl (sk rfl (sk rfl (sk rfl (sk rfl sn)))))))))))))))))))))))))))))))))))))))))))))))))))))))), hC, h⟩⟩
     ·skip
      exact ⟨(sk (sx hS_ 0 rfl) (sk (sx hS_ 1 rfl) (sk (sx hS_ 2 rfl) (sk (sx hS_ 3 rfl) (sk (sx hS_ 4 rfl) (sk (sx hS_ 5 rfl) (sk (sx hS_ 6 rfl) (sk (sx hS_ 7 rfl) (sk rfl (sk rfl (sk rfl (sk (sx hS_ 8 rfl) (sk (sx hS_ 9 rfl) (sk (sx hS_ 10 rfl) (sk (sx hS_ 11 rfl) (sk (sx hS_ 12 rfl) (sk (sx hS_ 13 rfl) (sk (sx hS_ 14 rfl) (sk (sx hS_ 15 rfl) (sk (sx hS_ 16 rfl) (sk rfl (sk rfl (sk rfl (sk rfl (sk rfl (sk rfl (sk rfl (sk rfl (sk rfl sn))))))))))))))))))))))))))))), hC⟩
    ·replace h := iff_ h (cf hb11752)
     refine wp_skip ?_
     refine then_norm ?_
     refine sr ?_
     refine s_mv (v := .int .i64 (i11745 : Int)) rfl ?_
     refine s_mv (v := .int .i64 (q36.1.get i11745)) rfl ?_
     refine s_iaddrB i11745 Tryz.underlying73 sc3.size (sx hS_ 6 rfl) rfl (Int.natCast_nonneg _) (by omega) (by omega) ?_
     refine s_store (v := .int .i64 (q36.1.get i11745)) hC 0 [.int .i64 (q36.1.get i11745)] (A8.enc .i64 (s11746.1.set i11745 (q36.1.get i11745))) rfl sc3.size rfl rfl rfl rfl rfl hi11750 (A8.enc_set _ _ _ hi11750) fun w13193 hC => ?_
     refine dn ?_
     refine sr ?_
     refine s_mv (v := .int .i64 (i11745 : Int)) rfl ?_
     refine s_mv (v := .pointer (some ⟨b0, 0, none⟩)) (sx hS_ 0 rfl) ?_
     refine s_nilchk rfl ?_
     refine s_faddrB 0 Tryz.underlying32 rfl sc22.size rfl rfl ?_
     refine s_loadSh (u0_0) (hC.getP 5 rfl) sc22 rfl rfl ?_
     obtain ⟨Ad13194, c13195, hv13196⟩ := sl_len (hC.getP 3 rfl)
     refine s_len Tryz.underlying22 (tr rfl hv13196) ?_
     refine s_lss rfl rfl ?_
     refine s_mv (v := .bool (decide ((i11745 : Int) < (a0.degrees.length : Int)))) rfl ?_
     refine bsplit (decide ((i11745 : Int) < (a0.degrees.length : Int))) (fun hb13197 => ?_) (fun hb13197 => ?_)
     ·replace h := ift h (ct hb13197)
      refine guardOn 7 87 rfl rfl hb13197 ?_
      refine s_mv (v := .pointer (some ⟨b0, 0, none⟩)) (sx hS_ 0 rfl) ?_
      refine guardOn 7 87 rfl rfl hb13197 ?_
      refine s_nilchk rfl ?_
      refine guardOn 7 87 rfl rfl hb13197 ?_
      refine s_faddrB 0 Tryz.underlying32 rfl sc22.size rfl rfl ?_
      refine guardOn 7 87 rfl rfl hb13197 ?_
      refine s_loadSh (u0_0) (hC.getP 5 rfl) sc22 rfl rfl ?_
      refine guardOn 7 87 rfl rfl hb13197 ?_
      refine s_mv (v := .int .i64 (i11745 : Int)) rfl ?_
      refine guardOn 7 87 rfl rfl hb13197 ?_
      obtain ⟨⟨h0_13198, h1_13199⟩, h⟩ := h
      obtain ⟨Ad13200, c13201, hv13202⟩ := sl_form (hC.getP 3 rfl) i11745 (show i11745 < a0.degrees.length by omega)
      refine s_iaddrS (len := a0.degrees.length) Tryz.underlying22 sc2.size (tr rfl hv13202) rfl h0_13198 h1_13199 ?_
      refine guardOn 7 87 rfl rfl hb13197 ?_
      refine s_loadCS (.int .i64 (a0.degrees.getD i11745 default)) (sl_cellsE (hC.getP 3 rfl) hv13202 i11745 (show i11745 < a0.degrees.length by omega)) sc2 rfl ?_
      refine guardOn 7 87 rfl rfl hb13197 ?_
      refine s_rem rfl rfl (by decide) ?_
      refine guardOn 7 87 rfl rfl hb13197 ?_
      refine s_eql rfl rfl ?_
      refine s_pick (v := .bool (decide (Int.tmod (a0.degrees.getD i11745 default) 2 = 1))) (b := true) (tr rfl (congrArg _ hb13197)) rfl ?_
      refine s_mv (v := .bool (decide (Int.tmod (a0.degrees.getD i11745 default) 2 = 1))) rfl ?_
      refine bsplit (decide (Int.tmod (a0.degrees.getD i11745 default) 2 = 1)) (fun hb13203 => ?_) (fun hb13203 => ?_)
      ·replace h := ift h (ct hb13203)
       refine guardOn 18 98 rfl rfl hb13203 ?_
       refine s_mv (v := .int .i64 (q36.1.get i11745)) rfl ?_
       refine guardOn 18 98 rfl rfl hb13203 ?_
       refine s_rem rfl rfl (by decide) ?_
       refine guardOn 18 98 rfl rfl hb13203 ?_
       refine s_eql rfl rfl ?_
       refine s_pick (v := .bool (decide (Int.tmod (q36.1.get i11745) 2 = 1))) (b := true) (tr rfl (congrArg _ hb13203)) rfl ?_
       refine dn ?_
       refine cw_cond rfl (fun hb13204 => ?_) (fun hb13204 => ?_)
       ·replace h := ift h (ct hb13204)
        refine cw_region ?_
        refine s_mv (v := .int .i64 s11746.2.2) (sx hS_ 7 rfl) ?_
        refine s_neg rfl ?_
        refine s_as (v := .int .i64 (IntKind.i64.wrap (0 - s11746.2.2))) rfl ?_
        refine done ?_
        refine blk_norm ?_
        refine then_norm ?_
        refine cw_region ?_
        refine s_add (sx hS_ 16 rfl) rfl ?_
        refine s_mv (v := .int .i64 (IntKind.i64.wrap ((i11745 : Int) + 1))) rfl ?_
        refine done ?_
        exact hK11749 (s11746.1.set i11745 (q36.1.get i11745), s11746.2.1, IntKind.i64.wrap (0 - s11746.2.2)) _ _ ⟨(sk (sx hS_ 0 rfl) (sk (sx hS_ 1 rfl) (sk (sx hS_ 2 rfl) (sk (sx hS_ 3 rfl) (sk (sx hS_ 4 rfl) (sk (sx hS_ 5 rfl) (sk (sx hS_ 6 rfl) (sk rfl (sk (sx hS_ 8 rfl) (sk (sx hS_ 9 rfl) (sk (sx hS_ 10 rfl) (sk (sx hS_ 11 rfl) (sk (sx hS_ 12 rfl) (sk (sx hS_ 13 rfl) (sk (sx hS_ 14 rfl) (sk (sx hS_ 15 rfl) (sk (tr rfl (congrArg _ (wrap64_nat hi11750 (by decide)))) sn))))))))))))))))), hC⟩ h
       ·replace h := iff_ h (cf hb13204)
        refine wp_skip ?_
        refine blk_norm ?_
        refine then_norm ?_
        refine cw_region ?_
        refine s_add (sx hS_ 16 rfl) rfl ?_
        refine s_mv (v := .int .i64 (IntKind.i64.wrap ((i11745 : Int) + 1))) rfl ?_
        refine done ?_
        exact hK11749 (s11746.1.set i11745 (q36.1.get i11745), s11746.2.1, s11746.2.2) _ _ ⟨(sk (sx hS_ 0 rfl) (sk (sx hS_ 1 rfl) (sk (sx hS_ 2 rfl) (sk (sx hS_ 3 rfl) (sk (sx hS_ 4 rfl) (sk (sx hS_ 5 rfl) (sk (sx hS_ 6 rfl) (sk (sx hS_ 7 rfl) (sk (sx hS_ 8 rfl) (sk (sx hS_ 9 rfl) (sk (sx hS_ 10 rfl) (sk (sx hS_ 11 rfl) (sk (sx hS_ 12 rfl) (sk (sx hS_ 13 rfl) (sk (sx hS_ 14 rfl) (sk (sx hS_ 15 rfl) (sk (tr rfl (congrArg _ (wrap64_nat hi11750 (by decide)))) sn))))))))))))))))), hC⟩ h
      ·replace h := iff_ h (cf hb13203)
       refine guardOff (b := false) 18 98 rfl (tr rfl (congrArg _ hb13203)) (by decide) ?_
       refine guardOff (b := false) 18 98 rfl (tr rfl (congrArg _ hb13203)) (by decide) ?_
       refine guardOff (b := false) 18 98 rfl (tr rfl (congrArg _ hb13203)) (by decide) ?_
       refine s_pick (v := .bool false) (b := false) (tr rfl (congrArg _ hb13203)) rfl ?_
       refine dn ?_
       refine cw_false rfl rfl ?_
       refine wp_skip ?_
       refine blk_norm ?_
       refine then_norm ?_
       refine cw_region ?_
       refine s_add (sx hS_ 16 rfl) rfl ?_
       refine s_mv (v := .int .i64 (IntKind.i64.wrap ((i11745 : Int) + 1))) rfl ?_
       refine done ?_
       exact hK11749 (s11746.1.set i11745 (q36.1.get i11745), s11746.2.1, s11746.2.2) _ _ ⟨(sk (sx hS_ 0 rfl) (sk (sx hS_ 1 rfl) (sk (sx hS_ 2 rfl) (sk (sx hS_ 3 rfl) (sk (sx hS_ 4 rfl) (sk (sx hS_ 5 rfl) (sk (sx hS_ 6 rfl) (sk (sx hS_ 7 rfl) (sk (sx hS_ 8 rfl) (sk (sx hS_ 9 rfl) (sk (sx hS_ 10 rfl) (sk (sx hS_ 11 rfl) (sk (sx hS_ 12 rfl) (sk (sx hS_ 13 rfl) (sk (sx hS_ 14 rfl) (sk (sx hS_ 15 rfl) (sk (tr rfl (congrArg _ (wrap64_nat hi11750 (by decide)))) sn))))))))))))))))), hC⟩ h
     ·replace h := iff_ h (cf hb13197)
      refine guardOff (b := false) 7 87 rfl (tr rfl (congrArg _ hb13197)) (by decide) ?_
      refine guardOff (b := false) 7 87 rfl (tr rfl (congrArg _ hb13197)) (by decide) ?_
      refine guardOff (b := false) 7 87 rfl (tr rfl (congrArg _ hb13197)) (by decide) ?_
      refine guardOff (b := false) 7 87 rfl (tr rfl (congrArg _ hb13197)) (by decide) ?_
      refine guardOff (b := false) 7 87 rfl (tr rfl (congrArg _ hb13197)) (by decide) ?_
      refine guardOff (b := false) 7 87 rfl (tr rfl (congrArg _ hb13197)) (by decide) ?_
      refine guardOff (b := false) 7 87 rfl (tr rfl (congrArg _ hb13197)) (by decide) ?_
      refine guardOff (b := false) 7 87 rfl (tr rfl (congrArg _ hb13197)) (by decide) ?_
      refine guardOff (b := false) 7 87 rfl (tr rfl (congrArg _ hb13197)) (by decide) ?_
      refine s_pick (v := .bool false) (b := false) (tr rfl (congrArg _ hb13197)) rfl ?_
      refine s_mv (v := .bool false) rfl ?_
      refine guardOff (b := false) 18 98 rfl (tr rfl (congrArg _ rfl)) (by decide) ?_
      refine guardOff (b := false) 18 98 rfl (tr rfl (congrArg _ rfl)) (by decide) ?_
      refine guardOff (b := false) 18 98 rfl (tr rfl (congrArg _ rfl)) (by decide) ?_
      refine s_pick (v := .bool false) (b := false) rfl rfl ?_
      refine dn ?_
      refine cw_false rfl rfl ?_
      refine wp_skip ?_
      refine blk_norm ?_
      refine then_norm ?_
      refine cw_region ?_
      refine s_add (sx hS_ 16 rfl) rfl ?_
      refine s_mv (v := .int .i64 (IntKind.i64.wrap ((i11745 : Int) + 1))) rfl ?_
      refine done ?_
      exact hK11749 (s11746.1.set i11745 (q36.1.get i11745), s11746.2.1, s11746.2.2) _ _ ⟨(sk (sx hS_ 0 rfl) (sk (sx hS_ 1 rfl) (sk (sx hS_ 2 rfl) (sk (sx hS_ 3 rfl) (sk (sx hS_ 4 rfl) (sk (sx hS_ 5 rfl) (sk (sx hS_ 6 rfl) (sk (sx hS_ 7 rfl) (sk (sx hS_ 8 rfl) (sk (sx hS_ 9 rfl) (sk (sx hS_ 10 rfl) (sk (sx hS_ 11 rfl) (sk (sx hS_ 12 rfl) (sk (sx hS_ 13 rfl) (sk (sx hS_ 14 rfl) (sk (sx hS_ 15 rfl) (sk (tr rfl (congrArg _ (wrap64_nat hi11750 (by decide)))) sn))))))))))))))))), hC⟩ h
   ·clear hC h
    rintro s11746 e_ w13205 K11748 ⟨hS_, hC⟩ h
    refine sr ?_
    refine s_lss (sx hS_ 16 rfl) rfl ?_
    refine dn ?_
    refine wp_seq ?_
    refine cw_false rfl (decide_eq_false (by omega)) ?_
    refine wp_exit (then_exit (then_exit (exit_in ?_)))
    refine blk_norm ?_
    replace hC := hC.sM [2, 3, 4] (M' := [itI (kvA .i64) (vvI .i64) r28 b1 es29 ck30 (some ent8821) l37, blk b21 211 cs14, mapI (kvA .i64) (vvI .i64) b7 s11746.2.1]) (by decide) rfl
    exact hK8818 q36 l37 s11746.2.1 _ _ hp39 ⟨(some ent8821), (sk (sx hS_ 0 rfl) (sk (sx hS_ 1 rfl) (sk (sx hS_ 2 rfl) (sk (sx hS_ 3 rfl) (sk (sx hS_ 8 rfl) sn))))), hC⟩ h
   ·skip
    exact ⟨(sk (sx hS_ 0 rfl) (sk (sx hS_ 1 rfl) (sk (sx hS_ 2 rfl) (sk (sx hS_ 3 rfl) (sk rfl (sk rfl (sk rfl (sk rfl (sk (sx hS_ 4 rfl) (sk rfl (sk rfl (sk rfl (sk rfl (sk rfl (sk rfl (sk rfl (sk rfl sn))))))))))))))))), hC⟩
 ·skip
  replace hC := hC.sP [0, 2, 3, 4, 5, 6, 7] (Ps' := [mapE b1 es29 ck30, Ty.item (TMaps (kvA .i64) (vvI .i64) 8) r13 cs14 f15, Ty.item TForm.sl a0.images [u0_1] fp0, Ty.item ((EI .i64).ty.sl) a0.degrees [u0_0] fp0, Ty.item TAlg a0 [u0_0, u0_1] fp0, blk b0 32 [u0_0, u0_1], mapI (kvA .i64) (vvI .i64) b1 a1]) rfl
  exact ⟨none, (sk rfl (sk rfl (sk rfl (sk rfl (sk rfl sn))))), hC⟩
def f_laws_toMonomial (a0 : A8) (K : A8 → Prop) : Prop :=
 forN (fun i20 (s21 : A8) next22 => next22 (s21.set i20 (a0.get i20))) (fun (s21 : A8) => K s21) 8 0 A8.zero
theorem c_laws_toMonomial (a0 : A8)  {K : A8 → Prop} (h : f_laws_toMonomial a0 K) (w0 : World)  :
  Calls Tryz.prog 177 #[.agg (List.toArray (A8.enc .u8 a0))] w0 fun e w' => ∃ (r0 : A8), 
   e = .returned (.agg (List.toArray (A8.enc .u8 r0))) ∧ K r0 ∧ Bel w0 w' := by
 unfold f_laws_toMonomial at h
 refine calls_of (args := [.agg (List.toArray (A8.enc .u8 a0))]) Tryz.func177 rfl 15 Tryz.ntmps177 (Nat.le_of_ble_eq_true rfl) ?_
 have hC := Ctx.start (X := Nox) w0 [] (by simp)
 refine sr ?_
 refine s_box (v := .agg (List.toArray (A8.enc .u8 a0))) hC (A8.enc .u8 a0) rfl rfl fun b1 w3 hB_ hC => ?_
 refine s_alloc hC (A8.enc .u8 A8.zero) z136 rfl fun b4 w6 hB_ hC => ?_
 refine dn ?_
 refine sr ?_
 refine s_alloc hC (A8.enc .u8 A8.zero) z136 rfl fun b7 w9 hB_ hC => ?_
 refine dn ?_
 refine wp_seq ?_
 refine sr ?_
 refine s_as (v := .int .i64 0) rfl ?_
 refine dn ?_
 refine wp_block ?_
 refine loopN (S := A8) _ _ (fun i20 s21 e_ w_ => Slots e_ [(1, .pointer (some ⟨b1, 0, none⟩)), (2, .pointer (some ⟨b4, 0, none⟩)), (3, .pointer (some ⟨b7, 0, none⟩)), (4, .int .i64 (i20 : Int))] ∧ Ctx Nox w0 w_ [blk b7 136 (A8.enc .u8 s21), blk b4 136 (A8.enc .u8 A8.zero), blk b1 135 (A8.enc .u8 a0)] []) 8 ?_ ?_ (s0 := A8.zero) ?_ h
 ·clear hC h
  rintro i20 s21 e_ w26 next22 K23 hi25 ⟨hS_, hC⟩ h hK24
  refine wp_seq ?_
  refine sr ?_
  refine s_mv (v := .int .i64 (i20 : Int)) (sx hS_ 3 rfl) ?_
  refine s_lss rfl rfl ?_
  refine dn ?_
  refine cw_true rfl (decide_eq_true (by omega)) ?_
  refine wp_skip ?_
  refine then_norm ?_
  refine wp_seq ?_
  refine wp_block ?_
  refine cw_region ?_
  refine s_mv (v := .int .i64 (i20 : Int)) (sx hS_ 3 rfl) ?_
  refine s_mv (v := .int .i64 (i20 : Int)) (sx hS_ 3 rfl) ?_
  refine s_iaddrB i20 Tryz.underlying135 sc5.size (sx hS_ 0 rfl) rfl (Int.natCast_nonneg _) (by omega) (by omega) ?_
  refine s_loadS hC 2 (.int .u8 (a0.get i20)) rfl sc5 rfl (A8.enc_get _ _ hi25) ?_
  refine s_iaddrB i20 Tryz.underlying136 sc5.size (sx hS_ 2 rfl) rfl (Int.natCast_nonneg _) (by omega) (by omega) ?_
  refine s_store (v := .int .u8 (a0.get i20)) hC 0 [.int .u8 (a0.get i20)] (A8.enc .u8 (s21.set i20 (a0.get i20))) rfl sc5.size rfl rfl rfl rfl rfl hi25 (A8.enc_set _ _ _ hi25) fun w27 hC => ?_
  refine done ?_
  refine blk_norm ?_
  refine then_norm ?_
  refine cw_region ?_
  refine s_mv (v := .int .i64 (i20 : Int)) (sx hS_ 3 rfl) ?_
  refine s_add rfl rfl ?_
  refine s_as (v := .int .i64 (IntKind.i64.wrap ((i20 : Int) + 1))) rfl ?_
  refine done ?_
  exact hK24 (s21.set i20 (a0.get i20)) _ _ ⟨(sk (sx hS_ 0 rfl) (sk (sx hS_ 1 rfl) (sk (sx hS_ 2 rfl) (sk (tr rfl (congrArg _ (wrap64_nat hi25 (by decide)))) sn)))), hC⟩ h
 ·clear hC h
  rintro s21 e_ w28 K23 ⟨hS_, hC⟩ h
  refine wp_seq ?_
  refine sr ?_
  refine s_mv (v := .int .i64 8) (sx hS_ 3 rfl) ?_
  refine s_lss rfl rfl ?_
  refine dn ?_
  refine cw_false rfl (decide_eq_false (by omega)) ?_
  refine wp_exit (then_exit (then_exit (exit_in ?_)))
  refine then_norm ?_
  refine sr ?_
  refine s_loadA hC 0 (A8.enc .u8 s21) rfl ag136 (sx hS_ 2 rfl) rfl rfl ?_
  refine s_store (v := .agg (List.toArray (A8.enc .u8 s21))) hC 1 (A8.enc .u8 s21) (A8.enc .u8 s21) rfl ag136.size (sx hS_ 1 rfl) rfl rfl rfl rfl (Nat.le_of_ble_eq_true rfl) rfl fun w29 hC => ?_
  refine dn ?_
  refine wp_ret ?_
  refine ret1 (fn := Tryz.f177) rfl ?_ ⟨s21, rfl, h, hC.below⟩ (.inl rfl)
  exact res_cellA hC 1 rfl ag136 (sx hS_ 1 rfl) rfl
 ·skip
  exact ⟨(sk rfl (sk rfl (sk rfl (sk rfl sn)))), hC⟩
def f_laws_toInt64S (a0 : List Int) (K : List Int → Prop) : Prop :=
 ((0 ≤ (a0.length : Int) ∧ (a0.length : Int) * 8 ≤ 281474976710656) ∧ forN (fun i43 (s44 : (List Int)) next47 => ((0 ≤ (i43 : Int) ∧ (i43 : Int) < (s44.length : Int)) ∧ next47 (s44.set i43 (a0.getD i43 default)))) (fun (s44 : (List Int)) => K s44) a0.length 0 (List.replicate ((a0.length : Int).toNat) (0 : Int)))
theorem c_laws_toInt64S (a0 : List Int) {u0_0 : Value} {fp0 : List Nat} {K : List Int → Prop} (h : f_laws_toInt64S a0 K) (w0 : World) (q0 : ((EI .i64).ty.sl).rep a0 [u0_0] fp0 w0) :
  Calls Tryz.prog 41 #[u0_0] w0 fun e w' => ∃ (r0 : List Int) (z0_0 : Value) (fz0 : List Nat), 
   e = .returned (z0_0) ∧ K r0 ∧ (Tr.item (Tr.sl 2 ((EI .i64).tr)) r0 [z0_0] fz0).holds w' ∧ (∀ b, b ∈ fz0 → w0.heap.size ≤ b) ∧ Bel w0 w' := by
 unfold f_laws_toInt64S at h
 refine calls_of (args := [u0_0]) Tryz.func41 rfl 22 Tryz.ntmps41 (Nat.le_of_ble_eq_true rfl) ?_
 have hC := Ctx.start (X := Nox) w0 [Ty.item ((EI .i64).ty.sl) a0 [u0_0] fp0] (by simp only [List.mem_cons, List.not_mem_nil, or_false, forall_eq_or_imp, forall_eq]; exact q0)
 refine sr ?_
 refine s_as (v := .slice none 0 0) rfl ?_
 refine dn ?_
 refine sr ?_
 refine s_mv (v := u0_0) rfl ?_
 obtain ⟨Ad2, c3, hv4⟩ := sl_len (hC.getP 0 rfl)
 refine s_len Tryz.underlying22 (tr rfl hv4) ?_
 obtain ⟨hm7, h⟩ := h
 refine s_make (sz := 1) hC ((EI .i64).encs (List.replicate ((a0.length : Int).toNat) (0 : Int))) Tryz.underlying22 el2 (tr rfl (congrArg (Value.int .i64) (Int.toNat_of_nonneg hm7.1).symm)) (tr rfl (congrArg (Value.int .i64) (Int.toNat_of_nonneg hm7.1).symm)) (by omega) (by omega) (made_encs (E := (EI .i64)) _ _) fun v5 w6 hB_ hC => ?_
 replace hC := own_re hC 0 ((List.replicate ((a0.length : Int).toNat) (0 : Int)).length) ((EI .i64).encs (List.replicate ((a0.length : Int).toNat) (0 : Int))) rfl (by simp) rfl
 refine s_as (v := v5) rfl ?_
 refine dn ?_
 refine wp_seq ?_
 refine sr ?_
 refine s_as (v := .int .i64 0) rfl ?_
 refine dn ?_
 refine wp_block ?_
 have hN46 : a0.length ≤ 9223372036854775807 := sl_max (hC.getP 0 rfl)
 refine loopN (S := (List Int)) _ _ (fun i43 s44 e_ w_ => ∃ (v45 : Value), Slots e_ [(0, u0_0), (2, .slice none 0 0), (3, v45), (4, .int .i64 (i43 : Int))] ∧ Ctx Nox w0 w_ [own 2 1 v45 s44.length ((EI .i64).encs s44)] [Ty.item ((EI .i64).ty.sl) a0 [u0_0] fp0]) a0.length ?_ ?_ (s0 := (List.replicate ((a0.length : Int).toNat) (0 : Int))) ?_ h
 ·clear hC h
  rintro i43 s44 e_ w51 next47 K48 hi50 ⟨v45, hS_, hC⟩ h hK49
  refine wp_seq ?_
  refine sr ?_
  refine s_mv (v := .int .i64 (i43 : Int)) (sx hS_ 3 rfl) ?_
  refine s_mv (v := u0_0) (sx hS_ 0 rfl) ?_
  obtain ⟨Ad52, c53, hv54⟩ := sl_len (hC.getP 0 rfl)
  refine s_len Tryz.underlying22 (tr rfl hv54) ?_
  refine s_lss rfl rfl ?_
  refine dn ?_
  refine cw_true rfl (decide_eq_true (by omega)) ?_
  refine wp_skip ?_
  refine then_norm ?_
  refine wp_seq ?_
  refine wp_block ?_
  refine cw_region ?_
  refine s_mv (v := v45) (sx hS_ 2 rfl) ?_
  refine s_mv (v := .int .i64 (i43 : Int)) (sx hS_ 3 rfl) ?_
  refine s_mv (v := u0_0) (sx hS_ 0 rfl) ?_
  refine s_mv (v := .int .i64 (i43 : Int)) (sx hS_ 3 rfl) ?_
  obtain ⟨Ad55, c56, hv57⟩ := sl_form (hC.getP 0 rfl) i43 hi50
  refine s_iaddrS (len := a0.length) Tryz.underlying22 sc2.size (tr rfl hv57) rfl (Int.natCast_nonneg _) (Int.ofNat_lt.2 hi50) ?_
  refine s_loadCS (.int .i64 (a0.getD i43 default)) (sl_cellsE (hC.getP 0 rfl) hv57 i43 hi50) sc2 rfl ?_
  obtain ⟨⟨h0_58, h1_59⟩, h⟩ := h
  obtain ⟨Ad60, c61, hv62⟩ := own_formE (hC.getM 0 rfl) (Nat.lt_of_le_of_lt (Nat.zero_le _) (show i43 < s44.length by omega))
  refine s_iaddrO (i43 * 1) Tryz.underlying22 sc2.size (tr rfl hv62) rfl h0_58 h1_59 rfl ?_
  refine s_storeO (v := .int .i64 (a0.getD i43 default)) hC 0 [.int .i64 (a0.getD i43 default)] ((EI .i64).encs (s44.set i43 (a0.getD i43 default))) rfl hv62 sc2.size rfl rfl rfl rfl rfl (by rw [Enc.encs_len]; exact seg_le (sz := 1) (show i43 < s44.length by omega)) (encs_set _ _ _ (show i43 < s44.length by omega)) fun w63 hC => ?_
  replace hC := own_re hC 0 ((s44.set i43 (a0.getD i43 default)).length) ((EI .i64).encs (s44.set i43 (a0.getD i43 default))) rfl (by simp) rfl
  refine done ?_
  refine blk_norm ?_
  refine then_norm ?_
  refine cw_region ?_
  refine s_mv (v := .int .i64 (i43 : Int)) (sx hS_ 3 rfl) ?_
  refine s_add rfl rfl ?_
  refine s_as (v := .int .i64 (IntKind.i64.wrap ((i43 : Int) + 1))) rfl ?_
  refine done ?_
  exact hK49 (s44.set i43 (a0.getD i43 default)) _ _ ⟨v45, (sk (sx hS_ 0 rfl) (sk (sx hS_ 1 rfl) (sk (sx hS_ 2 rfl) (sk (tr rfl (congrArg _ (wrap64_nat hi50 hN46))) sn)))), hC⟩ h
 ·clear hC h
  rintro s44 e_ w64 K48 ⟨v45, hS_, hC⟩ h
  refine wp_seq ?_
  refine sr ?_
  refine s_mv (v := .int .i64 (a0.length : Int)) (sx hS_ 3 rfl) ?_
  refine s_mv (v := u0_0) (sx hS_ 0 rfl) ?_
  obtain ⟨Ad65, c66, hv67⟩ := sl_len (hC.getP 0 rfl)
  refine s_len Tryz.underlying22 (tr rfl hv67) ?_
  refine s_lss rfl rfl ?_
  refine dn ?_
  refine cw_false rfl (decide_eq_false (by omega)) ?_
  refine wp_exit (then_exit (then_exit (exit_in ?_)))
  refine then_norm ?_
  refine sr ?_
  refine s_mv (v := v45) (sx hS_ 2 rfl) ?_
  refine s_as (v := v45) rfl ?_
  refine dn ?_
  refine wp_ret ?_
  refine ret1 (fn := Tryz.f41) rfl ?_ ⟨s44, v45, (Option.toList (Value.ownBlock v45)), rfl, h, (own_item (hC.getM 0 rfl)), (own_fresh hC 0 rfl), hC.below⟩ (.inl rfl)
  exact res_tmp rfl
 ·skip
  exact ⟨v5, (sk rfl (sk rfl (sk rfl (sk rfl sn)))), hC⟩
def f_laws_eqMonomial (a0 : A8) (a1 : A8) (K : Bool → Prop) : Prop :=
 forN (fun i14 (s15 : Unit) next16 => (if a0.get i14 ≠ a1.get i14 then K false else next16 ())) (fun (s15 : Unit) => K true) 8 0 ()
theorem c_laws_eqMonomial (a0 : A8) (a1 : A8)  {K : Bool → Prop} (h : f_laws_eqMonomial a0 a1 K) (w0 : World)  :
  Calls Tryz.prog 188 #[.agg (List.toArray (A8.enc .u8 a0)), .agg (List.toArray (A8.enc .u8 a1))] w0 fun e w' => ∃ (r0 : Bool), 
   e = .returned (.bool r0) ∧ K r0 ∧ Bel w0 w' := by
 unfold f_laws_eqMonomial at h
 refine calls_of (args := [.agg (List.toArray (A8.enc .u8 a0)), .agg (List.toArray (A8.enc .u8 a1))]) Tryz.func188 rfl 17 Tryz.ntmps188 (Nat.le_of_ble_eq_true rfl) ?_
 have hC := Ctx.start (X := Nox) w0 [] (by simp)
 refine sr ?_
 refine s_box (v := .agg (List.toArray (A8.enc .u8 a0))) hC (A8.enc .u8 a0) rfl rfl fun b1 w3 hB_ hC => ?_
 refine s_box (v := .agg (List.toArray (A8.enc .u8 a1))) hC (A8.enc .u8 a1) rfl rfl fun b4 w6 hB_ hC => ?_
 refine s_as (v := .bool false) rfl ?_
 refine dn ?_
 refine wp_seq ?_
 refine sr ?_
 refine s_as (v := .int .i64 0) rfl ?_
 refine dn ?_
 refine wp_block ?_
 refine loopN (S := Unit) _ _ (fun i14 s15 e_ w_ => Slots e_ [(2, .pointer (some ⟨b1, 0, none⟩)), (3, .pointer (some ⟨b4, 0, none⟩)), (4, .bool false), (5, .int .i64 (i14 : Int))] ∧ Ctx Nox w0 w_ [blk b4 136 (A8.enc .u8 a1), blk b1 136 (A8.enc .u8 a0)] []) 8 ?_ ?_ (s0 := ()) ?_ h
 ·clear hC h
  rintro i14 s15 e_ w20 next16 K17 hi19 ⟨hS_, hC⟩ h hK18
  refine wp_seq ?_
  refine sr ?_
  refine s_mv (v := .int .i64 (i14 : Int)) (sx hS_ 3 rfl) ?_
  refine s_lss rfl rfl ?_
  refine dn ?_
  refine cw_true rfl (decide_eq_true (by omega)) ?_
  refine wp_skip ?_
  refine then_norm ?_
  refine wp_seq ?_
  refine wp_block ?_
  refine wp_seq ?_
  refine cw_draw 6 mixed [0, 1, 3, 0, 8, 24, 63] [1, 2, 4, 5] [0, 3] (by kernel_rfl) (by kernel_rfl) (by kernel_rfl) (fun hM22 hM23 w21 hB_ => ?_)
  replace hC := hC.grow hB_
  refine aF 0 (.int .i64 (i14 : Int)) rfl rfl (hM23 0 rfl) (rfl) (fun _ => by exact r_mv (v := .int .i64 (i14 : Int)) (sx hS_ 3 rfl)) (dbits 7 1) ?_
  refine aL 1 (.pointer (some ⟨b1, i14, none⟩)) rfl rfl (hM22 1 rfl) (rfl) (fun _ hB_ => by exact r_iaddrB i14 Tryz.underlying136 sc5.size (sx hS_ 0 rfl) rfl (Int.natCast_nonneg _) (by omega) (by omega)) (dbits 7 3) ?_
  refine aL 2 (.int .u8 (a0.get i14)) rfl rfl (hM22 2 rfl) (rfl) (fun _ hB_ => by exact r_loadS (hC.grow hB_) 1 (.int .u8 (a0.get i14)) rfl sc5 rfl (A8.enc_get _ _ hi19)) (dbits 7 7) ?_
  refine aF 3 (.int .i64 (i14 : Int)) rfl rfl (hM23 3 rfl) (rfl) (fun _ => by exact r_mv (v := .int .i64 (i14 : Int)) (sx hS_ 3 rfl)) (dbits 7 15) ?_
  refine aL 4 (.pointer (some ⟨b4, i14, none⟩)) rfl rfl (hM22 4 rfl) (rfl) (fun _ hB_ => by exact r_iaddrB i14 Tryz.underlying136 sc5.size (sx hS_ 1 rfl) rfl (Int.natCast_nonneg _) (by omega) (by omega)) (dbits 7 31) ?_
  refine aL 5 (.int .u8 (a1.get i14)) rfl rfl (hM22 5 rfl) (rfl) (fun _ hB_ => by exact r_loadS (hC.grow hB_) 0 (.int .u8 (a1.get i14)) rfl sc5 rfl (A8.enc_get _ _ hi19)) (dbits 7 63) ?_
  refine ae_tail 6 (by decide) (by decide) (by kernel_rfl) (by kernel_rfl) rfl ?_
  refine s_neq rfl rfl ?_
  refine done ?_
  refine qn_norm ?_
  refine then_norm ?_
  refine cw_cond rfl (fun hb24 => ?_) (fun hb24 => ?_)
  ·replace h := ift h (ct hb24)
   refine sr ?_
   refine s_as (v := .bool false) rfl ?_
   refine dn ?_
   refine wp_ret (blk_ret (then_ret (then_ret (blk_ret (then_ret ?_)))))
   refine ret1 (fn := Tryz.f188) rfl ?_ ⟨false, rfl, h, hC.below⟩ (.inl rfl)
   exact res_tmp rfl
  ·replace h := iff_ h (cf hb24)
   refine wp_skip ?_
   refine blk_norm ?_
   refine then_norm ?_
   refine cw_region ?_
   refine s_mv (v := .int .i64 (i14 : Int)) (sx hS_ 3 rfl) ?_
   refine s_add rfl rfl ?_
   refine s_as (v := .int .i64 (IntKind.i64.wrap ((i14 : Int) + 1))) rfl ?_
   refine done ?_
   exact hK18 () _ _ ⟨(sk (sx hS_ 0 rfl) (sk (sx hS_ 1 rfl) (sk (sx hS_ 2 rfl) (sk (tr rfl (congrArg _ (wrap64_nat hi19 (by decide)))) sn)))), hC⟩ h
 ·clear hC h
  rintro s15 e_ w25 K17 ⟨hS_, hC⟩ h
  refine wp_seq ?_
  refine sr ?_
  refine s_mv (v := .int .i64 8) (sx hS_ 3 rfl) ?_
  refine s_lss rfl rfl ?_
  refine dn ?_
  refine cw_false rfl (decide_eq_false (by omega)) ?_
  refine wp_exit (then_exit (then_exit (exit_in ?_)))
  refine then_norm ?_
  refine sr ?_
  refine s_as (v := .bool true) rfl ?_
  refine dn ?_
  refine wp_ret ?_
  refine ret1 (fn := Tryz.f188) rfl ?_ ⟨true, rfl, h, hC.below⟩ (.inl rfl)
  exact res_tmp rfl
 ·skip
  exact ⟨(sk rfl (sk rfl (sk rfl (sk rfl sn)))), hC⟩
def f_laws_eqInt64S (a0 : List Int) (a1 : List Int) (K : Bool → Prop) : Prop :=
 (if (a0.length : Int) ≠ (a1.length : Int) then K false else forN (fun i31 (s32 : Unit) next34 => ((0 ≤ (i31 : Int) ∧ (i31 : Int) < (a1.length : Int)) ∧ (if a0.getD i31 default ≠ a1.getD i31 default then K false else next34 ()))) (fun (s32 : Unit) => K true) a0.length 0 ())
theorem c_laws_eqInt64S (a0 : List Int) (a1 : List Int) {u0_0 : Value} {u1_0 : Value} {fp0 : List Nat} {fp1 : List Nat} {K : Bool → Prop} (h : f_laws_eqInt64S a0 a1 K) (w0 : World) (q0 : ((EI .i64).ty.sl).rep a0 [u0_0] fp0 w0) (q1 : ((EI .i64).ty.sl).rep a1 [u1_0] fp1 w0) :
  Calls Tryz.prog 25 #[u0_0, u1_0] w0 fun e w' => ∃ (r0 : Bool), 
   e = .returned (.bool r0) ∧ K r0 ∧ Bel w0 w' := by
 unfold f_laws_eqInt64S at h
 refine calls_of (args := [u0_0, u1_0]) Tryz.func25 rfl 26 Tryz.ntmps25 (Nat.le_of_ble_eq_true rfl) ?_
 have hC := Ctx.start (X := Nox) w0 [Ty.item ((EI .i64).ty.sl) a0 [u0_0] fp0, Ty.item ((EI .i64).ty.sl) a1 [u1_0] fp1] (by simp only [List.mem_cons, List.not_mem_nil, or_false, forall_eq_or_imp, forall_eq]; exact ⟨q0, q1⟩)
 refine sr ?_
 refine s_as (v := .bool false) rfl ?_
 refine dn ?_
 refine wp_seq ?_
 refine sr ?_
 refine s_mv (v := u0_0) rfl ?_
 obtain ⟨Ad3, c4, hv5⟩ := sl_len (hC.getP 0 rfl)
 refine s_len Tryz.underlying22 (tr rfl hv5) ?_
 refine s_mv (v := u1_0) rfl ?_
 obtain ⟨Ad6, c7, hv8⟩ := sl_len (hC.getP 1 rfl)
 refine s_len Tryz.underlying22 (tr rfl hv8) ?_
 refine s_neq rfl rfl ?_
 refine dn ?_
 refine cw_cond rfl (fun hb9 => ?_) (fun hb9 => ?_)
 ·replace h := ift h (ct hb9)
  refine sr ?_
  refine s_as (v := .bool false) rfl ?_
  refine dn ?_
  refine wp_ret (then_ret ?_)
  refine ret1 (fn := Tryz.f25) rfl ?_ ⟨false, rfl, h, hC.below⟩ (.inl rfl)
  exact res_tmp rfl
 ·replace h := iff_ h (cf hb9)
  refine wp_skip ?_
  refine then_norm ?_
  refine wp_seq ?_
  refine sr ?_
  refine s_as (v := .int .i64 0) rfl ?_
  refine dn ?_
  refine wp_block ?_
  have hN33 : a0.length ≤ 9223372036854775807 := sl_max (hC.getP 0 rfl)
  refine loopN (S := Unit) _ _ (fun i31 s32 e_ w_ => Slots e_ [(0, u0_0), (1, u1_0), (4, .bool false), (5, .int .i64 (i31 : Int))] ∧ Ctx Nox w0 w_ [] [Ty.item ((EI .i64).ty.sl) a0 [u0_0] fp0, Ty.item ((EI .i64).ty.sl) a1 [u1_0] fp1]) a0.length ?_ ?_ (s0 := ()) ?_ h
  ·clear hC h
   rintro i31 s32 e_ w38 next34 K35 hi37 ⟨hS_, hC⟩ h hK36
   refine wp_seq ?_
   refine sr ?_
   refine s_mv (v := .int .i64 (i31 : Int)) (sx hS_ 3 rfl) ?_
   refine s_mv (v := u0_0) (sx hS_ 0 rfl) ?_
   obtain ⟨Ad39, c40, hv41⟩ := sl_len (hC.getP 0 rfl)
   refine s_len Tryz.underlying22 (tr rfl hv41) ?_
   refine s_lss rfl rfl ?_
   refine dn ?_
   refine cw_true rfl (decide_eq_true (by omega)) ?_
   refine wp_skip ?_
   refine then_norm ?_
   refine wp_seq ?_
   refine wp_block ?_
   refine wp_seq ?_
   refine cw_draw 8 mixed [0, 0, 3, 7, 0, 0, 48, 112, 255] [2, 3, 6, 7] [0, 1, 4, 5] (by kernel_rfl) (by kernel_rfl) (by kernel_rfl) (fun hM43 hM44 w42 hB_ => ?_)
   replace hC := hC.grow hB_
   refine aF 0 (u0_0) rfl rfl (hM44 0 rfl) (rfl) (fun _ => by exact r_mv (v := u0_0) (sx hS_ 0 rfl)) (dbits 9 1) ?_
   refine aF 1 (.int .i64 (i31 : Int)) rfl rfl (hM44 1 rfl) (rfl) (fun _ => by exact r_mv (v := .int .i64 (i31 : Int)) (sx hS_ 3 rfl)) (dbits 9 3) ?_
   obtain ⟨Ad45, c46, hv47⟩ := sl_form (hC.getP 0 rfl) i31 hi37
   refine aL 2 (.pointer (some (Ad45.add (i31 * 1)))) rfl rfl (hM43 2 rfl) (rfl) (fun _ hB_ => by exact r_iaddrS (len := a0.length) Tryz.underlying22 sc2.size (by exact tr rfl hv47) rfl (Int.natCast_nonneg _) (Int.ofNat_lt.2 hi37)) (dbits 9 7) ?_
   refine aL 3 (.int .i64 (a0.getD i31 default)) rfl rfl (hM43 3 rfl) (rfl) (fun _ hB_ => by exact r_loadCS (.int .i64 (a0.getD i31 default)) (sl_cellsE ((hC.grow hB_).getP 0 rfl) hv47 i31 hi37) sc2 rfl) (dbits 9 15) ?_
   refine aF 4 (u1_0) rfl rfl (hM44 4 rfl) (rfl) (fun _ => by exact r_mv (v := u1_0) (sx hS_ 1 rfl)) (dbits 9 31) ?_
   refine aF 5 (.int .i64 (i31 : Int)) rfl rfl (hM44 5 rfl) (rfl) (fun _ => by exact r_mv (v := .int .i64 (i31 : Int)) (sx hS_ 3 rfl)) (dbits 9 63) ?_
   obtain ⟨⟨h0_48, h1_49⟩, h⟩ := h
   obtain ⟨Ad50, c51, hv52⟩ := sl_form (hC.getP 1 rfl) i31 (show i31 < a1.length by omega)
   refine aL 6 (.pointer (some (Ad50.add (i31 * 1)))) rfl rfl (hM43 6 rfl) (rfl) (fun _ hB_ => by exact r_iaddrS (len := a1.length) Tryz.underlying22 sc2.size (by exact tr rfl hv52) rfl h0_48 h1_49) (dbits 9 127) ?_
   refine aL 7 (.int .i64 (a1.getD i31 default)) rfl rfl (hM43 7 rfl) (rfl) (fun _ hB_ => by exact r_loadCS (.int .i64 (a1.getD i31 default)) (sl_cellsE ((hC.grow hB_).getP 1 rfl) hv52 i31 (show i31 < a1.length by omega)) sc2 rfl) (dbits 9 255) ?_
   refine ae_tail 8 (by decide) (by decide) (by kernel_rfl) (by kernel_rfl) rfl ?_
   refine s_neq rfl rfl ?_
   refine done ?_
   refine qn_norm ?_
   refine then_norm ?_
   refine cw_cond rfl (fun hb53 => ?_) (fun hb53 => ?_)
   ·replace h := ift h (ct hb53)
    refine sr ?_
    refine s_as (v := .bool false) rfl ?_
    refine dn ?_
    refine wp_ret (blk_ret (then_ret (then_ret (blk_ret (then_ret ?_)))))
    refine ret1 (fn := Tryz.f25) rfl ?_ ⟨false, rfl, h, hC.below⟩ (.inl rfl)
    exact res_tmp rfl
   ·replace h := iff_ h (cf hb53)
    refine wp_skip ?_
    refine blk_norm ?_
    refine then_norm ?_
    refine cw_region ?_
    refine s_mv (v := .int .i64 (i31 : Int)) (sx hS_ 3 rfl) ?_
    refine s_add rfl rfl ?_
    refine s_as (v := .int .i64 (IntKind.i64.wrap ((i31 : Int) + 1))) rfl ?_
    refine done ?_
    exact hK36 () _ _ ⟨(sk (sx hS_ 0 rfl) (sk (sx hS_ 1 rfl) (sk (sx hS_ 2 rfl) (sk (tr rfl (congrArg _ (wrap64_nat hi37 hN33))) sn)))), hC⟩ h
  ·clear hC h
   rintro s32 e_ w54 K35 ⟨hS_, hC⟩ h
   refine wp_seq ?_
   refine sr ?_
   refine s_mv (v := .int .i64 (a0.length : Int)) (sx hS_ 3 rfl) ?_
   refine s_mv (v := u0_0) (sx hS_ 0 rfl) ?_
   obtain ⟨Ad55, c56, hv57⟩ := sl_len (hC.getP 0 rfl)
   refine s_len Tryz.underlying22 (tr rfl hv57) ?_
   refine s_lss rfl rfl ?_
   refine dn ?_
   refine cw_false rfl (decide_eq_false (by omega)) ?_
   refine wp_exit (then_exit (then_exit (exit_in ?_)))
   refine then_norm ?_
   refine sr ?_
   refine s_as (v := .bool true) rfl ?_
   refine dn ?_
   refine wp_ret ?_
   refine ret1 (fn := Tryz.f25) rfl ?_ ⟨true, rfl, h, hC.below⟩ (.inl rfl)
   exact res_tmp rfl
  ·skip
   exact ⟨(sk rfl (sk rfl (sk rfl (sk rfl sn)))), hC⟩
def f_laws_toTerm (a0 : Term) (K : Term → Prop) : Prop :=
 f_laws_toMonomial a0.mono (fun r13 => K (⟨r13, a0.factor⟩ : Term))
theorem c_laws_toTerm (a0 : Term)  {K : Term → Prop} (h : f_laws_toTerm a0 K) (w0 : World)  :
  Calls Tryz.prog 130 #[.agg (List.toArray (Term.enc a0))] w0 fun e w' => ∃ (r0 : Term), 
   e = .returned (.agg (List.toArray (Term.enc r0))) ∧ K r0 ∧ Bel w0 w' := by
 unfold f_laws_toTerm at h
 refine calls_of (args := [.agg (List.toArray (Term.enc a0))]) Tryz.func130 rfl 12 Tryz.ntmps130 (Nat.le_of_ble_eq_true rfl) ?_
 have hC := Ctx.start (X := Nox) w0 [] (by simp)
 refine sr ?_
 refine s_box (v := .agg (List.toArray (Term.enc a0))) hC (Term.enc a0) rfl rfl fun b1 w3 hB_ hC => ?_
 refine s_alloc hC (Term.enc (⟨A8.zero, 0⟩ : Term)) z162 rfl fun b4 w6 hB_ hC => ?_
 refine dn ?_
 refine sr ?_
 refine s_alloc hC (Term.enc (⟨A8.zero, 0⟩ : Term)) z162 rfl fun b7 w9 hB_ hC => ?_
 refine dn ?_
 refine sr ?_
 refine s_faddrB 0 Tryz.underlying170 rfl ag135.size rfl rfl ?_
 refine s_loadA hC 2 (A8.enc .u8 a0.mono) rfl ag135 rfl rfl rfl ?_
 refine s_call [.agg (List.toArray (A8.enc .u8 a0.mono))] _ Tryz.func177 rfl rfl rfl (c_laws_toMonomial a0.mono h _) (fun ret10 w12 hR11 => ?_)
 obtain ⟨r13, rfl, h, hB14⟩ := hR11
 refine ⟨_, rfl, ?_⟩
 replace hC := hC.grow hB14
 refine s_faddrB 0 Tryz.underlying162 rfl ag136.size rfl rfl ?_
 refine s_store (v := .agg (List.toArray (A8.enc .u8 r13))) hC 0 (A8.enc .u8 r13) (Term.enc (⟨r13, 0⟩ : Term)) rfl ag136.size rfl rfl rfl rfl rfl (Nat.le_of_ble_eq_true rfl) rfl fun w15 hC => ?_
 refine dn ?_
 refine sr ?_
 refine s_faddrB 8 Tryz.underlying170 rfl sc2.size rfl rfl ?_
 refine s_loadS hC 2 (.int .i64 a0.factor) rfl sc2 rfl rfl ?_
 refine s_faddrB 8 Tryz.underlying162 rfl sc2.size rfl rfl ?_
 refine s_store (v := .int .i64 a0.factor) hC 0 [.int .i64 a0.factor] (Term.enc (⟨r13, a0.factor⟩ : Term)) rfl sc2.size rfl rfl rfl rfl rfl (Nat.le_of_ble_eq_true rfl) rfl fun w16 hC => ?_
 refine dn ?_
 refine sr ?_
 refine s_loadA hC 0 (Term.enc (⟨r13, a0.factor⟩ : Term)) rfl ag162 rfl rfl rfl ?_
 refine s_store (v := .agg (List.toArray (Term.enc (⟨r13, a0.factor⟩ : Term)))) hC 1 (Term.enc (⟨r13, a0.factor⟩ : Term)) (Term.enc (⟨r13, a0.factor⟩ : Term)) rfl ag162.size rfl rfl rfl rfl rfl (Nat.le_of_ble_eq_true rfl) rfl fun w17 hC => ?_
 refine dn ?_
 refine wp_ret ?_
 refine ret1 (fn := Tryz.f130) rfl ?_ ⟨(⟨r13, a0.factor⟩ : Term), rfl, h, hC.below⟩ (.inl rfl)
 exact res_cellA hC 1 rfl ag162 rfl rfl
def f_laws_toTermS (a0 : List Term) (K : List Term → Prop) : Prop :=
 ((0 ≤ (a0.length : Int) ∧ (a0.length : Int) * 16 ≤ 281474976710656) ∧ forN (fun i53 (s54 : (List Term)) next57 => f_laws_toTerm (a0.getD i53 default) (fun r71 => ((0 ≤ (i53 : Int) ∧ (i53 : Int) < (s54.length : Int)) ∧ next57 (s54.set i53 r71)))) (fun (s54 : (List Term)) => K s54) a0.length 0 (List.replicate ((a0.length : Int).toNat) ((⟨A8.zero, 0⟩ : Term) : Term)))
theorem c_laws_toTermS (a0 : List Term) {u0_0 : Value} {fp0 : List Nat} {K : List Term → Prop} (h : f_laws_toTermS a0 K) (w0 : World) (q0 : ETerm.ty.sl.rep a0 [u0_0] fp0 w0) :
  Calls Tryz.prog 74 #[u0_0] w0 fun e w' => ∃ (r0 : List Term) (z0_0 : Value) (fz0 : List Nat), 
   e = .returned (z0_0) ∧ K r0 ∧ (Tr.item (Tr.sl 162 ETerm.tr) r0 [z0_0] fz0).holds w' ∧ (∀ b, b ∈ fz0 → w0.heap.size ≤ b) ∧ Bel w0 w' := by
 unfold f_laws_toTermS at h
 refine calls_of (args := [u0_0]) Tryz.func74 rfl 23 Tryz.ntmps74 (Nat.le_of_ble_eq_true rfl) ?_
 have hC := Ctx.start (X := Nox) w0 [Ty.item ETerm.ty.sl a0 [u0_0] fp0] (by simp only [List.mem_cons, List.not_mem_nil, or_false, forall_eq_or_imp, forall_eq]; exact q0)
 refine sr ?_
 refine s_as (v := .slice none 0 0) rfl ?_
 refine dn ?_
 refine sr ?_
 refine s_mv (v := u0_0) rfl ?_
 obtain ⟨Ad2, c3, hv4⟩ := sl_len (hC.getP 0 rfl)
 refine s_len Tryz.underlying48 (tr rfl hv4) ?_
 obtain ⟨hm7, h⟩ := h
 refine s_make (sz := 9) hC (ETerm.encs (List.replicate ((a0.length : Int).toNat) ((⟨A8.zero, 0⟩ : Term) : Term))) Tryz.underlying53 el162 (tr rfl (congrArg (Value.int .i64) (Int.toNat_of_nonneg hm7.1).symm)) (tr rfl (congrArg (Value.int .i64) (Int.toNat_of_nonneg hm7.1).symm)) (by omega) (by omega) (made_encs (E := ETerm) _ _) fun v5 w6 hB_ hC => ?_
 replace hC := own_re hC 0 ((List.replicate ((a0.length : Int).toNat) ((⟨A8.zero, 0⟩ : Term) : Term)).length) (ETerm.encs (List.replicate ((a0.length : Int).toNat) ((⟨A8.zero, 0⟩ : Term) : Term))) rfl (by simp) rfl
 refine s_as (v := v5) rfl ?_
 refine dn ?_
 refine wp_seq ?_
 refine sr ?_
 refine s_as (v := .int .i64 0) rfl ?_
 refine dn ?_
 refine wp_block ?_
 have hN56 : a0.length ≤ 9223372036854775807 := sl_max (hC.getP 0 rfl)
 refine loopN (S := (List Term)) _ _ (fun i53 s54 e_ w_ => ∃ (v55 : Value), Slots e_ [(0, u0_0), (2, .slice none 0 0), (3, v55), (4, .int .i64 (i53 : Int))] ∧ Ctx Nox w0 w_ [own 162 9 v55 s54.length (ETerm.encs s54)] [Ty.item ETerm.ty.sl a0 [u0_0] fp0]) a0.length ?_ ?_ (s0 := (List.replicate ((a0.length : Int).toNat) ((⟨A8.zero, 0⟩ : Term) : Term))) ?_ h
 ·clear hC h
  rintro i53 s54 e_ w61 next57 K58 hi60 ⟨v55, hS_, hC⟩ h hK59
  refine wp_seq ?_
  refine sr ?_
  refine s_mv (v := .int .i64 (i53 : Int)) (sx hS_ 3 rfl) ?_
  refine s_mv (v := u0_0) (sx hS_ 0 rfl) ?_
  obtain ⟨Ad62, c63, hv64⟩ := sl_len (hC.getP 0 rfl)
  refine s_len Tryz.underlying48 (tr rfl hv64) ?_
  refine s_lss rfl rfl ?_
  refine dn ?_
  refine cw_true rfl (decide_eq_true (by omega)) ?_
  refine wp_skip ?_
  refine then_norm ?_
  refine wp_seq ?_
  refine wp_block ?_
  refine cw_region ?_
  refine s_mv (v := v55) (sx hS_ 2 rfl) ?_
  refine s_mv (v := .int .i64 (i53 : Int)) (sx hS_ 3 rfl) ?_
  refine s_mv (v := u0_0) (sx hS_ 0 rfl) ?_
  refine s_mv (v := .int .i64 (i53 : Int)) (sx hS_ 3 rfl) ?_
  obtain ⟨Ad65, c66, hv67⟩ := sl_form (hC.getP 0 rfl) i53 hi60
  refine s_iaddrS (len := a0.length) Tryz.underlying48 ag170.size (tr rfl hv67) rfl (Int.natCast_nonneg _) (Int.ofNat_lt.2 hi60) ?_
  refine s_loadCA (Term.enc (a0.getD i53 default)) (sl_cellsE (hC.getP 0 rfl) hv67 i53 hi60) ag170 rfl rfl ?_
  refine s_call [.agg (List.toArray (Term.enc (a0.getD i53 default)))] _ Tryz.func130 rfl rfl rfl (c_laws_toTerm (a0.getD i53 default) h _) (fun ret68 w70 hR69 => ?_)
  obtain ⟨r71, rfl, h, hB72⟩ := hR69
  refine ⟨_, rfl, ?_⟩
  replace hC := hC.grow hB72
  obtain ⟨⟨h0_73, h1_74⟩, h⟩ := h
  obtain ⟨Ad75, c76, hv77⟩ := own_formE (hC.getM 0 rfl) (Nat.lt_of_le_of_lt (Nat.zero_le _) (show i53 < s54.length by omega))
  refine s_iaddrO (i53 * 9) Tryz.underlying53 ag162.size (tr rfl hv77) rfl h0_73 h1_74 rfl ?_
  refine s_storeO (v := .agg (List.toArray (Term.enc r71))) hC 0 (Term.enc r71) (ETerm.encs (s54.set i53 r71)) rfl hv77 ag162.size rfl rfl rfl rfl rfl (by rw [Enc.encs_len]; exact seg_le (sz := 9) (show i53 < s54.length by omega)) (encs_set _ _ _ (show i53 < s54.length by omega)) fun w78 hC => ?_
  replace hC := own_re hC 0 ((s54.set i53 r71).length) (ETerm.encs (s54.set i53 r71)) rfl (by simp) rfl
  refine done ?_
  refine blk_norm ?_
  refine then_norm ?_
  refine cw_region ?_
  refine s_mv (v := .int .i64 (i53 : Int)) (sx hS_ 3 rfl) ?_
  refine s_add rfl rfl ?_
  refine s_as (v := .int .i64 (IntKind.i64.wrap ((i53 : Int) + 1))) rfl ?_
  refine done ?_
  exact hK59 (s54.set i53 r71) _ _ ⟨v55, (sk (sx hS_ 0 rfl) (sk (sx hS_ 1 rfl) (sk (sx hS_ 2 rfl) (sk (tr rfl (congrArg _ (wrap64_nat hi60 hN56))) sn)))), hC⟩ h
 ·clear hC h
  rintro s54 e_ w79 K58 ⟨v55, hS_, hC⟩ h
  refine wp_seq ?_
  refine sr ?_
  refine s_mv (v := .int .i64 (a0.length : Int)) (sx hS_ 3 rfl) ?_
  refine s_mv (v := u0_0) (sx hS_ 0 rfl) ?_
  obtain ⟨Ad80, c81, hv82⟩ := sl_len (hC.getP 0 rfl)
  refine s_len Tryz.underlying48 (tr rfl hv82) ?_
  refine s_lss rfl rfl ?_
  refine dn ?_
  refine cw_false rfl (decide_eq_false (by omega)) ?_
  refine wp_exit (then_exit (then_exit (exit_in ?_)))
  refine then_norm ?_
  refine sr ?_
  refine s_mv (v := v55) (sx hS_ 2 rfl) ?_
  refine s_as (v := v55) rfl ?_
  refine dn ?_
  refine wp_ret ?_
  refine ret1 (fn := Tryz.f74) rfl ?_ ⟨s54, v55, (Option.toList (Value.ownBlock v55)), rfl, h, (own_item (hC.getM 0 rfl)), (own_fresh hC 0 rfl), hC.below⟩ (.inl rfl)
  exact res_tmp rfl
 ·skip
  exact ⟨v5, (sk rfl (sk rfl (sk rfl (sk rfl sn)))), hC⟩
def f_laws_toForm (a0 : Vc.Form) (K : Vc.Form → Prop) : Prop :=
 f_laws_toTermS a0.terms (fun r16 => K (⟨r16⟩ : Vc.Form))
theorem c_laws_toForm (a0 : Vc.Form) {u0_0 : Value} {fp0 : List Nat} {K : Vc.Form → Prop} (h : f_laws_toForm a0 K) (w0 : World) (q0 : TForm.rep a0 [u0_0] fp0 w0) :
  Calls Tryz.prog 30 #[.agg #[u0_0]] w0 fun e w' => ∃ (r0 : Vc.Form) (z0_0 : Value) (fz0 : List Nat), 
   e = .returned (.agg #[z0_0]) ∧ K r0 ∧ (Tr.item (TrForm 162) r0 [z0_0] fz0).holds w' ∧ (∀ b, b ∈ fz0 → w0.heap.size ≤ b) ∧ Bel w0 w' := by
 unfold f_laws_toForm at h
 refine calls_of (args := [.agg #[u0_0]]) Tryz.func30 rfl 9 Tryz.ntmps30 (Nat.le_of_ble_eq_true rfl) ?_
 have hC := Ctx.start (X := Nox) w0 [Ty.item TForm a0 [u0_0] fp0] (by simp only [List.mem_cons, List.not_mem_nil, or_false, forall_eq_or_imp, forall_eq]; exact q0)
 have hp2 := (hC.getP 0 rfl)
 replace hC := hC.derive 0 rfl (Ty.item ETerm.ty.sl a0.terms [u0_0] fp0) (fun _ => (form_parts hp2)) (fun _ hb_ => hb_)
 refine sr ?_
 refine s_box (v := .agg #[u0_0]) hC [u0_0] rfl rfl fun b4 w6 hB_ hC => ?_
 refine s_alloc hC [.slice none 0 0] z55 rfl fun b7 w9 hB_ hC => ?_
 refine dn ?_
 refine sr ?_
 refine s_alloc hC [.slice none 0 0] z55 rfl fun b10 w12 hB_ hC => ?_
 refine dn ?_
 refine sr ?_
 refine s_faddrB 0 Tryz.underlying50 rfl sc48.size rfl rfl ?_
 refine s_loadS hC 2 (u0_0) rfl sc48 rfl rfl ?_
 refine s_call [u0_0] _ Tryz.func74 rfl rfl rfl (c_laws_toTermS a0.terms h _ (hC.getP 0 rfl)) (fun ret13 w15 hR14 => ?_)
 obtain ⟨r16, u17, f18, rfl, h, hr19, hf20, hB21⟩ := hR14
 refine ⟨_, rfl, ?_⟩
 replace hC := hC.push hB21 (Tr.item (Tr.sl 162 ETerm.tr) r16 [u17] f18) hr19 hf20
 obtain ⟨ho23, hf24⟩ := flat_tr (hC.getM 0 rfl).1
 subst hf24
 replace hC := hC.recast (c := own 162 9 u17 r16.length (ETerm.encs r16)) (fun _ h_ => h_) (fun _ => ho23)
 refine s_faddrB 0 Tryz.underlying55 rfl sc53.size rfl rfl ?_
 refine s_store (v := u17) hC 1 [u17] [u17] rfl sc53.size rfl rfl (own_cellsV (hC.getM 0 rfl)) rfl (all_c (own_oneC (hC.getM 0 rfl)) rfl) (Nat.le_of_ble_eq_true rfl) rfl fun w26 hC => ?_
 refine dn ?_
 refine sr ?_
 refine s_loadA hC 1 [u17] rfl ag55 rfl rfl rfl ?_
 refine s_store (v := .agg #[u17]) hC 2 [u17] [u17] rfl ag55.size rfl rfl rfl rfl (all_c (own_oneC (hC.getM 0 rfl)) rfl) (Nat.le_of_ble_eq_true rfl) rfl fun w27 hC => ?_
 refine dn ?_
 refine wp_ret ?_
 refine ret1 (fn := Tryz.f30) rfl ?_ ⟨(⟨r16⟩ : Vc.Form), u17, (Option.toList (Value.ownBlock u17)), rfl, h, (form_join (own_item (hC.getM 0 rfl))), (own_fresh hC 0 rfl), hC.below⟩ (.inl rfl)
 exact res_cellA hC 2 rfl ag55 rfl rfl
def f_laws_eqTerm (a0 : Term) (a1 : Term) (K : Bool → Prop) : Prop :=
 f_laws_eqMonomial a0.mono a1.mono (fun r10 => (if ¬ (r10 = true) then K false else (if a0.factor ≠ a1.factor then K false else K true)))
theorem c_laws_eqTerm (a0 : Term) (a1 : Term)  {K : Bool → Prop} (h : f_laws_eqTerm a0 a1 K) (w0 : World)  :
  Calls Tryz.prog 144 #[.agg (List.toArray (Term.enc a0)), .agg (List.toArray (Term.enc a1))] w0 fun e w' => ∃ (r0 : Bool), 
   e = .returned (.bool r0) ∧ K r0 ∧ Bel w0 w' := by
 unfold f_laws_eqTerm at h
 refine calls_of (args := [.agg (List.toArray (Term.enc a0)), .agg (List.toArray (Term.enc a1))]) Tryz.func144 rfl 16 Tryz.ntmps144 (Nat.le_of_ble_eq_true rfl) ?_
 have hC := Ctx.start (X := Nox) w0 [] (by simp)
 refine sr ?_
 refine s_box (v := .agg (List.toArray (Term.enc a0))) hC (Term.enc a0) rfl rfl fun b1 w3 hB_ hC => ?_
 refine s_box (v := .agg (List.toArray (Term.enc a1))) hC (Term.enc a1) rfl rfl fun b4 w6 hB_ hC => ?_
 refine s_as (v := .bool false) rfl ?_
 refine dn ?_
 refine wp_seq ?_
 refine sr ?_
 refine s_faddrB 0 Tryz.underlying162 rfl ag136.size rfl rfl ?_
 refine s_loadA hC 1 (A8.enc .u8 a0.mono) rfl ag136 rfl rfl rfl ?_
 refine s_faddrB 0 Tryz.underlying162 rfl ag136.size rfl rfl ?_
 refine s_loadA hC 0 (A8.enc .u8 a1.mono) rfl ag136 rfl rfl rfl ?_
 refine s_call [.agg (List.toArray (A8.enc .u8 a0.mono)), .agg (List.toArray (A8.enc .u8 a1.mono))] _ Tryz.func188 rfl rfl rfl (c_laws_eqMonomial a0.mono a1.mono h _) (fun ret7 w9 hR8 => ?_)
 obtain ⟨r10, rfl, h, hB11⟩ := hR8
 refine ⟨_, rfl, ?_⟩
 replace hC := hC.grow hB11
 refine s_not rfl ?_
 refine dn ?_
 refine cw_cond rfl (fun hb12 => ?_) (fun hb12 => ?_)
 ·replace h := ift h (ne_t (not_t hb12))
  refine sr ?_
  refine s_as (v := .bool false) rfl ?_
  refine dn ?_
  refine wp_ret (then_ret ?_)
  refine ret1 (fn := Tryz.f144) rfl ?_ ⟨false, rfl, h, hC.below⟩ (.inl rfl)
  exact res_tmp rfl
 ·replace h := iff_ h (not_not_intro ((not_f hb12)))
  refine wp_skip ?_
  refine then_norm ?_
  refine wp_seq ?_
  refine sr ?_
  refine s_faddrB 8 Tryz.underlying162 rfl sc2.size rfl rfl ?_
  refine s_loadS hC 1 (.int .i64 a0.factor) rfl sc2 rfl rfl ?_
  refine s_faddrB 8 Tryz.underlying162 rfl sc2.size rfl rfl ?_
  refine s_loadS hC 0 (.int .i64 a1.factor) rfl sc2 rfl rfl ?_
  refine s_neq rfl rfl ?_
  refine dn ?_
  refine cw_cond rfl (fun hb13 => ?_) (fun hb13 => ?_)
  ·replace h := ift h (ct hb13)
   refine sr ?_
   refine s_as (v := .bool false) rfl ?_
   refine dn ?_
   refine wp_ret (then_ret ?_)
   refine ret1 (fn := Tryz.f144) rfl ?_ ⟨false, rfl, h, hC.below⟩ (.inl rfl)
   exact res_tmp rfl
  ·replace h := iff_ h (cf hb13)
   refine wp_skip ?_
   refine then_norm ?_
   refine sr ?_
   refine s_as (v := .bool true) rfl ?_
   refine dn ?_
   refine wp_ret ?_
   refine ret1 (fn := Tryz.f144) rfl ?_ ⟨true, rfl, h, hC.below⟩ (.inl rfl)
   exact res_tmp rfl
def f_laws_eqTermS (a0 : List Term) (a1 : List Term) (K : Bool → Prop) : Prop :=
 (if (a0.length : Int) ≠ (a1.length : Int) then K false else forN (fun i36 (s37 : Unit) next39 => ((0 ≤ (i36 : Int) ∧ (i36 : Int) < (a1.length : Int)) ∧ f_laws_eqTerm (a0.getD i36 default) (a1.getD i36 default) (fun r61 => (if ¬ (r61 = true) then K false else next39 ())))) (fun (s37 : Unit) => K true) a0.length 0 ())
theorem c_laws_eqTermS (a0 : List Term) (a1 : List Term) {u0_0 : Value} {u1_0 : Value} {fp0 : List Nat} {fp1 : List Nat} {K : Bool → Prop} (h : f_laws_eqTermS a0 a1 K) (w0 : World) (q0 : ETerm.ty.sl.rep a0 [u0_0] fp0 w0) (q1 : ETerm.ty.sl.rep a1 [u1_0] fp1 w0) :
  Calls Tryz.prog 87 #[u0_0, u1_0] w0 fun e w' => ∃ (r0 : Bool), 
   e = .returned (.bool r0) ∧ K r0 ∧ Bel w0 w' := by
 unfold f_laws_eqTermS at h
 refine calls_of (args := [u0_0, u1_0]) Tryz.func87 rfl 27 Tryz.ntmps87 (Nat.le_of_ble_eq_true rfl) ?_
 have hC := Ctx.start (X := Nox) w0 [Ty.item ETerm.ty.sl a0 [u0_0] fp0, Ty.item ETerm.ty.sl a1 [u1_0] fp1] (by simp only [List.mem_cons, List.not_mem_nil, or_false, forall_eq_or_imp, forall_eq]; exact ⟨q0, q1⟩)
 refine sr ?_
 refine s_as (v := .bool false) rfl ?_
 refine dn ?_
 refine wp_seq ?_
 refine sr ?_
 refine s_mv (v := u0_0) rfl ?_
 obtain ⟨Ad3, c4, hv5⟩ := sl_len (hC.getP 0 rfl)
 refine s_len Tryz.underlying53 (tr rfl hv5) ?_
 refine s_mv (v := u1_0) rfl ?_
 obtain ⟨Ad6, c7, hv8⟩ := sl_len (hC.getP 1 rfl)
 refine s_len Tryz.underlying53 (tr rfl hv8) ?_
 refine s_neq rfl rfl ?_
 refine dn ?_
 refine cw_cond rfl (fun hb9 => ?_) (fun hb9 => ?_)
 ·replace h := ift h (ct hb9)
  refine sr ?_
  refine s_as (v := .bool false) rfl ?_
  refine dn ?_
  refine wp_ret (then_ret ?_)
  refine ret1 (fn := Tryz.f87) rfl ?_ ⟨false, rfl, h, hC.below⟩ (.inl rfl)
  exact res_tmp rfl
 ·replace h := iff_ h (cf hb9)
  refine wp_skip ?_
  refine then_norm ?_
  refine wp_seq ?_
  refine sr ?_
  refine s_as (v := .int .i64 0) rfl ?_
  refine dn ?_
  refine wp_block ?_
  have hN38 : a0.length ≤ 9223372036854775807 := sl_max (hC.getP 0 rfl)
  refine loopN (S := Unit) _ _ (fun i36 s37 e_ w_ => Slots e_ [(0, u0_0), (1, u1_0), (4, .bool false), (5, .int .i64 (i36 : Int))] ∧ Ctx Nox w0 w_ [] [Ty.item ETerm.ty.sl a0 [u0_0] fp0, Ty.item ETerm.ty.sl a1 [u1_0] fp1]) a0.length ?_ ?_ (s0 := ()) ?_ h
  ·clear hC h
   rintro i36 s37 e_ w43 next39 K40 hi42 ⟨hS_, hC⟩ h hK41
   refine wp_seq ?_
   refine sr ?_
   refine s_mv (v := .int .i64 (i36 : Int)) (sx hS_ 3 rfl) ?_
   refine s_mv (v := u0_0) (sx hS_ 0 rfl) ?_
   obtain ⟨Ad44, c45, hv46⟩ := sl_len (hC.getP 0 rfl)
   refine s_len Tryz.underlying53 (tr rfl hv46) ?_
   refine s_lss rfl rfl ?_
   refine dn ?_
   refine cw_true rfl (decide_eq_true (by omega)) ?_
   refine wp_skip ?_
   refine then_norm ?_
   refine wp_seq ?_
   refine wp_block ?_
   refine wp_seq ?_
   refine cw_draw 8 mixed [0, 0, 3, 7, 0, 0, 48, 112, 255, 511] [2, 3, 6, 7] [0, 1, 4, 5] (by kernel_rfl) (by kernel_rfl) (by kernel_rfl) (fun hM48 hM49 w47 hB_ => ?_)
   replace hC := hC.grow hB_
   refine aF 0 (u0_0) rfl rfl (hM49 0 rfl) (rfl) (fun _ => by exact r_mv (v := u0_0) (sx hS_ 0 rfl)) (dbits 10 1) ?_
   refine aF 1 (.int .i64 (i36 : Int)) rfl rfl (hM49 1 rfl) (rfl) (fun _ => by exact r_mv (v := .int .i64 (i36 : Int)) (sx hS_ 3 rfl)) (dbits 10 3) ?_
   obtain ⟨Ad50, c51, hv52⟩ := sl_form (hC.getP 0 rfl) i36 hi42
   refine aL 2 (.pointer (some (Ad50.add (i36 * 9)))) rfl rfl (hM48 2 rfl) (rfl) (fun _ hB_ => by exact r_iaddrS (len := a0.length) Tryz.underlying53 ag162.size (by exact tr rfl hv52) rfl (Int.natCast_nonneg _) (Int.ofNat_lt.2 hi42)) (dbits 10 7) ?_
   refine aL 3 (.agg (List.toArray (Term.enc (a0.getD i36 default)))) rfl rfl (hM48 3 rfl) (rfl) (fun _ hB_ => by exact r_loadCA (Term.enc (a0.getD i36 default)) (sl_cellsE ((hC.grow hB_).getP 0 rfl) hv52 i36 hi42) ag162 rfl rfl) (dbits 10 15) ?_
   refine aF 4 (u1_0) rfl rfl (hM49 4 rfl) (rfl) (fun _ => by exact r_mv (v := u1_0) (sx hS_ 1 rfl)) (dbits 10 31) ?_
   refine aF 5 (.int .i64 (i36 : Int)) rfl rfl (hM49 5 rfl) (rfl) (fun _ => by exact r_mv (v := .int .i64 (i36 : Int)) (sx hS_ 3 rfl)) (dbits 10 63) ?_
   obtain ⟨⟨h0_53, h1_54⟩, h⟩ := h
   obtain ⟨Ad55, c56, hv57⟩ := sl_form (hC.getP 1 rfl) i36 (show i36 < a1.length by omega)
   refine aL 6 (.pointer (some (Ad55.add (i36 * 9)))) rfl rfl (hM48 6 rfl) (rfl) (fun _ hB_ => by exact r_iaddrS (len := a1.length) Tryz.underlying53 ag162.size (by exact tr rfl hv57) rfl h0_53 h1_54) (dbits 10 127) ?_
   refine aL 7 (.agg (List.toArray (Term.enc (a1.getD i36 default)))) rfl rfl (hM48 7 rfl) (rfl) (fun _ hB_ => by exact r_loadCA (Term.enc (a1.getD i36 default)) (sl_cellsE ((hC.grow hB_).getP 1 rfl) hv57 i36 (show i36 < a1.length by omega)) ag162 rfl rfl) (dbits 10 255) ?_
   refine ae_tail 8 (by decide) (by decide) (by kernel_rfl) (by kernel_rfl) rfl ?_
   refine s_call [.agg (List.toArray (Term.enc (a0.getD i36 default))), .agg (List.toArray (Term.enc (a1.getD i36 default)))] _ Tryz.func144 rfl rfl rfl (c_laws_eqTerm (a0.getD i36 default) (a1.getD i36 default) h _) (fun ret58 w60 hR59 => ?_)
   obtain ⟨r61, rfl, h, hB62⟩ := hR59
   refine ⟨_, rfl, ?_⟩
   replace hC := hC.grow hB62
   refine s_not rfl ?_
   refine done ?_
   refine qn_norm ?_
   refine then_norm ?_
   refine cw_cond rfl (fun hb63 => ?_) (fun hb63 => ?_)
   ·replace h := ift h (ne_t (not_t hb63))
    refine sr ?_
    refine s_as (v := .bool false) rfl ?_
    refine dn ?_
    refine wp_ret (blk_ret (then_ret (then_ret (blk_ret (then_ret ?_)))))
    refine ret1 (fn := Tryz.f87) rfl ?_ ⟨false, rfl, h, hC.below⟩ (.inl rfl)
    exact res_tmp rfl
   ·replace h := iff_ h (not_not_intro ((not_f hb63)))
    refine wp_skip ?_
    refine blk_norm ?_
    refine then_norm ?_
    refine cw_region ?_
    refine s_mv (v := .int .i64 (i36 : Int)) (sx hS_ 3 rfl) ?_
    refine s_add rfl rfl ?_
    refine s_as (v := .int .i64 (IntKind.i64.wrap ((i36 : Int) + 1))) rfl ?_
    refine done ?_
    exact hK41 () _ _ ⟨(sk (sx hS_ 0 rfl) (sk (sx hS_ 1 rfl) (sk (sx hS_ 2 rfl) (sk (tr rfl (congrArg _ (wrap64_nat hi42 hN38))) sn)))), hC⟩ h
  ·clear hC h
   rintro s37 e_ w64 K40 ⟨hS_, hC⟩ h
   refine wp_seq ?_
   refine sr ?_
   refine s_mv (v := .int .i64 (a0.length : Int)) (sx hS_ 3 rfl) ?_
   refine s_mv (v := u0_0) (sx hS_ 0 rfl) ?_
   obtain ⟨Ad65, c66, hv67⟩ := sl_len (hC.getP 0 rfl)
   refine s_len Tryz.underlying53 (tr rfl hv67) ?_
   refine s_lss rfl rfl ?_
   refine dn ?_
   refine cw_false rfl (decide_eq_false (by omega)) ?_
   refine wp_exit (then_exit (then_exit (exit_in ?_)))
   refine then_norm ?_
   refine sr ?_
   refine s_as (v := .bool true) rfl ?_
   refine dn ?_
   refine wp_ret ?_
   refine ret1 (fn := Tryz.f87) rfl ?_ ⟨true, rfl, h, hC.below⟩ (.inl rfl)
   exact res_tmp rfl
  ·skip
   exact ⟨(sk rfl (sk rfl (sk rfl (sk rfl sn)))), hC⟩
def f_laws_eqForm (a0 : Vc.Form) (a1 : Vc.Form) (K : Bool → Prop) : Prop :=
 f_laws_eqTermS a0.terms a1.terms (fun r16 => (if ¬ (r16 = true) then K false else K true))
theorem c_laws_eqForm (a0 : Vc.Form) (a1 : Vc.Form) {u0_0 : Value} {u1_0 : Value} {fp0 : List Nat} {fp1 : List Nat} {K : Bool → Prop} (h : f_laws_eqForm a0 a1 K) (w0 : World) (q0 : TForm.rep a0 [u0_0] fp0 w0) (q1 : TForm.rep a1 [u1_0] fp1 w0) :
  Calls Tryz.prog 32 #[.agg #[u0_0], .agg #[u1_0]] w0 fun e w' => ∃ (r0 : Bool), 
   e = .returned (.bool r0) ∧ K r0 ∧ Bel w0 w' := by
 unfold f_laws_eqForm at h
 refine calls_of (args := [.agg #[u0_0], .agg #[u1_0]]) Tryz.func32 rfl 11 Tryz.ntmps32 (Nat.le_of_ble_eq_true rfl) ?_
 have hC := Ctx.start (X := Nox) w0 [Ty.item TForm a0 [u0_0] fp0, Ty.item TForm a1 [u1_0] fp1] (by simp only [List.mem_cons, List.not_mem_nil, or_false, forall_eq_or_imp, forall_eq]; exact ⟨q0, q1⟩)
 have hp3 := (hC.getP 0 rfl)
 replace hC := hC.derive 0 rfl (Ty.item ETerm.ty.sl a0.terms [u0_0] fp0) (fun _ => (form_parts hp3)) (fun _ hb_ => hb_)
 have hp5 := (hC.getP 2 rfl)
 replace hC := hC.derive 2 rfl (Ty.item ETerm.ty.sl a1.terms [u1_0] fp1) (fun _ => (form_parts hp5)) (fun _ hb_ => hb_)
 refine sr ?_
 refine s_box (v := .agg #[u0_0]) hC [u0_0] rfl rfl fun b7 w9 hB_ hC => ?_
 refine s_box (v := .agg #[u1_0]) hC [u1_0] rfl rfl fun b10 w12 hB_ hC => ?_
 refine s_as (v := .bool false) rfl ?_
 refine dn ?_
 refine wp_seq ?_
 refine sr ?_
 refine s_faddrB 0 Tryz.underlying55 rfl sc53.size rfl rfl ?_
 refine s_loadS hC 1 (u0_0) rfl sc53 rfl rfl ?_
 refine s_faddrB 0 Tryz.underlying55 rfl sc53.size rfl rfl ?_
 refine s_loadS hC 0 (u1_0) rfl sc53 rfl rfl ?_
 refine s_call [u0_0, u1_0] _ Tryz.func87 rfl rfl rfl (c_laws_eqTermS a0.terms a1.terms h _ (hC.getP 1 rfl) (hC.getP 0 rfl)) (fun ret13 w15 hR14 => ?_)
 obtain ⟨r16, rfl, h, hB17⟩ := hR14
 refine ⟨_, rfl, ?_⟩
 replace hC := hC.grow hB17
 refine s_not rfl ?_
 refine dn ?_
 refine cw_cond rfl (fun hb18 => ?_) (fun hb18 => ?_)
 ·replace h := ift h (ne_t (not_t hb18))
  refine sr ?_
  refine s_as (v := .bool false) rfl ?_
  refine dn ?_
  refine wp_ret (then_ret ?_)
  refine ret1 (fn := Tryz.f32) rfl ?_ ⟨false, rfl, h, hC.below⟩ (.inl rfl)
  exact res_tmp rfl
 ·replace h := iff_ h (not_not_intro ((not_f hb18)))
  refine wp_skip ?_
  refine then_norm ?_
  refine sr ?_
  refine s_as (v := .bool true) rfl ?_
  refine dn ?_
  refine wp_ret ?_
  refine ret1 (fn := Tryz.f32) rfl ?_ ⟨true, rfl, h, hC.below⟩ (.inl rfl)
  exact res_tmp rfl
def f_laws_eqFormS (a0 : List Vc.Form) (a1 : List Vc.Form) (K : Bool → Prop) : Prop :=
 (if (a0.length : Int) ≠ (a1.length : Int) then K false else forN (fun i48 (s49 : Unit) next51 => ((0 ≤ (i48 : Int) ∧ (i48 : Int) < (a1.length : Int)) ∧ f_laws_eqForm (a0.getD i48 default) (a1.getD i48 default) (fun r85 => (if ¬ (r85 = true) then K false else next51 ())))) (fun (s49 : Unit) => K true) a0.length 0 ())
theorem c_laws_eqFormS (a0 : List Vc.Form) (a1 : List Vc.Form) {u0_0 : Value} {u1_0 : Value} {fp0 : List Nat} {fp1 : List Nat} {K : Bool → Prop} (h : f_laws_eqFormS a0 a1 K) (w0 : World) (q0 : TForm.sl.rep a0 [u0_0] fp0 w0) (q1 : TForm.sl.rep a1 [u1_0] fp1 w0) :
  Calls Tryz.prog 51 #[u0_0, u1_0] w0 fun e w' => ∃ (r0 : Bool), 
   e = .returned (.bool r0) ∧ K r0 ∧ Bel w0 w' := by
 unfold f_laws_eqFormS at h
 refine calls_of (args := [u0_0, u1_0]) Tryz.func51 rfl 27 Tryz.ntmps51 (Nat.le_of_ble_eq_true rfl) ?_
 have hC := Ctx.start (X := Nox) w0 [Ty.item TForm.sl a0 [u0_0] fp0, Ty.item TForm.sl a1 [u1_0] fp1] (by simp only [List.mem_cons, List.not_mem_nil, or_false, forall_eq_or_imp, forall_eq]; exact ⟨q0, q1⟩)
 refine sr ?_
 refine s_as (v := .bool false) rfl ?_
 refine dn ?_
 refine wp_seq ?_
 refine sr ?_
 refine s_mv (v := u0_0) rfl ?_
 obtain ⟨Ad3, c4, hv5⟩ := sl_len (hC.getP 0 rfl)
 refine s_len Tryz.underlying30 (tr rfl hv5) ?_
 refine s_mv (v := u1_0) rfl ?_
 obtain ⟨Ad6, c7, hv8⟩ := sl_len (hC.getP 1 rfl)
 refine s_len Tryz.underlying30 (tr rfl hv8) ?_
 refine s_neq rfl rfl ?_
 refine dn ?_
 refine cw_cond rfl (fun hb9 => ?_) (fun hb9 => ?_)
 ·replace h := ift h (ct hb9)
  refine sr ?_
  refine s_as (v := .bool false) rfl ?_
  refine dn ?_
  refine wp_ret (then_ret ?_)
  refine ret1 (fn := Tryz.f51) rfl ?_ ⟨false, rfl, h, hC.below⟩ (.inl rfl)
  exact res_tmp rfl
 ·replace h := iff_ h (cf hb9)
  refine wp_skip ?_
  refine then_norm ?_
  refine wp_seq ?_
  refine sr ?_
  refine s_as (v := .int .i64 0) rfl ?_
  refine dn ?_
  refine wp_block ?_
  have hN50 : a0.length ≤ 9223372036854775807 := sl_max (hC.getP 0 rfl)
  refine loopN (S := Unit) _ _ (fun i48 s49 e_ w_ => Slots e_ [(0, u0_0), (1, u1_0), (4, .bool false), (5, .int .i64 (i48 : Int))] ∧ Ctx Nox w0 w_ [] [Ty.item TForm.sl a0 [u0_0] fp0, Ty.item TForm.sl a1 [u1_0] fp1]) a0.length ?_ ?_ (s0 := ()) ?_ h
  ·clear hC h
   rintro i48 s49 e_ w55 next51 K52 hi54 ⟨hS_, hC⟩ h hK53
   refine wp_seq ?_
   refine sr ?_
   refine s_mv (v := .int .i64 (i48 : Int)) (sx hS_ 3 rfl) ?_
   refine s_mv (v := u0_0) (sx hS_ 0 rfl) ?_
   obtain ⟨Ad56, c57, hv58⟩ := sl_len (hC.getP 0 rfl)
   refine s_len Tryz.underlying30 (tr rfl hv58) ?_
   refine s_lss rfl rfl ?_
   refine dn ?_
   refine cw_true rfl (decide_eq_true (by omega)) ?_
   refine wp_skip ?_
   refine then_norm ?_
   refine wp_seq ?_
   refine wp_block ?_
   refine wp_seq ?_
   refine cw_draw 8 mixed [0, 0, 3, 7, 0, 0, 48, 112, 255, 511] [2, 3, 6, 7] [0, 1, 4, 5] (by kernel_rfl) (by kernel_rfl) (by kernel_rfl) (fun hM60 hM61 w59 hB_ => ?_)
   replace hC := hC.grow hB_
   refine aF 0 (u0_0) rfl rfl (hM61 0 rfl) (rfl) (fun _ => by exact r_mv (v := u0_0) (sx hS_ 0 rfl)) (dbits 10 1) ?_
   refine aF 1 (.int .i64 (i48 : Int)) rfl rfl (hM61 1 rfl) (rfl) (fun _ => by exact r_mv (v := .int .i64 (i48 : Int)) (sx hS_ 3 rfl)) (dbits 10 3) ?_
   obtain ⟨Ad62, c63, hv64⟩ := sl_form (hC.getP 0 rfl) i48 hi54
   refine aL 2 (.pointer (some (Ad62.add (i48 * 1)))) rfl rfl (hM60 2 rfl) (rfl) (fun _ hB_ => by exact r_iaddrS (len := a0.length) Tryz.underlying30 ag55.size (by exact tr rfl hv64) rfl (Int.natCast_nonneg _) (Int.ofNat_lt.2 hi54)) (dbits 10 7) ?_
   obtain ⟨cs_, hl66, hc67, hr68⟩ := sl_cells (hC.getP 0 rfl) hv64 i48 hi54
   obtain ⟨u65, rfl⟩ := List.length_eq_one_iff.1 hl66
   clear hl66
   rw [getD_eq _ _ hi54] at hr68
   have hp69 := hr68
   replace hC := hC.derive 0 rfl (Ty.item ETerm.ty.sl ((a0.getD i48 default).terms) [u65] fp0) (fun _ => (form_parts hp69)) (fun _ hb_ => hb_)
   refine aL 3 (.agg #[u65]) rfl rfl (hM60 3 rfl) (rfl) (fun _ hB_ => by exact r_loadCA [u65] (cellsAt_bel hB_ hc67) ag55 rfl rfl) (dbits 10 15) ?_
   refine aF 4 (u1_0) rfl rfl (hM61 4 rfl) (rfl) (fun _ => by exact r_mv (v := u1_0) (sx hS_ 1 rfl)) (dbits 10 31) ?_
   refine aF 5 (.int .i64 (i48 : Int)) rfl rfl (hM61 5 rfl) (rfl) (fun _ => by exact r_mv (v := .int .i64 (i48 : Int)) (sx hS_ 3 rfl)) (dbits 10 63) ?_
   obtain ⟨⟨h0_71, h1_72⟩, h⟩ := h
   obtain ⟨Ad73, c74, hv75⟩ := sl_form (hC.getP 2 rfl) i48 (show i48 < a1.length by omega)
   refine aL 6 (.pointer (some (Ad73.add (i48 * 1)))) rfl rfl (hM60 6 rfl) (rfl) (fun _ hB_ => by exact r_iaddrS (len := a1.length) Tryz.underlying30 ag55.size (by exact tr rfl hv75) rfl h0_71 h1_72) (dbits 10 127) ?_
   obtain ⟨cs_, hl77, hc78, hr79⟩ := sl_cells (hC.getP 2 rfl) hv75 i48 (show i48 < a1.length by omega)
   obtain ⟨u76, rfl⟩ := List.length_eq_one_iff.1 hl77
   clear hl77
   rw [getD_eq _ _ (show i48 < a1.length by omega)] at hr79
   have hp80 := hr79
   replace hC := hC.derive 2 rfl (Ty.item ETerm.ty.sl ((a1.getD i48 default).terms) [u76] fp1) (fun _ => (form_parts hp80)) (fun _ hb_ => hb_)
   refine aL 7 (.agg #[u76]) rfl rfl (hM60 7 rfl) (rfl) (fun _ hB_ => by exact r_loadCA [u76] (cellsAt_bel hB_ hc78) ag55 rfl rfl) (dbits 10 255) ?_
   refine ae_tail 8 (by decide) (by decide) (by kernel_rfl) (by kernel_rfl) rfl ?_
   refine s_call [.agg #[u65], .agg #[u76]] _ Tryz.func32 rfl rfl rfl (c_laws_eqForm (a0.getD i48 default) (a1.getD i48 default) h _ (form_mk (hC.getP 1 rfl)) (form_mk (hC.getP 0 rfl))) (fun ret82 w84 hR83 => ?_)
   obtain ⟨r85, rfl, h, hB86⟩ := hR83
   refine ⟨_, rfl, ?_⟩
   replace hC := hC.grow hB86
   refine s_not rfl ?_
   refine done ?_
   refine qn_norm ?_
   refine then_norm ?_
   refine cw_cond rfl (fun hb87 => ?_) (fun hb87 => ?_)
   ·replace h := ift h (ne_t (not_t hb87))
    refine sr ?_
    refine s_as (v := .bool false) rfl ?_
    refine dn ?_
    refine wp_ret (blk_ret (then_ret (then_ret (blk_ret (then_ret ?_)))))
    refine ret1 (fn := Tryz.f51) rfl ?_ ⟨false, rfl, h, hC.below⟩ (.inl rfl)
    exact res_tmp rfl
   ·replace h := iff_ h (not_not_intro ((not_f hb87)))
    refine wp_skip ?_
    refine blk_norm ?_
    refine then_norm ?_
    refine cw_region ?_
    refine s_mv (v := .int .i64 (i48 : Int)) (sx hS_ 3 rfl) ?_
    refine s_add rfl rfl ?_
    refine s_as (v := .int .i64 (IntKind.i64.wrap ((i48 : Int) + 1))) rfl ?_
    refine done ?_
    replace hC := hC.sP [2, 3] (Ps' := [Ty.item TForm.sl a0 [u0_0] fp0, Ty.item TForm.sl a1 [u1_0] fp1]) rfl
    exact hK53 () _ _ ⟨(sk (sx hS_ 0 rfl) (sk (sx hS_ 1 rfl) (sk (sx hS_ 2 rfl) (sk (tr rfl (congrArg _ (wrap64_nat hi54 hN50))) sn)))), hC⟩ h
  ·clear hC h
   rintro s49 e_ w88 K52 ⟨hS_, hC⟩ h
   refine wp_seq ?_
   refine sr ?_
   refine s_mv (v := .int .i64 (a0.length : Int)) (sx hS_ 3 rfl) ?_
   refine s_mv (v := u0_0) (sx hS_ 0 rfl) ?_
   obtain ⟨Ad89, c90, hv91⟩ := sl_len (hC.getP 0 rfl)
   refine s_len Tryz.underlying30 (tr rfl hv91) ?_
   refine s_lss rfl rfl ?_
   refine dn ?_
   refine cw_false rfl (decide_eq_false (by omega)) ?_
   refine wp_exit (then_exit (then_exit (exit_in ?_)))
   refine then_norm ?_
   refine sr ?_
   refine s_as (v := .bool true) rfl ?_
   refine dn ?_
   refine wp_ret ?_
   refine ret1 (fn := Tryz.f51) rfl ?_ ⟨true, rfl, h, hC.below⟩ (.inl rfl)
   exact res_tmp rfl
  ·skip
   exact ⟨(sk rfl (sk rfl (sk rfl (sk rfl sn)))), hC⟩
def f_laws_markTermS (a0 : List Term) (a1 : Int) (K : Int → List Term → Prop) : Prop :=
 whileP (fun (s223 : (List Term) × Int × Int) next224 => (if s223.2.2 < (s223.1.length : Int) then forN (fun i262 (s263 : (List Term) × Int) next264 => ((0 ≤ s223.2.2 ∧ s223.2.2 < (s263.1.length : Int)) ∧ next264 (s263.1.set s223.2.2.toNat (⟨((s263.1.getD s223.2.2.toNat default).mono).set i262 (IntKind.u8.wrap s263.2), (s263.1.getD s223.2.2.toNat default).factor⟩ : Term), IntKind.i64.wrap (s263.2 + 1)))) (fun (s263 : (List Term) × Int) => ((0 ≤ s223.2.2 ∧ s223.2.2 < (s263.1.length : Int)) ∧ next224 (s263.1.set s223.2.2.toNat (⟨(s263.1.getD s223.2.2.toNat default).mono, s263.2⟩ : Term), IntKind.i64.wrap (s263.2 + 1), IntKind.i64.wrap (s223.2.2 + 1)))) 8 0 (s223.1, s223.2.1) else K s223.2.1 s223.1)) (a0, a1, 0)
theorem c_laws_markTermS (a0 : List Term) (a1 : Int) {u0_0 : Value} {K : Int → List Term → Prop} (h : f_laws_markTermS a0 a1 K) (w0 : World) (qw0 : (own 162 9 u0_0 a0.length (ETerm.encs a0)).holds w0) :
  Calls Tryz.prog 102 #[u0_0, .int .i64 a1] w0 fun e w' => ∃ (r0 : Int) (mw : List Term), 
   e = .returned (.int .i64 r0) ∧ K r0 mw ∧ (own 162 9 u0_0 mw.length (ETerm.encs mw)).holds w' ∧ BelO ((Option.toList (Value.ownBlock u0_0))) w0 w' := by
 unfold f_laws_markTermS at h
 refine calls_of (args := [u0_0, .int .i64 a1]) Tryz.func102 rfl 35 Tryz.ntmps102 (Nat.le_of_ble_eq_true rfl) ?_
 have hC := Ctx.startL w0 ((Option.toList (Value.ownBlock u0_0))) [own 162 9 u0_0 a0.length (ETerm.encs a0)] [] (by simp only [List.mem_cons, List.not_mem_nil, or_false, forall_eq_or_imp, forall_eq]; exact qw0) (by simp) (by simp only [List.mem_cons, List.not_mem_nil, or_false, forall_eq_or_imp, forall_eq]; exact fun b hb => hb) (List.pairwise_singleton _ _) (by simp)
 refine sr ?_
 refine s_as (v := .int .i64 0) rfl ?_
 refine dn ?_
 refine wp_seq ?_
 refine sr ?_
 refine s_as (v := .int .i64 0) rfl ?_
 refine dn ?_
 refine wp_block ?_
 refine loopW (S := (List Term) × Int × Int) _ (fun s223 e_ w_ => Slots e_ [(0, u0_0), (1, .int .i64 s223.2.1), (4, .int .i64 0), (5, .int .i64 s223.2.2)] ∧ Ctx (fun c_ => c_ ∈ (Option.toList (Value.ownBlock u0_0))) w0 w_ [own 162 9 u0_0 s223.1.length (ETerm.encs s223.1)] []) ?_ (s0 := (a0, a1, 0)) ?_ h
 ·clear hC h
  rintro s223 e_ w227 next224 K225 ⟨hS_, hC⟩ h hK226
  refine wp_seq ?_
  refine sr ?_
  refine s_mv (v := .int .i64 s223.2.2) (sx hS_ 3 rfl) ?_
  refine s_mv (v := u0_0) (sx hS_ 0 rfl) ?_
  obtain ⟨Ad228, c229, hv230⟩ := own_form (hC.getM 0 rfl)
  refine s_len Tryz.underlying53 (tr rfl hv230) ?_
  refine s_lss rfl rfl ?_
  refine dn ?_
  refine cw_cond rfl (fun hb231 => ?_) (fun hb231 => ?_)
  ·replace h := ift h (ct hb231)
   refine wp_skip ?_
   refine then_norm ?_
   refine wp_seq ?_
   refine wp_block ?_
   refine wp_seq ?_
   refine sr ?_
   refine s_as (v := .int .i64 0) rfl ?_
   refine dn ?_
   refine wp_block ?_
   refine loopN (S := (List Term) × Int) _ _ (fun i262 s263 e_ w_ => Slots e_ [(0, u0_0), (1, .int .i64 s263.2), (4, .int .i64 0), (5, .int .i64 s223.2.2), (6, .int .i64 (i262 : Int)), (7, .int .i64 s223.2.2), (8, u0_0), (9, .int .i64 (s223.1.length : Int)), (10, .bool (decide (s223.2.2 < (s223.1.length : Int))))] ∧ Ctx (fun c_ => c_ ∈ (Option.toList (Value.ownBlock u0_0))) w0 w_ [own 162 9 u0_0 s263.1.length (ETerm.encs s263.1)] []) 8 ?_ ?_ (s0 := (s223.1, s223.2.1)) ?_ h
   ·clear hC h
    rintro i262 s263 e_ w268 next264 K265 hi267 ⟨hS_, hC⟩ h hK266
    refine wp_seq ?_
    refine sr ?_
    refine s_mv (v := .int .i64 (i262 : Int)) (sx hS_ 4 rfl) ?_
    refine s_lss rfl rfl ?_
    refine dn ?_
    refine cw_true rfl (decide_eq_true (by omega)) ?_
    refine wp_skip ?_
    refine then_norm ?_
    refine wp_seq ?_
    refine wp_block ?_
    refine sr ?_
    refine s_mv (v := u0_0) (sx hS_ 0 rfl) ?_
    refine s_mv (v := .int .i64 s223.2.2) (sx hS_ 3 rfl) ?_
    refine s_mv (v := .int .i64 (i262 : Int)) (sx hS_ 4 rfl) ?_
    refine s_mv (v := .int .i64 s263.2) (sx hS_ 1 rfl) ?_
    refine s_conv Tryz.underlying3 Tryz.underlying5 rfl ?_
    obtain ⟨⟨h0_269, h1_270⟩, h⟩ := h
    obtain ⟨Ad271, c272, hv273⟩ := own_formE (hC.getM 0 rfl) (Nat.lt_of_le_of_lt (Nat.zero_le _) (show s223.2.2.toNat < s263.1.length by omega))
    refine s_iaddrO (s223.2.2.toNat * 9) Tryz.underlying53 ag162.size (tr rfl hv273) rfl h0_269 h1_270 rfl ?_
    refine s_faddrB (s223.2.2.toNat * 9 + 0) Tryz.underlying162 rfl ag136.size rfl rfl ?_
    refine s_iaddrB (s223.2.2.toNat * 9 + 0 + i262) Tryz.underlying136 sc5.size rfl rfl (Int.natCast_nonneg _) (by omega) (by omega) ?_
    refine s_storeO (v := .int .u8 (IntKind.u8.wrap s263.2)) hC 0 [.int .u8 (IntKind.u8.wrap s263.2)] (ETerm.encs (s263.1.set s223.2.2.toNat (⟨((s263.1.getD s223.2.2.toNat default).mono).set i262 (IntKind.u8.wrap s263.2), (s263.1.getD s223.2.2.toNat default).factor⟩ : Term))) rfl hv273 sc5.size rfl rfl rfl rfl rfl (by rw [Enc.encs_len]; have := seg_le (sz := 9) (show s223.2.2.toNat < s263.1.length by omega); have h9 : i262 + 1 ≤ 9 := (show i262 + 1 ≤ 9 by omega); have e9 : ETerm.sz = 9 := rfl; rw [e9]; omega) (splice_in (E := ETerm) (o := i262) (show s223.2.2.toNat < s263.1.length by omega) (show i262 + 1 ≤ 9 by omega) (arr_set hi267)) fun w274 hC => ?_
    replace hC := own_re hC 0 ((s263.1.set s223.2.2.toNat (⟨((s263.1.getD s223.2.2.toNat default).mono).set i262 (IntKind.u8.wrap s263.2), (s263.1.getD s223.2.2.toNat default).factor⟩ : Term)).length) (ETerm.encs (s263.1.set s223.2.2.toNat (⟨((s263.1.getD s223.2.2.toNat default).mono).set i262 (IntKind.u8.wrap s263.2), (s263.1.getD s223.2.2.toNat default).factor⟩ : Term))) rfl (by simp) rfl
    refine dn ?_
    refine cw_region ?_
    refine s_mv (v := .int .i64 s263.2) (sx hS_ 1 rfl) ?_
    refine s_add rfl rfl ?_
    refine s_as (v := .int .i64 (IntKind.i64.wrap (s263.2 + 1))) rfl ?_
    refine done ?_
    refine blk_norm ?_
    refine then_norm ?_
    refine cw_region ?_
    refine s_mv (v := .int .i64 (i262 : Int)) (sx hS_ 4 rfl) ?_
    refine s_add rfl rfl ?_
    refine s_as (v := .int .i64 (IntKind.i64.wrap ((i262 : Int) + 1))) rfl ?_
    refine done ?_
    exact hK266 (s263.1.set s223.2.2.toNat (⟨((s263.1.getD s223.2.2.toNat default).mono).set i262 (IntKind.u8.wrap s263.2), (s263.1.getD s223.2.2.toNat default).factor⟩ : Term), IntKind.i64.wrap (s263.2 + 1)) _ _ ⟨(sk (sx hS_ 0 rfl) (sk rfl (sk (sx hS_ 2 rfl) (sk (sx hS_ 3 rfl) (sk (tr rfl (congrArg _ (wrap64_nat hi267 (by decide)))) (sk (sx hS_ 5 rfl) (sk (sx hS_ 6 rfl) (sk (sx hS_ 7 rfl) (sk (sx hS_ 8 rfl) sn))))))))), hC⟩ h
   ·clear hC h
    rintro s263 e_ w275 K265 ⟨hS_, hC⟩ h
    refine wp_seq ?_
    refine sr ?_
    refine s_mv (v := .int .i64 8) (sx hS_ 4 rfl) ?_
    refine s_lss rfl rfl ?_
    refine dn ?_
    refine cw_false rfl (decide_eq_false (by omega)) ?_
    refine wp_exit (then_exit (then_exit (exit_in ?_)))
    refine then_norm ?_
    refine sr ?_
    refine s_mv (v := u0_0) (sx hS_ 0 rfl) ?_
    refine s_mv (v := .int .i64 s223.2.2) (sx hS_ 3 rfl) ?_
    refine s_mv (v := .int .i64 s263.2) (sx hS_ 1 rfl) ?_
    obtain ⟨⟨h0_276, h1_277⟩, h⟩ := h
    obtain ⟨Ad278, c279, hv280⟩ := own_formE (hC.getM 0 rfl) (Nat.lt_of_le_of_lt (Nat.zero_le _) (show s223.2.2.toNat < s263.1.length by omega))
    refine s_iaddrO (s223.2.2.toNat * 9) Tryz.underlying53 ag162.size (tr rfl hv280) rfl h0_276 h1_277 rfl ?_
    refine s_faddrB (s223.2.2.toNat * 9 + 8) Tryz.underlying162 rfl sc2.size rfl rfl ?_
    refine s_storeO (v := .int .i64 s263.2) hC 0 [.int .i64 s263.2] (ETerm.encs (s263.1.set s223.2.2.toNat (⟨(s263.1.getD s223.2.2.toNat default).mono, s263.2⟩ : Term))) rfl hv280 sc2.size rfl rfl rfl rfl rfl (by rw [Enc.encs_len]; have := seg_le (sz := 9) (show s223.2.2.toNat < s263.1.length by omega); have h9 : 8 + 1 ≤ 9 := (Nat.le_of_ble_eq_true rfl); have e9 : ETerm.sz = 9 := rfl; rw [e9]; omega) (splice_in (E := ETerm) (o := 8) (show s223.2.2.toNat < s263.1.length by omega) (Nat.le_of_ble_eq_true rfl) rfl) fun w281 hC => ?_
    replace hC := own_re hC 0 ((s263.1.set s223.2.2.toNat (⟨(s263.1.getD s223.2.2.toNat default).mono, s263.2⟩ : Term)).length) (ETerm.encs (s263.1.set s223.2.2.toNat (⟨(s263.1.getD s223.2.2.toNat default).mono, s263.2⟩ : Term))) rfl (by simp) rfl
    refine dn ?_
    refine cw_region ?_
    refine s_mv (v := .int .i64 s263.2) (sx hS_ 1 rfl) ?_
    refine s_add rfl rfl ?_
    refine s_as (v := .int .i64 (IntKind.i64.wrap (s263.2 + 1))) rfl ?_
    refine done ?_
    refine blk_norm ?_
    refine then_norm ?_
    refine cw_region ?_
    refine s_mv (v := .int .i64 s223.2.2) (sx hS_ 3 rfl) ?_
    refine s_add rfl rfl ?_
    refine s_as (v := .int .i64 (IntKind.i64.wrap (s223.2.2 + 1))) rfl ?_
    refine done ?_
    exact hK226 (s263.1.set s223.2.2.toNat (⟨(s263.1.getD s223.2.2.toNat default).mono, s263.2⟩ : Term), IntKind.i64.wrap (s263.2 + 1), IntKind.i64.wrap (s223.2.2 + 1)) _ _ ⟨(sk (sx hS_ 0 rfl) (sk rfl (sk (sx hS_ 2 rfl) (sk rfl sn)))), hC⟩ h
   ·skip
    exact ⟨(sk (sx hS_ 0 rfl) (sk (sx hS_ 1 rfl) (sk (sx hS_ 2 rfl) (sk (sx hS_ 3 rfl) (sk rfl (sk rfl (sk rfl (sk rfl (sk rfl sn))))))))), hC⟩
  ·replace h := iff_ h (cf hb231)
   refine wp_exit (then_exit (then_exit (exit_in ?_)))
   refine then_norm ?_
   refine sr ?_
   refine s_mv (v := .int .i64 s223.2.1) (sx hS_ 1 rfl) ?_
   refine s_as (v := .int .i64 s223.2.1) rfl ?_
   refine dn ?_
   refine wp_ret ?_
   refine ret1 (fn := Tryz.f102) rfl ?_ ⟨s223.2.1, s223.1, rfl, h, (hC.getM 0 rfl), hC.belO⟩ (.inl rfl)
   exact res_tmp rfl
 ·skip
  exact ⟨(sk rfl (sk rfl (sk rfl (sk rfl sn)))), hC⟩
def f_laws_heldTermS (a0 : List Term) (a1 : Int) (K : Int → Prop) : Prop :=
 forN (fun i93 (s94 : Int) next96 => forN (fun i126 (s127 : Int) next128 => (if ((a0.getD i93 default).mono).get i126 ≠ IntKind.u8.wrap s127 then K (-1) else next128 (IntKind.i64.wrap (s127 + 1)))) (fun (s127 : Int) => (if (a0.getD i93 default).factor ≠ s127 then K (-1) else next96 (IntKind.i64.wrap (s127 + 1)))) 8 0 s94) (fun (s94 : Int) => K s94) a0.length 0 a1
theorem c_laws_heldTermS (a0 : List Term) (a1 : Int) {u0_0 : Value} {fp0 : List Nat} {K : Int → Prop} (h : f_laws_heldTermS a0 a1 K) (w0 : World) (q0 : ETerm.ty.sl.rep a0 [u0_0] fp0 w0) :
  Calls Tryz.prog 103 #[u0_0, .int .i64 a1] w0 fun e w' => ∃ (r0 : Int), 
   e = .returned (.int .i64 r0) ∧ K r0 ∧ Bel w0 w' := by
 unfold f_laws_heldTermS at h
 refine calls_of (args := [u0_0, .int .i64 a1]) Tryz.func103 rfl 39 Tryz.ntmps103 (Nat.le_of_ble_eq_true rfl) ?_
 have hC := Ctx.start (X := Nox) w0 [Ty.item ETerm.ty.sl a0 [u0_0] fp0] (by simp only [List.mem_cons, List.not_mem_nil, or_false, forall_eq_or_imp, forall_eq]; exact q0)
 refine sr ?_
 refine s_as (v := .int .i64 0) rfl ?_
 refine dn ?_
 refine wp_seq ?_
 refine sr ?_
 refine s_as (v := .int .i64 0) rfl ?_
 refine dn ?_
 refine wp_block ?_
 have hN95 : a0.length ≤ 9223372036854775807 := sl_max (hC.getP 0 rfl)
 refine loopN (S := Int) _ _ (fun i93 s94 e_ w_ => Slots e_ [(0, u0_0), (1, .int .i64 s94), (4, .int .i64 0), (5, .int .i64 (i93 : Int))] ∧ Ctx Nox w0 w_ [] [Ty.item ETerm.ty.sl a0 [u0_0] fp0]) a0.length ?_ ?_ (s0 := a1) ?_ h
 ·clear hC h
  rintro i93 s94 e_ w100 next96 K97 hi99 ⟨hS_, hC⟩ h hK98
  refine wp_seq ?_
  refine sr ?_
  refine s_mv (v := .int .i64 (i93 : Int)) (sx hS_ 3 rfl) ?_
  refine s_mv (v := u0_0) (sx hS_ 0 rfl) ?_
  obtain ⟨Ad101, c102, hv103⟩ := sl_len (hC.getP 0 rfl)
  refine s_len Tryz.underlying53 (tr rfl hv103) ?_
  refine s_lss rfl rfl ?_
  refine dn ?_
  refine cw_true rfl (decide_eq_true (by omega)) ?_
  refine wp_skip ?_
  refine then_norm ?_
  refine wp_seq ?_
  refine wp_block ?_
  refine wp_seq ?_
  refine sr ?_
  refine s_as (v := .int .i64 0) rfl ?_
  refine dn ?_
  refine wp_block ?_
  refine loopN (S := Int) _ _ (fun i126 s127 e_ w_ => Slots e_ [(0, u0_0), (1, .int .i64 s127), (4, .int .i64 0), (5, .int .i64 (i93 : Int)), (6, .int .i64 (i126 : Int)), (7, .int .i64 (i93 : Int)), (8, u0_0), (9, .int .i64 (a0.length : Int)), (10, .bool (decide ((i93 : Int) < (a0.length : Int))))] ∧ Ctx Nox w0 w_ [] [Ty.item ETerm.ty.sl a0 [u0_0] fp0]) 8 ?_ ?_ (s0 := s94) ?_ h
  ·clear hC h
   rintro i126 s127 e_ w132 next128 K129 hi131 ⟨hS_, hC⟩ h hK130
   refine wp_seq ?_
   refine sr ?_
   refine s_mv (v := .int .i64 (i126 : Int)) (sx hS_ 4 rfl) ?_
   refine s_lss rfl rfl ?_
   refine dn ?_
   refine cw_true rfl (decide_eq_true (by omega)) ?_
   refine wp_skip ?_
   refine then_norm ?_
   refine wp_seq ?_
   refine wp_block ?_
   refine wp_seq ?_
   refine sr ?_
   refine s_mv (v := u0_0) (sx hS_ 0 rfl) ?_
   refine s_mv (v := .int .i64 (i93 : Int)) (sx hS_ 3 rfl) ?_
   refine s_mv (v := .int .i64 (i126 : Int)) (sx hS_ 4 rfl) ?_
   obtain ⟨Ad133, c134, hv135⟩ := sl_form (hC.getP 0 rfl) i93 hi99
   refine s_iaddrS (len := a0.length) Tryz.underlying53 ag162.size (tr rfl hv135) rfl (Int.natCast_nonneg _) (Int.ofNat_lt.2 hi99) ?_
   refine s_faddrS (i93 * 9 + 0) Tryz.underlying162 rfl ag136.size rfl rfl ?_
   refine s_iaddrSa (i93 * 9 + 0 + i126) Tryz.underlying136 sc5.size rfl rfl (Int.natCast_nonneg _) (by omega) (by omega) ?_
   refine s_loadCS (.int .u8 (((a0.getD i93 default).mono).get i126)) (cells_subS (o := i126) (k := 1) (sl_cellsE (hC.getP 0 rfl) hv135 i93 hi99) (arr_at (r := _) hi131)) sc5 rfl ?_
   refine s_mv (v := .int .i64 s127) (sx hS_ 1 rfl) ?_
   refine s_conv Tryz.underlying3 Tryz.underlying5 rfl ?_
   refine s_neq rfl rfl ?_
   refine dn ?_
   refine cw_cond rfl (fun hb136 => ?_) (fun hb136 => ?_)
   ·replace h := ift h (ct hb136)
    refine sr ?_
    refine s_as (v := .int .i64 (-1)) rfl ?_
    refine dn ?_
    refine wp_ret (then_ret (blk_ret (then_ret (then_ret (blk_ret (then_ret (blk_ret (then_ret (then_ret (blk_ret (then_ret ?_)))))))))))
    refine ret1 (fn := Tryz.f103) rfl ?_ ⟨(-1), rfl, h, hC.below⟩ (.inl rfl)
    exact res_tmp rfl
   ·replace h := iff_ h (cf hb136)
    refine wp_skip ?_
    refine then_norm ?_
    refine cw_region ?_
    refine s_mv (v := .int .i64 s127) (sx hS_ 1 rfl) ?_
    refine s_add rfl rfl ?_
    refine s_as (v := .int .i64 (IntKind.i64.wrap (s127 + 1))) rfl ?_
    refine done ?_
    refine blk_norm ?_
    refine then_norm ?_
    refine cw_region ?_
    refine s_mv (v := .int .i64 (i126 : Int)) (sx hS_ 4 rfl) ?_
    refine s_add rfl rfl ?_
    refine s_as (v := .int .i64 (IntKind.i64.wrap ((i126 : Int) + 1))) rfl ?_
    refine done ?_
    exact hK130 (IntKind.i64.wrap (s127 + 1)) _ _ ⟨(sk (sx hS_ 0 rfl) (sk rfl (sk (sx hS_ 2 rfl) (sk (sx hS_ 3 rfl) (sk (tr rfl (congrArg _ (wrap64_nat hi131 (by decide)))) (sk (sx hS_ 5 rfl) (sk (sx hS_ 6 rfl) (sk (sx hS_ 7 rfl) (sk (sx hS_ 8 rfl) sn))))))))), hC⟩ h
  ·clear hC h
   rintro s127 e_ w137 K129 ⟨hS_, hC⟩ h
   refine wp_seq ?_
   refine sr ?_
   refine s_mv (v := .int .i64 8) (sx hS_ 4 rfl) ?_
   refine s_lss rfl rfl ?_
   refine dn ?_
   refine cw_false rfl (decide_eq_false (by omega)) ?_
   refine wp_exit (then_exit (then_exit (exit_in ?_)))
   refine then_norm ?_
   refine wp_seq ?_
   refine sr ?_
   refine s_mv (v := u0_0) (sx hS_ 0 rfl) ?_
   refine s_mv (v := .int .i64 (i93 : Int)) (sx hS_ 3 rfl) ?_
   obtain ⟨Ad138, c139, hv140⟩ := sl_form (hC.getP 0 rfl) i93 hi99
   refine s_iaddrS (len := a0.length) Tryz.underlying53 ag162.size (tr rfl hv140) rfl (Int.natCast_nonneg _) (Int.ofNat_lt.2 hi99) ?_
   refine s_faddrS (i93 * 9 + 8) Tryz.underlying162 rfl sc2.size rfl rfl ?_
   refine s_loadCS (.int .i64 ((a0.getD i93 default).factor)) (cells_subS (o := 8) (k := 1) (sl_cellsE (hC.getP 0 rfl) hv140 i93 hi99) rfl) sc2 rfl ?_
   refine s_mv (v := .int .i64 s127) (sx hS_ 1 rfl) ?_
   refine s_neq rfl rfl ?_
   refine dn ?_
   refine cw_cond rfl (fun hb141 => ?_) (fun hb141 => ?_)
   ·replace h := ift h (ct hb141)
    refine sr ?_
    refine s_as (v := .int .i64 (-1)) rfl ?_
    refine dn ?_
    refine wp_ret (then_ret (blk_ret (then_ret (then_ret (blk_ret (then_ret ?_))))))
    refine ret1 (fn := Tryz.f103) rfl ?_ ⟨(-1), rfl, h, hC.below⟩ (.inl rfl)
    exact res_tmp rfl
   ·replace h := iff_ h (cf hb141)
    refine wp_skip ?_
    refine then_norm ?_
    refine cw_region ?_
    refine s_mv (v := .int .i64 s127) (sx hS_ 1 rfl) ?_
    refine s_add rfl rfl ?_
    refine s_as (v := .int .i64 (IntKind.i64.wrap (s127 + 1))) rfl ?_
    refine done ?_
    refine blk_norm ?_
    refine then_norm ?_
    refine cw_region ?_
    refine s_mv (v := .int .i64 (i93 : Int)) (sx hS_ 3 rfl) ?_
    refine s_add rfl rfl ?_
    refine s_as (v := .int .i64 (IntKind.i64.wrap ((i93 : Int) + 1))) rfl ?_
    refine done ?_
    exact hK98 (IntKind.i64.wrap (s127 + 1)) _ _ ⟨(sk (sx hS_ 0 rfl) (sk rfl (sk (sx hS_ 2 rfl) (sk (tr rfl (congrArg _ (wrap64_nat hi99 hN95))) sn)))), hC⟩ h
  ·skip
   exact ⟨(sk (sx hS_ 0 rfl) (sk (sx hS_ 1 rfl) (sk (sx hS_ 2 rfl) (sk (sx hS_ 3 rfl) (sk rfl (sk rfl (sk rfl (sk rfl (sk rfl sn))))))))), hC⟩
 ·clear hC h
  rintro s94 e_ w142 K97 ⟨hS_, hC⟩ h
  refine wp_seq ?_
  refine sr ?_
  refine s_mv (v := .int .i64 (a0.length : Int)) (sx hS_ 3 rfl) ?_
  refine s_mv (v := u0_0) (sx hS_ 0 rfl) ?_
  obtain ⟨Ad143, c144, hv145⟩ := sl_len (hC.getP 0 rfl)
  refine s_len Tryz.underlying53 (tr rfl hv145) ?_
  refine s_lss rfl rfl ?_
  refine dn ?_
  refine cw_false rfl (decide_eq_false (by omega)) ?_
  refine wp_exit (then_exit (then_exit (exit_in ?_)))
  refine then_norm ?_
  refine sr ?_
  refine s_mv (v := .int .i64 s94) (sx hS_ 1 rfl) ?_
  refine s_as (v := .int .i64 s94) rfl ?_
  refine dn ?_
  refine wp_ret ?_
  refine ret1 (fn := Tryz.f103) rfl ?_ ⟨s94, rfl, h, hC.below⟩ (.inl rfl)
  exact res_tmp rfl
 ·skip
  exact ⟨(sk rfl (sk rfl (sk rfl (sk rfl sn)))), hC⟩
def f_impl_when (a0 : Bool) (a1 : Int) (K : Int → Prop) : Prop :=
 (if a0 = true then K a1 else K 0)
theorem c_impl_when (a0 : Bool) (a1 : Int)  {K : Int → Prop} (h : f_impl_when a0 a1 K) (w0 : World)  :
  Calls Tryz.prog 45 #[.bool a0, .int .i64 a1] w0 fun e w' => ∃ (r0 : Int), 
   e = .returned (.int .i64 r0) ∧ K r0 ∧ Bel w0 w' := by
 unfold f_impl_when at h
 refine calls_of (args := [.bool a0, .int .i64 a1]) Tryz.func45 rfl 7 Tryz.ntmps45 (Nat.le_of_ble_eq_true rfl) ?_
 have hC := Ctx.start (X := Nox) w0 [] (by simp)
 refine sr ?_
 refine s_as (v := .int .i64 0) rfl ?_
 refine dn ?_
 refine wp_seq ?_
 refine sr ?_
 refine s_mv (v := .bool a0) rfl ?_
 refine dn ?_
 refine cw_cond rfl (fun hb1 => ?_) (fun hb1 => ?_)
 ·replace h := ift h (hb1)
  refine sr ?_
  refine s_mv (v := .int .i64 a1) rfl ?_
  refine s_as (v := .int .i64 a1) rfl ?_
  refine dn ?_
  refine wp_ret (then_ret ?_)
  refine ret1 (fn := Tryz.f45) rfl ?_ ⟨a1, rfl, h, hC.below⟩ (.inl rfl)
  exact res_tmp rfl
 ·replace h := iff_ h (ne_t hb1)
  refine wp_skip ?_
  refine then_norm ?_
  refine sr ?_
  refine s_as (v := .int .i64 0) rfl ?_
  refine dn ?_
  refine wp_ret ?_
  refine ret1 (fn := Tryz.f45) rfl ?_ ⟨0, rfl, h, hC.below⟩ (.inl rfl)
  exact res_tmp rfl
end Go.Proofs.YtaagfepgbofmlaaGreat
