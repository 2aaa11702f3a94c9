/- Printed by vcgen.py: functions of the program as predicates, and that the machine's calls meet them. -/
import Derived.Test.YtaagfepgbofmlaaGA
import Derived.Test.YtaagfepgbofmlaaVn
import Derived.KernelRfl
set_option linter.unusedVariables false
set_option linter.unusedSimpArgs false
set_option maxRecDepth 4000
set_option maxHeartbeats 4000000
namespace Go.Proofs.Ytaagfepgbofmlaa
open Go Go.RowKit Vc
theorem el95 : ElemT Try.prog 95 (.agg #[.slice none 0 0]) 1 24 := by unfold ElemT; kernel_rfl
theorem z32 : ZeroT Try.prog 32 (.agg #[.slice none 0 0, .slice none 0 0]) := by unfold ZeroT; kernel_rfl
def f_laws_eqAlgebra (a0 : Alg) (a1 : Alg) (K : Bool → Prop) : Prop :=
 f_laws_eqInt64S a0.degrees a1.degrees (fun r18 => (if ¬ (r18 = true) then K false else f_laws_eqFormS a0.images a1.images (fun r24 => (if ¬ (r24 = true) then K false else K true))))
theorem c_laws_eqAlgebra (a0 : Alg) (a1 : Alg) {u0_0 : Value} {u0_1 : Value} {u1_0 : Value} {u1_1 : Value} {fp0 : List Nat} {fp1 : List Nat} {K : Bool → Prop} (h : f_laws_eqAlgebra a0 a1 K) (w0 : World) (q0 : TAlg.rep a0 [u0_0, u0_1] fp0 w0) (q1 : TAlg.rep a1 [u1_0, u1_1] fp1 w0) :
  Calls Try.prog 13 #[.agg #[u0_0, u0_1], .agg #[u1_0, u1_1]] w0 fun e w' => ∃ (r0 : Bool), 
   e = .returned (.bool r0) ∧ K r0 ∧ Bel w0 w' := by
 unfold f_laws_eqAlgebra at h
 refine calls_of (args := [.agg #[u0_0, u0_1], .agg #[u1_0, u1_1]]) Try.func13 rfl 17 Try.ntmps13 (Nat.le_of_ble_eq_true rfl) ?_
 have hC := Ctx.start (X := Nox) w0 [Ty.item TAlg a0 [u0_0, u0_1] fp0, Ty.item TAlg a1 [u1_0, u1_1] fp1] (by simp only [List.mem_cons, List.not_mem_nil, or_false, forall_eq_or_imp, forall_eq]; exact ⟨q0, q1⟩)
 have hp3 := (hC.getP 0 rfl)
 replace hC := hC.derive 0 rfl (Ty.item ((EI .i64).ty.sl) a0.degrees [u0_0] fp0) (fun _ => (alg_parts hp3).1) (fun _ hb_ => hb_)
 replace hC := hC.derive 1 rfl (Ty.item TForm.sl a0.images [u0_1] fp0) (fun _ => (alg_parts hp3).2) (fun _ hb_ => hb_)
 have hp6 := (hC.getP 3 rfl)
 replace hC := hC.derive 3 rfl (Ty.item ((EI .i64).ty.sl) a1.degrees [u1_0] fp1) (fun _ => (alg_parts hp6).1) (fun _ hb_ => hb_)
 replace hC := hC.derive 4 rfl (Ty.item TForm.sl a1.images [u1_1] fp1) (fun _ => (alg_parts hp6).2) (fun _ hb_ => hb_)
 refine sr ?_
 refine s_box (v := .agg #[u0_0, u0_1]) hC [u0_0, u0_1] rfl rfl fun b9 w11 hB_ hC => ?_
 refine s_box (v := .agg #[u1_0, u1_1]) hC [u1_0, u1_1] rfl rfl fun b12 w14 hB_ hC => ?_
 refine s_as (v := .bool false) rfl ?_
 refine dn ?_
 refine wp_seq ?_
 refine sr ?_
 refine s_faddrB 0 Try.underlying32 rfl sc22.size rfl rfl ?_
 refine s_loadS hC 1 (u0_0) rfl sc22 rfl rfl ?_
 refine s_faddrB 0 Try.underlying32 rfl sc22.size rfl rfl ?_
 refine s_loadS hC 0 (u1_0) rfl sc22 rfl rfl ?_
 refine s_call [u0_0, u1_0] _ Try.func50 rfl rfl rfl (c_laws_eqInt64S a0.degrees a1.degrees h _ (hC.getP 3 rfl) (hC.getP 1 rfl)) (fun ret15 w17 hR16 => ?_)
 obtain ⟨r18, rfl, h, hB19⟩ := hR16
 refine ⟨_, rfl, ?_⟩
 replace hC := hC.grow hB19
 refine s_not rfl ?_
 refine dn ?_
 refine cw_cond rfl (fun hb20 => ?_) (fun hb20 => ?_)
 ·replace h := ift h (ne_t (not_t hb20))
  refine sr ?_
  refine s_as (v := .bool false) rfl ?_
  refine dn ?_
  refine wp_ret (then_ret ?_)
  refine ret1 (fn := Try.f13) rfl ?_ ⟨false, rfl, h, hC.below⟩ (.inl rfl)
  exact res_tmp rfl
 ·replace h := iff_ h (not_not_intro ((not_f hb20)))
  refine wp_skip ?_
  refine then_norm ?_
  refine wp_seq ?_
  refine sr ?_
  refine s_faddrB 1 Try.underlying32 rfl sc30.size rfl rfl ?_
  refine s_loadS hC 1 (u0_1) rfl sc30 rfl rfl ?_
  refine s_faddrB 1 Try.underlying32 rfl sc30.size rfl rfl ?_
  refine s_loadS hC 0 (u1_1) rfl sc30 rfl rfl ?_
  refine s_call [u0_1, u1_1] _ Try.func51 rfl rfl rfl (c_laws_eqFormS a0.images a1.images h _ (hC.getP 2 rfl) (hC.getP 0 rfl)) (fun ret21 w23 hR22 => ?_)
  obtain ⟨r24, rfl, h, hB25⟩ := hR22
  refine ⟨_, rfl, ?_⟩
  replace hC := hC.grow hB25
  refine s_not rfl ?_
  refine dn ?_
  refine cw_cond rfl (fun hb26 => ?_) (fun hb26 => ?_)
  ·replace h := ift h (ne_t (not_t hb26))
   refine sr ?_
   refine s_as (v := .bool false) rfl ?_
   refine dn ?_
   refine wp_ret (then_ret ?_)
   refine ret1 (fn := Try.f13) rfl ?_ ⟨false, rfl, h, hC.below⟩ (.inl rfl)
   exact res_tmp rfl
  ·replace h := iff_ h (not_not_intro ((not_f hb26)))
   refine wp_skip ?_
   refine then_norm ?_
   refine sr ?_
   refine s_as (v := .bool true) rfl ?_
   refine dn ?_
   refine wp_ret ?_
   refine ret1 (fn := Try.f13) rfl ?_ ⟨true, rfl, h, hC.below⟩ (.inl rfl)
   exact res_tmp rfl
def f_laws_markInt64S (a0 : List Int) (a1 : Int) (K : Int → List Int → Prop) : Prop :=
 whileP (fun (s49 : (List Int) × Int × Int) next50 => (if s49.2.2 < (s49.1.length : Int) then ((0 ≤ s49.2.2 ∧ s49.2.2 < (s49.1.length : Int)) ∧ next50 (s49.1.set s49.2.2.toNat s49.2.1, IntKind.i64.wrap (s49.2.1 + 1), IntKind.i64.wrap (s49.2.2 + 1))) else K s49.2.1 s49.1)) (a0, a1, 0)
theorem c_laws_markInt64S (a0 : List Int) (a1 : Int) {u0_0 : Value} {K : Int → List Int → Prop} (h : f_laws_markInt64S a0 a1 K) (w0 : World) (qw0 : (own 2 1 u0_0 a0.length ((EI .i64).encs a0)).holds w0) :
  Calls Try.prog 52 #[u0_0, .int .i64 a1] w0 fun e w' => ∃ (r0 : Int) (mw : List Int), 
   e = .returned (.int .i64 r0) ∧ K r0 mw ∧ (own 2 1 u0_0 mw.length ((EI .i64).encs mw)).holds w' ∧ BelO ((Option.toList (Value.ownBlock u0_0))) w0 w' := by
 unfold f_laws_markInt64S at h
 refine calls_of (args := [u0_0, .int .i64 a1]) Try.func52 rfl 19 Try.ntmps52 (Nat.le_of_ble_eq_true rfl) ?_
 have hC := Ctx.startL w0 ((Option.toList (Value.ownBlock u0_0))) [own 2 1 u0_0 a0.length ((EI .i64).encs a0)] [] (by simp only [List.mem_cons, List.not_mem_nil, or_false, forall_eq_or_imp, forall_eq]; exact qw0) (by simp) (by simp only [List.mem_cons, List.not_mem_nil, or_false, forall_eq_or_imp, forall_eq]; exact fun b hb => hb) (List.pairwise_singleton _ _) (by simp)
 refine sr ?_
 refine s_as (v := .int .i64 0) rfl ?_
 refine dn ?_
 refine wp_seq ?_
 refine sr ?_
 refine s_as (v := .int .i64 0) rfl ?_
 refine dn ?_
 refine wp_block ?_
 refine loopW (S := (List Int) × Int × Int) _ (fun s49 e_ w_ => Slots e_ [(0, u0_0), (1, .int .i64 s49.2.1), (4, .int .i64 0), (5, .int .i64 s49.2.2)] ∧ Ctx (fun c_ => c_ ∈ (Option.toList (Value.ownBlock u0_0))) w0 w_ [own 2 1 u0_0 s49.1.length ((EI .i64).encs s49.1)] []) ?_ (s0 := (a0, a1, 0)) ?_ h
 ·clear hC h
  rintro s49 e_ w53 next50 K51 ⟨hS_, hC⟩ h hK52
  refine wp_seq ?_
  refine sr ?_
  refine s_mv (v := .int .i64 s49.2.2) (sx hS_ 3 rfl) ?_
  refine s_mv (v := u0_0) (sx hS_ 0 rfl) ?_
  obtain ⟨Ad54, c55, hv56⟩ := own_form (hC.getM 0 rfl)
  refine s_len Try.underlying22 (tr rfl hv56) ?_
  refine s_lss rfl rfl ?_
  refine dn ?_
  refine cw_cond rfl (fun hb57 => ?_) (fun hb57 => ?_)
  ·replace h := ift h (ct hb57)
   refine wp_skip ?_
   refine then_norm ?_
   refine wp_seq ?_
   refine wp_block ?_
   refine sr ?_
   refine s_mv (v := u0_0) (sx hS_ 0 rfl) ?_
   refine s_mv (v := .int .i64 s49.2.2) (sx hS_ 3 rfl) ?_
   refine s_mv (v := .int .i64 s49.2.1) (sx hS_ 1 rfl) ?_
   obtain ⟨⟨h0_58, h1_59⟩, h⟩ := h
   obtain ⟨Ad60, c61, hv62⟩ := own_formE (hC.getM 0 rfl) (Nat.lt_of_le_of_lt (Nat.zero_le _) (show s49.2.2.toNat < s49.1.length by omega))
   refine s_iaddrO (s49.2.2.toNat * 1) Try.underlying22 sc2.size (tr rfl hv62) rfl h0_58 h1_59 rfl ?_
   refine s_storeO (v := .int .i64 s49.2.1) hC 0 [.int .i64 s49.2.1] ((EI .i64).encs (s49.1.set s49.2.2.toNat s49.2.1)) rfl hv62 sc2.size rfl rfl rfl rfl rfl (by rw [Enc.encs_len]; exact seg_le (sz := 1) (show s49.2.2.toNat < s49.1.length by omega)) (encs_set _ _ _ (show s49.2.2.toNat < s49.1.length by omega)) fun w63 hC => ?_
   replace hC := own_re hC 0 ((s49.1.set s49.2.2.toNat s49.2.1).length) ((EI .i64).encs (s49.1.set s49.2.2.toNat s49.2.1)) rfl (by simp) rfl
   refine dn ?_
   refine cw_region ?_
   refine s_mv (v := .int .i64 s49.2.1) (sx hS_ 1 rfl) ?_
   refine s_add rfl rfl ?_
   refine s_as (v := .int .i64 (IntKind.i64.wrap (s49.2.1 + 1))) rfl ?_
   refine done ?_
   refine blk_norm ?_
   refine then_norm ?_
   refine cw_region ?_
   refine s_mv (v := .int .i64 s49.2.2) (sx hS_ 3 rfl) ?_
   refine s_add rfl rfl ?_
   refine s_as (v := .int .i64 (IntKind.i64.wrap (s49.2.2 + 1))) rfl ?_
   refine done ?_
   exact hK52 (s49.1.set s49.2.2.toNat s49.2.1, IntKind.i64.wrap (s49.2.1 + 1), IntKind.i64.wrap (s49.2.2 + 1)) _ _ ⟨(sk (sx hS_ 0 rfl) (sk rfl (sk (sx hS_ 2 rfl) (sk rfl sn)))), hC⟩ h
  ·replace h := iff_ h (cf hb57)
   refine wp_exit (then_exit (then_exit (exit_in ?_)))
   refine then_norm ?_
   refine sr ?_
   refine s_mv (v := .int .i64 s49.2.1) (sx hS_ 1 rfl) ?_
   refine s_as (v := .int .i64 s49.2.1) rfl ?_
   refine dn ?_
   refine wp_ret ?_
   refine ret1 (fn := Try.f52) rfl ?_ ⟨s49.2.1, s49.1, rfl, h, (hC.getM 0 rfl), hC.belO⟩ (.inl rfl)
   exact res_tmp rfl
 ·skip
  exact ⟨(sk rfl (sk rfl (sk rfl (sk rfl sn)))), hC⟩
def f_laws_markFormS (a0 : List Vc.Form) (a1 : Int) (K : Int → List Vc.Form → Prop) : Prop :=
 whileP (fun (s129 : (List Vc.Form) × Int × Int) next130 => (if s129.2.2 < (s129.1.length : Int) then ((0 ≤ s129.2.2 ∧ s129.2.2 < (s129.1.length : Int)) ∧ f_laws_markTermS ((s129.1.getD s129.2.2.toNat default).terms) s129.2.1 (fun r160 m162 => next130 (s129.1.set s129.2.2.toNat (⟨m162⟩ : Vc.Form), r160, IntKind.i64.wrap (s129.2.2 + 1)))) else K s129.2.1 s129.1)) (a0, a1, 0)
theorem c_laws_markFormS (a0 : List Vc.Form) (a1 : Int) {u0_0 : Value} {fp0_0 : List Nat} {K : Int → List Vc.Form → Prop} (h : f_laws_markFormS a0 a1 K) (w0 : World) (qw0 : (Tr.item (Tr.sl 95 (TrForm 114)) a0 [u0_0] fp0_0).holds w0) :
  Calls Try.prog 53 #[u0_0, .int .i64 a1] w0 fun e w' => ∃ (r0 : Int) (mw : List Vc.Form), 
   e = .returned (.int .i64 r0) ∧ K r0 mw ∧ (Tr.item (Tr.sl 95 (TrForm 114)) mw [u0_0] fp0_0).holds w' ∧ BelO (fp0_0) w0 w' := by
 unfold f_laws_markFormS at h
 refine calls_of (args := [u0_0, .int .i64 a1]) Try.func53 rfl 20 Try.ntmps53 (Nat.le_of_ble_eq_true rfl) ?_
 have hC := Ctx.startL w0 (fp0_0) [Tr.item (Tr.sl 95 (TrForm 114)) a0 [u0_0] fp0_0] [] (by simp only [List.mem_cons, List.not_mem_nil, or_false, forall_eq_or_imp, forall_eq]; exact qw0) (by simp) (by simp only [List.mem_cons, List.not_mem_nil, or_false, forall_eq_or_imp, forall_eq]; exact fun b hb => hb) (List.pairwise_singleton _ _) (by simp)
 refine sr ?_
 refine s_as (v := .int .i64 0) rfl ?_
 refine dn ?_
 refine wp_seq ?_
 refine sr ?_
 refine s_as (v := .int .i64 0) rfl ?_
 refine dn ?_
 refine wp_block ?_
 refine loopW (S := (List Vc.Form) × Int × Int) _ (fun s129 e_ w_ => Slots e_ [(0, u0_0), (1, .int .i64 s129.2.1), (4, .int .i64 0), (5, .int .i64 s129.2.2)] ∧ Ctx (fun c_ => c_ ∈ fp0_0) w0 w_ [Tr.item (Tr.sl 95 (TrForm 114)) s129.1 [u0_0] fp0_0] []) ?_ (s0 := (a0, a1, 0)) ?_ h
 ·clear hC h
  rintro s129 e_ w133 next130 K131 ⟨hS_, hC⟩ h hK132
  refine wp_seq ?_
  refine sr ?_
  refine s_mv (v := .int .i64 s129.2.2) (sx hS_ 3 rfl) ?_
  refine s_mv (v := u0_0) (sx hS_ 0 rfl) ?_
  obtain ⟨Ad134, c135, hv136⟩ := tr_form (hC.getM 0 rfl)
  refine s_len Try.underlying30 (tr rfl hv136) ?_
  refine s_lss rfl rfl ?_
  refine dn ?_
  refine cw_cond rfl (fun hb137 => ?_) (fun hb137 => ?_)
  ·replace h := ift h (ct hb137)
   refine wp_skip ?_
   refine then_norm ?_
   refine wp_seq ?_
   refine wp_block ?_
   refine cw_region ?_
   refine s_mv (v := u0_0) (sx hS_ 0 rfl) ?_
   refine s_mv (v := .int .i64 s129.2.2) (sx hS_ 3 rfl) ?_
   obtain ⟨⟨h0_138, h1_139⟩, h⟩ := h
   obtain ⟨cs143, f144, ⟨g145, cap146, hv147, hcell148⟩, hin149, hsub150, hout151⟩ := tr_focus (hC.getM 0 rfl) s129.2.2.toNat (show s129.2.2.toNat < s129.1.length by omega)
   refine s_iaddrO (s129.2.2.toNat * 1) Try.underlying30 ag95.size (tr rfl hv147) rfl h0_138 h1_139 rfl ?_
   refine s_faddrB (s129.2.2.toNat * 1 + 0) Try.underlying95 rfl sc93.size rfl rfl ?_
   obtain ⟨u152, rfl⟩ := List.length_eq_one_iff.1 (show cs143.length = 1 from ((TrForm 114)).ty.len (Tr.trep _ hin149.1))
   have hin156 := hin149; rw [getD_eq _ _ (show s129.2.2.toNat < s129.1.length by omega)] at hin156
   obtain ⟨ho154, hf155⟩ := flat_tr (show (Tr.sl 114 ETerm.tr).tree ((s129.1.getD s129.2.2.toNat default).terms) [u152] f144 _ from hin156.1)
   subst hf155
   refine s_loadCS (u152) (cells_subO (o := 0) (k := 1) hcell148 rfl) sc93 rfl ?_
   refine s_mv (v := .int .i64 s129.2.1) (sx hS_ 1 rfl) ?_
   refine s_call [u152, .int .i64 s129.2.1] _ Try.func111 rfl rfl rfl (c_laws_markTermS ((s129.1.getD s129.2.2.toNat default).terms) s129.2.1 h _ ho154) (fun ret157 w159 hR158 => ?_)
   obtain ⟨r160, m162, rfl, h, hm163, hB161⟩ := hR158
   refine ⟨_, rfl, ?_⟩
   replace hC := hC.turn 0 (jt := Tr.item (Tr.sl 95 (TrForm 114)) (s129.1.set s129.2.2.toNat (⟨m162⟩ : Vc.Form)) [u0_0] fp0_0) rfl hB161.os hB161.tape hB161.output hB161.size hB161.drawn (fun c_ hc_ hn_ => hB161.old c_ hc_ (fun h_ => hn_ (hsub150 c_ h_))) (hout151 (⟨m162⟩ : Vc.Form) _ (tr_flat hm163) hB161) (fun b_ hb_ => .inl hb_)
   refine s_as (v := .int .i64 r160) rfl ?_
   refine done ?_
   refine blk_norm ?_
   refine then_norm ?_
   refine cw_region ?_
   refine s_mv (v := .int .i64 s129.2.2) (sx hS_ 3 rfl) ?_
   refine s_add rfl rfl ?_
   refine s_as (v := .int .i64 (IntKind.i64.wrap (s129.2.2 + 1))) rfl ?_
   refine done ?_
   exact hK132 (s129.1.set s129.2.2.toNat (⟨m162⟩ : Vc.Form), r160, IntKind.i64.wrap (s129.2.2 + 1)) _ _ ⟨(sk (sx hS_ 0 rfl) (sk rfl (sk (sx hS_ 2 rfl) (sk rfl sn)))), hC⟩ h
  ·replace h := iff_ h (cf hb137)
   refine wp_exit (then_exit (then_exit (exit_in ?_)))
   refine then_norm ?_
   refine sr ?_
   refine s_mv (v := .int .i64 s129.2.1) (sx hS_ 1 rfl) ?_
   refine s_as (v := .int .i64 s129.2.1) rfl ?_
   refine dn ?_
   refine wp_ret ?_
   refine ret1 (fn := Try.f53) rfl ?_ ⟨s129.2.1, s129.1, rfl, h, (hC.getM 0 rfl), hC.belO⟩ (.inl rfl)
   exact res_tmp rfl
 ·skip
  exact ⟨(sk rfl (sk rfl (sk rfl (sk rfl sn)))), hC⟩
def f_laws_markAlgebra (a0 : Alg) (a1 : Int) (K : Int → Alg → Prop) : Prop :=
 f_laws_markInt64S a0.degrees a1 (fun r9 m11 => f_laws_markFormS a0.images r9 (fun r16 m18 => K r16 (⟨m11, m18⟩ : Alg)))
theorem c_laws_markAlgebra (a0 : Alg) (a1 : Int) {u0_0 : Value} {u0_1 : Value} {fp0_1 : List Nat} {K : Int → Alg → Prop} (h : f_laws_markAlgebra a0 a1 K) (w0 : World) (qw0 : (own 2 1 u0_0 a0.degrees.length ((EI .i64).encs a0.degrees)).holds w0) (qw1 : (Tr.item (Tr.sl 95 (TrForm 114)) a0.images [u0_1] fp0_1).holds w0) (dw0_1 : ∀ x, x ∈ (Option.toList (Value.ownBlock u0_0)) → x ∉ fp0_1) :
  Calls Try.prog 14 #[.agg #[u0_0, u0_1], .int .i64 a1] w0 fun e w' => ∃ (r0 : Int) (mw : Alg), 
   e = .returned (.int .i64 r0) ∧ K r0 mw ∧ (own 2 1 u0_0 mw.degrees.length ((EI .i64).encs mw.degrees)).holds w' ∧ (Tr.item (Tr.sl 95 (TrForm 114)) mw.images [u0_1] fp0_1).holds w' ∧ BelO ((Option.toList (Value.ownBlock u0_0)) ++ fp0_1) w0 w' := by
 unfold f_laws_markAlgebra at h
 refine calls_of (args := [.agg #[u0_0, u0_1], .int .i64 a1]) Try.func14 rfl 14 Try.ntmps14 (Nat.le_of_ble_eq_true rfl) ?_
 have hC := Ctx.startL w0 ((Option.toList (Value.ownBlock u0_0)) ++ fp0_1) [own 2 1 u0_0 a0.degrees.length ((EI .i64).encs a0.degrees), Tr.item (Tr.sl 95 (TrForm 114)) a0.images [u0_1] fp0_1] [] (by simp only [List.mem_cons, List.not_mem_nil, or_false, forall_eq_or_imp, forall_eq]; exact ⟨qw0, qw1⟩) (by simp) (by simp only [List.mem_cons, List.not_mem_nil, or_false, forall_eq_or_imp, forall_eq]; exact ⟨fun b hb => (List.mem_append_left _ hb), fun b hb => (List.mem_append_right _ hb)⟩) (List.pairwise_cons.2 ⟨(by simp only [List.mem_cons, List.not_mem_nil, or_false, forall_eq_or_imp, forall_eq]; exact dw0_1), (List.pairwise_singleton _ _)⟩) (by simp)
 refine sr ?_
 refine s_box (v := .agg #[u0_0, u0_1]) hC [u0_0, u0_1] rfl rfl fun b3 w5 hB_ hC => ?_
 refine s_as (v := .int .i64 0) rfl ?_
 refine dn ?_
 refine sr ?_
 refine s_faddrB 0 Try.underlying32 rfl sc22.size rfl rfl ?_
 refine s_loadS hC 0 (u0_0) rfl sc22 rfl rfl ?_
 refine s_mv (v := .int .i64 a1) rfl ?_
 refine s_call [u0_0, .int .i64 a1] _ Try.func52 rfl rfl rfl (c_laws_markInt64S a0.degrees a1 h _ (hC.getM 1 rfl)) (fun ret6 w8 hR7 => ?_)
 obtain ⟨r9, m11, rfl, h, hm12, hB10⟩ := hR7
 refine ⟨_, rfl, ?_⟩
 replace hC := hC.turnL hB10 (M' := [blk b3 32 [u0_0, u0_1], own 2 1 u0_0 m11.length ((EI .i64).encs m11), Tr.item (Tr.sl 95 (TrForm 114)) a0.images [u0_1] fp0_1]) rfl (fun x_ hx_ => ⟨_, List.mem_of_getElem? (i := 1) rfl, hx_⟩) (by simp only [List.mem_cons, List.not_mem_nil, or_false, forall_eq_or_imp, forall_eq]; exact ⟨(hC.stay 0 rfl hB10 (fun x_ hq_ hx_ => hC.mm 0 1 rfl rfl (by decide) x_ hq_ hx_)), hm12, (hC.stay 2 rfl hB10 (fun x_ hq_ hx_ => hC.mm 2 1 rfl rfl (by decide) x_ hq_ hx_))⟩)
 refine s_as (v := .int .i64 r9) rfl ?_
 refine dn ?_
 refine sr ?_
 refine s_faddrB 1 Try.underlying32 rfl sc30.size rfl rfl ?_
 refine s_loadS hC 0 (u0_1) rfl sc30 rfl rfl ?_
 refine s_mv (v := .int .i64 r9) rfl ?_
 refine s_call [u0_1, .int .i64 r9] _ Try.func53 rfl rfl rfl (c_laws_markFormS a0.images r9 h _ (hC.getM 2 rfl)) (fun ret13 w15 hR14 => ?_)
 obtain ⟨r16, m18, rfl, h, hm19, hB17⟩ := hR14
 refine ⟨_, rfl, ?_⟩
 replace hC := hC.turnL hB17 (M' := [blk b3 32 [u0_0, u0_1], own 2 1 u0_0 m11.length ((EI .i64).encs m11), Tr.item (Tr.sl 95 (TrForm 114)) m18 [u0_1] fp0_1]) rfl (fun x_ hx_ => ⟨_, List.mem_of_getElem? (i := 2) rfl, hx_⟩) (by simp only [List.mem_cons, List.not_mem_nil, or_false, forall_eq_or_imp, forall_eq]; exact ⟨(hC.stay 0 rfl hB17 (fun x_ hq_ hx_ => hC.mm 0 2 rfl rfl (by decide) x_ hq_ hx_)), (hC.stay 1 rfl hB17 (fun x_ hq_ hx_ => hC.mm 1 2 rfl rfl (by decide) x_ hq_ hx_)), hm19⟩)
 refine s_as (v := .int .i64 r16) rfl ?_
 refine dn ?_
 refine sr ?_
 refine s_mv (v := .int .i64 r16) rfl ?_
 refine s_as (v := .int .i64 r16) rfl ?_
 refine dn ?_
 refine wp_ret ?_
 refine ret1 (fn := Try.f14) rfl ?_ ⟨r16, (⟨m11, m18⟩ : Alg), rfl, h, (hC.getM 1 rfl), (hC.getM 2 rfl), hC.belO⟩ (.inl rfl)
 exact res_tmp rfl
def f_laws_heldInt64S (a0 : List Int) (a1 : Int) (K : Int → Prop) : Prop :=
 forN (fun i25 (s26 : Int) next28 => (if a0.getD i25 default ≠ s26 then K (-1) else next28 (IntKind.i64.wrap (s26 + 1)))) (fun (s26 : Int) => K s26) a0.length 0 a1
theorem c_laws_heldInt64S (a0 : List Int) (a1 : Int) {u0_0 : Value} {fp0 : List Nat} {K : Int → Prop} (h : f_laws_heldInt64S a0 a1 K) (w0 : World) (q0 : ((EI .i64).ty.sl).rep a0 [u0_0] fp0 w0) :
  Calls Try.prog 54 #[u0_0, .int .i64 a1] w0 fun e w' => ∃ (r0 : Int), 
   e = .returned (.int .i64 r0) ∧ K r0 ∧ Bel w0 w' := by
 unfold f_laws_heldInt64S at h
 refine calls_of (args := [u0_0, .int .i64 a1]) Try.func54 rfl 21 Try.ntmps54 (Nat.le_of_ble_eq_true rfl) ?_
 have hC := Ctx.start (X := Nox) w0 [Ty.item ((EI .i64).ty.sl) a0 [u0_0] fp0] (by simp only [List.mem_cons, List.not_mem_nil, or_false, forall_eq_or_imp, forall_eq]; exact q0)
 refine sr ?_
 refine s_as (v := .int .i64 0) rfl ?_
 refine dn ?_
 refine wp_seq ?_
 refine sr ?_
 refine s_as (v := .int .i64 0) rfl ?_
 refine dn ?_
 refine wp_block ?_
 have hN27 : a0.length ≤ 9223372036854775807 := sl_max (hC.getP 0 rfl)
 refine loopN (S := Int) _ _ (fun i25 s26 e_ w_ => Slots e_ [(0, u0_0), (1, .int .i64 s26), (4, .int .i64 0), (5, .int .i64 (i25 : Int))] ∧ Ctx Nox w0 w_ [] [Ty.item ((EI .i64).ty.sl) a0 [u0_0] fp0]) a0.length ?_ ?_ (s0 := a1) ?_ h
 ·clear hC h
  rintro i25 s26 e_ w32 next28 K29 hi31 ⟨hS_, hC⟩ h hK30
  refine wp_seq ?_
  refine sr ?_
  refine s_mv (v := .int .i64 (i25 : Int)) (sx hS_ 3 rfl) ?_
  refine s_mv (v := u0_0) (sx hS_ 0 rfl) ?_
  obtain ⟨Ad33, c34, hv35⟩ := sl_len (hC.getP 0 rfl)
  refine s_len Try.underlying22 (tr rfl hv35) ?_
  refine s_lss rfl rfl ?_
  refine dn ?_
  refine cw_true rfl (decide_eq_true (by omega)) ?_
  refine wp_skip ?_
  refine then_norm ?_
  refine wp_seq ?_
  refine wp_block ?_
  refine wp_seq ?_
  refine sr ?_
  refine s_mv (v := u0_0) (sx hS_ 0 rfl) ?_
  refine s_mv (v := .int .i64 (i25 : Int)) (sx hS_ 3 rfl) ?_
  obtain ⟨Ad36, c37, hv38⟩ := sl_form (hC.getP 0 rfl) i25 hi31
  refine s_iaddrS (len := a0.length) Try.underlying22 sc2.size (tr rfl hv38) rfl (Int.natCast_nonneg _) (Int.ofNat_lt.2 hi31) ?_
  refine s_loadCS (.int .i64 (a0.getD i25 default)) (sl_cellsE (hC.getP 0 rfl) hv38 i25 hi31) sc2 rfl ?_
  refine s_mv (v := .int .i64 s26) (sx hS_ 1 rfl) ?_
  refine s_neq rfl rfl ?_
  refine dn ?_
  refine cw_cond rfl (fun hb39 => ?_) (fun hb39 => ?_)
  ·replace h := ift h (ct hb39)
   refine sr ?_
   refine s_as (v := .int .i64 (-1)) rfl ?_
   refine dn ?_
   refine wp_ret (then_ret (blk_ret (then_ret (then_ret (blk_ret (then_ret ?_))))))
   refine ret1 (fn := Try.f54) rfl ?_ ⟨(-1), rfl, h, hC.below⟩ (.inl rfl)
   exact res_tmp rfl
  ·replace h := iff_ h (cf hb39)
   refine wp_skip ?_
   refine then_norm ?_
   refine cw_region ?_
   refine s_mv (v := .int .i64 s26) (sx hS_ 1 rfl) ?_
   refine s_add rfl rfl ?_
   refine s_as (v := .int .i64 (IntKind.i64.wrap (s26 + 1))) rfl ?_
   refine done ?_
   refine blk_norm ?_
   refine then_norm ?_
   refine cw_region ?_
   refine s_mv (v := .int .i64 (i25 : Int)) (sx hS_ 3 rfl) ?_
   refine s_add rfl rfl ?_
   refine s_as (v := .int .i64 (IntKind.i64.wrap ((i25 : Int) + 1))) rfl ?_
   refine done ?_
   exact hK30 (IntKind.i64.wrap (s26 + 1)) _ _ ⟨(sk (sx hS_ 0 rfl) (sk rfl (sk (sx hS_ 2 rfl) (sk (tr rfl (congrArg _ (wrap64_nat hi31 hN27))) sn)))), hC⟩ h
 ·clear hC h
  rintro s26 e_ w40 K29 ⟨hS_, hC⟩ h
  refine wp_seq ?_
  refine sr ?_
  refine s_mv (v := .int .i64 (a0.length : Int)) (sx hS_ 3 rfl) ?_
  refine s_mv (v := u0_0) (sx hS_ 0 rfl) ?_
  obtain ⟨Ad41, c42, hv43⟩ := sl_len (hC.getP 0 rfl)
  refine s_len Try.underlying22 (tr rfl hv43) ?_
  refine s_lss rfl rfl ?_
  refine dn ?_
  refine cw_false rfl (decide_eq_false (by omega)) ?_
  refine wp_exit (then_exit (then_exit (exit_in ?_)))
  refine then_norm ?_
  refine sr ?_
  refine s_mv (v := .int .i64 s26) (sx hS_ 1 rfl) ?_
  refine s_as (v := .int .i64 s26) rfl ?_
  refine dn ?_
  refine wp_ret ?_
  refine ret1 (fn := Try.f54) rfl ?_ ⟨s26, rfl, h, hC.below⟩ (.inl rfl)
  exact res_tmp rfl
 ·skip
  exact ⟨(sk rfl (sk rfl (sk rfl (sk rfl sn)))), hC⟩
def f_laws_heldFormS (a0 : List Vc.Form) (a1 : Int) (K : Int → Prop) : Prop :=
 forN (fun i47 (s48 : Int) next50 => f_laws_heldTermS ((a0.getD i47 default).terms) s48 (fun r70 => (if r70 < 0 then K (-1) else next50 r70))) (fun (s48 : Int) => K s48) a0.length 0 a1
theorem c_laws_heldFormS (a0 : List Vc.Form) (a1 : Int) {u0_0 : Value} {fp0 : List Nat} {K : Int → Prop} (h : f_laws_heldFormS a0 a1 K) (w0 : World) (q0 : TForm.sl.rep a0 [u0_0] fp0 w0) :
  Calls Try.prog 74 #[u0_0, .int .i64 a1] w0 fun e w' => ∃ (r0 : Int), 
   e = .returned (.int .i64 r0) ∧ K r0 ∧ Bel w0 w' := by
 unfold f_laws_heldFormS at h
 refine calls_of (args := [u0_0, .int .i64 a1]) Try.func74 rfl 22 Try.ntmps74 (Nat.le_of_ble_eq_true rfl) ?_
 have hC := Ctx.start (X := Nox) w0 [Ty.item TForm.sl a0 [u0_0] fp0] (by simp only [List.mem_cons, List.not_mem_nil, or_false, forall_eq_or_imp, forall_eq]; exact q0)
 refine sr ?_
 refine s_as (v := .int .i64 0) rfl ?_
 refine dn ?_
 refine wp_seq ?_
 refine sr ?_
 refine s_as (v := .int .i64 0) rfl ?_
 refine dn ?_
 refine wp_block ?_
 have hN49 : a0.length ≤ 9223372036854775807 := sl_max (hC.getP 0 rfl)
 refine loopN (S := Int) _ _ (fun i47 s48 e_ w_ => Slots e_ [(0, u0_0), (1, .int .i64 s48), (4, .int .i64 0), (5, .int .i64 (i47 : Int))] ∧ Ctx Nox w0 w_ [] [Ty.item TForm.sl a0 [u0_0] fp0]) a0.length ?_ ?_ (s0 := a1) ?_ h
 ·clear hC h
  rintro i47 s48 e_ w54 next50 K51 hi53 ⟨hS_, hC⟩ h hK52
  refine wp_seq ?_
  refine sr ?_
  refine s_mv (v := .int .i64 (i47 : Int)) (sx hS_ 3 rfl) ?_
  refine s_mv (v := u0_0) (sx hS_ 0 rfl) ?_
  obtain ⟨Ad55, c56, hv57⟩ := sl_len (hC.getP 0 rfl)
  refine s_len Try.underlying30 (tr rfl hv57) ?_
  refine s_lss rfl rfl ?_
  refine dn ?_
  refine cw_true rfl (decide_eq_true (by omega)) ?_
  refine wp_skip ?_
  refine then_norm ?_
  refine wp_seq ?_
  refine wp_block ?_
  refine sr ?_
  refine s_mv (v := u0_0) (sx hS_ 0 rfl) ?_
  refine s_mv (v := .int .i64 (i47 : Int)) (sx hS_ 3 rfl) ?_
  obtain ⟨Ad58, c59, hv60⟩ := sl_form (hC.getP 0 rfl) i47 hi53
  refine s_iaddrS (len := a0.length) Try.underlying30 ag95.size (tr rfl hv60) rfl (Int.natCast_nonneg _) (Int.ofNat_lt.2 hi53) ?_
  refine s_faddrS (i47 * 1 + 0) Try.underlying95 rfl sc93.size rfl rfl ?_
  obtain ⟨cs_, hl62, hc63, hr64⟩ := sl_cells (hC.getP 0 rfl) hv60 i47 hi53
  obtain ⟨u61, rfl⟩ := List.length_eq_one_iff.1 hl62
  clear hl62
  rw [getD_eq _ _ hi53] at hr64
  have hp65 := hr64
  replace hC := hC.derive 0 rfl (Ty.item ETerm.ty.sl ((a0.getD i47 default).terms) [u61] fp0) (fun _ => (form_parts hp65)) (fun _ hb_ => hb_)
  refine s_loadCS (u61) (cells_subS (o := 0) (k := 1) hc63 rfl) sc93 rfl ?_
  refine s_mv (v := .int .i64 s48) (sx hS_ 1 rfl) ?_
  refine s_call [u61, .int .i64 s48] _ Try.func125 rfl rfl rfl (c_laws_heldTermS ((a0.getD i47 default).terms) s48 h _ (hC.getP 0 rfl)) (fun ret67 w69 hR68 => ?_)
  obtain ⟨r70, rfl, h, hB71⟩ := hR68
  refine ⟨_, rfl, ?_⟩
  replace hC := hC.grow hB71
  refine s_as (v := .int .i64 r70) rfl ?_
  refine dn ?_
  refine sr ?_
  refine s_mv (v := .int .i64 r70) rfl ?_
  refine s_lss rfl rfl ?_
  refine dn ?_
  refine cw_cond rfl (fun hb72 => ?_) (fun hb72 => ?_)
  ·replace h := ift h (ct hb72)
   refine sr ?_
   refine s_as (v := .int .i64 (-1)) rfl ?_
   refine dn ?_
   refine wp_ret (blk_ret (then_ret (then_ret (blk_ret (then_ret ?_)))))
   refine ret1 (fn := Try.f74) rfl ?_ ⟨(-1), rfl, h, hC.below⟩ (.inl rfl)
   exact res_tmp rfl
  ·replace h := iff_ h (cf hb72)
   refine wp_skip ?_
   refine blk_norm ?_
   refine then_norm ?_
   refine cw_region ?_
   refine s_mv (v := .int .i64 (i47 : Int)) (sx hS_ 3 rfl) ?_
   refine s_add rfl rfl ?_
   refine s_as (v := .int .i64 (IntKind.i64.wrap ((i47 : Int) + 1))) rfl ?_
   refine done ?_
   replace hC := hC.sP [1] (Ps' := [Ty.item TForm.sl a0 [u0_0] fp0]) rfl
   exact hK52 r70 _ _ ⟨(sk (sx hS_ 0 rfl) (sk rfl (sk (sx hS_ 2 rfl) (sk (tr rfl (congrArg _ (wrap64_nat hi53 hN49))) sn)))), hC⟩ h
 ·clear hC h
  rintro s48 e_ w73 K51 ⟨hS_, hC⟩ h
  refine wp_seq ?_
  refine sr ?_
  refine s_mv (v := .int .i64 (a0.length : Int)) (sx hS_ 3 rfl) ?_
  refine s_mv (v := u0_0) (sx hS_ 0 rfl) ?_
  obtain ⟨Ad74, c75, hv76⟩ := sl_len (hC.getP 0 rfl)
  refine s_len Try.underlying30 (tr rfl hv76) ?_
  refine s_lss rfl rfl ?_
  refine dn ?_
  refine cw_false rfl (decide_eq_false (by omega)) ?_
  refine wp_exit (then_exit (then_exit (exit_in ?_)))
  refine then_norm ?_
  refine sr ?_
  refine s_mv (v := .int .i64 s48) (sx hS_ 1 rfl) ?_
  refine s_as (v := .int .i64 s48) rfl ?_
  refine dn ?_
  refine wp_ret ?_
  refine ret1 (fn := Try.f74) rfl ?_ ⟨s48, rfl, h, hC.below⟩ (.inl rfl)
  exact res_tmp rfl
 ·skip
  exact ⟨(sk rfl (sk rfl (sk rfl (sk rfl sn)))), hC⟩
def f_laws_heldAlgebra (a0 : Alg) (a1 : Int) (K : Int → Prop) : Prop :=
 f_laws_heldInt64S a0.degrees a1 (fun r11 => (if r11 < 0 then K (-1) else f_laws_heldFormS a0.images r11 (fun r17 => (if r17 < 0 then K (-1) else K r17))))
theorem c_laws_heldAlgebra (a0 : Alg) (a1 : Int) {u0_0 : Value} {u0_1 : Value} {fp0 : List Nat} {K : Int → Prop} (h : f_laws_heldAlgebra a0 a1 K) (w0 : World) (q0 : TAlg.rep a0 [u0_0, u0_1] fp0 w0) :
  Calls Try.prog 23 #[.agg #[u0_0, u0_1], .int .i64 a1] w0 fun e w' => ∃ (r0 : Int), 
   e = .returned (.int .i64 r0) ∧ K r0 ∧ Bel w0 w' := by
 unfold f_laws_heldAlgebra at h
 refine calls_of (args := [.agg #[u0_0, u0_1], .int .i64 a1]) Try.func23 rfl 18 Try.ntmps23 (Nat.le_of_ble_eq_true rfl) ?_
 have hC := Ctx.start (X := Nox) w0 [Ty.item TAlg a0 [u0_0, u0_1] fp0] (by simp only [List.mem_cons, List.not_mem_nil, or_false, forall_eq_or_imp, forall_eq]; exact q0)
 have hp2 := (hC.getP 0 rfl)
 replace hC := hC.derive 0 rfl (Ty.item ((EI .i64).ty.sl) a0.degrees [u0_0] fp0) (fun _ => (alg_parts hp2).1) (fun _ hb_ => hb_)
 replace hC := hC.derive 1 rfl (Ty.item TForm.sl a0.images [u0_1] fp0) (fun _ => (alg_parts hp2).2) (fun _ hb_ => hb_)
 refine sr ?_
 refine s_box (v := .agg #[u0_0, u0_1]) hC [u0_0, u0_1] rfl rfl fun b5 w7 hB_ hC => ?_
 refine s_as (v := .int .i64 0) rfl ?_
 refine dn ?_
 refine sr ?_
 refine s_faddrB 0 Try.underlying32 rfl sc22.size rfl rfl ?_
 refine s_loadS hC 0 (u0_0) rfl sc22 rfl rfl ?_
 refine s_mv (v := .int .i64 a1) rfl ?_
 refine s_call [u0_0, .int .i64 a1] _ Try.func54 rfl rfl rfl (c_laws_heldInt64S a0.degrees a1 h _ (hC.getP 1 rfl)) (fun ret8 w10 hR9 => ?_)
 obtain ⟨r11, rfl, h, hB12⟩ := hR9
 refine ⟨_, rfl, ?_⟩
 replace hC := hC.grow hB12
 refine s_as (v := .int .i64 r11) rfl ?_
 refine dn ?_
 refine wp_seq ?_
 refine sr ?_
 refine s_mv (v := .int .i64 r11) rfl ?_
 refine s_lss rfl rfl ?_
 refine dn ?_
 refine cw_cond rfl (fun hb13 => ?_) (fun hb13 => ?_)
 ·replace h := ift h (ct hb13)
  refine sr ?_
  refine s_as (v := .int .i64 (-1)) rfl ?_
  refine dn ?_
  refine wp_ret (then_ret ?_)
  refine ret1 (fn := Try.f23) rfl ?_ ⟨(-1), rfl, h, hC.below⟩ (.inl rfl)
  exact res_tmp rfl
 ·replace h := iff_ h (cf hb13)
  refine wp_skip ?_
  refine then_norm ?_
  refine sr ?_
  refine s_faddrB 1 Try.underlying32 rfl sc30.size rfl rfl ?_
  refine s_loadS hC 0 (u0_1) rfl sc30 rfl rfl ?_
  refine s_mv (v := .int .i64 r11) rfl ?_
  refine s_call [u0_1, .int .i64 r11] _ Try.func74 rfl rfl rfl (c_laws_heldFormS a0.images r11 h _ (hC.getP 0 rfl)) (fun ret14 w16 hR15 => ?_)
  obtain ⟨r17, rfl, h, hB18⟩ := hR15
  refine ⟨_, rfl, ?_⟩
  replace hC := hC.grow hB18
  refine s_as (v := .int .i64 r17) rfl ?_
  refine dn ?_
  refine wp_seq ?_
  refine sr ?_
  refine s_mv (v := .int .i64 r17) rfl ?_
  refine s_lss rfl rfl ?_
  refine dn ?_
  refine cw_cond rfl (fun hb19 => ?_) (fun hb19 => ?_)
  ·replace h := ift h (ct hb19)
   refine sr ?_
   refine s_as (v := .int .i64 (-1)) rfl ?_
   refine dn ?_
   refine wp_ret (then_ret ?_)
   refine ret1 (fn := Try.f23) rfl ?_ ⟨(-1), rfl, h, hC.below⟩ (.inl rfl)
   exact res_tmp rfl
  ·replace h := iff_ h (cf hb19)
   refine wp_skip ?_
   refine then_norm ?_
   refine sr ?_
   refine s_mv (v := .int .i64 r17) rfl ?_
   refine s_as (v := .int .i64 r17) rfl ?_
   refine dn ?_
   refine wp_ret ?_
   refine ret1 (fn := Try.f23) rfl ?_ ⟨r17, rfl, h, hC.below⟩ (.inl rfl)
   exact res_tmp rfl
end Go.Proofs.Ytaagfepgbofmlaa
