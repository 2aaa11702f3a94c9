/- Printed by vcgen.py: functions of the program as predicates, and that the machine's calls meet them. -/
import Derived.Test.YtgfmflmhcfkldaaGC
import Derived.KernelRfl
set_option linter.unusedVariables false
set_option linter.unusedSimpArgs false
set_option maxRecDepth 4000
set_option maxHeartbeats 4000000
namespace Go.Proofs.Ytgfmflmhcfkldaa
open Go Go.RowKit Vc
theorem bsr29_1_s (x0 : Value) (hx0 : IsSl x0) (w : World) : (Instr.buildSlice 29 1 #[(0, .agg #[x0])]).run Try.prog w = .ok (.slice (some ⟨w.heap.size, 0, none⟩) 1 1) (w.alloc (.cells (List.toArray [x0]) 46)) := by obtain ⟨_, _, _, rfl⟩ := hx0; kernel_rfl
theorem ag25 : AggT Try.prog 25 2 := ⟨⟨_, Try.underlying25, rfl⟩, by kernel_rfl⟩
def f_impl_DifferentialOfForm (a0 : Alg) (a1 : Vc.Form) (K : Vc.Form → Int → Prop) : Prop :=
 f_impl_algebraCode a0 [a1] (fun r27 => (if r27 ≠ 0 then K (⟨[]⟩ : Vc.Form) r27 else f_impl_sumOf a1 (fun r34 => f_impl_Algebra_d a0 r34 (fun r43 => f_impl_sum_form r43 (fun r52 r57 => K r52 r57)))))
theorem c_impl_DifferentialOfForm (a0 : Alg) (a1 : Vc.Form) {u0_0 : Value} {u0_1 : Value} {u1_0 : Value} {fp0 : List Nat} {fp1 : List Nat} {K : Vc.Form → Int → Prop} (h : f_impl_DifferentialOfForm a0 a1 K) (w0 : World) (q0 : TAlg.rep a0 [u0_0, u0_1] fp0 w0) (q1 : TForm.rep a1 [u1_0] fp1 w0) :
  Calls Try.prog 35 #[.agg #[u0_0, u0_1], .agg #[u1_0]] w0 fun e w' => ∃ (r0 : Vc.Form) (z0_0 : Value) (fz0 : List Nat) (r1 : Int), 
   e = .returned (.tuple #[.agg #[z0_0], .int .i64 r1]) ∧ K r0 r1 ∧ (Tr.item (TrForm 86) r0 [z0_0] fz0).holds w' ∧ (∀ b, b ∈ fz0 → w0.heap.size ≤ b) ∧ Bel w0 w' := by
 unfold f_impl_DifferentialOfForm at h
 refine calls_of (args := [.agg #[u0_0, u0_1], .agg #[u1_0]]) Try.func35 rfl 20 Try.ntmps35 (Nat.le_of_ble_eq_true rfl) ?_
 have hC := Ctx.start (X := Nox) w0 [Ty.item TAlg a0 [u0_0, u0_1] fp0, Ty.item TForm a1 [u1_0] fp1] (by simp only [List.mem_cons, List.not_mem_nil, or_false, forall_eq_or_imp, forall_eq]; exact ⟨q0, q1⟩)
 have hp3 := (hC.getP 0 rfl)
 replace hC := hC.derive 0 rfl (Ty.item ((EI .i64).ty.sl) a0.degrees [u0_0] fp0) (fun _ => (alg_parts hp3).1) (fun _ hb_ => hb_)
 replace hC := hC.derive 1 rfl (Ty.item TForm.sl a0.images [u0_1] fp0) (fun _ => (alg_parts hp3).2) (fun _ hb_ => hb_)
 have hp6 := (hC.getP 3 rfl)
 replace hC := hC.derive 3 rfl (Ty.item ETerm.ty.sl a1.terms [u1_0] fp1) (fun _ => (form_parts hp6)) (fun _ hb_ => hb_)
 refine sr ?_
 refine s_box (v := .agg #[u0_0, u0_1]) hC [u0_0, u0_1] rfl rfl fun b8 w10 hB_ hC => ?_
 refine s_box (v := .agg #[u1_0]) hC [u1_0] rfl rfl fun b11 w13 hB_ hC => ?_
 refine s_alloc hC [.slice none 0 0] z46 rfl fun b14 w16 hB_ hC => ?_
 refine s_as (v := .int .i64 0) rfl ?_
 refine dn ?_
 refine wp_seq ?_
 refine sr ?_
 refine s_loadA hC 1 [u1_0] rfl ag46 rfl rfl rfl ?_
 refine s_bslice (sz := 1) hC [(0, .agg #[u1_0])] [u1_0] rfl (fun _ => bsr29_1_s u1_0 (rep_isSl (hC.getP 0 rfl)) _) rfl (by decide) fun b17 w18 hB_ hC => ?_
 have hf20 := own_fresh hC 0 rfl
 replace hC := hC.thaw 0 rfl (own 46 1 (.slice (some ⟨b17, 0, none⟩) 1 1) 1 [u1_0]) id (fun _ hb_ => hb_)
 replace hC := hC.joinP 0 1 rfl rfl (Ty.item TForm.sl [a1] [.slice (some ⟨b17, 0, none⟩) 1 1] ((Option.toList (Value.ownBlock (.slice (some ⟨b17, 0, none⟩) 1 1))) ++ fp1)) (fun a_ b_ => own_rep a_ (all_one (form_mk b_))) (fun c_ hc_ => List.mem_append.1 hc_)
 have hs21 : ∀ b, b ∈ ((Option.toList (Value.ownBlock (.slice (some ⟨b17, 0, none⟩) 1 1))) ++ fp1) → w0.heap.size ≤ b ∨ b ∈ (fp0 ++ (fp1)) := (fun b hb => (List.mem_append.1 hb).elim (fun hb => .inl (hf20 b hb)) (fun hb => .inr (List.mem_append_right _ hb)))
 refine s_call [.pointer (some ⟨b8, 0, none⟩), .slice (some ⟨b17, 0, none⟩) 1 1] _ Try.func50 rfl rfl rfl (c_impl_algebraCode a0 [a1] h _ (alg_mk (hC.getP 4 rfl) (hC.getP 3 rfl)) (hC.getM 2 rfl) (hC.getP 0 rfl)) (fun ret24 w26 hR25 => ?_)
 obtain ⟨r27, rfl, h, hB28⟩ := hR25
 refine ⟨_, rfl, ?_⟩
 replace hC := hC.grow hB28
 refine s_as (v := .int .i64 r27) rfl ?_
 refine dn ?_
 refine sr ?_
 refine s_mv (v := .int .i64 r27) rfl ?_
 refine s_neq rfl rfl ?_
 refine dn ?_
 refine cw_cond rfl (fun hb29 => ?_) (fun hb29 => ?_)
 ·replace h := ift h (ct hb29)
  refine sr ?_
  refine s_build [] rfl (bl46   _) ?_
  refine s_mv (v := .int .i64 r27) rfl ?_
  refine s_store (v := .agg #[.slice none 0 0]) hC 0 [.slice none 0 0] [.slice none 0 0] rfl ag46.size rfl rfl rfl rfl rfl (Nat.le_of_ble_eq_true rfl) rfl fun w30 hC => ?_
  refine s_as (v := .int .i64 r27) rfl ?_
  refine dn ?_
  refine wp_ret (then_ret ?_)
  refine ret2 (fn := Try.f35) rfl ?_ ?_ ⟨(⟨[]⟩ : Vc.Form), .slice none 0 0, [], r27, rfl, h, (form_join (nil_item _ _ _)), (fun b hb => absurd hb (by simp)), hC.below⟩ (.inl rfl)
  ·exact res_cellA hC 0 rfl ag46 rfl rfl
  ·exact res_tmp rfl
 ·replace h := iff_ h (cf hb29)
  refine wp_skip ?_
  refine then_norm ?_
  refine sr ?_
  refine s_loadA hC 1 [u1_0] rfl ag46 rfl rfl rfl ?_
  refine s_call [.agg #[u1_0]] _ Try.func72 rfl rfl rfl (c_impl_sumOf a1 h _ (form_mk (hC.getP 2 rfl))) (fun ret31 w33 hR32 => ?_)
  obtain ⟨r34, b35, rfl, h, hr36, hf37, hB38⟩ := hR32
  refine ⟨_, rfl, ?_⟩
  replace hC := hC.push hB38 (mapI (kvA .i64) (vvI .i64) b35 r34) hr36 (fun b_ hb_ => by obtain rfl := List.mem_singleton.1 hb_; exact hf37)
  refine s_call [.pointer (some ⟨b8, 0, none⟩), .map (some b35)] _ Try.func71 rfl rfl rfl (c_impl_Algebra_d a0 r34 h _ (alg_mk (hC.getP 4 rfl) (hC.getP 3 rfl)) (hC.getM 3 rfl) (hC.getM 0 rfl)) (fun ret40 w42 hR41 => ?_)
  obtain ⟨r43, b44, rfl, h, hr45, hf46, hB47⟩ := hR41
  refine ⟨_, rfl, ?_⟩
  replace hC := hC.push hB47 (mapI (kvA .i64) (vvI .i64) b44 r43) hr45 (fun b_ hb_ => by obtain rfl := List.mem_singleton.1 hb_; exact hf46)
  refine s_call [.map (some b44)] _ Try.func73 rfl rfl rfl (c_impl_sum_form r43 h _ (hC.getM 0 rfl)) (fun ret49 w51 hR50 => ?_)
  obtain ⟨r52, u53, f54, r57, rfl, h, hr55, hf56, hB58⟩ := hR50
  refine ⟨_, rfl, ?_⟩
  replace hC := hC.push hB58 (Tr.item (TrForm 86) r52 [u53] f54) hr55 hf56
  obtain ⟨ho60, hf61⟩ := form_split (hC.getM 0 rfl)
  subst hf61
  replace hC := hC.recast (c := own 86 9 u53 r52.terms.length (ETerm.encs r52.terms)) (fun _ h_ => h_) (fun _ => ho60)
  refine s_ext (v := .agg #[u53]) rfl rfl ?_
  refine s_ext (v := .int .i64 r57) rfl rfl ?_
  refine s_store (v := .agg #[u53]) hC 3 [u53] [u53] rfl ag46.size rfl rfl rfl rfl (all_c (own_oneC (hC.getM 0 rfl)) rfl) (Nat.le_of_ble_eq_true rfl) rfl fun w63 hC => ?_
  refine s_as (v := .int .i64 r57) rfl ?_
  refine dn ?_
  refine wp_ret ?_
  refine ret2 (fn := Try.f35) rfl ?_ ?_ ⟨r52, u53, (Option.toList (Value.ownBlock u53)), r57, rfl, h, (form_join (own_item (hC.getM 0 rfl))), (own_fresh hC 0 rfl), hC.below⟩ (.inl rfl)
  ·exact res_cellA hC 3 rfl ag46 rfl rfl
  ·exact res_tmp rfl
def f_laws_markInt64S (a0 : List Int) (a1 : Int) (K : Int → List Int → Prop) : Prop :=
 whileP (fun (s49 : (List Int) × Int × Int) next50 => (if s49.2.2 < (s49.1.length : Int) then ((0 ≤ s49.2.2 ∧ s49.2.2 < (s49.1.length : Int)) ∧ next50 (s49.1.set s49.2.2.toNat s49.2.1, IntKind.i64.wrap (s49.2.1 + 1), IntKind.i64.wrap (s49.2.2 + 1))) else K s49.2.1 s49.1)) (a0, a1, 0)
theorem c_laws_markInt64S (a0 : List Int) (a1 : Int) {u0_0 : Value} {K : Int → List Int → Prop} (h : f_laws_markInt64S a0 a1 K) (w0 : World) (qw0 : (own 2 1 u0_0 a0.length ((EI .i64).encs a0)).holds w0) :
  Calls Try.prog 75 #[u0_0, .int .i64 a1] w0 fun e w' => ∃ (r0 : Int) (mw : List Int), 
   e = .returned (.int .i64 r0) ∧ K r0 mw ∧ (own 2 1 u0_0 mw.length ((EI .i64).encs mw)).holds w' ∧ BelO ((Option.toList (Value.ownBlock u0_0))) w0 w' := by
 unfold f_laws_markInt64S at h
 refine calls_of (args := [u0_0, .int .i64 a1]) Try.func75 rfl 19 Try.ntmps75 (Nat.le_of_ble_eq_true rfl) ?_
 have hC := Ctx.startL w0 ((Option.toList (Value.ownBlock u0_0))) [own 2 1 u0_0 a0.length ((EI .i64).encs a0)] [] (by simp only [List.mem_cons, List.not_mem_nil, or_false, forall_eq_or_imp, forall_eq]; exact qw0) (by simp) (by simp only [List.mem_cons, List.not_mem_nil, or_false, forall_eq_or_imp, forall_eq]; exact fun b hb => hb) (List.pairwise_singleton _ _) (by simp)
 refine sr ?_
 refine s_as (v := .int .i64 0) rfl ?_
 refine dn ?_
 refine wp_seq ?_
 refine sr ?_
 refine s_as (v := .int .i64 0) rfl ?_
 refine dn ?_
 refine wp_block ?_
 refine loopW (S := (List Int) × Int × Int) _ (fun s49 e_ w_ => Slots e_ [(0, u0_0), (1, .int .i64 s49.2.1), (4, .int .i64 0), (5, .int .i64 s49.2.2)] ∧ Ctx (fun c_ => c_ ∈ (Option.toList (Value.ownBlock u0_0))) w0 w_ [own 2 1 u0_0 s49.1.length ((EI .i64).encs s49.1)] []) ?_ (s0 := (a0, a1, 0)) ?_ h
 ·clear hC h
  rintro s49 e_ w53 next50 K51 ⟨hS_, hC⟩ h hK52
  refine wp_seq ?_
  refine sr ?_
  refine s_mv (v := .int .i64 s49.2.2) (sx hS_ 3 rfl) ?_
  refine s_mv (v := u0_0) (sx hS_ 0 rfl) ?_
  obtain ⟨Ad54, c55, hv56⟩ := own_form (hC.getM 0 rfl)
  refine s_len Try.underlying22 (tr rfl hv56) ?_
  refine s_lss rfl rfl ?_
  refine dn ?_
  refine cw_cond rfl (fun hb57 => ?_) (fun hb57 => ?_)
  ·replace h := ift h (ct hb57)
   refine wp_skip ?_
   refine then_norm ?_
   refine wp_seq ?_
   refine wp_block ?_
   refine sr ?_
   refine s_mv (v := u0_0) (sx hS_ 0 rfl) ?_
   refine s_mv (v := .int .i64 s49.2.2) (sx hS_ 3 rfl) ?_
   refine s_mv (v := .int .i64 s49.2.1) (sx hS_ 1 rfl) ?_
   obtain ⟨⟨h0_58, h1_59⟩, h⟩ := h
   obtain ⟨Ad60, c61, hv62⟩ := own_formE (hC.getM 0 rfl) (Nat.lt_of_le_of_lt (Nat.zero_le _) (show s49.2.2.toNat < s49.1.length by omega))
   refine s_iaddrO (s49.2.2.toNat * 1) Try.underlying22 sc2.size (tr rfl hv62) rfl h0_58 h1_59 rfl ?_
   refine s_storeO (v := .int .i64 s49.2.1) hC 0 [.int .i64 s49.2.1] ((EI .i64).encs (s49.1.set s49.2.2.toNat s49.2.1)) rfl hv62 sc2.size rfl rfl rfl rfl rfl (by rw [Enc.encs_len]; exact seg_le (sz := 1) (show s49.2.2.toNat < s49.1.length by omega)) (encs_set _ _ _ (show s49.2.2.toNat < s49.1.length by omega)) fun w63 hC => ?_
   replace hC := own_re hC 0 ((s49.1.set s49.2.2.toNat s49.2.1).length) ((EI .i64).encs (s49.1.set s49.2.2.toNat s49.2.1)) rfl (by simp) rfl
   refine dn ?_
   refine cw_region ?_
   refine s_mv (v := .int .i64 s49.2.1) (sx hS_ 1 rfl) ?_
   refine s_add rfl rfl ?_
   refine s_as (v := .int .i64 (IntKind.i64.wrap (s49.2.1 + 1))) rfl ?_
   refine done ?_
   refine blk_norm ?_
   refine then_norm ?_
   refine cw_region ?_
   refine s_mv (v := .int .i64 s49.2.2) (sx hS_ 3 rfl) ?_
   refine s_add rfl rfl ?_
   refine s_as (v := .int .i64 (IntKind.i64.wrap (s49.2.2 + 1))) rfl ?_
   refine done ?_
   exact hK52 (s49.1.set s49.2.2.toNat s49.2.1, IntKind.i64.wrap (s49.2.1 + 1), IntKind.i64.wrap (s49.2.2 + 1)) _ _ ⟨(sk (sx hS_ 0 rfl) (sk rfl (sk (sx hS_ 2 rfl) (sk rfl sn)))), hC⟩ h
  ·replace h := iff_ h (cf hb57)
   refine wp_exit (then_exit (then_exit (exit_in ?_)))
   refine then_norm ?_
   refine sr ?_
   refine s_mv (v := .int .i64 s49.2.1) (sx hS_ 1 rfl) ?_
   refine s_as (v := .int .i64 s49.2.1) rfl ?_
   refine dn ?_
   refine wp_ret ?_
   refine ret1 (fn := Try.f75) rfl ?_ ⟨s49.2.1, s49.1, rfl, h, (hC.getM 0 rfl), hC.belO⟩ (.inl rfl)
   exact res_tmp rfl
 ·skip
  exact ⟨(sk rfl (sk rfl (sk rfl (sk rfl sn)))), hC⟩
def f_laws_markFormS (a0 : List Vc.Form) (a1 : Int) (K : Int → List Vc.Form → Prop) : Prop :=
 whileP (fun (s129 : (List Vc.Form) × Int × Int) next130 => (if s129.2.2 < (s129.1.length : Int) then ((0 ≤ s129.2.2 ∧ s129.2.2 < (s129.1.length : Int)) ∧ f_laws_markTermS ((s129.1.getD s129.2.2.toNat default).terms) s129.2.1 (fun r160 m162 => next130 (s129.1.set s129.2.2.toNat (⟨m162⟩ : Vc.Form), r160, IntKind.i64.wrap (s129.2.2 + 1)))) else K s129.2.1 s129.1)) (a0, a1, 0)
theorem c_laws_markFormS (a0 : List Vc.Form) (a1 : Int) {u0_0 : Value} {fp0_0 : List Nat} {K : Int → List Vc.Form → Prop} (h : f_laws_markFormS a0 a1 K) (w0 : World) (qw0 : (Tr.item (Tr.sl 46 (TrForm 86)) a0 [u0_0] fp0_0).holds w0) :
  Calls Try.prog 43 #[u0_0, .int .i64 a1] w0 fun e w' => ∃ (r0 : Int) (mw : List Vc.Form), 
   e = .returned (.int .i64 r0) ∧ K r0 mw ∧ (Tr.item (Tr.sl 46 (TrForm 86)) mw [u0_0] fp0_0).holds w' ∧ BelO (fp0_0) w0 w' := by
 unfold f_laws_markFormS at h
 refine calls_of (args := [u0_0, .int .i64 a1]) Try.func43 rfl 20 Try.ntmps43 (Nat.le_of_ble_eq_true rfl) ?_
 have hC := Ctx.startL w0 (fp0_0) [Tr.item (Tr.sl 46 (TrForm 86)) a0 [u0_0] fp0_0] [] (by simp only [List.mem_cons, List.not_mem_nil, or_false, forall_eq_or_imp, forall_eq]; exact qw0) (by simp) (by simp only [List.mem_cons, List.not_mem_nil, or_false, forall_eq_or_imp, forall_eq]; exact fun b hb => hb) (List.pairwise_singleton _ _) (by simp)
 refine sr ?_
 refine s_as (v := .int .i64 0) rfl ?_
 refine dn ?_
 refine wp_seq ?_
 refine sr ?_
 refine s_as (v := .int .i64 0) rfl ?_
 refine dn ?_
 refine wp_block ?_
 refine loopW (S := (List Vc.Form) × Int × Int) _ (fun s129 e_ w_ => Slots e_ [(0, u0_0), (1, .int .i64 s129.2.1), (4, .int .i64 0), (5, .int .i64 s129.2.2)] ∧ Ctx (fun c_ => c_ ∈ fp0_0) w0 w_ [Tr.item (Tr.sl 46 (TrForm 86)) s129.1 [u0_0] fp0_0] []) ?_ (s0 := (a0, a1, 0)) ?_ h
 ·clear hC h
  rintro s129 e_ w133 next130 K131 ⟨hS_, hC⟩ h hK132
  refine wp_seq ?_
  refine sr ?_
  refine s_mv (v := .int .i64 s129.2.2) (sx hS_ 3 rfl) ?_
  refine s_mv (v := u0_0) (sx hS_ 0 rfl) ?_
  obtain ⟨Ad134, c135, hv136⟩ := tr_form (hC.getM 0 rfl)
  refine s_len Try.underlying29 (tr rfl hv136) ?_
  refine s_lss rfl rfl ?_
  refine dn ?_
  refine cw_cond rfl (fun hb137 => ?_) (fun hb137 => ?_)
  ·replace h := ift h (ct hb137)
   refine wp_skip ?_
   refine then_norm ?_
   refine wp_seq ?_
   refine wp_block ?_
   refine cw_region ?_
   refine s_mv (v := u0_0) (sx hS_ 0 rfl) ?_
   refine s_mv (v := .int .i64 s129.2.2) (sx hS_ 3 rfl) ?_
   obtain ⟨⟨h0_138, h1_139⟩, h⟩ := h
   obtain ⟨cs143, f144, ⟨g145, cap146, hv147, hcell148⟩, hin149, hsub150, hout151⟩ := tr_focus (hC.getM 0 rfl) s129.2.2.toNat (show s129.2.2.toNat < s129.1.length by omega)
   refine s_iaddrO (s129.2.2.toNat * 1) Try.underlying29 ag46.size (tr rfl hv147) rfl h0_138 h1_139 rfl ?_
   refine s_faddrB (s129.2.2.toNat * 1 + 0) Try.underlying46 rfl sc44.size rfl rfl ?_
   obtain ⟨u152, rfl⟩ := List.length_eq_one_iff.1 (show cs143.length = 1 from ((TrForm 86)).ty.len (Tr.trep _ hin149.1))
   have hin156 := hin149; rw [getD_eq _ _ (show s129.2.2.toNat < s129.1.length by omega)] at hin156
   obtain ⟨ho154, hf155⟩ := flat_tr (show (Tr.sl 86 ETerm.tr).tree ((s129.1.getD s129.2.2.toNat default).terms) [u152] f144 _ from hin156.1)
   subst hf155
   refine s_loadCS (u152) (cells_subO (o := 0) (k := 1) hcell148 rfl) sc44 rfl ?_
   refine s_mv (v := .int .i64 s129.2.1) (sx hS_ 1 rfl) ?_
   refine s_call [u152, .int .i64 s129.2.1] _ Try.func76 rfl rfl rfl (c_laws_markTermS ((s129.1.getD s129.2.2.toNat default).terms) s129.2.1 h _ ho154) (fun ret157 w159 hR158 => ?_)
   obtain ⟨r160, m162, rfl, h, hm163, hB161⟩ := hR158
   refine ⟨_, rfl, ?_⟩
   replace hC := hC.turn 0 (jt := Tr.item (Tr.sl 46 (TrForm 86)) (s129.1.set s129.2.2.toNat (⟨m162⟩ : Vc.Form)) [u0_0] fp0_0) rfl hB161.os hB161.tape hB161.output hB161.size hB161.drawn (fun c_ hc_ hn_ => hB161.old c_ hc_ (fun h_ => hn_ (hsub150 c_ h_))) (hout151 (⟨m162⟩ : Vc.Form) _ (tr_flat hm163) hB161) (fun b_ hb_ => .inl hb_)
   refine s_as (v := .int .i64 r160) rfl ?_
   refine done ?_
   refine blk_norm ?_
   refine then_norm ?_
   refine cw_region ?_
   refine s_mv (v := .int .i64 s129.2.2) (sx hS_ 3 rfl) ?_
   refine s_add rfl rfl ?_
   refine s_as (v := .int .i64 (IntKind.i64.wrap (s129.2.2 + 1))) rfl ?_
   refine done ?_
   exact hK132 (s129.1.set s129.2.2.toNat (⟨m162⟩ : Vc.Form), r160, IntKind.i64.wrap (s129.2.2 + 1)) _ _ ⟨(sk (sx hS_ 0 rfl) (sk rfl (sk (sx hS_ 2 rfl) (sk rfl sn)))), hC⟩ h
  ·replace h := iff_ h (cf hb137)
   refine wp_exit (then_exit (then_exit (exit_in ?_)))
   refine then_norm ?_
   refine sr ?_
   refine s_mv (v := .int .i64 s129.2.1) (sx hS_ 1 rfl) ?_
   refine s_as (v := .int .i64 s129.2.1) rfl ?_
   refine dn ?_
   refine wp_ret ?_
   refine ret1 (fn := Try.f43) rfl ?_ ⟨s129.2.1, s129.1, rfl, h, (hC.getM 0 rfl), hC.belO⟩ (.inl rfl)
   exact res_tmp rfl
 ·skip
  exact ⟨(sk rfl (sk rfl (sk rfl (sk rfl sn)))), hC⟩
def f_laws_markAlgebra (a0 : Alg) (a1 : Int) (K : Int → Alg → Prop) : Prop :=
 f_laws_markInt64S a0.degrees a1 (fun r9 m11 => f_laws_markFormS a0.images r9 (fun r16 m18 => K r16 (⟨m11, m18⟩ : Alg)))
theorem c_laws_markAlgebra (a0 : Alg) (a1 : Int) {u0_0 : Value} {u0_1 : Value} {fp0_1 : List Nat} {K : Int → Alg → Prop} (h : f_laws_markAlgebra a0 a1 K) (w0 : World) (qw0 : (own 2 1 u0_0 a0.degrees.length ((EI .i64).encs a0.degrees)).holds w0) (qw1 : (Tr.item (Tr.sl 46 (TrForm 86)) a0.images [u0_1] fp0_1).holds w0) (dw0_1 : ∀ x, x ∈ (Option.toList (Value.ownBlock u0_0)) → x ∉ fp0_1) :
  Calls Try.prog 37 #[.agg #[u0_0, u0_1], .int .i64 a1] w0 fun e w' => ∃ (r0 : Int) (mw : Alg), 
   e = .returned (.int .i64 r0) ∧ K r0 mw ∧ (own 2 1 u0_0 mw.degrees.length ((EI .i64).encs mw.degrees)).holds w' ∧ (Tr.item (Tr.sl 46 (TrForm 86)) mw.images [u0_1] fp0_1).holds w' ∧ BelO ((Option.toList (Value.ownBlock u0_0)) ++ fp0_1) w0 w' := by
 unfold f_laws_markAlgebra at h
 refine calls_of (args := [.agg #[u0_0, u0_1], .int .i64 a1]) Try.func37 rfl 14 Try.ntmps37 (Nat.le_of_ble_eq_true rfl) ?_
 have hC := Ctx.startL w0 ((Option.toList (Value.ownBlock u0_0)) ++ fp0_1) [own 2 1 u0_0 a0.degrees.length ((EI .i64).encs a0.degrees), Tr.item (Tr.sl 46 (TrForm 86)) a0.images [u0_1] fp0_1] [] (by simp only [List.mem_cons, List.not_mem_nil, or_false, forall_eq_or_imp, forall_eq]; exact ⟨qw0, qw1⟩) (by simp) (by simp only [List.mem_cons, List.not_mem_nil, or_false, forall_eq_or_imp, forall_eq]; exact ⟨fun b hb => (List.mem_append_left _ hb), fun b hb => (List.mem_append_right _ hb)⟩) (List.pairwise_cons.2 ⟨(by simp only [List.mem_cons, List.not_mem_nil, or_false, forall_eq_or_imp, forall_eq]; exact dw0_1), (List.pairwise_singleton _ _)⟩) (by simp)
 refine sr ?_
 refine s_box (v := .agg #[u0_0, u0_1]) hC [u0_0, u0_1] rfl rfl fun b3 w5 hB_ hC => ?_
 refine s_as (v := .int .i64 0) rfl ?_
 refine dn ?_
 refine sr ?_
 refine s_faddrB 0 Try.underlying31 rfl sc22.size rfl rfl ?_
 refine s_loadS hC 0 (u0_0) rfl sc22 rfl rfl ?_
 refine s_mv (v := .int .i64 a1) rfl ?_
 refine s_call [u0_0, .int .i64 a1] _ Try.func75 rfl rfl rfl (c_laws_markInt64S a0.degrees a1 h _ (hC.getM 1 rfl)) (fun ret6 w8 hR7 => ?_)
 obtain ⟨r9, m11, rfl, h, hm12, hB10⟩ := hR7
 refine ⟨_, rfl, ?_⟩
 replace hC := hC.turnL hB10 (M' := [blk b3 31 [u0_0, u0_1], own 2 1 u0_0 m11.length ((EI .i64).encs m11), Tr.item (Tr.sl 46 (TrForm 86)) a0.images [u0_1] fp0_1]) rfl (fun x_ hx_ => ⟨_, List.mem_of_getElem? (i := 1) rfl, hx_⟩) (by simp only [List.mem_cons, List.not_mem_nil, or_false, forall_eq_or_imp, forall_eq]; exact ⟨(hC.stay 0 rfl hB10 (fun x_ hq_ hx_ => hC.mm 0 1 rfl rfl (by decide) x_ hq_ hx_)), hm12, (hC.stay 2 rfl hB10 (fun x_ hq_ hx_ => hC.mm 2 1 rfl rfl (by decide) x_ hq_ hx_))⟩)
 refine s_as (v := .int .i64 r9) rfl ?_
 refine dn ?_
 refine sr ?_
 refine s_faddrB 1 Try.underlying31 rfl sc29.size rfl rfl ?_
 refine s_loadS hC 0 (u0_1) rfl sc29 rfl rfl ?_
 refine s_mv (v := .int .i64 r9) rfl ?_
 refine s_call [u0_1, .int .i64 r9] _ Try.func43 rfl rfl rfl (c_laws_markFormS a0.images r9 h _ (hC.getM 2 rfl)) (fun ret13 w15 hR14 => ?_)
 obtain ⟨r16, m18, rfl, h, hm19, hB17⟩ := hR14
 refine ⟨_, rfl, ?_⟩
 replace hC := hC.turnL hB17 (M' := [blk b3 31 [u0_0, u0_1], own 2 1 u0_0 m11.length ((EI .i64).encs m11), Tr.item (Tr.sl 46 (TrForm 86)) m18 [u0_1] fp0_1]) rfl (fun x_ hx_ => ⟨_, List.mem_of_getElem? (i := 2) rfl, hx_⟩) (by simp only [List.mem_cons, List.not_mem_nil, or_false, forall_eq_or_imp, forall_eq]; exact ⟨(hC.stay 0 rfl hB17 (fun x_ hq_ hx_ => hC.mm 0 2 rfl rfl (by decide) x_ hq_ hx_)), (hC.stay 1 rfl hB17 (fun x_ hq_ hx_ => hC.mm 1 2 rfl rfl (by decide) x_ hq_ hx_)), hm19⟩)
 refine s_as (v := .int .i64 r16) rfl ?_
 refine dn ?_
 refine sr ?_
 refine s_mv (v := .int .i64 r16) rfl ?_
 refine s_as (v := .int .i64 r16) rfl ?_
 refine dn ?_
 refine wp_ret ?_
 refine ret1 (fn := Try.f37) rfl ?_ ⟨r16, (⟨m11, m18⟩ : Alg), rfl, h, (hC.getM 1 rfl), (hC.getM 2 rfl), hC.belO⟩ (.inl rfl)
 exact res_tmp rfl
def f_laws_FnExactDifferentialOfForm (a0 : Alg) (a1 : Vc.Form) (K : Bool → Prop) : Prop :=
 f_laws_szAlgebra a0 1048576 (fun r17 => (if r17 < 0 then K true else f_laws_szForm a1 r17 (fun r23 => (if r23 < 0 then K true else f_laws_toAlgebra a0 (fun r686 => f_laws_toForm a1 (fun r705 => f_spec_DifferentialOfForm (⟨r686.degrees, r686.images⟩ : Alg) (⟨r705.terms⟩ : Vc.Form) (fun r727 r732 => f_laws_toAlgebra (⟨a0.degrees, a0.images⟩ : Alg) (fun r219 => f_laws_toForm (⟨a1.terms⟩ : Vc.Form) (fun r242 => f_impl_DifferentialOfForm r219 r242 (fun r259 r264 => f_laws_eqForm r259 r727 (fun r277 => (if ¬ (r277 = true) then K false else (if r264 ≠ r732 then K false else f_laws_toAlgebra (⟨a0.degrees, a0.images⟩ : Alg) (fun r287 => f_laws_eqAlgebra r219 r287 (fun r306 => (if ¬ (r306 = true) then K false else f_laws_toForm (⟨a1.terms⟩ : Vc.Form) (fun r315 => f_laws_eqForm r242 r315 (fun r328 => (if ¬ (r328 = true) then K false else f_laws_markAlgebra r219 1 (fun r334 m336 => f_laws_markForm (⟨r242.terms⟩ : Vc.Form) r334 (fun r342 m344 => (if r342 < 0 then K false else f_laws_eqForm (⟨r259.terms⟩ : Vc.Form) (⟨r727.terms⟩ : Vc.Form) (fun r350 => (if ¬ (r350 = true) then K false else f_laws_markForm (⟨r259.terms⟩ : Vc.Form) 1 (fun r356 m358 => f_laws_heldForm (⟨m358.terms⟩ : Vc.Form) 1 (fun r363 => (if r363 < 0 then K false else (if r363 ≠ r356 then K false else f_laws_toAlgebra (⟨a0.degrees, a0.images⟩ : Alg) (fun r537 => f_laws_toForm (⟨a1.terms⟩ : Vc.Form) (fun r556 => f_impl_DifferentialOfForm r537 r556 (fun r569 r574 => f_laws_eqForm r569 (⟨r727.terms⟩ : Vc.Form) (fun r523 => (if ¬ (r523 = true) then K false else (if r574 ≠ r732 then K false else f_laws_heldForm (⟨m358.terms⟩ : Vc.Form) 1 (fun r530 => (if r530 < 0 then K false else (if r530 ≠ r356 then K false else K true)))))))))))))))))))))))))))))))))))))
theorem c_laws_FnExactDifferentialOfForm (a0 : Alg) (a1 : Vc.Form) {u0_0 : Value} {u0_1 : Value} {u1_0 : Value} {fp0 : List Nat} {fp1 : List Nat} {K : Bool → Prop} (h : f_laws_FnExactDifferentialOfForm a0 a1 K) (w0 : World) (q0 : TAlg.rep a0 [u0_0, u0_1] fp0 w0) (q1 : TForm.rep a1 [u1_0] fp1 w0) :
  Calls Try.prog 9 #[.agg #[u0_0, u0_1], .agg #[u1_0]] w0 fun e w' => ∃ (r0 : Bool), 
   e = .returned (.bool r0) ∧ K r0 ∧ Bel w0 w' := by
 unfold f_laws_FnExactDifferentialOfForm at h
 refine calls_of (args := [.agg #[u0_0, u0_1], .agg #[u1_0]]) Try.func9 rfl 119 Try.ntmps9 (Nat.le_of_ble_eq_true rfl) ?_
 have hC := Ctx.start (X := Nox) w0 [Ty.item TAlg a0 [u0_0, u0_1] fp0, Ty.item TForm a1 [u1_0] fp1] (by simp only [List.mem_cons, List.not_mem_nil, or_false, forall_eq_or_imp, forall_eq]; exact ⟨q0, q1⟩)
 have hp3 := (hC.getP 0 rfl)
 replace hC := hC.derive 0 rfl (Ty.item ((EI .i64).ty.sl) a0.degrees [u0_0] fp0) (fun _ => (alg_parts hp3).1) (fun _ hb_ => hb_)
 replace hC := hC.derive 1 rfl (Ty.item TForm.sl a0.images [u0_1] fp0) (fun _ => (alg_parts hp3).2) (fun _ hb_ => hb_)
 have hp6 := (hC.getP 3 rfl)
 replace hC := hC.derive 3 rfl (Ty.item ETerm.ty.sl a1.terms [u1_0] fp1) (fun _ => (form_parts hp6)) (fun _ hb_ => hb_)
 refine sr ?_
 refine s_box (v := .agg #[u0_0, u0_1]) hC [u0_0, u0_1] rfl rfl fun b8 w10 hB_ hC => ?_
 refine s_box (v := .agg #[u1_0]) hC [u1_0] rfl rfl fun b11 w13 hB_ hC => ?_
 refine s_as (v := .bool false) rfl ?_
 refine dn ?_
 refine sr ?_
 refine s_as (v := .int .i64 1048576) rfl ?_
 refine dn ?_
 refine sr ?_
 refine s_loadA hC 1 [u0_0, u0_1] rfl ag25 rfl rfl rfl ?_
 refine s_mv (v := .int .i64 1048576) rfl ?_
 refine s_call [.agg #[u0_0, u0_1], .int .i64 1048576] _ Try.func11 rfl rfl rfl (c_laws_szAlgebra a0 1048576 h _ (alg_mk (hC.getP 2 rfl) (hC.getP 1 rfl))) (fun ret14 w16 hR15 => ?_)
 obtain ⟨r17, rfl, h, hB18⟩ := hR15
 refine ⟨_, rfl, ?_⟩
 replace hC := hC.grow hB18
 refine s_as (v := .int .i64 r17) rfl ?_
 refine dn ?_
 refine wp_seq ?_
 refine sr ?_
 refine s_mv (v := .int .i64 r17) rfl ?_
 refine s_lss rfl rfl ?_
 refine dn ?_
 refine cw_cond rfl (fun hb19 => ?_) (fun hb19 => ?_)
 ·replace h := ift h (ct hb19)
  refine sr ?_
  refine s_as (v := .bool true) rfl ?_
  refine dn ?_
  refine wp_ret (then_ret ?_)
  refine ret1 (fn := Try.f9) rfl ?_ ⟨true, rfl, h, hC.below⟩ (.inl rfl)
  exact res_tmp rfl
 ·replace h := iff_ h (cf hb19)
  refine wp_skip ?_
  refine then_norm ?_
  refine sr ?_
  refine s_loadA hC 0 [u1_0] rfl ag39 rfl rfl rfl ?_
  refine s_mv (v := .int .i64 r17) rfl ?_
  refine s_call [.agg #[u1_0], .int .i64 r17] _ Try.func32 rfl rfl rfl (c_laws_szForm a1 r17 h _ (form_mk (hC.getP 0 rfl))) (fun ret20 w22 hR21 => ?_)
  obtain ⟨r23, rfl, h, hB24⟩ := hR21
  refine ⟨_, rfl, ?_⟩
  replace hC := hC.grow hB24
  refine s_as (v := .int .i64 r23) rfl ?_
  refine dn ?_
  refine wp_seq ?_
  refine sr ?_
  refine s_mv (v := .int .i64 r23) rfl ?_
  refine s_lss rfl rfl ?_
  refine dn ?_
  refine cw_cond rfl (fun hb25 => ?_) (fun hb25 => ?_)
  ·replace h := ift h (ct hb25)
   refine sr ?_
   refine s_as (v := .bool true) rfl ?_
   refine dn ?_
   refine wp_ret (then_ret ?_)
   refine ret1 (fn := Try.f9) rfl ?_ ⟨true, rfl, h, hC.below⟩ (.inl rfl)
   exact res_tmp rfl
  ·replace h := iff_ h (cf hb25)
   refine wp_skip ?_
   refine then_norm ?_
   refine wp_seq ?_
   refine cw_draw 9 mixed [0, 1, 0, 7, 15, 31, 63, 63, 0, 383, 1023] [0, 2] [5, 6, 7] (by kernel_rfl) (by kernel_rfl) (by kernel_rfl) (fun hM27 hM28 w26 hB_ => ?_)
   replace hC := hC.grow hB_
   refine ae_look belPre 0 (.agg #[u0_0, u0_1]) rfl rfl (by kernel_rfl) (hM27 0 rfl) (fun w_ hB_ => .inl ⟨rfl, by exact r_loadA (hC.grow hB_) 1 [u0_0, u0_1] rfl ag25 rfl rfl rfl⟩) (listed' := (dbits 11 1)) (by kernel_rfl) ?_
   refine ae_look belPre 2 (.agg #[u1_0]) rfl rfl (by kernel_rfl) (hM27 2 rfl) (fun w_ hB_ => .inl ⟨rfl, by exact r_loadA (hC.grow hB_) 0 [u1_0] rfl ag39 rfl rfl rfl⟩) (listed' := (dbits 11 5)) (by kernel_rfl) ?_
   refine ae_join (fun e_ w_ => ∃ (b84 : Nat), ∃ (u74 : Value), ∃ (r73 : Vc.Form), ∃ (f75 : List Nat), ∃ (r78 : Int), Slots e_ [(2, .pointer (some ⟨b8, 0, none⟩)), (3, .pointer (some ⟨b11, 0, none⟩)), (4, .bool false), (6, .pointer (some ⟨b84, 0, none⟩)), (7, .int .i64 r78)] ∧ (∀ b, b ∈ f75 → w0.heap.size ≤ b ∨ b ∈ (fp0 ++ (fp1))) ∧ Ctx Nox w0 w_ [blk b84 46 [u74], blk b11 39 [u1_0], blk b8 25 [u0_0, u0_1]] [Ty.item ETerm.ty.sl r73.terms [u74] f75, Ty.item ETerm.ty.sl a1.terms [u1_0] fp1, Ty.item TForm.sl a0.images [u0_1] fp0, Ty.item ((EI .i64).ty.sl) a0.degrees [u0_0] fp0, Ty.item TAlg a0 [u0_0, u0_1] fp0, Ty.item TForm a1 [u1_0] fp1] ∧ (f_laws_toAlgebra (⟨a0.degrees, a0.images⟩ : Alg) (fun r219 => f_laws_toForm (⟨a1.terms⟩ : Vc.Form) (fun r242 => f_impl_DifferentialOfForm r219 r242 (fun r259 r264 => f_laws_eqForm r259 r73 (fun r277 => (if ¬ (r277 = true) then K false else (if r264 ≠ r78 then K false else f_laws_toAlgebra (⟨a0.degrees, a0.images⟩ : Alg) (fun r287 => f_laws_eqAlgebra r219 r287 (fun r306 => (if ¬ (r306 = true) then K false else f_laws_toForm (⟨a1.terms⟩ : Vc.Form) (fun r315 => f_laws_eqForm r242 r315 (fun r328 => (if ¬ (r328 = true) then K false else f_laws_markAlgebra r219 1 (fun r334 m336 => f_laws_markForm (⟨r242.terms⟩ : Vc.Form) r334 (fun r342 m344 => (if r342 < 0 then K false else f_laws_eqForm (⟨r259.terms⟩ : Vc.Form) (⟨r73.terms⟩ : Vc.Form) (fun r350 => (if ¬ (r350 = true) then K false else f_laws_markForm (⟨r259.terms⟩ : Vc.Form) 1 (fun r356 m358 => f_laws_heldForm (⟨m358.terms⟩ : Vc.Form) 1 (fun r363 => (if r363 < 0 then K false else (if r363 ≠ r356 then K false else f_laws_toAlgebra (⟨a0.degrees, a0.images⟩ : Alg) (fun r537 => f_laws_toForm (⟨a1.terms⟩ : Vc.Form) (fun r556 => f_impl_DifferentialOfForm r537 r556 (fun r569 r574 => f_laws_eqForm r569 (⟨r73.terms⟩ : Vc.Form) (fun r523 => (if ¬ (r523 = true) then K false else (if r574 ≠ r78 then K false else f_laws_heldForm (⟨m358.terms⟩ : Vc.Form) 1 (fun r530 => (if r530 < 0 then K false else (if r530 ≠ r356 then K false else K true)))))))))))))))))))))))))))))))) ?_ ?_
   ·clear hC h
    rintro e_ w215 ⟨b84, u74, r73, f75, r78, hS_, hq214, hC, h⟩
    refine then_norm ?_
    refine sr ?_
    refine s_loadA hC 2 [u0_0, u0_1] rfl ag25 (sx hS_ 0 rfl) rfl rfl ?_
    refine s_call [.agg #[u0_0, u0_1]] _ Try.func13 rfl rfl rfl (c_laws_toAlgebra (⟨a0.degrees, a0.images⟩ : Alg) h _ (alg_mk (hC.getP 3 rfl) (hC.getP 2 rfl))) (fun ret216 w218 hR217 => ?_)
    obtain ⟨r219, u220, u221, f222, rfl, h, hr223, hf224, hB225⟩ := hR217
    refine ⟨_, rfl, ?_⟩
    replace hC := hC.push hB225 (Tr.item (TrAlg 2 86 46) r219 [u220, u221] f222) hr223 hf224
    obtain ⟨f227, ho228, ho229, hs230, hs231, hd232⟩ := alg_split (hC.getM 0 rfl)
    replace hC := hC.split (a := own 2 1 u220 r219.degrees.length ((EI .i64).encs r219.degrees)) (b := Tr.item (Tr.sl 46 (TrForm 86)) r219.images [u221] f227) hs230 hs231 ⟨ho228, ho229, hd232⟩
    refine s_alloc hC [.slice none 0 0, .slice none 0 0] z31 rfl fun b235 w237 hB_ hC => ?_
    refine s_store (v := .agg #[u220, u221]) hC 0 [u220, u221] [u220, u221] rfl ag31.size rfl rfl rfl rfl (all_c (own_oneC (hC.getM 1 rfl)) (all_c (rep_oneC (Tr.trep _ (hC.getM 2 rfl).1)) rfl)) (Nat.le_of_ble_eq_true rfl) rfl fun w238 hC => ?_
    refine dn ?_
    refine sr ?_
    refine s_loadA hC 4 [u1_0] rfl ag39 (sx hS_ 1 rfl) rfl rfl ?_
    refine s_call [.agg #[u1_0]] _ Try.func34 rfl rfl rfl (c_laws_toForm (⟨a1.terms⟩ : Vc.Form) h _ (form_mk (hC.getP 1 rfl))) (fun ret239 w241 hR240 => ?_)
    obtain ⟨r242, u243, f244, rfl, h, hr245, hf246, hB247⟩ := hR240
    refine ⟨_, rfl, ?_⟩
    replace hC := hC.push hB247 (Tr.item (TrForm 86) r242 [u243] f244) hr245 hf246
    obtain ⟨ho249, hf250⟩ := form_split (hC.getM 0 rfl)
    subst hf250
    replace hC := hC.recast (c := own 86 9 u243 r242.terms.length (ETerm.encs r242.terms)) (fun _ h_ => h_) (fun _ => ho249)
    refine s_alloc hC [.slice none 0 0] z46 rfl fun b252 w254 hB_ hC => ?_
    refine s_store (v := .agg #[u243]) hC 0 [u243] [u243] rfl ag46.size rfl rfl rfl rfl (all_c (own_oneC (hC.getM 1 rfl)) rfl) (Nat.le_of_ble_eq_true rfl) rfl fun w255 hC => ?_
    refine dn ?_
    refine sr ?_
    refine s_loadA hC 2 [u220, u221] rfl ag31 rfl rfl rfl ?_
    refine s_loadA hC 0 [u243] rfl ag46 rfl rfl rfl ?_
    refine s_call [.agg #[u220, u221], .agg #[u243]] _ Try.func35 rfl rfl rfl (c_impl_DifferentialOfForm r219 r242 h _ (alg_mk (own_repE (hC.getM 3 rfl)) (Tr.trep _ (hC.getM 4 rfl).1)) (form_mk (own_repE (hC.getM 1 rfl)))) (fun ret256 w258 hR257 => ?_)
    obtain ⟨r259, u260, f261, r264, rfl, h, hr262, hf263, hB265⟩ := hR257
    refine ⟨_, rfl, ?_⟩
    replace hC := hC.push hB265 (Tr.item (TrForm 86) r259 [u260] f261) hr262 hf263
    obtain ⟨ho267, hf268⟩ := form_split (hC.getM 0 rfl)
    subst hf268
    replace hC := hC.recast (c := own 86 9 u260 r259.terms.length (ETerm.encs r259.terms)) (fun _ h_ => h_) (fun _ => ho267)
    refine s_mv (v := .tuple #[.agg #[u260], .int .i64 r264]) rfl ?_
    refine s_ext (v := .agg #[u260]) rfl rfl ?_
    refine s_ext (v := .int .i64 r264) rfl rfl ?_
    refine s_alloc hC [.slice none 0 0] z46 rfl fun b270 w272 hB_ hC => ?_
    refine s_store (v := .agg #[u260]) hC 0 [u260] [u260] rfl ag46.size rfl rfl rfl rfl (all_c (own_oneC (hC.getM 1 rfl)) rfl) (Nat.le_of_ble_eq_true rfl) rfl fun w273 hC => ?_
    refine s_as (v := .int .i64 r264) rfl ?_
    refine dn ?_
    refine wp_seq ?_
    refine sr ?_
    refine s_loadA hC 0 [u260] rfl ag46 rfl rfl rfl ?_
    refine s_loadA hC 7 [u74] rfl ag46 (sx hS_ 3 rfl) rfl rfl ?_
    refine s_call [.agg #[u260], .agg #[u74]] _ Try.func36 rfl rfl rfl (c_laws_eqForm r259 r73 h _ (form_mk (own_repE (hC.getM 1 rfl))) (form_mk (hC.getP 0 rfl))) (fun ret274 w276 hR275 => ?_)
    obtain ⟨r277, rfl, h, hB278⟩ := hR275
    refine ⟨_, rfl, ?_⟩
    replace hC := hC.grow hB278
    refine s_not rfl ?_
    refine s_mv (v := .bool (!r277)) rfl ?_
    refine bsplit (!r277) (fun hb279 => ?_) (fun hb279 => ?_)
    ·replace h := ift h (ne_t (not_t hb279))
     refine guardOff (b := true) 4 49 rfl (tr rfl (congrArg _ hb279)) (by decide) ?_
     refine guardOff (b := true) 4 49 rfl (tr rfl (congrArg _ hb279)) (by decide) ?_
     refine guardOff (b := true) 4 49 rfl (tr rfl (congrArg _ hb279)) (by decide) ?_
     refine s_pick (v := .bool true) (b := true) (tr rfl (congrArg _ hb279)) rfl ?_
     refine dn ?_
     refine cw_true rfl rfl ?_
     refine sr ?_
     refine s_as (v := .bool false) rfl ?_
     refine dn ?_
     refine wp_ret (then_ret ?_)
     refine ret1 (fn := Try.f9) rfl ?_ ⟨false, rfl, h, hC.below⟩ (.inl rfl)
     exact res_tmp rfl
    ·replace h := iff_ h (not_not_intro ((not_f hb279)))
     refine guardOn 4 49 rfl rfl hb279 ?_
     refine s_mv (v := .int .i64 r264) rfl ?_
     refine guardOn 4 49 rfl rfl hb279 ?_
     refine s_mv (v := .int .i64 r78) (sx hS_ 4 rfl) ?_
     refine guardOn 4 49 rfl rfl hb279 ?_
     refine s_neq rfl rfl ?_
     refine s_pick (v := .bool (decide (r264 ≠ r78))) (b := false) (tr rfl (congrArg _ hb279)) rfl ?_
     refine dn ?_
     refine cw_cond rfl (fun hb280 => ?_) (fun hb280 => ?_)
     ·replace h := ift h (ct hb280)
      refine sr ?_
      refine s_as (v := .bool false) rfl ?_
      refine dn ?_
      refine wp_ret (then_ret ?_)
      refine ret1 (fn := Try.f9) rfl ?_ ⟨false, rfl, h, hC.below⟩ (.inl rfl)
      exact res_tmp rfl
     ·replace h := iff_ h (cf hb280)
      refine wp_skip ?_
      refine then_norm ?_
      refine wp_seq ?_
      refine wp_seq ?_
      refine cw_draw 3 mixed [0, 0, 2, 7, 15] [0, 1] [] (by kernel_rfl) (by kernel_rfl) (by kernel_rfl) (fun hM282 hM283 w281 hB_ => ?_)
      replace hC := hC.grow hB_
      refine ae_look belPre 0 (.agg #[u220, u221]) rfl rfl (by kernel_rfl) (hM282 0 rfl) (fun w_ hB_ => .inl ⟨rfl, by exact r_loadA (hC.grow hB_) 4 [u220, u221] rfl ag31 rfl rfl rfl⟩) (listed' := (dbits 5 1)) (by kernel_rfl) ?_
      refine ae_look belPre 1 (.agg #[u0_0, u0_1]) rfl rfl (by kernel_rfl) (hM282 1 rfl) (fun w_ hB_ => .inl ⟨rfl, by exact r_loadA (hC.grow hB_) 9 [u0_0, u0_1] rfl ag25 (sx hS_ 0 rfl) rfl rfl⟩) (listed' := (dbits 5 3)) (by kernel_rfl) ?_
      refine ae_one 2 rfl (by kernel_rfl) ?_
      refine s_call [.agg #[u0_0, u0_1]] _ Try.func13 rfl rfl rfl (c_laws_toAlgebra (⟨a0.degrees, a0.images⟩ : Alg) h _ (alg_mk (hC.getP 3 rfl) (hC.getP 2 rfl))) (fun ret284 w286 hR285 => ?_)
      obtain ⟨r287, u288, u289, f290, rfl, h, hr291, hf292, hB293⟩ := hR285
      refine ⟨_, rfl, ?_⟩
      replace hC := hC.push hB293 (Tr.item (TrAlg 2 86 46) r287 [u288, u289] f290) hr291 hf292
      obtain ⟨f295, ho296, ho297, hs298, hs299, hd300⟩ := alg_split (hC.getM 0 rfl)
      replace hC := hC.split (a := own 2 1 u288 r287.degrees.length ((EI .i64).encs r287.degrees)) (b := Tr.item (Tr.sl 46 (TrForm 86)) r287.images [u289] f295) hs298 hs299 ⟨ho296, ho297, hd300⟩
      refine done ?_
      refine ak_intro (by assumption) (listed' := (dbits 5 7)) (by kernel_rfl) ?_
      refine ae_tail 3 (by decide) (by decide) (by kernel_rfl) (by kernel_rfl) rfl ?_
      refine s_call [.agg #[u220, u221], .agg #[u288, u289]] _ Try.func15 rfl rfl rfl (c_laws_eqAlgebra r219 r287 h _ (alg_mk (own_repE (hC.getM 7 rfl)) (Tr.trep _ (hC.getM 8 rfl).1)) (alg_mk (own_repE (hC.getM 0 rfl)) (Tr.trep _ (hC.getM 1 rfl).1))) (fun ret303 w305 hR304 => ?_)
      obtain ⟨r306, rfl, h, hB307⟩ := hR304
      refine ⟨_, rfl, ?_⟩
      replace hC := hC.grow hB307
      refine s_not rfl ?_
      refine done ?_
      refine qn_norm ?_
      refine then_norm ?_
      refine cw_cond rfl (fun hb308 => ?_) (fun hb308 => ?_)
      ·replace h := ift h (ne_t (not_t hb308))
       refine sr ?_
       refine s_as (v := .bool false) rfl ?_
       refine dn ?_
       refine wp_ret (then_ret ?_)
       refine ret1 (fn := Try.f9) rfl ?_ ⟨false, rfl, h, hC.below⟩ (.inl rfl)
       exact res_tmp rfl
      ·replace h := iff_ h (not_not_intro ((not_f hb308)))
       refine wp_skip ?_
       refine then_norm ?_
       refine wp_seq ?_
       refine wp_seq ?_
       refine cw_draw 3 mixed [0, 0, 2, 7, 15] [0, 1] [] (by kernel_rfl) (by kernel_rfl) (by kernel_rfl) (fun hM310 hM311 w309 hB_ => ?_)
       replace hC := hC.grow hB_
       refine ae_look belPre 0 (.agg #[u243]) rfl rfl (by kernel_rfl) (hM310 0 rfl) (fun w_ hB_ => .inl ⟨rfl, by exact r_loadA (hC.grow hB_) 4 [u243] rfl ag46 rfl rfl rfl⟩) (listed' := (dbits 5 1)) (by kernel_rfl) ?_
       refine ae_look belPre 1 (.agg #[u1_0]) rfl rfl (by kernel_rfl) (hM310 1 rfl) (fun w_ hB_ => .inl ⟨rfl, by exact r_loadA (hC.grow hB_) 10 [u1_0] rfl ag39 (sx hS_ 1 rfl) rfl rfl⟩) (listed' := (dbits 5 3)) (by kernel_rfl) ?_
       refine ae_one 2 rfl (by kernel_rfl) ?_
       refine s_call [.agg #[u1_0]] _ Try.func34 rfl rfl rfl (c_laws_toForm (⟨a1.terms⟩ : Vc.Form) h _ (form_mk (hC.getP 1 rfl))) (fun ret312 w314 hR313 => ?_)
       obtain ⟨r315, u316, f317, rfl, h, hr318, hf319, hB320⟩ := hR313
       refine ⟨_, rfl, ?_⟩
       replace hC := hC.push hB320 (Tr.item (TrForm 86) r315 [u316] f317) hr318 hf319
       obtain ⟨ho322, hf323⟩ := form_split (hC.getM 0 rfl)
       subst hf323
       replace hC := hC.recast (c := own 86 9 u316 r315.terms.length (ETerm.encs r315.terms)) (fun _ h_ => h_) (fun _ => ho322)
       refine done ?_
       refine ak_intro (by assumption) (listed' := (dbits 5 7)) (by kernel_rfl) ?_
       refine ae_tail 3 (by decide) (by decide) (by kernel_rfl) (by kernel_rfl) rfl ?_
       refine s_call [.agg #[u243], .agg #[u316]] _ Try.func36 rfl rfl rfl (c_laws_eqForm r242 r315 h _ (form_mk (own_repE (hC.getM 6 rfl))) (form_mk (own_repE (hC.getM 0 rfl)))) (fun ret325 w327 hR326 => ?_)
       obtain ⟨r328, rfl, h, hB329⟩ := hR326
       refine ⟨_, rfl, ?_⟩
       replace hC := hC.grow hB329
       refine s_not rfl ?_
       refine done ?_
       refine qn_norm ?_
       refine then_norm ?_
       refine cw_cond rfl (fun hb330 => ?_) (fun hb330 => ?_)
       ·replace h := ift h (ne_t (not_t hb330))
        refine sr ?_
        refine s_as (v := .bool false) rfl ?_
        refine dn ?_
        refine wp_ret (then_ret ?_)
        refine ret1 (fn := Try.f9) rfl ?_ ⟨false, rfl, h, hC.below⟩ (.inl rfl)
        exact res_tmp rfl
       ·replace h := iff_ h (not_not_intro ((not_f hb330)))
        refine wp_skip ?_
        refine then_norm ?_
        refine sr ?_
        refine s_as (v := .int .i64 1) rfl ?_
        refine dn ?_
        refine sr ?_
        refine s_loadA hC 7 [u220, u221] rfl ag31 rfl rfl rfl ?_
        refine s_mv (v := .int .i64 1) rfl ?_
        refine s_call [.agg #[u220, u221], .int .i64 1] _ Try.func37 rfl rfl rfl (c_laws_markAlgebra r219 1 h _ (hC.getM 8 rfl) (hC.getM 9 rfl) (hC.mm 8 9 rfl rfl (by decide))) (fun ret331 w333 hR332 => ?_)
        obtain ⟨r334, m336, rfl, h, hm337, hm338, hB335⟩ := hR332
        refine ⟨_, rfl, ?_⟩
        replace hC := hC.turnL hB335 (M' := [own 86 9 u316 r315.terms.length (ETerm.encs r315.terms), own 2 1 u288 r287.degrees.length ((EI .i64).encs r287.degrees), Tr.item (Tr.sl 46 (TrForm 86)) r287.images [u289] f295, blk b270 46 [u260], own 86 9 u260 r259.terms.length (ETerm.encs r259.terms), blk b252 46 [u243], own 86 9 u243 r242.terms.length (ETerm.encs r242.terms), blk b235 31 [u220, u221], own 2 1 u220 m336.degrees.length ((EI .i64).encs m336.degrees), Tr.item (Tr.sl 46 (TrForm 86)) m336.images [u221] f227, blk b84 46 [u74], blk b11 39 [u1_0], blk b8 25 [u0_0, u0_1]]) rfl (fun x_ hx_ => (List.mem_append.1 hx_).elim (fun hx_ => ⟨_, List.mem_of_getElem? (i := 8) rfl, hx_⟩) (fun hx_ => ⟨_, List.mem_of_getElem? (i := 9) rfl, hx_⟩)) (by simp only [List.mem_cons, List.not_mem_nil, or_false, forall_eq_or_imp, forall_eq]; exact ⟨(hC.stay 0 rfl hB335 (fun x_ hq_ hx_ => (List.mem_append.1 hx_).elim (fun hx_ => hC.mm 0 8 rfl rfl (by decide) x_ hq_ hx_) (fun hx_ => hC.mm 0 9 rfl rfl (by decide) x_ hq_ hx_))), (hC.stay 1 rfl hB335 (fun x_ hq_ hx_ => (List.mem_append.1 hx_).elim (fun hx_ => hC.mm 1 8 rfl rfl (by decide) x_ hq_ hx_) (fun hx_ => hC.mm 1 9 rfl rfl (by decide) x_ hq_ hx_))), (hC.stay 2 rfl hB335 (fun x_ hq_ hx_ => (List.mem_append.1 hx_).elim (fun hx_ => hC.mm 2 8 rfl rfl (by decide) x_ hq_ hx_) (fun hx_ => hC.mm 2 9 rfl rfl (by decide) x_ hq_ hx_))), (hC.stay 3 rfl hB335 (fun x_ hq_ hx_ => (List.mem_append.1 hx_).elim (fun hx_ => hC.mm 3 8 rfl rfl (by decide) x_ hq_ hx_) (fun hx_ => hC.mm 3 9 rfl rfl (by decide) x_ hq_ hx_))), (hC.stay 4 rfl hB335 (fun x_ hq_ hx_ => (List.mem_append.1 hx_).elim (fun hx_ => hC.mm 4 8 rfl rfl (by decide) x_ hq_ hx_) (fun hx_ => hC.mm 4 9 rfl rfl (by decide) x_ hq_ hx_))), (hC.stay 5 rfl hB335 (fun x_ hq_ hx_ => (List.mem_append.1 hx_).elim (fun hx_ => hC.mm 5 8 rfl rfl (by decide) x_ hq_ hx_) (fun hx_ => hC.mm 5 9 rfl rfl (by decide) x_ hq_ hx_))), (hC.stay 6 rfl hB335 (fun x_ hq_ hx_ => (List.mem_append.1 hx_).elim (fun hx_ => hC.mm 6 8 rfl rfl (by decide) x_ hq_ hx_) (fun hx_ => hC.mm 6 9 rfl rfl (by decide) x_ hq_ hx_))), (hC.stay 7 rfl hB335 (fun x_ hq_ hx_ => (List.mem_append.1 hx_).elim (fun hx_ => hC.mm 7 8 rfl rfl (by decide) x_ hq_ hx_) (fun hx_ => hC.mm 7 9 rfl rfl (by decide) x_ hq_ hx_))), hm337, hm338, (hC.stay 10 rfl hB335 (fun x_ hq_ hx_ => (List.mem_append.1 hx_).elim (fun hx_ => hC.mm 10 8 rfl rfl (by decide) x_ hq_ hx_) (fun hx_ => hC.mm 10 9 rfl rfl (by decide) x_ hq_ hx_))), (hC.stay 11 rfl hB335 (fun x_ hq_ hx_ => (List.mem_append.1 hx_).elim (fun hx_ => hC.mm 11 8 rfl rfl (by decide) x_ hq_ hx_) (fun hx_ => hC.mm 11 9 rfl rfl (by decide) x_ hq_ hx_))), (hC.stay 12 rfl hB335 (fun x_ hq_ hx_ => (List.mem_append.1 hx_).elim (fun hx_ => hC.mm 12 8 rfl rfl (by decide) x_ hq_ hx_) (fun hx_ => hC.mm 12 9 rfl rfl (by decide) x_ hq_ hx_)))⟩)
        refine s_as (v := .int .i64 r334) rfl ?_
        refine dn ?_
        refine sr ?_
        refine s_loadA hC 5 [u243] rfl ag46 rfl rfl rfl ?_
        refine s_mv (v := .int .i64 r334) rfl ?_
        refine s_call [.agg #[u243], .int .i64 r334] _ Try.func38 rfl rfl rfl (c_laws_markForm (⟨r242.terms⟩ : Vc.Form) r334 h _ (hC.getM 6 rfl)) (fun ret339 w341 hR340 => ?_)
        obtain ⟨r342, m344, rfl, h, hm345, hB343⟩ := hR340
        refine ⟨_, rfl, ?_⟩
        replace hC := hC.turnL hB343 (M' := [own 86 9 u316 r315.terms.length (ETerm.encs r315.terms), own 2 1 u288 r287.degrees.length ((EI .i64).encs r287.degrees), Tr.item (Tr.sl 46 (TrForm 86)) r287.images [u289] f295, blk b270 46 [u260], own 86 9 u260 r259.terms.length (ETerm.encs r259.terms), blk b252 46 [u243], own 86 9 u243 m344.terms.length (ETerm.encs m344.terms), blk b235 31 [u220, u221], own 2 1 u220 m336.degrees.length ((EI .i64).encs m336.degrees), Tr.item (Tr.sl 46 (TrForm 86)) m336.images [u221] f227, blk b84 46 [u74], blk b11 39 [u1_0], blk b8 25 [u0_0, u0_1]]) rfl (fun x_ hx_ => ⟨_, List.mem_of_getElem? (i := 6) rfl, hx_⟩) (by simp only [List.mem_cons, List.not_mem_nil, or_false, forall_eq_or_imp, forall_eq]; exact ⟨(hC.stay 0 rfl hB343 (fun x_ hq_ hx_ => hC.mm 0 6 rfl rfl (by decide) x_ hq_ hx_)), (hC.stay 1 rfl hB343 (fun x_ hq_ hx_ => hC.mm 1 6 rfl rfl (by decide) x_ hq_ hx_)), (hC.stay 2 rfl hB343 (fun x_ hq_ hx_ => hC.mm 2 6 rfl rfl (by decide) x_ hq_ hx_)), (hC.stay 3 rfl hB343 (fun x_ hq_ hx_ => hC.mm 3 6 rfl rfl (by decide) x_ hq_ hx_)), (hC.stay 4 rfl hB343 (fun x_ hq_ hx_ => hC.mm 4 6 rfl rfl (by decide) x_ hq_ hx_)), (hC.stay 5 rfl hB343 (fun x_ hq_ hx_ => hC.mm 5 6 rfl rfl (by decide) x_ hq_ hx_)), hm345, (hC.stay 7 rfl hB343 (fun x_ hq_ hx_ => hC.mm 7 6 rfl rfl (by decide) x_ hq_ hx_)), (hC.stay 8 rfl hB343 (fun x_ hq_ hx_ => hC.mm 8 6 rfl rfl (by decide) x_ hq_ hx_)), (hC.stay 9 rfl hB343 (fun x_ hq_ hx_ => hC.mm 9 6 rfl rfl (by decide) x_ hq_ hx_)), (hC.stay 10 rfl hB343 (fun x_ hq_ hx_ => hC.mm 10 6 rfl rfl (by decide) x_ hq_ hx_)), (hC.stay 11 rfl hB343 (fun x_ hq_ hx_ => hC.mm 11 6 rfl rfl (by decide) x_ hq_ hx_)), (hC.stay 12 rfl hB343 (fun x_ hq_ hx_ => hC.mm 12 6 rfl rfl (by decide) x_ hq_ hx_))⟩)
        refine s_as (v := .int .i64 r342) rfl ?_
        refine dn ?_
        refine wp_seq ?_
        refine sr ?_
        refine s_mv (v := .int .i64 r342) rfl ?_
        refine s_lss rfl rfl ?_
        refine s_mv (v := .bool (decide (r342 < 0))) rfl ?_
        refine bsplit (decide (r342 < 0)) (fun hb346 => ?_) (fun hb346 => ?_)
        ·replace h := ift h (ct hb346)
         refine guardOff (b := true) 2 72 rfl (tr rfl (congrArg _ hb346)) (by decide) ?_
         refine guardOff (b := true) 2 72 rfl (tr rfl (congrArg _ hb346)) (by decide) ?_
         refine guardOff (b := true) 2 72 rfl (tr rfl (congrArg _ hb346)) (by decide) ?_
         refine guardOff (b := true) 2 72 rfl (tr rfl (congrArg _ hb346)) (by decide) ?_
         refine s_pick (v := .bool true) (b := true) (tr rfl (congrArg _ hb346)) rfl ?_
         refine s_mv (v := .bool true) rfl ?_
         refine guardOff (b := true) 8 78 rfl (tr rfl (congrArg _ rfl)) (by decide) ?_
         refine guardOff (b := true) 8 78 rfl (tr rfl (congrArg _ rfl)) (by decide) ?_
         refine guardOff (b := true) 8 78 rfl (tr rfl (congrArg _ rfl)) (by decide) ?_
         refine s_pick (v := .bool true) (b := true) rfl rfl ?_
         refine dn ?_
         refine cw_true rfl rfl ?_
         refine sr ?_
         refine s_as (v := .bool false) rfl ?_
         refine dn ?_
         refine wp_ret (then_ret ?_)
         refine ret1 (fn := Try.f9) rfl ?_ ⟨false, rfl, h, hC.below⟩ (.inl rfl)
         exact res_tmp rfl
        ·replace h := iff_ h (cf hb346)
         refine guardOn 2 72 rfl rfl hb346 ?_
         refine s_loadA hC 3 [u260] rfl ag46 rfl rfl rfl ?_
         refine guardOn 2 72 rfl rfl hb346 ?_
         refine s_loadA hC 10 [u74] rfl ag46 (sx hS_ 3 rfl) rfl rfl ?_
         refine guardOn 2 72 rfl rfl hb346 ?_
         refine s_call [.agg #[u260], .agg #[u74]] _ Try.func36 rfl rfl rfl (c_laws_eqForm (⟨r259.terms⟩ : Vc.Form) (⟨r73.terms⟩ : Vc.Form) h _ (form_mk (own_repE (hC.getM 4 rfl))) (form_mk (hC.getP 0 rfl))) (fun ret347 w349 hR348 => ?_)
         obtain ⟨r350, rfl, h, hB351⟩ := hR348
         refine ⟨_, rfl, ?_⟩
         replace hC := hC.grow hB351
         refine guardOn 2 72 rfl rfl hb346 ?_
         refine s_not rfl ?_
         refine s_pick (v := .bool (!r350)) (b := false) (tr rfl (congrArg _ hb346)) rfl ?_
         refine s_mv (v := .bool (!r350)) rfl ?_
         refine bsplit (!r350) (fun hb352 => ?_) (fun hb352 => ?_)
         ·replace h := ift h (ne_t (not_t hb352))
          refine guardOff (b := true) 8 78 rfl (tr rfl (congrArg _ hb352)) (by decide) ?_
          refine guardOff (b := true) 8 78 rfl (tr rfl (congrArg _ hb352)) (by decide) ?_
          refine guardOff (b := true) 8 78 rfl (tr rfl (congrArg _ hb352)) (by decide) ?_
          refine s_pick (v := .bool true) (b := true) (tr rfl (congrArg _ hb352)) rfl ?_
          refine dn ?_
          refine cw_true rfl rfl ?_
          refine sr ?_
          refine s_as (v := .bool false) rfl ?_
          refine dn ?_
          refine wp_ret (then_ret ?_)
          refine ret1 (fn := Try.f9) rfl ?_ ⟨false, rfl, h, hC.below⟩ (.inl rfl)
          exact res_tmp rfl
         ·replace h := iff_ h (not_not_intro ((not_f hb352)))
          refine guardOn 8 78 rfl rfl hb352 ?_
          refine s_mv (v := .int .i64 r264) rfl ?_
          refine guardOn 8 78 rfl rfl hb352 ?_
          refine s_mv (v := .int .i64 r78) (sx hS_ 4 rfl) ?_
          refine guardOn 8 78 rfl rfl hb352 ?_
          refine s_neq rfl rfl ?_
          refine s_pick (v := .bool (decide (r264 ≠ r78))) (b := false) (tr rfl (congrArg _ hb352)) rfl ?_
          refine dn ?_
          refine cw_false rfl hb280 ?_
          refine wp_skip ?_
          refine then_norm ?_
          refine sr ?_
          refine s_as (v := .int .i64 1) rfl ?_
          refine dn ?_
          refine sr ?_
          refine s_loadA hC 3 [u260] rfl ag46 rfl rfl rfl ?_
          refine s_mv (v := .int .i64 1) rfl ?_
          refine s_call [.agg #[u260], .int .i64 1] _ Try.func38 rfl rfl rfl (c_laws_markForm (⟨r259.terms⟩ : Vc.Form) 1 h _ (hC.getM 4 rfl)) (fun ret353 w355 hR354 => ?_)
          obtain ⟨r356, m358, rfl, h, hm359, hB357⟩ := hR354
          refine ⟨_, rfl, ?_⟩
          replace hC := hC.turnL hB357 (M' := [own 86 9 u316 r315.terms.length (ETerm.encs r315.terms), own 2 1 u288 r287.degrees.length ((EI .i64).encs r287.degrees), Tr.item (Tr.sl 46 (TrForm 86)) r287.images [u289] f295, blk b270 46 [u260], own 86 9 u260 m358.terms.length (ETerm.encs m358.terms), blk b252 46 [u243], own 86 9 u243 m344.terms.length (ETerm.encs m344.terms), blk b235 31 [u220, u221], own 2 1 u220 m336.degrees.length ((EI .i64).encs m336.degrees), Tr.item (Tr.sl 46 (TrForm 86)) m336.images [u221] f227, blk b84 46 [u74], blk b11 39 [u1_0], blk b8 25 [u0_0, u0_1]]) rfl (fun x_ hx_ => ⟨_, List.mem_of_getElem? (i := 4) rfl, hx_⟩) (by simp only [List.mem_cons, List.not_mem_nil, or_false, forall_eq_or_imp, forall_eq]; exact ⟨(hC.stay 0 rfl hB357 (fun x_ hq_ hx_ => hC.mm 0 4 rfl rfl (by decide) x_ hq_ hx_)), (hC.stay 1 rfl hB357 (fun x_ hq_ hx_ => hC.mm 1 4 rfl rfl (by decide) x_ hq_ hx_)), (hC.stay 2 rfl hB357 (fun x_ hq_ hx_ => hC.mm 2 4 rfl rfl (by decide) x_ hq_ hx_)), (hC.stay 3 rfl hB357 (fun x_ hq_ hx_ => hC.mm 3 4 rfl rfl (by decide) x_ hq_ hx_)), hm359, (hC.stay 5 rfl hB357 (fun x_ hq_ hx_ => hC.mm 5 4 rfl rfl (by decide) x_ hq_ hx_)), (hC.stay 6 rfl hB357 (fun x_ hq_ hx_ => hC.mm 6 4 rfl rfl (by decide) x_ hq_ hx_)), (hC.stay 7 rfl hB357 (fun x_ hq_ hx_ => hC.mm 7 4 rfl rfl (by decide) x_ hq_ hx_)), (hC.stay 8 rfl hB357 (fun x_ hq_ hx_ => hC.mm 8 4 rfl rfl (by decide) x_ hq_ hx_)), (hC.stay 9 rfl hB357 (fun x_ hq_ hx_ => hC.mm 9 4 rfl rfl (by decide) x_ hq_ hx_)), (hC.stay 10 rfl hB357 (fun x_ hq_ hx_ => hC.mm 10 4 rfl rfl (by decide) x_ hq_ hx_)), (hC.stay 11 rfl hB357 (fun x_ hq_ hx_ => hC.mm 11 4 rfl rfl (by decide) x_ hq_ hx_)), (hC.stay 12 rfl hB357 (fun x_ hq_ hx_ => hC.mm 12 4 rfl rfl (by decide) x_ hq_ hx_))⟩)
          refine s_as (v := .int .i64 r356) rfl ?_
          refine dn ?_
          refine sr ?_
          refine s_as (v := .int .i64 1) rfl ?_
          refine dn ?_
          refine sr ?_
          refine s_loadA hC 3 [u260] rfl ag46 rfl rfl rfl ?_
          refine s_mv (v := .int .i64 1) rfl ?_
          refine s_call [.agg #[u260], .int .i64 1] _ Try.func39 rfl rfl rfl (c_laws_heldForm (⟨m358.terms⟩ : Vc.Form) 1 h _ (form_mk (own_repE (hC.getM 4 rfl)))) (fun ret360 w362 hR361 => ?_)
          obtain ⟨r363, rfl, h, hB364⟩ := hR361
          refine ⟨_, rfl, ?_⟩
          replace hC := hC.grow hB364
          refine s_as (v := .int .i64 r363) rfl ?_
          refine dn ?_
          refine wp_seq ?_
          refine sr ?_
          refine s_mv (v := .int .i64 r363) rfl ?_
          refine s_lss rfl rfl ?_
          refine dn ?_
          refine cw_cond rfl (fun hb365 => ?_) (fun hb365 => ?_)
          ·replace h := ift h (ct hb365)
           refine sr ?_
           refine s_as (v := .bool false) rfl ?_
           refine dn ?_
           refine wp_ret (then_ret ?_)
           refine ret1 (fn := Try.f9) rfl ?_ ⟨false, rfl, h, hC.below⟩ (.inl rfl)
           exact res_tmp rfl
          ·replace h := iff_ h (cf hb365)
           refine wp_skip ?_
           refine then_norm ?_
           refine wp_seq ?_
           refine sr ?_
           refine s_mv (v := .int .i64 r363) rfl ?_
           refine s_mv (v := .int .i64 r356) rfl ?_
           refine s_neq rfl rfl ?_
           refine dn ?_
           refine cw_cond rfl (fun hb366 => ?_) (fun hb366 => ?_)
           ·replace h := ift h (ct hb366)
            refine sr ?_
            refine s_as (v := .bool false) rfl ?_
            refine dn ?_
            refine wp_ret (then_ret ?_)
            refine ret1 (fn := Try.f9) rfl ?_ ⟨false, rfl, h, hC.below⟩ (.inl rfl)
            exact res_tmp rfl
           ·replace h := iff_ h (cf hb366)
            refine wp_skip ?_
            refine then_norm ?_
            refine wp_seq ?_
            refine cw_draw 9 mixed [0, 1, 0, 7, 15, 31, 63, 63, 0, 383, 1023] [0, 2] [5, 6, 7] (by kernel_rfl) (by kernel_rfl) (by kernel_rfl) (fun hM368 hM369 w367 hB_ => ?_)
            replace hC := hC.grow hB_
            refine ae_look belPre 0 (.agg #[u0_0, u0_1]) rfl rfl (by kernel_rfl) (hM368 0 rfl) (fun w_ hB_ => .inl ⟨rfl, by exact r_loadA (hC.grow hB_) 12 [u0_0, u0_1] rfl ag25 (sx hS_ 0 rfl) rfl rfl⟩) (listed' := (dbits 11 1)) (by kernel_rfl) ?_
            refine ae_look belPre 2 (.agg #[u1_0]) rfl rfl (by kernel_rfl) (hM368 2 rfl) (fun w_ hB_ => .inl ⟨rfl, by exact r_loadA (hC.grow hB_) 11 [u1_0] rfl ag39 (sx hS_ 1 rfl) rfl rfl⟩) (listed' := (dbits 11 5)) (by kernel_rfl) ?_
            refine ae_join (fun e_ w_ => ∃ (b416 : Nat), ∃ (u406 : Value), ∃ (r405 : Vc.Form), ∃ (r410 : Int), Slots e_ [(4, .bool false), (6, .pointer (some ⟨b84, 0, none⟩)), (7, .int .i64 r78), (10, .pointer (some ⟨b270, 0, none⟩)), (13, .int .i64 r356), (14, .int .i64 r363), (15, .pointer (some ⟨b416, 0, none⟩)), (16, .int .i64 r410)] ∧ Ctx Nox w0 w_ [blk b416 46 [u406], own 86 9 u406 r405.terms.length (ETerm.encs r405.terms), blk b270 46 [u260], own 86 9 u260 m358.terms.length (ETerm.encs m358.terms), blk b84 46 [u74]] [Ty.item ETerm.ty.sl r73.terms [u74] f75, Ty.item ETerm.ty.sl a1.terms [u1_0] fp1, Ty.item TForm.sl a0.images [u0_1] fp0, Ty.item ((EI .i64).ty.sl) a0.degrees [u0_0] fp0, Ty.item TAlg a0 [u0_0, u0_1] fp0, Ty.item TForm a1 [u1_0] fp1] ∧ (f_laws_eqForm r405 (⟨r73.terms⟩ : Vc.Form) (fun r523 => (if ¬ (r523 = true) then K false else (if r410 ≠ r78 then K false else f_laws_heldForm (⟨m358.terms⟩ : Vc.Form) 1 (fun r530 => (if r530 < 0 then K false else (if r530 ≠ r356 then K false else K true)))))))) ?_ ?_
            ·clear hC h
             rintro e_ w519 ⟨b416, u406, r405, r410, hS_, hC, h⟩
             refine then_norm ?_
             refine wp_seq ?_
             refine sr ?_
             refine s_loadA hC 0 [u406] rfl ag46 (sx hS_ 6 rfl) rfl rfl ?_
             refine s_loadA hC 4 [u74] rfl ag46 (sx hS_ 1 rfl) rfl rfl ?_
             refine s_call [.agg #[u406], .agg #[u74]] _ Try.func36 rfl rfl rfl (c_laws_eqForm r405 (⟨r73.terms⟩ : Vc.Form) h _ (form_mk (own_repE (hC.getM 1 rfl))) (form_mk (hC.getP 0 rfl))) (fun ret520 w522 hR521 => ?_)
             obtain ⟨r523, rfl, h, hB524⟩ := hR521
             refine ⟨_, rfl, ?_⟩
             replace hC := hC.grow hB524
             refine s_not rfl ?_
             refine s_mv (v := .bool (!r523)) rfl ?_
             refine bsplit (!r523) (fun hb525 => ?_) (fun hb525 => ?_)
             ·replace h := ift h (ne_t (not_t hb525))
              refine guardOff (b := true) 4 106 rfl (tr rfl (congrArg _ hb525)) (by decide) ?_
              refine guardOff (b := true) 4 106 rfl (tr rfl (congrArg _ hb525)) (by decide) ?_
              refine guardOff (b := true) 4 106 rfl (tr rfl (congrArg _ hb525)) (by decide) ?_
              refine s_pick (v := .bool true) (b := true) (tr rfl (congrArg _ hb525)) rfl ?_
              refine dn ?_
              refine cw_true rfl rfl ?_
              refine sr ?_
              refine s_as (v := .bool false) rfl ?_
              refine dn ?_
              refine wp_ret (then_ret ?_)
              refine ret1 (fn := Try.f9) rfl ?_ ⟨false, rfl, h, hC.below⟩ (.inl rfl)
              exact res_tmp rfl
             ·replace h := iff_ h (not_not_intro ((not_f hb525)))
              refine guardOn 4 106 rfl rfl hb525 ?_
              refine s_mv (v := .int .i64 r410) (sx hS_ 7 rfl) ?_
              refine guardOn 4 106 rfl rfl hb525 ?_
              refine s_mv (v := .int .i64 r78) (sx hS_ 2 rfl) ?_
              refine guardOn 4 106 rfl rfl hb525 ?_
              refine s_neq rfl rfl ?_
              refine s_pick (v := .bool (decide (r410 ≠ r78))) (b := false) (tr rfl (congrArg _ hb525)) rfl ?_
              refine dn ?_
              refine cw_cond rfl (fun hb526 => ?_) (fun hb526 => ?_)
              ·replace h := ift h (ct hb526)
               refine sr ?_
               refine s_as (v := .bool false) rfl ?_
               refine dn ?_
               refine wp_ret (then_ret ?_)
               refine ret1 (fn := Try.f9) rfl ?_ ⟨false, rfl, h, hC.below⟩ (.inl rfl)
               exact res_tmp rfl
              ·replace h := iff_ h (cf hb526)
               refine wp_skip ?_
               refine then_norm ?_
               refine sr ?_
               refine s_as (v := .int .i64 1) rfl ?_
               refine dn ?_
               refine sr ?_
               refine s_loadA hC 2 [u260] rfl ag46 (sx hS_ 3 rfl) rfl rfl ?_
               refine s_mv (v := .int .i64 1) rfl ?_
               refine s_call [.agg #[u260], .int .i64 1] _ Try.func39 rfl rfl rfl (c_laws_heldForm (⟨m358.terms⟩ : Vc.Form) 1 h _ (form_mk (own_repE (hC.getM 3 rfl)))) (fun ret527 w529 hR528 => ?_)
               obtain ⟨r530, rfl, h, hB531⟩ := hR528
               refine ⟨_, rfl, ?_⟩
               replace hC := hC.grow hB531
               refine s_as (v := .int .i64 r530) rfl ?_
               refine dn ?_
               refine wp_seq ?_
               refine sr ?_
               refine s_mv (v := .int .i64 r530) rfl ?_
               refine s_lss rfl rfl ?_
               refine dn ?_
               refine cw_cond rfl (fun hb532 => ?_) (fun hb532 => ?_)
               ·replace h := ift h (ct hb532)
                refine sr ?_
                refine s_as (v := .bool false) rfl ?_
                refine dn ?_
                refine wp_ret (then_ret ?_)
                refine ret1 (fn := Try.f9) rfl ?_ ⟨false, rfl, h, hC.below⟩ (.inl rfl)
                exact res_tmp rfl
               ·replace h := iff_ h (cf hb532)
                refine wp_skip ?_
                refine then_norm ?_
                refine wp_seq ?_
                refine sr ?_
                refine s_mv (v := .int .i64 r530) rfl ?_
                refine s_mv (v := .int .i64 r356) (sx hS_ 4 rfl) ?_
                refine s_neq rfl rfl ?_
                refine dn ?_
                refine cw_cond rfl (fun hb533 => ?_) (fun hb533 => ?_)
                ·replace h := ift h (ct hb533)
                 refine sr ?_
                 refine s_as (v := .bool false) rfl ?_
                 refine dn ?_
                 refine wp_ret (then_ret ?_)
                 refine ret1 (fn := Try.f9) rfl ?_ ⟨false, rfl, h, hC.below⟩ (.inl rfl)
                 exact res_tmp rfl
                ·replace h := iff_ h (cf hb533)
                 refine wp_skip ?_
                 refine then_norm ?_
                 refine sr ?_
                 refine s_as (v := .bool true) rfl ?_
                 refine dn ?_
                 refine wp_ret ?_
                 refine ret1 (fn := Try.f9) rfl ?_ ⟨true, rfl, h, hC.below⟩ (.inl rfl)
                 exact res_tmp rfl
            refine ae_two 1 8 rfl rfl (by kernel_rfl) ?_ ?_
            ·skip
             refine s_call [.agg #[u0_0, u0_1]] _ Try.func13 rfl rfl rfl (c_laws_toAlgebra (⟨a0.degrees, a0.images⟩ : Alg) h _ (alg_mk (hC.getP 3 rfl) (hC.getP 2 rfl))) (fun ret534 w536 hR535 => ?_)
             obtain ⟨r537, u538, u539, f540, rfl, h, hr541, hf542, hB543⟩ := hR535
             refine ⟨_, rfl, ?_⟩
             replace hC := hC.push hB543 (Tr.item (TrAlg 2 86 46) r537 [u538, u539] f540) hr541 hf542
             obtain ⟨f545, ho546, ho547, hs548, hs549, hd550⟩ := alg_split (hC.getM 0 rfl)
             replace hC := hC.split (a := own 2 1 u538 r537.degrees.length ((EI .i64).encs r537.degrees)) (b := Tr.item (Tr.sl 46 (TrForm 86)) r537.images [u539] f545) hs548 hs549 ⟨ho546, ho547, hd550⟩
             refine done ?_
             refine ak_intro (by assumption) (listed' := (dbits 11 7)) (by kernel_rfl) ?_
             refine ae_two 3 8 rfl rfl (by kernel_rfl) ?_ ?_
             ·skip
              refine s_call [.agg #[u1_0]] _ Try.func34 rfl rfl rfl (c_laws_toForm (⟨a1.terms⟩ : Vc.Form) h _ (form_mk (hC.getP 1 rfl))) (fun ret553 w555 hR554 => ?_)
              obtain ⟨r556, u557, f558, rfl, h, hr559, hf560, hB561⟩ := hR554
              refine ⟨_, rfl, ?_⟩
              replace hC := hC.push hB561 (Tr.item (TrForm 86) r556 [u557] f558) hr559 hf560
              obtain ⟨ho563, hf564⟩ := form_split (hC.getM 0 rfl)
              subst hf564
              replace hC := hC.recast (c := own 86 9 u557 r556.terms.length (ETerm.encs r556.terms)) (fun _ h_ => h_) (fun _ => ho563)
              refine done ?_
              refine ak_intro (by assumption) (listed' := (dbits 11 15)) (by kernel_rfl) ?_
              refine ae_two 4 8 rfl rfl (by kernel_rfl) ?_ ?_
              ·skip
               refine s_call [.agg #[u538, u539], .agg #[u557]] _ Try.func35 rfl rfl rfl (c_impl_DifferentialOfForm r537 r556 h _ (alg_mk (own_repE (hC.getM 1 rfl)) (Tr.trep _ (hC.getM 2 rfl).1)) (form_mk (own_repE (hC.getM 0 rfl)))) (fun ret566 w568 hR567 => ?_)
               obtain ⟨r569, u570, f571, r574, rfl, h, hr572, hf573, hB575⟩ := hR567
               refine ⟨_, rfl, ?_⟩
               replace hC := hC.push hB575 (Tr.item (TrForm 86) r569 [u570] f571) hr572 hf573
               obtain ⟨ho577, hf578⟩ := form_split (hC.getM 0 rfl)
               subst hf578
               replace hC := hC.recast (c := own 86 9 u570 r569.terms.length (ETerm.encs r569.terms)) (fun _ h_ => h_) (fun _ => ho577)
               refine done ?_
               refine ak_intro (by assumption) (listed' := (dbits 11 31)) (by kernel_rfl) ?_
               refine ae_lookF belPre 5 (.tuple #[.agg #[u570], .int .i64 r574]) rfl rfl (by kernel_rfl) (hM369 5 rfl) (fun w_ => .inl ⟨rfl, by exact r_mv (v := .tuple #[.agg #[u570], .int .i64 r574]) rfl⟩) (listed' := (dbits 11 63)) (by kernel_rfl) ?_
               refine ae_lookF belPre 6 (.agg #[u570]) rfl rfl (by kernel_rfl) (hM369 6 rfl) (fun w_ => .inl ⟨rfl, by exact r_ext (v := .agg #[u570]) rfl rfl⟩) (listed' := (dbits 11 127)) (by kernel_rfl) ?_
               refine ae_lookF belPre 7 (.int .i64 r574) rfl rfl (by kernel_rfl) (hM369 7 rfl) (fun w_ => .inl ⟨rfl, by exact r_ext (v := .int .i64 r574) rfl rfl⟩) (listed' := (dbits 11 255)) (by kernel_rfl) ?_
               refine ae_one 8 rfl (by kernel_rfl) ?_
               refine s_alloc hC [.slice none 0 0] z46 rfl fun b580 w582 hB_ hC => ?_
               refine done ?_
               refine ak_intro (by assumption) (listed' := (dbits 11 511)) (by kernel_rfl) ?_
               refine ae_one 9 rfl (by kernel_rfl) ?_
               refine s_store (v := .agg #[u570]) hC 0 [u570] [u570] rfl ag46.size rfl rfl rfl rfl (all_c (own_oneC (hC.getM 1 rfl)) rfl) (Nat.le_of_ble_eq_true rfl) rfl fun w583 hC => ?_
               refine done ?_
               refine ak_introN (by decide) (listed' := (dbits 11 1023)) (by kernel_rfl) ?_
               refine ae_tail 10 (by decide) (by decide) (by kernel_rfl) (by kernel_rfl) rfl ?_
               refine s_as (v := .int .i64 r574) rfl ?_
               refine done ?_
               refine qn_norm ?_
               replace hC := hC.sel [0, 1, 8, 9, 15] [0, 1, 2, 3, 4, 5] (M' := [blk b580 46 [u570], own 86 9 u570 r569.terms.length (ETerm.encs r569.terms), blk b270 46 [u260], own 86 9 u260 m358.terms.length (ETerm.encs m358.terms), blk b84 46 [u74]]) (Ps' := [Ty.item ETerm.ty.sl r73.terms [u74] f75, Ty.item ETerm.ty.sl a1.terms [u1_0] fp1, Ty.item TForm.sl a0.images [u0_1] fp0, Ty.item ((EI .i64).ty.sl) a0.degrees [u0_0] fp0, Ty.item TAlg a0 [u0_0, u0_1] fp0, Ty.item TForm a1 [u1_0] fp1]) (by decide) rfl rfl
               exact ⟨rfl, _, rfl, ⟨b580, u570, r569, r574, (sk (sx hS_ 2 rfl) (sk (sx hS_ 3 rfl) (sk (sx hS_ 4 rfl) (sk rfl (sk rfl (sk rfl (sk rfl (sk rfl sn)))))))), hC, h⟩⟩
              ·skip
               refine s_alloc hC [.slice none 0 0] z46 rfl fun b584 w586 hB_ hC => ?_
               refine done ?_
               refine ak_intro (by assumption) (listed' := (dbits 11 271)) (by kernel_rfl) ?_
               refine ae_one 4 rfl (by kernel_rfl) ?_
               refine s_call [.agg #[u538, u539], .agg #[u557]] _ Try.func35 rfl rfl rfl (c_impl_DifferentialOfForm r537 r556 h _ (alg_mk (own_repE (hC.getM 2 rfl)) (Tr.trep _ (hC.getM 3 rfl).1)) (form_mk (own_repE (hC.getM 1 rfl)))) (fun ret587 w589 hR588 => ?_)
               obtain ⟨r590, u591, f592, r595, rfl, h, hr593, hf594, hB596⟩ := hR588
               refine ⟨_, rfl, ?_⟩
               replace hC := hC.push hB596 (Tr.item (TrForm 86) r590 [u591] f592) hr593 hf594
               obtain ⟨ho598, hf599⟩ := form_split (hC.getM 0 rfl)
               subst hf599
               replace hC := hC.recast (c := own 86 9 u591 r590.terms.length (ETerm.encs r590.terms)) (fun _ h_ => h_) (fun _ => ho598)
               refine done ?_
               refine ak_intro (by assumption) (listed' := (dbits 11 287)) (by kernel_rfl) ?_
               refine ae_lookF belPre 5 (.tuple #[.agg #[u591], .int .i64 r595]) rfl rfl (by kernel_rfl) (hM369 5 rfl) (fun w_ => .inl ⟨rfl, by exact r_mv (v := .tuple #[.agg #[u591], .int .i64 r595]) rfl⟩) (listed' := (dbits 11 319)) (by kernel_rfl) ?_
               refine ae_lookF belPre 6 (.agg #[u591]) rfl rfl (by kernel_rfl) (hM369 6 rfl) (fun w_ => .inl ⟨rfl, by exact r_ext (v := .agg #[u591]) rfl rfl⟩) (listed' := (dbits 11 383)) (by kernel_rfl) ?_
               refine ae_lookF belPre 7 (.int .i64 r595) rfl rfl (by kernel_rfl) (hM369 7 rfl) (fun w_ => .inl ⟨rfl, by exact r_ext (v := .int .i64 r595) rfl rfl⟩) (listed' := (dbits 11 511)) (by kernel_rfl) ?_
               refine ae_one 9 rfl (by kernel_rfl) ?_
               refine s_store (v := .agg #[u591]) hC 1 [u591] [u591] rfl ag46.size rfl rfl rfl rfl (all_c (own_oneC (hC.getM 0 rfl)) rfl) (Nat.le_of_ble_eq_true rfl) rfl fun w601 hC => ?_
               refine done ?_
               refine ak_introN (by decide) (listed' := (dbits 11 1023)) (by kernel_rfl) ?_
               refine ae_tail 10 (by decide) (by decide) (by kernel_rfl) (by kernel_rfl) rfl ?_
               refine s_as (v := .int .i64 r595) rfl ?_
               refine done ?_
               refine qn_norm ?_
               replace hC := hC.sel [1, 0, 8, 9, 15] [0, 1, 2, 3, 4, 5] (M' := [blk b584 46 [u591], own 86 9 u591 r590.terms.length (ETerm.encs r590.terms), blk b270 46 [u260], own 86 9 u260 m358.terms.length (ETerm.encs m358.terms), blk b84 46 [u74]]) (Ps' := [Ty.item ETerm.ty.sl r73.terms [u74] f75, Ty.item ETerm.ty.sl a1.terms [u1_0] fp1, Ty.item TForm.sl a0.images [u0_1] fp0, Ty.item ((EI .i64).ty.sl) a0.degrees [u0_0] fp0, Ty.item TAlg a0 [u0_0, u0_1] fp0, Ty.item TForm a1 [u1_0] fp1]) (by decide) rfl rfl
               exact ⟨rfl, _, rfl, ⟨b584, u591, r590, r595, (sk (sx hS_ 2 rfl) (sk (sx hS_ 3 rfl) (sk (sx hS_ 4 rfl) (sk rfl (sk rfl (sk rfl (sk rfl (sk rfl sn)))))))), hC, h⟩⟩
             ·skip
              refine s_alloc hC [.slice none 0 0] z46 rfl fun b602 w604 hB_ hC => ?_
              refine done ?_
              refine ak_intro (by assumption) (listed' := (dbits 11 263)) (by kernel_rfl) ?_
              refine ae_one 3 rfl (by kernel_rfl) ?_
              refine s_call [.agg #[u1_0]] _ Try.func34 rfl rfl rfl (c_laws_toForm (⟨a1.terms⟩ : Vc.Form) h _ (form_mk (hC.getP 1 rfl))) (fun ret605 w607 hR606 => ?_)
              obtain ⟨r608, u609, f610, rfl, h, hr611, hf612, hB613⟩ := hR606
              refine ⟨_, rfl, ?_⟩
              replace hC := hC.push hB613 (Tr.item (TrForm 86) r608 [u609] f610) hr611 hf612
              obtain ⟨ho615, hf616⟩ := form_split (hC.getM 0 rfl)
              subst hf616
              replace hC := hC.recast (c := own 86 9 u609 r608.terms.length (ETerm.encs r608.terms)) (fun _ h_ => h_) (fun _ => ho615)
              refine done ?_
              refine ak_intro (by assumption) (listed' := (dbits 11 271)) (by kernel_rfl) ?_
              refine ae_one 4 rfl (by kernel_rfl) ?_
              refine s_call [.agg #[u538, u539], .agg #[u609]] _ Try.func35 rfl rfl rfl (c_impl_DifferentialOfForm r537 r608 h _ (alg_mk (own_repE (hC.getM 2 rfl)) (Tr.trep _ (hC.getM 3 rfl).1)) (form_mk (own_repE (hC.getM 0 rfl)))) (fun ret618 w620 hR619 => ?_)
              obtain ⟨r621, u622, f623, r626, rfl, h, hr624, hf625, hB627⟩ := hR619
              refine ⟨_, rfl, ?_⟩
              replace hC := hC.push hB627 (Tr.item (TrForm 86) r621 [u622] f623) hr624 hf625
              obtain ⟨ho629, hf630⟩ := form_split (hC.getM 0 rfl)
              subst hf630
              replace hC := hC.recast (c := own 86 9 u622 r621.terms.length (ETerm.encs r621.terms)) (fun _ h_ => h_) (fun _ => ho629)
              refine done ?_
              refine ak_intro (by assumption) (listed' := (dbits 11 287)) (by kernel_rfl) ?_
              refine ae_lookF belPre 5 (.tuple #[.agg #[u622], .int .i64 r626]) rfl rfl (by kernel_rfl) (hM369 5 rfl) (fun w_ => .inl ⟨rfl, by exact r_mv (v := .tuple #[.agg #[u622], .int .i64 r626]) rfl⟩) (listed' := (dbits 11 319)) (by kernel_rfl) ?_
              refine ae_lookF belPre 6 (.agg #[u622]) rfl rfl (by kernel_rfl) (hM369 6 rfl) (fun w_ => .inl ⟨rfl, by exact r_ext (v := .agg #[u622]) rfl rfl⟩) (listed' := (dbits 11 383)) (by kernel_rfl) ?_
              refine ae_lookF belPre 7 (.int .i64 r626) rfl rfl (by kernel_rfl) (hM369 7 rfl) (fun w_ => .inl ⟨rfl, by exact r_ext (v := .int .i64 r626) rfl rfl⟩) (listed' := (dbits 11 511)) (by kernel_rfl) ?_
              refine ae_one 9 rfl (by kernel_rfl) ?_
              refine s_store (v := .agg #[u622]) hC 2 [u622] [u622] rfl ag46.size rfl rfl rfl rfl (all_c (own_oneC (hC.getM 0 rfl)) rfl) (Nat.le_of_ble_eq_true rfl) rfl fun w632 hC => ?_
              refine done ?_
              refine ak_introN (by decide) (listed' := (dbits 11 1023)) (by kernel_rfl) ?_
              refine ae_tail 10 (by decide) (by decide) (by kernel_rfl) (by kernel_rfl) rfl ?_
              refine s_as (v := .int .i64 r626) rfl ?_
              refine done ?_
              refine qn_norm ?_
              replace hC := hC.sel [2, 0, 8, 9, 15] [0, 1, 2, 3, 4, 5] (M' := [blk b602 46 [u622], own 86 9 u622 r621.terms.length (ETerm.encs r621.terms), blk b270 46 [u260], own 86 9 u260 m358.terms.length (ETerm.encs m358.terms), blk b84 46 [u74]]) (Ps' := [Ty.item ETerm.ty.sl r73.terms [u74] f75, Ty.item ETerm.ty.sl a1.terms [u1_0] fp1, Ty.item TForm.sl a0.images [u0_1] fp0, Ty.item ((EI .i64).ty.sl) a0.degrees [u0_0] fp0, Ty.item TAlg a0 [u0_0, u0_1] fp0, Ty.item TForm a1 [u1_0] fp1]) (by decide) rfl rfl
              exact ⟨rfl, _, rfl, ⟨b602, u622, r621, r626, (sk (sx hS_ 2 rfl) (sk (sx hS_ 3 rfl) (sk (sx hS_ 4 rfl) (sk rfl (sk rfl (sk rfl (sk rfl (sk rfl sn)))))))), hC, h⟩⟩
            ·skip
             refine s_alloc hC [.slice none 0 0] z46 rfl fun b633 w635 hB_ hC => ?_
             refine done ?_
             refine ak_intro (by assumption) (listed' := (dbits 11 261)) (by kernel_rfl) ?_
             refine ae_one 1 rfl (by kernel_rfl) ?_
             refine s_call [.agg #[u0_0, u0_1]] _ Try.func13 rfl rfl rfl (c_laws_toAlgebra (⟨a0.degrees, a0.images⟩ : Alg) h _ (alg_mk (hC.getP 3 rfl) (hC.getP 2 rfl))) (fun ret636 w638 hR637 => ?_)
             obtain ⟨r639, u640, u641, f642, rfl, h, hr643, hf644, hB645⟩ := hR637
             refine ⟨_, rfl, ?_⟩
             replace hC := hC.push hB645 (Tr.item (TrAlg 2 86 46) r639 [u640, u641] f642) hr643 hf644
             obtain ⟨f647, ho648, ho649, hs650, hs651, hd652⟩ := alg_split (hC.getM 0 rfl)
             replace hC := hC.split (a := own 2 1 u640 r639.degrees.length ((EI .i64).encs r639.degrees)) (b := Tr.item (Tr.sl 46 (TrForm 86)) r639.images [u641] f647) hs650 hs651 ⟨ho648, ho649, hd652⟩
             refine done ?_
             refine ak_intro (by assumption) (listed' := (dbits 11 263)) (by kernel_rfl) ?_
             refine ae_one 3 rfl (by kernel_rfl) ?_
             refine s_call [.agg #[u1_0]] _ Try.func34 rfl rfl rfl (c_laws_toForm (⟨a1.terms⟩ : Vc.Form) h _ (form_mk (hC.getP 1 rfl))) (fun ret655 w657 hR656 => ?_)
             obtain ⟨r658, u659, f660, rfl, h, hr661, hf662, hB663⟩ := hR656
             refine ⟨_, rfl, ?_⟩
             replace hC := hC.push hB663 (Tr.item (TrForm 86) r658 [u659] f660) hr661 hf662
             obtain ⟨ho665, hf666⟩ := form_split (hC.getM 0 rfl)
             subst hf666
             replace hC := hC.recast (c := own 86 9 u659 r658.terms.length (ETerm.encs r658.terms)) (fun _ h_ => h_) (fun _ => ho665)
             refine done ?_
             refine ak_intro (by assumption) (listed' := (dbits 11 271)) (by kernel_rfl) ?_
             refine ae_one 4 rfl (by kernel_rfl) ?_
             refine s_call [.agg #[u640, u641], .agg #[u659]] _ Try.func35 rfl rfl rfl (c_impl_DifferentialOfForm r639 r658 h _ (alg_mk (own_repE (hC.getM 1 rfl)) (Tr.trep _ (hC.getM 2 rfl).1)) (form_mk (own_repE (hC.getM 0 rfl)))) (fun ret668 w670 hR669 => ?_)
             obtain ⟨r671, u672, f673, r676, rfl, h, hr674, hf675, hB677⟩ := hR669
             refine ⟨_, rfl, ?_⟩
             replace hC := hC.push hB677 (Tr.item (TrForm 86) r671 [u672] f673) hr674 hf675
             obtain ⟨ho679, hf680⟩ := form_split (hC.getM 0 rfl)
             subst hf680
             replace hC := hC.recast (c := own 86 9 u672 r671.terms.length (ETerm.encs r671.terms)) (fun _ h_ => h_) (fun _ => ho679)
             refine done ?_
             refine ak_intro (by assumption) (listed' := (dbits 11 287)) (by kernel_rfl) ?_
             refine ae_lookF belPre 5 (.tuple #[.agg #[u672], .int .i64 r676]) rfl rfl (by kernel_rfl) (hM369 5 rfl) (fun w_ => .inl ⟨rfl, by exact r_mv (v := .tuple #[.agg #[u672], .int .i64 r676]) rfl⟩) (listed' := (dbits 11 319)) (by kernel_rfl) ?_
             refine ae_lookF belPre 6 (.agg #[u672]) rfl rfl (by kernel_rfl) (hM369 6 rfl) (fun w_ => .inl ⟨rfl, by exact r_ext (v := .agg #[u672]) rfl rfl⟩) (listed' := (dbits 11 383)) (by kernel_rfl) ?_
             refine ae_lookF belPre 7 (.int .i64 r676) rfl rfl (by kernel_rfl) (hM369 7 rfl) (fun w_ => .inl ⟨rfl, by exact r_ext (v := .int .i64 r676) rfl rfl⟩) (listed' := (dbits 11 511)) (by kernel_rfl) ?_
             refine ae_one 9 rfl (by kernel_rfl) ?_
             refine s_store (v := .agg #[u672]) hC 4 [u672] [u672] rfl ag46.size rfl rfl rfl rfl (all_c (own_oneC (hC.getM 0 rfl)) rfl) (Nat.le_of_ble_eq_true rfl) rfl fun w682 hC => ?_
             refine done ?_
             refine ak_introN (by decide) (listed' := (dbits 11 1023)) (by kernel_rfl) ?_
             refine ae_tail 10 (by decide) (by decide) (by kernel_rfl) (by kernel_rfl) rfl ?_
             refine s_as (v := .int .i64 r676) rfl ?_
             refine done ?_
             refine qn_norm ?_
             replace hC := hC.sel [4, 0, 8, 9, 15] [0, 1, 2, 3, 4, 5] (M' := [blk b633 46 [u672], own 86 9 u672 r671.terms.length (ETerm.encs r671.terms), blk b270 46 [u260], own 86 9 u260 m358.terms.length (ETerm.encs m358.terms), blk b84 46 [u74]]) (Ps' := [Ty.item ETerm.ty.sl r73.terms [u74] f75, Ty.item ETerm.ty.sl a1.terms [u1_0] fp1, Ty.item TForm.sl a0.images [u0_1] fp0, Ty.item ((EI .i64).ty.sl) a0.degrees [u0_0] fp0, Ty.item TAlg a0 [u0_0, u0_1] fp0, Ty.item TForm a1 [u1_0] fp1]) (by decide) rfl rfl
             exact ⟨rfl, _, rfl, ⟨b633, u672, r671, r676, (sk (sx hS_ 2 rfl) (sk (sx hS_ 3 rfl) (sk (sx hS_ 4 rfl) (sk rfl (sk rfl (sk rfl (sk rfl (sk rfl sn)))))))), hC, h⟩⟩
   refine ae_two 1 8 rfl rfl (by kernel_rfl) ?_ ?_
   ·skip
    refine s_call [.agg #[u0_0, u0_1]] _ Try.func13 rfl rfl rfl (c_laws_toAlgebra a0 h _ (alg_mk (hC.getP 2 rfl) (hC.getP 1 rfl))) (fun ret683 w685 hR684 => ?_)
    obtain ⟨r686, u687, u688, f689, rfl, h, hr690, hf691, hB692⟩ := hR684
    refine ⟨_, rfl, ?_⟩
    replace hC := hC.push hB692 (Tr.item (TrAlg 2 86 46) r686 [u687, u688] f689) hr690 hf691
    obtain ⟨f694, ho695, ho696, hs697, hs698, hd699⟩ := alg_split (hC.getM 0 rfl)
    replace hC := hC.split (a := own 2 1 u687 r686.degrees.length ((EI .i64).encs r686.degrees)) (b := Tr.item (Tr.sl 46 (TrForm 86)) r686.images [u688] f694) hs697 hs698 ⟨ho695, ho696, hd699⟩
    refine done ?_
    refine ak_intro (by assumption) (listed' := (dbits 11 7)) (by kernel_rfl) ?_
    refine ae_two 3 8 rfl rfl (by kernel_rfl) ?_ ?_
    ·skip
     refine s_call [.agg #[u1_0]] _ Try.func34 rfl rfl rfl (c_laws_toForm a1 h _ (form_mk (hC.getP 0 rfl))) (fun ret702 w704 hR703 => ?_)
     obtain ⟨r705, u706, f707, rfl, h, hr708, hf709, hB710⟩ := hR703
     refine ⟨_, rfl, ?_⟩
     replace hC := hC.push hB710 (Tr.item (TrForm 86) r705 [u706] f707) hr708 hf709
     obtain ⟨ho712, hf713⟩ := form_split (hC.getM 0 rfl)
     subst hf713
     replace hC := hC.recast (c := own 86 9 u706 r705.terms.length (ETerm.encs r705.terms)) (fun _ h_ => h_) (fun _ => ho712)
     refine done ?_
     refine ak_intro (by assumption) (listed' := (dbits 11 15)) (by kernel_rfl) ?_
     refine ae_two 4 8 rfl rfl (by kernel_rfl) ?_ ?_
     ·skip
      have hs718 := own_fresh hC 1 rfl
      replace hC := hC.thaw 1 rfl (Ty.item ((EI .i64).ty.sl) r686.degrees [u687] (Option.toList (Value.ownBlock u687))) own_repE (fun _ hb_ => hb_)
      have hs720 := tr_fresh hC 1 rfl
      replace hC := hC.thaw 1 rfl (Ty.item TForm.sl r686.images [u688] f694) (fun h_ => Tr.trep _ h_.1) (fun _ hb_ => hb_)
      have hs722 := own_fresh hC 0 rfl
      replace hC := hC.thaw 0 rfl (Ty.item ETerm.ty.sl r705.terms [u706] (Option.toList (Value.ownBlock u706))) own_repE (fun _ hb_ => hb_)
      refine s_call [.agg #[u687, u688], .agg #[u706]] _ Try.func33 rfl rfl rfl (c_spec_DifferentialOfForm (⟨r686.degrees, r686.images⟩ : Alg) (⟨r705.terms⟩ : Vc.Form) h _ (alg_mk (hC.getP 2 rfl) (hC.getP 1 rfl)) (form_mk (hC.getP 0 rfl))) (fun ret724 w726 hR725 => ?_)
      obtain ⟨r727, u728, f729, r732, rfl, h, hr730, hf731, hB733⟩ := hR725
      refine ⟨_, rfl, ?_⟩
      have hs734 : ∀ b, b ∈ f729 → w0.heap.size ≤ b ∨ b ∈ (fp0 ++ (fp1)) := (fun b hb => (hf731 b hb).elim (fun h_ => .inl (Nat.le_trans hC.size h_)) (fun hb => (List.mem_append.1 hb).elim (fun hb => (List.mem_append.1 hb).elim (fun hb => .inl (hs718 b hb)) (fun hb => .inl (hs720 b hb))) (fun hb => .inl (hs722 b hb))))
      replace hC := hC.pushR hB733 (Ty.item TForm r727 [u728] f729) hr730 (fun b hb => (hf731 b hb).elim .inl (fun hb => .inr ((List.mem_append.1 hb).elim (fun hb => (List.mem_append.1 hb).elim (fun hb => ⟨_, List.mem_of_getElem? (i := 2) rfl, hb⟩) (fun hb => ⟨_, List.mem_of_getElem? (i := 1) rfl, hb⟩)) (fun hb => ⟨_, List.mem_of_getElem? (i := 0) rfl, hb⟩))))
      have hp736 := (hC.getP 0 rfl)
      replace hC := hC.derive 0 rfl (Ty.item ETerm.ty.sl r727.terms [u728] f729) (fun _ => (form_parts hp736)) (fun _ hb_ => hb_)
      refine done ?_
      refine ak_intro (by assumption) (listed' := (dbits 11 31)) (by kernel_rfl) ?_
      refine ae_lookF belPre 5 (.tuple #[.agg #[u728], .int .i64 r732]) rfl rfl (by kernel_rfl) (hM28 5 rfl) (fun w_ => .inl ⟨rfl, by exact r_mv (v := .tuple #[.agg #[u728], .int .i64 r732]) rfl⟩) (listed' := (dbits 11 63)) (by kernel_rfl) ?_
      refine ae_lookF belPre 6 (.agg #[u728]) rfl rfl (by kernel_rfl) (hM28 6 rfl) (fun w_ => .inl ⟨rfl, by exact r_ext (v := .agg #[u728]) rfl rfl⟩) (listed' := (dbits 11 127)) (by kernel_rfl) ?_
      refine ae_lookF belPre 7 (.int .i64 r732) rfl rfl (by kernel_rfl) (hM28 7 rfl) (fun w_ => .inl ⟨rfl, by exact r_ext (v := .int .i64 r732) rfl rfl⟩) (listed' := (dbits 11 255)) (by kernel_rfl) ?_
      refine ae_one 8 rfl (by kernel_rfl) ?_
      refine s_alloc hC [.slice none 0 0] z46 rfl fun b738 w740 hB_ hC => ?_
      refine done ?_
      refine ak_intro (by assumption) (listed' := (dbits 11 511)) (by kernel_rfl) ?_
      refine ae_one 9 rfl (by kernel_rfl) ?_
      refine s_store (v := .agg #[u728]) hC 0 [u728] [u728] rfl ag46.size rfl rfl rfl rfl (all_c (rep_oneC (hC.getP 0 rfl)) rfl) (Nat.le_of_ble_eq_true rfl) rfl fun w741 hC => ?_
      refine done ?_
      refine ak_introN (by decide) (listed' := (dbits 11 1023)) (by kernel_rfl) ?_
      refine ae_tail 10 (by decide) (by decide) (by kernel_rfl) (by kernel_rfl) rfl ?_
      refine s_as (v := .int .i64 r732) rfl ?_
      refine done ?_
      refine qn_norm ?_
      replace hC := hC.sel [0, 1, 2] [0, 5, 6, 7, 8, 9] (M' := [blk b738 46 [u728], blk b11 39 [u1_0], blk b8 25 [u0_0, u0_1]]) (Ps' := [Ty.item ETerm.ty.sl r727.terms [u728] f729, Ty.item ETerm.ty.sl a1.terms [u1_0] fp1, Ty.item TForm.sl a0.images [u0_1] fp0, Ty.item ((EI .i64).ty.sl) a0.degrees [u0_0] fp0, Ty.item TAlg a0 [u0_0, u0_1] fp0, Ty.item TForm a1 [u1_0] fp1]) (by decide) rfl rfl
      exact ⟨rfl, _, rfl, ⟨b738, u728, r727, f729, r732, (sk rfl (sk rfl (sk rfl (sk rfl (sk rfl sn))))), hs734, hC, h⟩⟩
     ·skip
      refine s_alloc hC [.slice none 0 0] z46 rfl fun b742 w744 hB_ hC => ?_
      refine done ?_
      refine ak_intro (by assumption) (listed' := (dbits 11 271)) (by kernel_rfl) ?_
      refine ae_one 4 rfl (by kernel_rfl) ?_
      have hs748 := own_fresh hC 2 rfl
      replace hC := hC.thaw 2 rfl (Ty.item ((EI .i64).ty.sl) r686.degrees [u687] (Option.toList (Value.ownBlock u687))) own_repE (fun _ hb_ => hb_)
      have hs750 := tr_fresh hC 2 rfl
      replace hC := hC.thaw 2 rfl (Ty.item TForm.sl r686.images [u688] f694) (fun h_ => Tr.trep _ h_.1) (fun _ hb_ => hb_)
      have hs752 := own_fresh hC 1 rfl
      replace hC := hC.thaw 1 rfl (Ty.item ETerm.ty.sl r705.terms [u706] (Option.toList (Value.ownBlock u706))) own_repE (fun _ hb_ => hb_)
      refine s_call [.agg #[u687, u688], .agg #[u706]] _ Try.func33 rfl rfl rfl (c_spec_DifferentialOfForm (⟨r686.degrees, r686.images⟩ : Alg) (⟨r705.terms⟩ : Vc.Form) h _ (alg_mk (hC.getP 2 rfl) (hC.getP 1 rfl)) (form_mk (hC.getP 0 rfl))) (fun ret754 w756 hR755 => ?_)
      obtain ⟨r757, u758, f759, r762, rfl, h, hr760, hf761, hB763⟩ := hR755
      refine ⟨_, rfl, ?_⟩
      have hs764 : ∀ b, b ∈ f759 → w0.heap.size ≤ b ∨ b ∈ (fp0 ++ (fp1)) := (fun b hb => (hf761 b hb).elim (fun h_ => .inl (Nat.le_trans hC.size h_)) (fun hb => (List.mem_append.1 hb).elim (fun hb => (List.mem_append.1 hb).elim (fun hb => .inl (hs748 b hb)) (fun hb => .inl (hs750 b hb))) (fun hb => .inl (hs752 b hb))))
      replace hC := hC.pushR hB763 (Ty.item TForm r757 [u758] f759) hr760 (fun b hb => (hf761 b hb).elim .inl (fun hb => .inr ((List.mem_append.1 hb).elim (fun hb => (List.mem_append.1 hb).elim (fun hb => ⟨_, List.mem_of_getElem? (i := 2) rfl, hb⟩) (fun hb => ⟨_, List.mem_of_getElem? (i := 1) rfl, hb⟩)) (fun hb => ⟨_, List.mem_of_getElem? (i := 0) rfl, hb⟩))))
      have hp766 := (hC.getP 0 rfl)
      replace hC := hC.derive 0 rfl (Ty.item ETerm.ty.sl r757.terms [u758] f759) (fun _ => (form_parts hp766)) (fun _ hb_ => hb_)
      refine done ?_
      refine ak_intro (by assumption) (listed' := (dbits 11 287)) (by kernel_rfl) ?_
      refine ae_lookF belPre 5 (.tuple #[.agg #[u758], .int .i64 r762]) rfl rfl (by kernel_rfl) (hM28 5 rfl) (fun w_ => .inl ⟨rfl, by exact r_mv (v := .tuple #[.agg #[u758], .int .i64 r762]) rfl⟩) (listed' := (dbits 11 319)) (by kernel_rfl) ?_
      refine ae_lookF belPre 6 (.agg #[u758]) rfl rfl (by kernel_rfl) (hM28 6 rfl) (fun w_ => .inl ⟨rfl, by exact r_ext (v := .agg #[u758]) rfl rfl⟩) (listed' := (dbits 11 383)) (by kernel_rfl) ?_
      refine ae_lookF belPre 7 (.int .i64 r762) rfl rfl (by kernel_rfl) (hM28 7 rfl) (fun w_ => .inl ⟨rfl, by exact r_ext (v := .int .i64 r762) rfl rfl⟩) (listed' := (dbits 11 511)) (by kernel_rfl) ?_
      refine ae_one 9 rfl (by kernel_rfl) ?_
      refine s_store (v := .agg #[u758]) hC 0 [u758] [u758] rfl ag46.size rfl rfl rfl rfl (all_c (rep_oneC (hC.getP 0 rfl)) rfl) (Nat.le_of_ble_eq_true rfl) rfl fun w768 hC => ?_
      refine done ?_
      refine ak_introN (by decide) (listed' := (dbits 11 1023)) (by kernel_rfl) ?_
      refine ae_tail 10 (by decide) (by decide) (by kernel_rfl) (by kernel_rfl) rfl ?_
      refine s_as (v := .int .i64 r762) rfl ?_
      refine done ?_
      refine qn_norm ?_
      replace hC := hC.sel [0, 1, 2] [0, 5, 6, 7, 8, 9] (M' := [blk b742 46 [u758], blk b11 39 [u1_0], blk b8 25 [u0_0, u0_1]]) (Ps' := [Ty.item ETerm.ty.sl r757.terms [u758] f759, Ty.item ETerm.ty.sl a1.terms [u1_0] fp1, Ty.item TForm.sl a0.images [u0_1] fp0, Ty.item ((EI .i64).ty.sl) a0.degrees [u0_0] fp0, Ty.item TAlg a0 [u0_0, u0_1] fp0, Ty.item TForm a1 [u1_0] fp1]) (by decide) rfl rfl
      exact ⟨rfl, _, rfl, ⟨b742, u758, r757, f759, r762, (sk rfl (sk rfl (sk rfl (sk rfl (sk rfl sn))))), hs764, hC, h⟩⟩
    ·skip
     refine s_alloc hC [.slice none 0 0] z46 rfl fun b769 w771 hB_ hC => ?_
     refine done ?_
     refine ak_intro (by assumption) (listed' := (dbits 11 263)) (by kernel_rfl) ?_
     refine ae_one 3 rfl (by kernel_rfl) ?_
     refine s_call [.agg #[u1_0]] _ Try.func34 rfl rfl rfl (c_laws_toForm a1 h _ (form_mk (hC.getP 0 rfl))) (fun ret772 w774 hR773 => ?_)
     obtain ⟨r775, u776, f777, rfl, h, hr778, hf779, hB780⟩ := hR773
     refine ⟨_, rfl, ?_⟩
     replace hC := hC.push hB780 (Tr.item (TrForm 86) r775 [u776] f777) hr778 hf779
     obtain ⟨ho782, hf783⟩ := form_split (hC.getM 0 rfl)
     subst hf783
     replace hC := hC.recast (c := own 86 9 u776 r775.terms.length (ETerm.encs r775.terms)) (fun _ h_ => h_) (fun _ => ho782)
     refine done ?_
     refine ak_intro (by assumption) (listed' := (dbits 11 271)) (by kernel_rfl) ?_
     refine ae_one 4 rfl (by kernel_rfl) ?_
     have hs788 := own_fresh hC 2 rfl
     replace hC := hC.thaw 2 rfl (Ty.item ((EI .i64).ty.sl) r686.degrees [u687] (Option.toList (Value.ownBlock u687))) own_repE (fun _ hb_ => hb_)
     have hs790 := tr_fresh hC 2 rfl
     replace hC := hC.thaw 2 rfl (Ty.item TForm.sl r686.images [u688] f694) (fun h_ => Tr.trep _ h_.1) (fun _ hb_ => hb_)
     have hs792 := own_fresh hC 0 rfl
     replace hC := hC.thaw 0 rfl (Ty.item ETerm.ty.sl r775.terms [u776] (Option.toList (Value.ownBlock u776))) own_repE (fun _ hb_ => hb_)
     refine s_call [.agg #[u687, u688], .agg #[u776]] _ Try.func33 rfl rfl rfl (c_spec_DifferentialOfForm (⟨r686.degrees, r686.images⟩ : Alg) (⟨r775.terms⟩ : Vc.Form) h _ (alg_mk (hC.getP 2 rfl) (hC.getP 1 rfl)) (form_mk (hC.getP 0 rfl))) (fun ret794 w796 hR795 => ?_)
     obtain ⟨r797, u798, f799, r802, rfl, h, hr800, hf801, hB803⟩ := hR795
     refine ⟨_, rfl, ?_⟩
     have hs804 : ∀ b, b ∈ f799 → w0.heap.size ≤ b ∨ b ∈ (fp0 ++ (fp1)) := (fun b hb => (hf801 b hb).elim (fun h_ => .inl (Nat.le_trans hC.size h_)) (fun hb => (List.mem_append.1 hb).elim (fun hb => (List.mem_append.1 hb).elim (fun hb => .inl (hs788 b hb)) (fun hb => .inl (hs790 b hb))) (fun hb => .inl (hs792 b hb))))
     replace hC := hC.pushR hB803 (Ty.item TForm r797 [u798] f799) hr800 (fun b hb => (hf801 b hb).elim .inl (fun hb => .inr ((List.mem_append.1 hb).elim (fun hb => (List.mem_append.1 hb).elim (fun hb => ⟨_, List.mem_of_getElem? (i := 2) rfl, hb⟩) (fun hb => ⟨_, List.mem_of_getElem? (i := 1) rfl, hb⟩)) (fun hb => ⟨_, List.mem_of_getElem? (i := 0) rfl, hb⟩))))
     have hp806 := (hC.getP 0 rfl)
     replace hC := hC.derive 0 rfl (Ty.item ETerm.ty.sl r797.terms [u798] f799) (fun _ => (form_parts hp806)) (fun _ hb_ => hb_)
     refine done ?_
     refine ak_intro (by assumption) (listed' := (dbits 11 287)) (by kernel_rfl) ?_
     refine ae_lookF belPre 5 (.tuple #[.agg #[u798], .int .i64 r802]) rfl rfl (by kernel_rfl) (hM28 5 rfl) (fun w_ => .inl ⟨rfl, by exact r_mv (v := .tuple #[.agg #[u798], .int .i64 r802]) rfl⟩) (listed' := (dbits 11 319)) (by kernel_rfl) ?_
     refine ae_lookF belPre 6 (.agg #[u798]) rfl rfl (by kernel_rfl) (hM28 6 rfl) (fun w_ => .inl ⟨rfl, by exact r_ext (v := .agg #[u798]) rfl rfl⟩) (listed' := (dbits 11 383)) (by kernel_rfl) ?_
     refine ae_lookF belPre 7 (.int .i64 r802) rfl rfl (by kernel_rfl) (hM28 7 rfl) (fun w_ => .inl ⟨rfl, by exact r_ext (v := .int .i64 r802) rfl rfl⟩) (listed' := (dbits 11 511)) (by kernel_rfl) ?_
     refine ae_one 9 rfl (by kernel_rfl) ?_
     refine s_store (v := .agg #[u798]) hC 0 [u798] [u798] rfl ag46.size rfl rfl rfl rfl (all_c (rep_oneC (hC.getP 0 rfl)) rfl) (Nat.le_of_ble_eq_true rfl) rfl fun w808 hC => ?_
     refine done ?_
     refine ak_introN (by decide) (listed' := (dbits 11 1023)) (by kernel_rfl) ?_
     refine ae_tail 10 (by decide) (by decide) (by kernel_rfl) (by kernel_rfl) rfl ?_
     refine s_as (v := .int .i64 r802) rfl ?_
     refine done ?_
     refine qn_norm ?_
     replace hC := hC.sel [0, 1, 2] [0, 5, 6, 7, 8, 9] (M' := [blk b769 46 [u798], blk b11 39 [u1_0], blk b8 25 [u0_0, u0_1]]) (Ps' := [Ty.item ETerm.ty.sl r797.terms [u798] f799, Ty.item ETerm.ty.sl a1.terms [u1_0] fp1, Ty.item TForm.sl a0.images [u0_1] fp0, Ty.item ((EI .i64).ty.sl) a0.degrees [u0_0] fp0, Ty.item TAlg a0 [u0_0, u0_1] fp0, Ty.item TForm a1 [u1_0] fp1]) (by decide) rfl rfl
     exact ⟨rfl, _, rfl, ⟨b769, u798, r797, f799, r802, (sk rfl (sk rfl (sk rfl (sk rfl (sk rfl sn))))), hs804, hC, h⟩⟩
   ·skip
    refine s_alloc hC [.slice none 0 0] z46 rfl fun b809 w811 hB_ hC => ?_
    refine done ?_
    refine ak_intro (by assumption) (listed' := (dbits 11 261)) (by kernel_rfl) ?_
    refine ae_one 1 rfl (by kernel_rfl) ?_
    refine s_call [.agg #[u0_0, u0_1]] _ Try.func13 rfl rfl rfl (c_laws_toAlgebra a0 h _ (alg_mk (hC.getP 2 rfl) (hC.getP 1 rfl))) (fun ret812 w814 hR813 => ?_)
    obtain ⟨r815, u816, u817, f818, rfl, h, hr819, hf820, hB821⟩ := hR813
    refine ⟨_, rfl, ?_⟩
    replace hC := hC.push hB821 (Tr.item (TrAlg 2 86 46) r815 [u816, u817] f818) hr819 hf820
    obtain ⟨f823, ho824, ho825, hs826, hs827, hd828⟩ := alg_split (hC.getM 0 rfl)
    replace hC := hC.split (a := own 2 1 u816 r815.degrees.length ((EI .i64).encs r815.degrees)) (b := Tr.item (Tr.sl 46 (TrForm 86)) r815.images [u817] f823) hs826 hs827 ⟨ho824, ho825, hd828⟩
    refine done ?_
    refine ak_intro (by assumption) (listed' := (dbits 11 263)) (by kernel_rfl) ?_
    refine ae_one 3 rfl (by kernel_rfl) ?_
    refine s_call [.agg #[u1_0]] _ Try.func34 rfl rfl rfl (c_laws_toForm a1 h _ (form_mk (hC.getP 0 rfl))) (fun ret831 w833 hR832 => ?_)
    obtain ⟨r834, u835, f836, rfl, h, hr837, hf838, hB839⟩ := hR832
    refine ⟨_, rfl, ?_⟩
    replace hC := hC.push hB839 (Tr.item (TrForm 86) r834 [u835] f836) hr837 hf838
    obtain ⟨ho841, hf842⟩ := form_split (hC.getM 0 rfl)
    subst hf842
    replace hC := hC.recast (c := own 86 9 u835 r834.terms.length (ETerm.encs r834.terms)) (fun _ h_ => h_) (fun _ => ho841)
    refine done ?_
    refine ak_intro (by assumption) (listed' := (dbits 11 271)) (by kernel_rfl) ?_
    refine ae_one 4 rfl (by kernel_rfl) ?_
    have hs847 := own_fresh hC 1 rfl
    replace hC := hC.thaw 1 rfl (Ty.item ((EI .i64).ty.sl) r815.degrees [u816] (Option.toList (Value.ownBlock u816))) own_repE (fun _ hb_ => hb_)
    have hs849 := tr_fresh hC 1 rfl
    replace hC := hC.thaw 1 rfl (Ty.item TForm.sl r815.images [u817] f823) (fun h_ => Tr.trep _ h_.1) (fun _ hb_ => hb_)
    have hs851 := own_fresh hC 0 rfl
    replace hC := hC.thaw 0 rfl (Ty.item ETerm.ty.sl r834.terms [u835] (Option.toList (Value.ownBlock u835))) own_repE (fun _ hb_ => hb_)
    refine s_call [.agg #[u816, u817], .agg #[u835]] _ Try.func33 rfl rfl rfl (c_spec_DifferentialOfForm (⟨r815.degrees, r815.images⟩ : Alg) (⟨r834.terms⟩ : Vc.Form) h _ (alg_mk (hC.getP 2 rfl) (hC.getP 1 rfl)) (form_mk (hC.getP 0 rfl))) (fun ret853 w855 hR854 => ?_)
    obtain ⟨r856, u857, f858, r861, rfl, h, hr859, hf860, hB862⟩ := hR854
    refine ⟨_, rfl, ?_⟩
    have hs863 : ∀ b, b ∈ f858 → w0.heap.size ≤ b ∨ b ∈ (fp0 ++ (fp1)) := (fun b hb => (hf860 b hb).elim (fun h_ => .inl (Nat.le_trans hC.size h_)) (fun hb => (List.mem_append.1 hb).elim (fun hb => (List.mem_append.1 hb).elim (fun hb => .inl (hs847 b hb)) (fun hb => .inl (hs849 b hb))) (fun hb => .inl (hs851 b hb))))
    replace hC := hC.pushR hB862 (Ty.item TForm r856 [u857] f858) hr859 (fun b hb => (hf860 b hb).elim .inl (fun hb => .inr ((List.mem_append.1 hb).elim (fun hb => (List.mem_append.1 hb).elim (fun hb => ⟨_, List.mem_of_getElem? (i := 2) rfl, hb⟩) (fun hb => ⟨_, List.mem_of_getElem? (i := 1) rfl, hb⟩)) (fun hb => ⟨_, List.mem_of_getElem? (i := 0) rfl, hb⟩))))
    have hp865 := (hC.getP 0 rfl)
    replace hC := hC.derive 0 rfl (Ty.item ETerm.ty.sl r856.terms [u857] f858) (fun _ => (form_parts hp865)) (fun _ hb_ => hb_)
    refine done ?_
    refine ak_intro (by assumption) (listed' := (dbits 11 287)) (by kernel_rfl) ?_
    refine ae_lookF belPre 5 (.tuple #[.agg #[u857], .int .i64 r861]) rfl rfl (by kernel_rfl) (hM28 5 rfl) (fun w_ => .inl ⟨rfl, by exact r_mv (v := .tuple #[.agg #[u857], .int .i64 r861]) rfl⟩) (listed' := (dbits 11 319)) (by kernel_rfl) ?_
    refine ae_lookF belPre 6 (.agg #[u857]) rfl rfl (by kernel_rfl) (hM28 6 rfl) (fun w_ => .inl ⟨rfl, by exact r_ext (v := .agg #[u857]) rfl rfl⟩) (listed' := (dbits 11 383)) (by kernel_rfl) ?_
    refine ae_lookF belPre 7 (.int .i64 r861) rfl rfl (by kernel_rfl) (hM28 7 rfl) (fun w_ => .inl ⟨rfl, by exact r_ext (v := .int .i64 r861) rfl rfl⟩) (listed' := (dbits 11 511)) (by kernel_rfl) ?_
    refine ae_one 9 rfl (by kernel_rfl) ?_
    refine s_store (v := .agg #[u857]) hC 0 [u857] [u857] rfl ag46.size rfl rfl rfl rfl (all_c (rep_oneC (hC.getP 0 rfl)) rfl) (Nat.le_of_ble_eq_true rfl) rfl fun w867 hC => ?_
    refine done ?_
    refine ak_introN (by decide) (listed' := (dbits 11 1023)) (by kernel_rfl) ?_
    refine ae_tail 10 (by decide) (by decide) (by kernel_rfl) (by kernel_rfl) rfl ?_
    refine s_as (v := .int .i64 r861) rfl ?_
    refine done ?_
    refine qn_norm ?_
    replace hC := hC.sel [0, 1, 2] [0, 5, 6, 7, 8, 9] (M' := [blk b809 46 [u857], blk b11 39 [u1_0], blk b8 25 [u0_0, u0_1]]) (Ps' := [Ty.item ETerm.ty.sl r856.terms [u857] f858, Ty.item ETerm.ty.sl a1.terms [u1_0] fp1, Ty.item TForm.sl a0.images [u0_1] fp0, Ty.item ((EI .i64).ty.sl) a0.degrees [u0_0] fp0, Ty.item TAlg a0 [u0_0, u0_1] fp0, Ty.item TForm a1 [u1_0] fp1]) (by decide) rfl rfl
    exact ⟨rfl, _, rfl, ⟨b809, u857, r856, f858, r861, (sk rfl (sk rfl (sk rfl (sk rfl (sk rfl sn))))), hs863, hC, h⟩⟩
end Go.Proofs.Ytgfmflmhcfkldaa
