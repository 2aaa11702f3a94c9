/- Printed by vcgen.py: functions of the program as predicates, and that the machine's calls meet them. -/
import Derived.Test.YtaagfepgbofmlaaGC
import Derived.Test.YtaagfepgbofmlaaVo
import Derived.Test.YtaagfepgbofmlaaVr
import Derived.Test.YtaagfepgbofmlaaVx
import Derived.Test.YtaagfepgbofmlaaVy
import Derived.KernelRfl
set_option linter.unusedVariables false
set_option linter.unusedSimpArgs false
set_option maxRecDepth 4000
set_option maxHeartbeats 4000000
namespace Go.Proofs.Ytaagfepgbofmlaa
open Go Go.RowKit Vc
theorem bs22_0  (w : World) : (Instr.buildSlice 22 0 #[]).run Try.prog w = .ok (.slice (some ⟨w.heap.size, 0, none⟩) 0 0) (w.alloc (.cells (List.toArray ((EI .i64).encs [])) 2)) := by kernel_rfl
theorem bl32_0sl_1sl (x0 : Value) (x1 : Value) (hx0 : IsSl x0) (hx1 : IsSl x1) (w : World) : (Instr.build 32 #[(0, x0), (1, x1)]).run Try.prog w = .ok (.agg #[x0, x1]) w := by obtain ⟨_, _, _, rfl⟩ := hx0; obtain ⟨_, _, _, rfl⟩ := hx1; kernel_rfl
theorem bs22_1 (x0 : Int) (w : World) : (Instr.buildSlice 22 1 #[(0, .int .i64 x0)]).run Try.prog w = .ok (.slice (some ⟨w.heap.size, 0, none⟩) 1 1) (w.alloc (.cells (List.toArray ((EI .i64).encs [x0])) 2)) := by kernel_rfl
theorem bl32  (w : World) : (Instr.build 32 #[]).run Try.prog w = .ok (.agg #[.slice none 0 0, .slice none 0 0]) w := by kernel_rfl
def f_spec_l01Own (a0 : List Int) (K : List Int → Prop) : Prop :=
 (Room (0 + a0.length) 8 ∧ K a0)
theorem c_spec_l01Own (a0 : List Int) {u0_0 : Value} {fp0 : List Nat} {K : List Int → Prop} (h : f_spec_l01Own a0 K) (w0 : World) (q0 : ((EI .i64).ty.sl).rep a0 [u0_0] fp0 w0) :
  Calls Try.prog 120 #[u0_0] w0 fun e w' => ∃ (r0 : List Int) (z0_0 : Value) (fz0 : List Nat), 
   e = .returned (z0_0) ∧ K r0 ∧ (Tr.item (Tr.sl 2 ((EI .i64).tr)) r0 [z0_0] fz0).holds w' ∧ (∀ b, b ∈ fz0 → w0.heap.size ≤ b) ∧ Bel w0 w' := by
 unfold f_spec_l01Own at h
 refine calls_of (args := [u0_0]) Try.func120 rfl 6 Try.ntmps120 (Nat.le_of_ble_eq_true rfl) ?_
 have hC := Ctx.start (X := Nox) w0 [Ty.item ((EI .i64).ty.sl) a0 [u0_0] fp0] (by simp only [List.mem_cons, List.not_mem_nil, or_false, forall_eq_or_imp, forall_eq]; exact q0)
 refine sr ?_
 refine s_as (v := .slice none 0 0) rfl ?_
 refine dn ?_
 refine sr ?_
 refine s_bslice (sz := 1) hC [] ((EI .i64).encs []) rfl (fun _ => bs22_0  _) rfl (by decide) fun b2 w3 hB_ hC => ?_
 refine s_mv (v := u0_0) rfl ?_
 obtain ⟨hm7, h⟩ := h
 refine s_app hC 0 Try.underlying22 el2 rfl (by decide) (by decide) rfl (sl_rdr (hC.getP 0 rfl)) (fun q hq => Enc.encs_one' (E := (EI .i64)) _ q hq) rfl rfl hm7 fun v5 w6 hC => ?_
 replace hC := own_re hC 0 (a0.length) ((EI .i64).encs a0) rfl (by simp) (by first | (simp [Enc.encs_append]; done) | simp [Enc.encs_append, Enc.encs])
 refine s_as (v := v5) rfl ?_
 refine dn ?_
 refine wp_ret ?_
 refine ret1 (fn := Try.f120) rfl ?_ ⟨a0, v5, (Option.toList (Value.ownBlock v5)), rfl, h, (own_item (hC.getM 0 rfl)), (own_fresh hC 0 rfl), hC.below⟩ (.inl rfl)
 exact res_tmp rfl
def f_spec_l02Free (a0 : List Int) (K : Alg → Prop) : Prop :=
 (f_spec_l01Own a0 (fun r51 => ((0 ≤ (a0.length : Int) ∧ (a0.length : Int) * 24 ≤ 281474976710656) ∧ K (⟨r51, List.replicate ((a0.length : Int).toNat) ((⟨[]⟩ : Vc.Form) : Vc.Form)⟩ : Alg))) ∧ ((0 ≤ (a0.length : Int) ∧ (a0.length : Int) * 24 ≤ 281474976710656) ∧ f_spec_l01Own a0 (fun r73 => K (⟨r73, List.replicate ((a0.length : Int).toNat) ((⟨[]⟩ : Vc.Form) : Vc.Form)⟩ : Alg))))
theorem c_spec_l02Free (a0 : List Int) {u0_0 : Value} {fp0 : List Nat} {K : Alg → Prop} (h : f_spec_l02Free a0 K) (w0 : World) (q0 : ((EI .i64).ty.sl).rep a0 [u0_0] fp0 w0) :
  Calls Try.prog 67 #[u0_0] w0 fun e w' => ∃ (r0 : Alg) (z0_0 : Value) (z0_1 : Value) (fz0 : List Nat), 
   e = .returned (.agg #[z0_0, z0_1]) ∧ K r0 ∧ (Tr.item (TrAlg 2 114 95) r0 [z0_0, z0_1] fz0).holds w' ∧ (∀ b, b ∈ fz0 → w0.heap.size ≤ b) ∧ Bel w0 w' := by
 unfold f_spec_l02Free at h
 refine calls_of (args := [u0_0]) Try.func67 rfl 9 Try.ntmps67 (Nat.le_of_ble_eq_true rfl) ?_
 have hC := Ctx.start (X := Nox) w0 [Ty.item ((EI .i64).ty.sl) a0 [u0_0] fp0] (by simp only [List.mem_cons, List.not_mem_nil, or_false, forall_eq_or_imp, forall_eq]; exact q0)
 refine sr ?_
 refine s_alloc hC [.slice none 0 0, .slice none 0 0] z32 rfl fun b2 w4 hB_ hC => ?_
 refine dn ?_
 refine wp_seq ?_
 refine cw_draw 5 mixed [0, 1, 0, 4, 12, 31, 63] [3] [0, 2] (by kernel_rfl) (by kernel_rfl) (by kernel_rfl) (fun hM6 hM7 w5 hB_ => ?_)
 replace hC := hC.grow hB_
 refine aF 0 (u0_0) rfl rfl (hM7 0 rfl) (rfl) (fun _ => by exact r_mv (v := u0_0) rfl) (dbits 7 1) ?_
 refine aF 2 (u0_0) rfl rfl (hM7 2 rfl) (rfl) (fun _ => by exact r_mv (v := u0_0) rfl) (dbits 7 5) ?_
 obtain ⟨Ad8, c9, hv10⟩ := sl_len (hC.getP 0 rfl)
 refine aL 3 (.int .i64 (a0.length : Int)) rfl rfl (hM6 3 rfl) (rfl) (fun _ hB_ => by exact r_len Try.underlying22 (by exact tr rfl hv10)) (dbits 7 13) ?_
 refine ae_join (fun e_ w_ => ∃ (v24 : Value), ∃ (u15 : Value), ∃ (r14 : List Int), Slots e_ [(2, .pointer (some ⟨b2, 0, none⟩))] ∧ Ctx Nox w0 w_ [Tr.item (Tr.sl 95 (TrForm 114)) (List.replicate ((a0.length : Int).toNat) ((⟨[]⟩ : Vc.Form) : Vc.Form)) [v24] ((Option.toList (Value.ownBlock v24)) ++ (List.replicate ((a0.length : Int).toNat) ([] : List Nat)).flatten), own 2 1 u15 r14.length ((EI .i64).encs r14), blk b2 32 [u15, v24]] [Ty.item ((EI .i64).ty.sl) a0 [u0_0] fp0] ∧ (K (⟨r14, List.replicate ((a0.length : Int).toNat) ((⟨[]⟩ : Vc.Form) : Vc.Form)⟩ : Alg))) ?_ ?_
 ·clear hC h
  rintro e_ w47 ⟨v24, u15, r14, hS_, hC, h⟩
  refine then_norm ?_
  refine wp_ret ?_
  refine ret1 (fn := Try.f67) rfl ?_ ⟨(⟨r14, List.replicate ((a0.length : Int).toNat) ((⟨[]⟩ : Vc.Form) : Vc.Form)⟩ : Alg), u15, v24, ((Option.toList (Value.ownBlock u15)) ++ ((Option.toList (Value.ownBlock v24)) ++ (List.replicate ((a0.length : Int).toNat) ([] : List Nat)).flatten)), rfl, h, (alg_join (own_item (hC.getM 1 rfl)) (hC.getM 0 rfl) (fun x hx hx' => hC.mm 1 0 rfl rfl (by decide) x hx hx')), (fun b hb => (List.mem_append.1 hb).elim (fun hb => (own_fresh hC 1 rfl) b hb) (fun hb => (tr_fresh hC 0 rfl) b hb)), hC.below⟩ (.inl rfl)
  exact res_cellA hC 2 rfl ag32 (sx hS_ 0 rfl) rfl
 refine ae_two 1 4 rfl rfl (by kernel_rfl) ?_ ?_
 ·skip
  replace h := h.1
  refine s_call [u0_0] _ Try.func120 rfl rfl rfl (c_spec_l01Own a0 h _ (hC.getP 0 rfl)) (fun ret48 w50 hR49 => ?_)
  obtain ⟨r51, u52, f53, rfl, h, hr54, hf55, hB56⟩ := hR49
  refine ⟨_, rfl, ?_⟩
  replace hC := hC.push hB56 (Tr.item (Tr.sl 2 ((EI .i64).tr)) r51 [u52] f53) hr54 hf55
  obtain ⟨ho58, hf59⟩ := flat_tr (hC.getM 0 rfl).1
  subst hf59
  replace hC := hC.recast (c := own 2 1 u52 r51.length ((EI .i64).encs r51)) (fun _ h_ => h_) (fun _ => ho58)
  refine done ?_
  refine aK (by assumption) (dbits 7 15) ?_
  refine aO 4 rfl ?_
  obtain ⟨hm63, h⟩ := h
  refine s_make (sz := 1) hC (List.replicate ((a0.length : Int).toNat) (.slice none 0 0)) Try.underlying30 el95 (tr rfl (congrArg (Value.int .i64) (Int.toNat_of_nonneg hm63.1).symm)) (tr rfl (congrArg (Value.int .i64) (Int.toNat_of_nonneg hm63.1).symm)) (by omega) (by omega) (made_nil _) fun v61 w62 hB_ hC => ?_
  replace hC := hC.pushM0 (forest (TrForm 114) (List.replicate ((a0.length : Int).toNat) ((⟨[]⟩ : Vc.Form) : Vc.Form)) (List.replicate ((a0.length : Int).toNat) (.slice none 0 0)) (List.replicate ((a0.length : Int).toNat) [])) (forest_rep (form_join (nil_item _ _ _)) rfl _) (flat_rep _)
  replace hC := hC.gather (c := Tr.item (Tr.sl 95 (TrForm 114)) (List.replicate ((a0.length : Int).toNat) ((⟨[]⟩ : Vc.Form) : Vc.Form)) [v61] ((Option.toList (Value.ownBlock v61)) ++ (List.replicate ((a0.length : Int).toNat) ([] : List Nat)).flatten)) (fun x_ hx_ => (List.mem_append.1 hx_).symm) (fun h1_ h2_ hd_ => forest_up (by rw [List.length_replicate]; exact h2_) h1_ (fun b_ hb_ hb2_ => hd_ b_ hb2_ hb_))
  refine done ?_
  refine aK (by assumption) (dbits 7 31) ?_
  refine ae_tail 5 (by decide) (by decide) (by kernel_rfl) (by kernel_rfl) rfl ?_
  refine s_build [(0, u52), (1, v61)] rfl (bl32_0sl_1sl u52 v61 (own_isSl (hC.getM 1 rfl)) (rep_isSl (Tr.trep _ (hC.getM 0 rfl).1)) _) ?_
  refine s_store (v := .agg #[u52, v61]) hC 2 [u52, v61] [u52, v61] rfl ag32.size rfl rfl rfl rfl (all_c (own_oneC (hC.getM 1 rfl)) (all_c (rep_oneC (Tr.trep _ (hC.getM 0 rfl).1)) rfl)) (Nat.le_of_ble_eq_true rfl) rfl fun w65 hC => ?_
  refine done ?_
  refine qn_norm ?_
  exact ⟨rfl, _, rfl, ⟨v61, u52, r51, (sk rfl sn), hC, h⟩⟩
 ·skip
  replace h := h.2
  obtain ⟨hm68, h⟩ := h
  refine s_make (sz := 1) hC (List.replicate ((a0.length : Int).toNat) (.slice none 0 0)) Try.underlying30 el95 (tr rfl (congrArg (Value.int .i64) (Int.toNat_of_nonneg hm68.1).symm)) (tr rfl (congrArg (Value.int .i64) (Int.toNat_of_nonneg hm68.1).symm)) (by omega) (by omega) (made_nil _) fun v66 w67 hB_ hC => ?_
  replace hC := hC.pushM0 (forest (TrForm 114) (List.replicate ((a0.length : Int).toNat) ((⟨[]⟩ : Vc.Form) : Vc.Form)) (List.replicate ((a0.length : Int).toNat) (.slice none 0 0)) (List.replicate ((a0.length : Int).toNat) [])) (forest_rep (form_join (nil_item _ _ _)) rfl _) (flat_rep _)
  replace hC := hC.gather (c := Tr.item (Tr.sl 95 (TrForm 114)) (List.replicate ((a0.length : Int).toNat) ((⟨[]⟩ : Vc.Form) : Vc.Form)) [v66] ((Option.toList (Value.ownBlock v66)) ++ (List.replicate ((a0.length : Int).toNat) ([] : List Nat)).flatten)) (fun x_ hx_ => (List.mem_append.1 hx_).symm) (fun h1_ h2_ hd_ => forest_up (by rw [List.length_replicate]; exact h2_) h1_ (fun b_ hb_ hb2_ => hd_ b_ hb2_ hb_))
  refine done ?_
  refine aK (by assumption) (dbits 7 29) ?_
  refine aO 1 rfl ?_
  refine s_call [u0_0] _ Try.func120 rfl rfl rfl (c_spec_l01Own a0 h _ (hC.getP 0 rfl)) (fun ret70 w72 hR71 => ?_)
  obtain ⟨r73, u74, f75, rfl, h, hr76, hf77, hB78⟩ := hR71
  refine ⟨_, rfl, ?_⟩
  replace hC := hC.push hB78 (Tr.item (Tr.sl 2 ((EI .i64).tr)) r73 [u74] f75) hr76 hf77
  obtain ⟨ho80, hf81⟩ := flat_tr (hC.getM 0 rfl).1
  subst hf81
  replace hC := hC.recast (c := own 2 1 u74 r73.length ((EI .i64).encs r73)) (fun _ h_ => h_) (fun _ => ho80)
  refine done ?_
  refine aK (by assumption) (dbits 7 31) ?_
  refine ae_tail 5 (by decide) (by decide) (by kernel_rfl) (by kernel_rfl) rfl ?_
  refine s_build [(0, u74), (1, v66)] rfl (bl32_0sl_1sl u74 v66 (own_isSl (hC.getM 0 rfl)) (rep_isSl (Tr.trep _ (hC.getM 1 rfl).1)) _) ?_
  refine s_store (v := .agg #[u74, v66]) hC 2 [u74, v66] [u74, v66] rfl ag32.size rfl rfl rfl rfl (all_c (own_oneC (hC.getM 0 rfl)) (all_c (rep_oneC (Tr.trep _ (hC.getM 1 rfl).1)) rfl)) (Nat.le_of_ble_eq_true rfl) rfl fun w83 hC => ?_
  refine done ?_
  refine qn_norm ?_
  replace hC := hC.sM [1, 0, 2] (M' := [Tr.item (Tr.sl 95 (TrForm 114)) (List.replicate ((a0.length : Int).toNat) ((⟨[]⟩ : Vc.Form) : Vc.Form)) [v66] ((Option.toList (Value.ownBlock v66)) ++ (List.replicate ((a0.length : Int).toNat) ([] : List Nat)).flatten), own 2 1 u74 r73.length ((EI .i64).encs r73), blk b2 32 [u74, v66]]) (by decide) rfl
  exact ⟨rfl, _, rfl, ⟨v66, u74, r73, (sk rfl sn), hC, h⟩⟩
def f_spec_l08Ones (a0 : Int) (K : List Int → Prop) : Prop :=
 whileP (fun (s21 : (List Int) × Int) next23 => (if s21.2 > 0 then (Room (s21.1.length + 1) 8 ∧ next23 (s21.1 ++ [1], IntKind.i64.wrap (s21.2 - 1))) else K s21.1)) ([], a0)
theorem c_spec_l08Ones (a0 : Int)  {K : List Int → Prop} (h : f_spec_l08Ones a0 K) (w0 : World)  :
  Calls Try.prog 68 #[.int .i64 a0] w0 fun e w' => ∃ (r0 : List Int) (z0_0 : Value) (fz0 : List Nat), 
   e = .returned (z0_0) ∧ K r0 ∧ (Tr.item (Tr.sl 2 ((EI .i64).tr)) r0 [z0_0] fz0).holds w' ∧ (∀ b, b ∈ fz0 → w0.heap.size ≤ b) ∧ Bel w0 w' := by
 unfold f_spec_l08Ones at h
 refine calls_of (args := [.int .i64 a0]) Try.func68 rfl 13 Try.ntmps68 (Nat.le_of_ble_eq_true rfl) ?_
 have hC := Ctx.start (X := Nox) w0 [] (by simp)
 refine sr ?_
 refine s_as (v := .slice none 0 0) rfl ?_
 refine dn ?_
 refine sr ?_
 refine s_bslice (sz := 1) hC [] ((EI .i64).encs []) rfl (fun _ => bs22_0  _) rfl (by decide) fun b1 w2 hB_ hC => ?_
 refine s_as (v := .slice (some ⟨b1, 0, none⟩) 0 0) rfl ?_
 refine dn ?_
 refine wp_seq ?_
 refine wp_block ?_
 refine loopW (S := (List Int) × Int) _ (fun s21 e_ w_ => ∃ (v22 : Value), Slots e_ [(0, .int .i64 s21.2), (2, .slice none 0 0), (3, v22)] ∧ Ctx Nox w0 w_ [own 2 1 v22 s21.1.length ((EI .i64).encs s21.1)] []) ?_ (s0 := ([], a0)) ?_ h
 ·clear hC h
  rintro s21 e_ w26 next23 K24 ⟨v22, hS_, hC⟩ h hK25
  refine wp_seq ?_
  refine sr ?_
  refine s_mv (v := .int .i64 s21.2) (sx hS_ 0 rfl) ?_
  refine s_gtr rfl rfl ?_
  refine dn ?_
  refine cw_cond rfl (fun hb27 => ?_) (fun hb27 => ?_)
  ·replace h := ift h (ct hb27)
   refine wp_skip ?_
   refine then_norm ?_
   refine wp_seq ?_
   refine wp_block ?_
   refine cw_region ?_
   refine s_mv (v := v22) (sx hS_ 2 rfl) ?_
   refine s_bslice (sz := 1) hC [(0, .int .i64 1)] ((EI .i64).encs [1]) rfl (fun _ => bs22_1 1 _) rfl (by decide) fun b28 w29 hB_ hC => ?_
   obtain ⟨hm33, h⟩ := h
   refine s_app hC 1 Try.underlying22 el2 rfl (by decide) (by decide) rfl (own_rdr (hC.getM 0 rfl)) (fun q hq => Enc.encs_one' (E := (EI .i64)) _ q hq) rfl rfl hm33 fun v31 w32 hC => ?_
   replace hC := own_re hC 1 ((s21.1 ++ [1]).length) ((EI .i64).encs (s21.1 ++ [1])) rfl (by simp) (by first | (simp [Enc.encs_append]; done) | simp [Enc.encs_append, Enc.encs])
   refine s_as (v := v31) rfl ?_
   refine done ?_
   refine blk_norm ?_
   refine then_norm ?_
   refine cw_region ?_
   refine s_mv (v := .int .i64 s21.2) (sx hS_ 0 rfl) ?_
   refine s_sub rfl rfl ?_
   refine s_as (v := .int .i64 (IntKind.i64.wrap (s21.2 - 1))) rfl ?_
   refine done ?_
   replace hC := hC.sM [1] (M' := [own 2 1 v31 ((s21.1 ++ [1]).length) ((EI .i64).encs (s21.1 ++ [1]))]) (by decide) rfl
   exact hK25 (s21.1 ++ [1], IntKind.i64.wrap (s21.2 - 1)) _ _ ⟨v31, (sk rfl (sk (sx hS_ 1 rfl) (sk rfl sn))), hC⟩ h
  ·replace h := iff_ h (cf hb27)
   refine wp_exit (then_exit (then_exit (exit_in ?_)))
   refine then_norm ?_
   refine sr ?_
   refine s_mv (v := v22) (sx hS_ 2 rfl) ?_
   refine s_as (v := v22) rfl ?_
   refine dn ?_
   refine wp_ret ?_
   refine ret1 (fn := Try.f68) rfl ?_ ⟨s21.1, v22, (Option.toList (Value.ownBlock v22)), rfl, h, (own_item (hC.getM 0 rfl)), (own_fresh hC 0 rfl), hC.below⟩ (.inl rfl)
   exact res_tmp rfl
 ·skip
  exact ⟨.slice (some ⟨b1, 0, none⟩) 0 0, (sk rfl (sk rfl (sk rfl sn))), hC⟩
def f_spec_HeisenbergModel (a0 : Int) (K : Alg → Int → Prop) : Prop :=
 f_spec_l01In a0 1 3 (fun r7 => (if ¬ (r7 = true) then K (⟨[], []⟩ : Alg) 2 else f_spec_l08Ones (IntKind.i64.wrap ((IntKind.i64.wrap (2 * a0)) + 1)) (fun r14 => f_spec_l02Free r14 (fun r27 => whileP (fun (s156 : (List Term) × Int) next159 => (if s156.2 < a0 then ((0 ≤ IntKind.i64.wrap (2 * s156.2) ∧ IntKind.i64.wrap (2 * s156.2) < 8) ∧ ((0 ≤ IntKind.i64.wrap ((IntKind.i64.wrap (2 * s156.2)) + 1) ∧ IntKind.i64.wrap ((IntKind.i64.wrap (2 * s156.2)) + 1) < 8) ∧ f_spec_l01Single ((A8.zero.set ((IntKind.i64.wrap (2 * s156.2)).toNat) 1).set ((IntKind.i64.wrap ((IntKind.i64.wrap (2 * s156.2)) + 1)).toNat) 1) 1 (fun r180 => f_spec_l01Add (⟨s156.1⟩ : Vc.Form) r180 1 (fun r193 => next159 (r193.terms, IntKind.i64.wrap (s156.2 + 1)))))) else ((0 ≤ IntKind.i64.wrap (2 * a0) ∧ IntKind.i64.wrap (2 * a0) < (r27.images.length : Int)) ∧ K (⟨r27.degrees, r27.images.set ((IntKind.i64.wrap (2 * a0)).toNat) (⟨s156.1⟩ : Vc.Form)⟩ : Alg) 0))) ([], 0)))))
theorem c_spec_HeisenbergModel (a0 : Int)  {K : Alg → Int → Prop} (h : f_spec_HeisenbergModel a0 K) (w0 : World)  :
  Calls Try.prog 21 #[.int .i64 a0] w0 fun e w' => ∃ (r0 : Alg) (z0_0 : Value) (z0_1 : Value) (fz0 : List Nat) (r1 : Int), 
   e = .returned (.tuple #[.agg #[z0_0, z0_1], .int .i64 r1]) ∧ K r0 r1 ∧ (Tr.item (TrAlg 2 114 95) r0 [z0_0, z0_1] fz0).holds w' ∧ (∀ b, b ∈ fz0 → w0.heap.size ≤ b) ∧ Bel w0 w' := by
 unfold f_spec_HeisenbergModel at h
 refine calls_of (args := [.int .i64 a0]) Try.func21 rfl 42 Try.ntmps21 (Nat.le_of_ble_eq_true rfl) ?_
 have hC := Ctx.start (X := Nox) w0 [] (by simp)
 refine sr ?_
 refine s_alloc hC [.slice none 0 0, .slice none 0 0] z32 rfl fun b1 w3 hB_ hC => ?_
 refine s_as (v := .int .i64 0) rfl ?_
 refine dn ?_
 refine wp_seq ?_
 refine sr ?_
 refine s_mv (v := .int .i64 a0) rfl ?_
 refine s_call [.int .i64 a0, .int .i64 1, .int .i64 3] _ Try.func60 rfl rfl rfl (c_spec_l01In a0 1 3 h _) (fun ret4 w6 hR5 => ?_)
 obtain ⟨r7, rfl, h, hB8⟩ := hR5
 refine ⟨_, rfl, ?_⟩
 replace hC := hC.grow hB8
 refine s_not rfl ?_
 refine dn ?_
 refine cw_cond rfl (fun hb9 => ?_) (fun hb9 => ?_)
 ·replace h := ift h (ne_t (not_t hb9))
  refine sr ?_
  refine s_build [] rfl (bl32   _) ?_
  refine s_store (v := .agg #[.slice none 0 0, .slice none 0 0]) hC 0 [.slice none 0 0, .slice none 0 0] [.slice none 0 0, .slice none 0 0] rfl ag32.size rfl rfl rfl rfl rfl (Nat.le_of_ble_eq_true rfl) rfl fun w10 hC => ?_
  refine s_as (v := .int .i64 2) rfl ?_
  refine dn ?_
  refine wp_ret (then_ret ?_)
  refine ret2 (fn := Try.f21) rfl ?_ ?_ ⟨(⟨[], []⟩ : Alg), .slice none 0 0, .slice none 0 0, ([] ++ []), 2, rfl, h, (alg_join (nil_item _ _ _) (nil_item _ _ _) (fun x hx => absurd hx (by simp))), (fun b hb => (List.mem_append.1 hb).elim (fun hb => (fun b hb => absurd hb (by simp)) b hb) (fun hb => (fun b hb => absurd hb (by simp)) b hb)), hC.below⟩ (.inl rfl)
  ·exact res_cellA hC 0 rfl ag32 rfl rfl
  ·exact res_tmp rfl
 ·replace h := iff_ h (not_not_intro ((not_f hb9)))
  refine wp_skip ?_
  refine then_norm ?_
  refine sr ?_
  refine s_mv (v := .int .i64 a0) rfl ?_
  refine s_mul rfl rfl ?_
  refine s_add rfl rfl ?_
  refine s_call [.int .i64 (IntKind.i64.wrap ((IntKind.i64.wrap (2 * a0)) + 1))] _ Try.func68 rfl rfl rfl (c_spec_l08Ones (IntKind.i64.wrap ((IntKind.i64.wrap (2 * a0)) + 1)) h _) (fun ret11 w13 hR12 => ?_)
  obtain ⟨r14, u15, f16, rfl, h, hr17, hf18, hB19⟩ := hR12
  refine ⟨_, rfl, ?_⟩
  replace hC := hC.push hB19 (Tr.item (Tr.sl 2 ((EI .i64).tr)) r14 [u15] f16) hr17 hf18
  obtain ⟨ho21, hf22⟩ := flat_tr (hC.getM 0 rfl).1
  subst hf22
  replace hC := hC.recast (c := own 2 1 u15 r14.length ((EI .i64).encs r14)) (fun _ h_ => h_) (fun _ => ho21)
  refine s_call [u15] _ Try.func67 rfl rfl rfl (c_spec_l02Free r14 h _ (own_repE (hC.getM 0 rfl))) (fun ret24 w26 hR25 => ?_)
  obtain ⟨r27, u28, u29, f30, rfl, h, hr31, hf32, hB33⟩ := hR25
  refine ⟨_, rfl, ?_⟩
  replace hC := hC.push hB33 (Tr.item (TrAlg 2 114 95) r27 [u28, u29] f30) hr31 hf32
  obtain ⟨f35, ho36, ho37, hs38, hs39, hd40⟩ := alg_split (hC.getM 0 rfl)
  replace hC := hC.split (a := own 2 1 u28 r27.degrees.length ((EI .i64).encs r27.degrees)) (b := Tr.item (Tr.sl 95 (TrForm 114)) r27.images [u29] f35) hs38 hs39 ⟨ho36, ho37, hd40⟩
  refine s_build [] rfl (bl95   _) ?_
  refine s_alloc hC [.slice none 0 0, .slice none 0 0] z32 rfl fun b43 w45 hB_ hC => ?_
  refine s_alloc hC [.slice none 0 0] z95 rfl fun b46 w48 hB_ hC => ?_
  refine s_store (v := .agg #[u28, u29]) hC 1 [u28, u29] [u28, u29] rfl ag32.size rfl rfl rfl rfl (all_c (own_oneC (hC.getM 2 rfl)) (all_c (rep_oneC (Tr.trep _ (hC.getM 3 rfl).1)) rfl)) (Nat.le_of_ble_eq_true rfl) rfl fun w49 hC => ?_
  refine s_store (v := .agg #[.slice none 0 0]) hC 0 [.slice none 0 0] [.slice none 0 0] rfl ag95.size rfl rfl rfl rfl rfl (Nat.le_of_ble_eq_true rfl) rfl fun w50 hC => ?_
  refine dn ?_
  refine wp_seq ?_
  refine sr ?_
  refine s_as (v := .int .i64 0) rfl ?_
  refine dn ?_
  refine wp_block ?_
  refine loopW (S := (List Term) × Int) _ (fun s156 e_ w_ => ∃ (v157 : Value), Slots e_ [(0, .int .i64 a0), (2, .pointer (some ⟨b1, 0, none⟩)), (3, .int .i64 0), (4, .pointer (some ⟨b43, 0, none⟩)), (5, .pointer (some ⟨b46, 0, none⟩)), (6, .int .i64 s156.2)] ∧ Ctx Nox w0 w_ [own 114 9 v157 s156.1.length (ETerm.encs s156.1), blk b46 95 [v157], blk b43 32 [u28, u29], own 2 1 u28 r27.degrees.length ((EI .i64).encs r27.degrees), Tr.item (Tr.sl 95 (TrForm 114)) r27.images [u29] f35, blk b1 32 [.slice none 0 0, .slice none 0 0]] []) ?_ (s0 := ([], 0)) ?_ h
  ·clear hC h
   rintro s156 e_ w162 next159 K160 ⟨v157, hS_, hC⟩ h hK161
   refine wp_seq ?_
   refine sr ?_
   refine s_mv (v := .int .i64 s156.2) (sx hS_ 5 rfl) ?_
   refine s_mv (v := .int .i64 a0) (sx hS_ 0 rfl) ?_
   refine s_lss rfl rfl ?_
   refine dn ?_
   refine cw_cond rfl (fun hb163 => ?_) (fun hb163 => ?_)
   ·replace h := ift h (ct hb163)
    refine wp_skip ?_
    refine then_norm ?_
    refine wp_seq ?_
    refine wp_block ?_
    refine sr ?_
    refine s_build [] rfl (bl49   _) ?_
    refine s_alloc hC (A8.enc .u8 A8.zero) z49 rfl fun b164 w166 hB_ hC => ?_
    refine s_store (v := .agg (List.toArray (A8.enc .u8 A8.zero))) hC 0 (A8.enc .u8 A8.zero) (A8.enc .u8 A8.zero) rfl ag49.size rfl rfl rfl rfl rfl (Nat.le_of_ble_eq_true rfl) rfl fun w167 hC => ?_
    refine dn ?_
    refine sr ?_
    refine s_mv (v := .int .i64 s156.2) (sx hS_ 5 rfl) ?_
    refine s_mul rfl rfl ?_
    obtain ⟨⟨h0_168, h1_169⟩, h⟩ := h
    refine s_iaddrB ((IntKind.i64.wrap (2 * s156.2)).toNat) Try.underlying49 sc5.size rfl rfl h0_168 h1_169 (by omega) ?_
    refine s_store (v := .int .u8 1) hC 0 [.int .u8 1] (A8.enc .u8 (A8.zero.set ((IntKind.i64.wrap (2 * s156.2)).toNat) 1)) rfl sc5.size rfl rfl rfl rfl rfl (show (IntKind.i64.wrap (2 * s156.2)).toNat < 8 by omega) (A8.enc_set _ _ _ (show (IntKind.i64.wrap (2 * s156.2)).toNat < 8 by omega)) fun w170 hC => ?_
    refine dn ?_
    refine sr ?_
    refine s_mv (v := .int .i64 s156.2) (sx hS_ 5 rfl) ?_
    refine s_mul rfl rfl ?_
    refine s_add rfl rfl ?_
    obtain ⟨⟨h0_171, h1_172⟩, h⟩ := h
    refine s_iaddrB ((IntKind.i64.wrap ((IntKind.i64.wrap (2 * s156.2)) + 1)).toNat) Try.underlying49 sc5.size rfl rfl h0_171 h1_172 (by omega) ?_
    refine s_store (v := .int .u8 1) hC 0 [.int .u8 1] (A8.enc .u8 ((A8.zero.set ((IntKind.i64.wrap (2 * s156.2)).toNat) 1).set ((IntKind.i64.wrap ((IntKind.i64.wrap (2 * s156.2)) + 1)).toNat) 1)) rfl sc5.size rfl rfl rfl rfl rfl (show (IntKind.i64.wrap ((IntKind.i64.wrap (2 * s156.2)) + 1)).toNat < 8 by omega) (A8.enc_set _ _ _ (show (IntKind.i64.wrap ((IntKind.i64.wrap (2 * s156.2)) + 1)).toNat < 8 by omega)) fun w173 hC => ?_
    refine dn ?_
    refine cw_draw 3 mixed [0, 0, 2, 7, 15] [0, 1] [] (by kernel_rfl) (by kernel_rfl) (by kernel_rfl) (fun hM175 hM176 w174 hB_ => ?_)
    replace hC := hC.grow hB_
    refine aL 0 (.agg #[v157]) rfl rfl (hM175 0 rfl) (rfl) (fun _ hB_ => by exact r_loadA (hC.grow hB_) 2 [v157] rfl ag95 (sx hS_ 4 rfl) rfl rfl) (dbits 5 1) ?_
    refine aL 1 (.agg (List.toArray (A8.enc .u8 ((A8.zero.set ((IntKind.i64.wrap (2 * s156.2)).toNat) 1).set ((IntKind.i64.wrap ((IntKind.i64.wrap (2 * s156.2)) + 1)).toNat) 1)))) rfl rfl (hM175 1 rfl) (rfl) (fun _ hB_ => by exact r_loadA (hC.grow hB_) 0 (A8.enc .u8 ((A8.zero.set ((IntKind.i64.wrap (2 * s156.2)).toNat) 1).set ((IntKind.i64.wrap ((IntKind.i64.wrap (2 * s156.2)) + 1)).toNat) 1)) rfl ag49 rfl rfl rfl) (dbits 5 3) ?_
    refine aO 2 rfl ?_
    refine s_call [.agg (List.toArray (A8.enc .u8 ((A8.zero.set ((IntKind.i64.wrap (2 * s156.2)).toNat) 1).set ((IntKind.i64.wrap ((IntKind.i64.wrap (2 * s156.2)) + 1)).toNat) 1))), .int .i64 1] _ Try.func70 rfl rfl rfl (c_spec_l01Single ((A8.zero.set ((IntKind.i64.wrap (2 * s156.2)).toNat) 1).set ((IntKind.i64.wrap ((IntKind.i64.wrap (2 * s156.2)) + 1)).toNat) 1) 1 h _) (fun ret177 w179 hR178 => ?_)
    obtain ⟨r180, u181, f182, rfl, h, hr183, hf184, hB185⟩ := hR178
    refine ⟨_, rfl, ?_⟩
    replace hC := hC.push hB185 (Tr.item (TrForm 114) r180 [u181] f182) hr183 hf184
    obtain ⟨ho187, hf188⟩ := form_split (hC.getM 0 rfl)
    subst hf188
    replace hC := hC.recast (c := own 114 9 u181 r180.terms.length (ETerm.encs r180.terms)) (fun _ h_ => h_) (fun _ => ho187)
    refine done ?_
    refine aK (by assumption) (dbits 5 7) ?_
    refine ae_tail 3 (by decide) (by decide) (by kernel_rfl) (by kernel_rfl) rfl ?_
    refine s_call [.agg #[v157], .agg #[u181], .int .i64 1] _ Try.func69 rfl rfl rfl (c_spec_l01Add (⟨s156.1⟩ : Vc.Form) r180 1 h _ (form_mk (own_repE (hC.getM 2 rfl))) (form_mk (own_repE (hC.getM 0 rfl)))) (fun ret190 w192 hR191 => ?_)
    obtain ⟨r193, u194, f195, rfl, h, hr196, hf197, hB198⟩ := hR191
    refine ⟨_, rfl, ?_⟩
    replace hC := hC.push hB198 (Tr.item (TrForm 114) r193 [u194] f195) hr196 hf197
    obtain ⟨ho200, hf201⟩ := form_split (hC.getM 0 rfl)
    subst hf201
    replace hC := hC.recast (c := own 114 9 u194 r193.terms.length (ETerm.encs r193.terms)) (fun _ h_ => h_) (fun _ => ho200)
    refine s_store (v := .agg #[u194]) hC 4 [u194] [u194] rfl ag95.size (sx hS_ 4 rfl) rfl rfl rfl (all_c (own_oneC (hC.getM 0 rfl)) rfl) (Nat.le_of_ble_eq_true rfl) rfl fun w203 hC => ?_
    refine done ?_
    refine qn_norm ?_
    refine blk_norm ?_
    refine then_norm ?_
    refine cw_region ?_
    refine s_mv (v := .int .i64 s156.2) (sx hS_ 5 rfl) ?_
    refine s_add rfl rfl ?_
    refine s_as (v := .int .i64 (IntKind.i64.wrap (s156.2 + 1))) rfl ?_
    refine done ?_
    replace hC := hC.sM [0, 4, 5, 6, 7, 8] (M' := [own 114 9 u194 r193.terms.length (ETerm.encs r193.terms), blk b46 95 [u194], blk b43 32 [u28, u29], own 2 1 u28 r27.degrees.length ((EI .i64).encs r27.degrees), Tr.item (Tr.sl 95 (TrForm 114)) r27.images [u29] f35, blk b1 32 [.slice none 0 0, .slice none 0 0]]) (by decide) rfl
    exact hK161 (r193.terms, IntKind.i64.wrap (s156.2 + 1)) _ _ ⟨u194, (sk (sx hS_ 0 rfl) (sk (sx hS_ 1 rfl) (sk (sx hS_ 2 rfl) (sk (sx hS_ 3 rfl) (sk (sx hS_ 4 rfl) (sk rfl sn)))))), hC⟩ h
   ·replace h := iff_ h (cf hb163)
    refine wp_exit (then_exit (then_exit (exit_in ?_)))
    refine then_norm ?_
    refine sr ?_
    refine s_faddrB 1 Try.underlying32 rfl sc30.size (sx hS_ 3 rfl) rfl ?_
    refine s_loadS hC 2 (u29) rfl sc30 rfl rfl ?_
    refine s_mv (v := .int .i64 a0) (sx hS_ 0 rfl) ?_
    refine s_mul rfl rfl ?_
    refine s_loadA hC 1 [v157] rfl ag95 (sx hS_ 4 rfl) rfl rfl ?_
    obtain ⟨⟨h0_204, h1_205⟩, h⟩ := h
    obtain ⟨g206, cap207, hv208⟩ := tr_formE (hC.getM 4 rfl) (Nat.lt_of_le_of_lt (Nat.zero_le _) (show (IntKind.i64.wrap (2 * a0)).toNat < r27.images.length by omega))
    refine s_iaddrO ((IntKind.i64.wrap (2 * a0)).toNat * 1) Try.underlying30 ag95.size (tr rfl hv208) rfl h0_204 h1_205 rfl ?_
    replace hC := hC.recast (c := Tr.item (TrForm 114) (⟨s156.1⟩ : Vc.Form) [v157] (Option.toList (Value.ownBlock v157))) (fun _ h_ => h_) (fun h_ => form_join (own_item h_))
    replace hC := hC.sM [4, 0, 1, 2, 3, 5] (M' := [Tr.item (Tr.sl 95 (TrForm 114)) r27.images [u29] f35, Tr.item (TrForm 114) (⟨s156.1⟩ : Vc.Form) [v157] (Option.toList (Value.ownBlock v157)), blk b46 95 [v157], blk b43 32 [u28, u29], own 2 1 u28 r27.degrees.length ((EI .i64).encs r27.degrees), blk b1 32 [.slice none 0 0, .slice none 0 0]]) (by decide) rfl
    refine s_storeT (u := .agg #[v157]) hC (show (IntKind.i64.wrap (2 * a0)).toNat < r27.images.length by omega) hv208 ag95.size rfl rfl rfl rfl fun f210 w211 hC => ?_
    refine dn ?_
    refine sr ?_
    refine s_loadA hC 2 [u28, u29] rfl ag32 (sx hS_ 3 rfl) rfl rfl ?_
    refine s_store (v := .agg #[u28, u29]) hC 4 [u28, u29] [u28, u29] rfl ag32.size (sx hS_ 1 rfl) rfl rfl rfl (all_c (own_oneC (hC.getM 3 rfl)) (all_c (rep_oneC (Tr.trep _ (hC.getM 0 rfl).1)) rfl)) (Nat.le_of_ble_eq_true rfl) rfl fun w212 hC => ?_
    refine s_as (v := .int .i64 0) rfl ?_
    refine dn ?_
    refine wp_ret ?_
    refine ret2 (fn := Try.f21) rfl ?_ ?_ ⟨(⟨r27.degrees, r27.images.set ((IntKind.i64.wrap (2 * a0)).toNat) (⟨s156.1⟩ : Vc.Form)⟩ : Alg), u28, u29, ((Option.toList (Value.ownBlock u28)) ++ f210), 0, rfl, h, (alg_join (own_item (hC.getM 3 rfl)) (hC.getM 0 rfl) (fun x hx hx' => hC.mm 3 0 rfl rfl (by decide) x hx hx')), (fun b hb => (List.mem_append.1 hb).elim (fun hb => (own_fresh hC 3 rfl) b hb) (fun hb => (tr_fresh hC 0 rfl) b hb)), hC.below⟩ (.inl rfl)
    ·exact res_cellA hC 4 rfl ag32 (sx hS_ 1 rfl) rfl
    ·exact res_tmp rfl
  ·skip
   replace hC := hC.pushNil 114 9
   replace hC := hC.sM [0, 1, 2, 3, 4, 6] (M' := [own 114 9 (.slice none 0 0) 0 (ETerm.encs []), blk b46 95 [.slice none 0 0], blk b43 32 [u28, u29], own 2 1 u28 r27.degrees.length ((EI .i64).encs r27.degrees), Tr.item (Tr.sl 95 (TrForm 114)) r27.images [u29] f35, blk b1 32 [.slice none 0 0, .slice none 0 0]]) (by decide) rfl
   exact ⟨.slice none 0 0, (sk rfl (sk rfl (sk rfl (sk rfl (sk rfl (sk rfl sn)))))), hC⟩
def f_bits_Mul64 (a0 : Int) (a1 : Int) (K : Int → Int → Prop) : Prop :=
 K (IntKind.u64.wrap ((IntKind.u64.wrap ((IntKind.u64.wrap ((bShr a0 32) * (bShr a1 32))) + (bShr (IntKind.u64.wrap ((IntKind.u64.wrap ((bShr a0 32) * (bAnd .u64 a1 4294967295))) + (bShr (IntKind.u64.wrap ((bAnd .u64 a0 4294967295) * (bAnd .u64 a1 4294967295))) 32))) 32))) + (bShr (IntKind.u64.wrap ((bAnd .u64 (IntKind.u64.wrap ((IntKind.u64.wrap ((bShr a0 32) * (bAnd .u64 a1 4294967295))) + (bShr (IntKind.u64.wrap ((bAnd .u64 a0 4294967295) * (bAnd .u64 a1 4294967295))) 32))) 4294967295) + (IntKind.u64.wrap ((bAnd .u64 a0 4294967295) * (bShr a1 32))))) 32))) (IntKind.u64.wrap (a0 * a1))
theorem c_bits_Mul64 (a0 : Int) (a1 : Int)  {K : Int → Int → Prop} (h : f_bits_Mul64 a0 a1 K) (w0 : World)  :
  Calls Try.prog 167 #[.int .u64 a0, .int .u64 a1] w0 fun e w' => ∃ (r0 : Int) (r1 : Int), 
   e = .returned (.tuple #[.int .u64 r0, .int .u64 r1]) ∧ K r0 r1 ∧ Bel w0 w' := by
 unfold f_bits_Mul64 at h
 refine calls_of (args := [.int .u64 a0, .int .u64 a1]) Try.func167 rfl 51 Try.ntmps167 (Nat.le_of_ble_eq_true rfl) ?_
 have hC := Ctx.start (X := Nox) w0 [] (by simp)
 refine sr ?_
 refine s_as (v := .int .u64 0) rfl ?_
 refine s_as (v := .int .u64 0) rfl ?_
 refine dn ?_
 refine sr ?_
 refine s_mv (v := .int .u64 a0) rfl ?_
 refine s_and rfl rfl ?_
 refine s_as (v := .int .u64 (bAnd .u64 a0 4294967295)) rfl ?_
 refine dn ?_
 refine sr ?_
 refine s_mv (v := .int .u64 a0) rfl ?_
 refine s_shr rfl rfl 32 (by decide) (by decide) ?_
 refine s_as (v := .int .u64 (bShr a0 32)) rfl ?_
 refine dn ?_
 refine sr ?_
 refine s_mv (v := .int .u64 a1) rfl ?_
 refine s_and rfl rfl ?_
 refine s_as (v := .int .u64 (bAnd .u64 a1 4294967295)) rfl ?_
 refine dn ?_
 refine sr ?_
 refine s_mv (v := .int .u64 a1) rfl ?_
 refine s_shr rfl rfl 32 (by decide) (by decide) ?_
 refine s_as (v := .int .u64 (bShr a1 32)) rfl ?_
 refine dn ?_
 refine sr ?_
 refine s_mv (v := .int .u64 (bAnd .u64 a0 4294967295)) rfl ?_
 refine s_mv (v := .int .u64 (bAnd .u64 a1 4294967295)) rfl ?_
 refine s_mul rfl rfl ?_
 refine s_as (v := .int .u64 (IntKind.u64.wrap ((bAnd .u64 a0 4294967295) * (bAnd .u64 a1 4294967295)))) rfl ?_
 refine dn ?_
 refine sr ?_
 refine s_mv (v := .int .u64 (bShr a0 32)) rfl ?_
 refine s_mv (v := .int .u64 (bAnd .u64 a1 4294967295)) rfl ?_
 refine s_mul rfl rfl ?_
 refine s_mv (v := .int .u64 (IntKind.u64.wrap ((bAnd .u64 a0 4294967295) * (bAnd .u64 a1 4294967295)))) rfl ?_
 refine s_shr rfl rfl 32 (by decide) (by decide) ?_
 refine s_add rfl rfl ?_
 refine s_as (v := .int .u64 (IntKind.u64.wrap ((IntKind.u64.wrap ((bShr a0 32) * (bAnd .u64 a1 4294967295))) + (bShr (IntKind.u64.wrap ((bAnd .u64 a0 4294967295) * (bAnd .u64 a1 4294967295))) 32)))) rfl ?_
 refine dn ?_
 refine sr ?_
 refine s_mv (v := .int .u64 (IntKind.u64.wrap ((IntKind.u64.wrap ((bShr a0 32) * (bAnd .u64 a1 4294967295))) + (bShr (IntKind.u64.wrap ((bAnd .u64 a0 4294967295) * (bAnd .u64 a1 4294967295))) 32)))) rfl ?_
 refine s_and rfl rfl ?_
 refine s_as (v := .int .u64 (bAnd .u64 (IntKind.u64.wrap ((IntKind.u64.wrap ((bShr a0 32) * (bAnd .u64 a1 4294967295))) + (bShr (IntKind.u64.wrap ((bAnd .u64 a0 4294967295) * (bAnd .u64 a1 4294967295))) 32))) 4294967295)) rfl ?_
 refine dn ?_
 refine sr ?_
 refine s_mv (v := .int .u64 (IntKind.u64.wrap ((IntKind.u64.wrap ((bShr a0 32) * (bAnd .u64 a1 4294967295))) + (bShr (IntKind.u64.wrap ((bAnd .u64 a0 4294967295) * (bAnd .u64 a1 4294967295))) 32)))) rfl ?_
 refine s_shr rfl rfl 32 (by decide) (by decide) ?_
 refine s_as (v := .int .u64 (bShr (IntKind.u64.wrap ((IntKind.u64.wrap ((bShr a0 32) * (bAnd .u64 a1 4294967295))) + (bShr (IntKind.u64.wrap ((bAnd .u64 a0 4294967295) * (bAnd .u64 a1 4294967295))) 32))) 32)) rfl ?_
 refine dn ?_
 refine sr ?_
 refine s_mv (v := .int .u64 (bAnd .u64 (IntKind.u64.wrap ((IntKind.u64.wrap ((bShr a0 32) * (bAnd .u64 a1 4294967295))) + (bShr (IntKind.u64.wrap ((bAnd .u64 a0 4294967295) * (bAnd .u64 a1 4294967295))) 32))) 4294967295)) rfl ?_
 refine s_mv (v := .int .u64 (bAnd .u64 a0 4294967295)) rfl ?_
 refine s_mv (v := .int .u64 (bShr a1 32)) rfl ?_
 refine s_mul rfl rfl ?_
 refine s_add rfl rfl ?_
 refine s_as (v := .int .u64 (IntKind.u64.wrap ((bAnd .u64 (IntKind.u64.wrap ((IntKind.u64.wrap ((bShr a0 32) * (bAnd .u64 a1 4294967295))) + (bShr (IntKind.u64.wrap ((bAnd .u64 a0 4294967295) * (bAnd .u64 a1 4294967295))) 32))) 4294967295) + (IntKind.u64.wrap ((bAnd .u64 a0 4294967295) * (bShr a1 32)))))) rfl ?_
 refine dn ?_
 refine sr ?_
 refine s_mv (v := .int .u64 (bShr a0 32)) rfl ?_
 refine s_mv (v := .int .u64 (bShr a1 32)) rfl ?_
 refine s_mul rfl rfl ?_
 refine s_mv (v := .int .u64 (bShr (IntKind.u64.wrap ((IntKind.u64.wrap ((bShr a0 32) * (bAnd .u64 a1 4294967295))) + (bShr (IntKind.u64.wrap ((bAnd .u64 a0 4294967295) * (bAnd .u64 a1 4294967295))) 32))) 32)) rfl ?_
 refine s_add rfl rfl ?_
 refine s_mv (v := .int .u64 (IntKind.u64.wrap ((bAnd .u64 (IntKind.u64.wrap ((IntKind.u64.wrap ((bShr a0 32) * (bAnd .u64 a1 4294967295))) + (bShr (IntKind.u64.wrap ((bAnd .u64 a0 4294967295) * (bAnd .u64 a1 4294967295))) 32))) 4294967295) + (IntKind.u64.wrap ((bAnd .u64 a0 4294967295) * (bShr a1 32)))))) rfl ?_
 refine s_shr rfl rfl 32 (by decide) (by decide) ?_
 refine s_add rfl rfl ?_
 refine s_as (v := .int .u64 (IntKind.u64.wrap ((IntKind.u64.wrap ((IntKind.u64.wrap ((bShr a0 32) * (bShr a1 32))) + (bShr (IntKind.u64.wrap ((IntKind.u64.wrap ((bShr a0 32) * (bAnd .u64 a1 4294967295))) + (bShr (IntKind.u64.wrap ((bAnd .u64 a0 4294967295) * (bAnd .u64 a1 4294967295))) 32))) 32))) + (bShr (IntKind.u64.wrap ((bAnd .u64 (IntKind.u64.wrap ((IntKind.u64.wrap ((bShr a0 32) * (bAnd .u64 a1 4294967295))) + (bShr (IntKind.u64.wrap ((bAnd .u64 a0 4294967295) * (bAnd .u64 a1 4294967295))) 32))) 4294967295) + (IntKind.u64.wrap ((bAnd .u64 a0 4294967295) * (bShr a1 32))))) 32)))) rfl ?_
 refine dn ?_
 refine sr ?_
 refine s_mv (v := .int .u64 a0) rfl ?_
 refine s_mv (v := .int .u64 a1) rfl ?_
 refine s_mul rfl rfl ?_
 refine s_as (v := .int .u64 (IntKind.u64.wrap (a0 * a1))) rfl ?_
 refine dn ?_
 refine wp_ret ?_
 refine ret2 (fn := Try.f167) rfl ?_ ?_ ⟨IntKind.u64.wrap ((IntKind.u64.wrap ((IntKind.u64.wrap ((bShr a0 32) * (bShr a1 32))) + (bShr (IntKind.u64.wrap ((IntKind.u64.wrap ((bShr a0 32) * (bAnd .u64 a1 4294967295))) + (bShr (IntKind.u64.wrap ((bAnd .u64 a0 4294967295) * (bAnd .u64 a1 4294967295))) 32))) 32))) + (bShr (IntKind.u64.wrap ((bAnd .u64 (IntKind.u64.wrap ((IntKind.u64.wrap ((bShr a0 32) * (bAnd .u64 a1 4294967295))) + (bShr (IntKind.u64.wrap ((bAnd .u64 a0 4294967295) * (bAnd .u64 a1 4294967295))) 32))) 4294967295) + (IntKind.u64.wrap ((bAnd .u64 a0 4294967295) * (bShr a1 32))))) 32)), IntKind.u64.wrap (a0 * a1), rfl, h, hC.below⟩ (.inl rfl)
 ·exact res_tmp rfl
 ·exact res_tmp rfl
def f_bits_Mul (a0 : Int) (a1 : Int) (K : Int → Int → Prop) : Prop :=
 f_bits_Mul64 a0 a1 (fun r4 r5 => K r4 r5)
theorem c_bits_Mul (a0 : Int) (a1 : Int)  {K : Int → Int → Prop} (h : f_bits_Mul a0 a1 K) (w0 : World)  :
  Calls Try.prog 150 #[.int .u64 a0, .int .u64 a1] w0 fun e w' => ∃ (r0 : Int) (r1 : Int), 
   e = .returned (.tuple #[.int .u64 r0, .int .u64 r1]) ∧ K r0 r1 ∧ Bel w0 w' := by
 unfold f_bits_Mul at h
 refine calls_of (args := [.int .u64 a0, .int .u64 a1]) Try.func150 rfl 30 Try.ntmps150 (Nat.le_of_ble_eq_true rfl) ?_
 have hC := Ctx.start (X := Nox) w0 [] (by simp)
 refine sr ?_
 refine s_as (v := .int .u64 0) rfl ?_
 refine s_as (v := .int .u64 0) rfl ?_
 refine dn ?_
 refine wp_seq ?_
 refine cw_false rfl rfl ?_
 refine wp_skip ?_
 refine then_norm ?_
 refine sr ?_
 refine s_mv (v := .int .u64 a0) rfl ?_
 refine s_mv (v := .int .u64 a1) rfl ?_
 refine s_call [.int .u64 a0, .int .u64 a1] _ Try.func167 rfl rfl rfl (c_bits_Mul64 a0 a1 h _) (fun ret1 w3 hR2 => ?_)
 obtain ⟨r4, r5, rfl, h, hB6⟩ := hR2
 refine ⟨_, rfl, ?_⟩
 replace hC := hC.grow hB6
 refine s_mv (v := .tuple #[.int .u64 r4, .int .u64 r5]) rfl ?_
 refine s_ext (v := .int .u64 r4) rfl rfl ?_
 refine s_ext (v := .int .u64 r5) rfl rfl ?_
 refine s_as (v := .int .u64 r4) rfl ?_
 refine s_as (v := .int .u64 r5) rfl ?_
 refine dn ?_
 refine sr ?_
 refine s_mv (v := .int .u64 r4) rfl ?_
 refine s_mv (v := .int .u64 r5) rfl ?_
 refine s_as (v := .int .u64 r4) rfl ?_
 refine s_as (v := .int .u64 r5) rfl ?_
 refine dn ?_
 refine wp_ret ?_
 refine ret2 (fn := Try.f150) rfl ?_ ?_ ⟨r4, r5, rfl, h, hC.below⟩ (.inl rfl)
 ·exact res_tmp rfl
 ·exact res_tmp rfl
def f_slices_Repeat_int64_int64 (a0 : List Int) (a1 : Int) (K : List Int → Prop) : Prop :=
 (¬ (a1 < 0) ∧ f_bits_Mul (IntKind.u64.wrap (a0.length : Int)) (IntKind.u64.wrap a1) (fun r9 r10 => (if r9 > 0 then False else (¬ (r10 > 9223372036854775807) ∧ ((0 ≤ IntKind.i64.wrap r10 ∧ (IntKind.i64.wrap r10) * 8 ≤ 281474976710656) ∧ whileP (fun (s62 : (List Int) × Int) next64 => (if s62.2 < (s62.1.length : Int) then ((0 ≤ s62.2 ∧ s62.2 ≤ (s62.1.length : Int)) ∧ ((0 ≤ s62.2 ∧ s62.2 ≤ (s62.1.length : Int)) ∧ next64 (pasteL s62.1 s62.2.toNat (s62.1.take s62.2.toNat), IntKind.i64.wrap (s62.2 + ((min s62.2.toNat (s62.1.length - s62.2.toNat) : Nat) : Int))))) else K s62.1)) (pasteL (List.replicate ((IntKind.i64.wrap r10).toNat) (0 : Int)) 0 a0, ((min a0.length ((List.replicate ((IntKind.i64.wrap r10).toNat) (0 : Int)).length - 0) : Nat) : Int)))))))
theorem c_slices_Repeat_int64_int64 (a0 : List Int) (a1 : Int) {u0_0 : Value} {fp0 : List Nat} {K : List Int → Prop} (h : f_slices_Repeat_int64_int64 a0 a1 K) (w0 : World) (q0 : ((EI .i64).ty.sl).rep a0 [u0_0] fp0 w0) :
  Calls Try.prog 123 #[u0_0, .int .i64 a1] w0 fun e w' => ∃ (r0 : List Int) (z0_0 : Value) (fz0 : List Nat), 
   e = .returned (z0_0) ∧ K r0 ∧ (Tr.item (Tr.sl 2 ((EI .i64).tr)) r0 [z0_0] fz0).holds w' ∧ (∀ b, b ∈ fz0 → w0.heap.size ≤ b) ∧ Bel w0 w' := by
 unfold f_slices_Repeat_int64_int64 at h
 refine calls_of (args := [u0_0, .int .i64 a1]) Try.func123 rfl 48 Try.ntmps123 (Nat.le_of_ble_eq_true rfl) ?_
 have hC := Ctx.start (X := Nox) w0 [Ty.item ((EI .i64).ty.sl) a0 [u0_0] fp0] (by simp only [List.mem_cons, List.not_mem_nil, or_false, forall_eq_or_imp, forall_eq]; exact q0)
 refine sr ?_
 refine s_as (v := .slice none 0 0) rfl ?_
 refine dn ?_
 refine wp_seq ?_
 refine sr ?_
 refine s_mv (v := .int .i64 a1) rfl ?_
 refine s_lss rfl rfl ?_
 refine dn ?_
 obtain ⟨hb2, h⟩ := h
 refine cw_false rfl (decide_eq_false hb2) ?_
 refine wp_skip ?_
 refine then_norm ?_
 refine sr ?_
 refine s_mv (v := u0_0) rfl ?_
 obtain ⟨Ad3, c4, hv5⟩ := sl_len (hC.getP 0 rfl)
 refine s_len Try.underlying22 (tr rfl hv5) ?_
 refine s_conv Try.underlying3 Try.underlying172 rfl ?_
 refine s_mv (v := .int .i64 a1) rfl ?_
 refine s_conv Try.underlying3 Try.underlying172 rfl ?_
 refine s_call [.int .u64 (IntKind.u64.wrap (a0.length : Int)), .int .u64 (IntKind.u64.wrap a1)] _ Try.func150 rfl rfl rfl (c_bits_Mul (IntKind.u64.wrap (a0.length : Int)) (IntKind.u64.wrap a1) h _) (fun ret6 w8 hR7 => ?_)
 obtain ⟨r9, r10, rfl, h, hB11⟩ := hR7
 refine ⟨_, rfl, ?_⟩
 replace hC := hC.grow hB11
 refine s_mv (v := .tuple #[.int .u64 r9, .int .u64 r10]) rfl ?_
 refine s_ext (v := .int .u64 r9) rfl rfl ?_
 refine s_ext (v := .int .u64 r10) rfl rfl ?_
 refine s_as (v := .int .u64 r9) rfl ?_
 refine s_as (v := .int .u64 r10) rfl ?_
 refine dn ?_
 refine wp_seq ?_
 refine sr ?_
 refine s_mv (v := .int .u64 r9) rfl ?_
 refine s_gtr rfl rfl ?_
 refine s_mv (v := .bool (decide (r9 > 0))) rfl ?_
 refine bsplit (decide (r9 > 0)) (fun hb12 => ?_) (fun hb12 => ?_)
 ·replace h := ift h (ct hb12)
  refine guardOff (b := true) 2 23 rfl (tr rfl (congrArg _ hb12)) (by decide) ?_
  refine guardOff (b := true) 2 23 rfl (tr rfl (congrArg _ hb12)) (by decide) ?_
  refine s_pick (v := .bool true) (b := true) (tr rfl (congrArg _ hb12)) rfl ?_
  refine dn ?_
  exact h.elim
 ·replace h := iff_ h (cf hb12)
  refine guardOn 2 23 rfl rfl hb12 ?_
  refine s_mv (v := .int .u64 r10) rfl ?_
  refine guardOn 2 23 rfl rfl hb12 ?_
  refine s_gtr rfl rfl ?_
  refine s_pick (v := .bool (decide (r10 > 9223372036854775807))) (b := false) (tr rfl (congrArg _ hb12)) rfl ?_
  refine dn ?_
  obtain ⟨hb13, h⟩ := h
  refine cw_false rfl (decide_eq_false hb13) ?_
  refine wp_skip ?_
  refine then_norm ?_
  refine sr ?_
  refine s_mv (v := .int .u64 r10) rfl ?_
  refine s_conv Try.underlying172 Try.underlying3 rfl ?_
  obtain ⟨hm16, h⟩ := h
  refine s_make (sz := 1) hC ((EI .i64).encs (List.replicate ((IntKind.i64.wrap r10).toNat) (0 : Int))) Try.underlying22 el2 (tr rfl (congrArg (Value.int .i64) (Int.toNat_of_nonneg hm16.1).symm)) (tr rfl (congrArg (Value.int .i64) (Int.toNat_of_nonneg hm16.1).symm)) (by omega) (by omega) (made_encs (E := (EI .i64)) _ _) fun v14 w15 hB_ hC => ?_
  replace hC := own_re hC 0 ((List.replicate ((IntKind.i64.wrap r10).toNat) (0 : Int)).length) ((EI .i64).encs (List.replicate ((IntKind.i64.wrap r10).toNat) (0 : Int))) rfl (by simp) rfl
  refine s_as (v := v14) rfl ?_
  refine dn ?_
  refine sr ?_
  refine s_mv (v := v14) rfl ?_
  refine s_mv (v := u0_0) rfl ?_
  refine s_copyO hC 0 rfl Try.underlying22 el2 rfl rfl (own_tail (hC.getM 0 rfl)) (Nat.zero_le _) (rdr_src (sl_rdr (hC.getP 0 rfl))) (fun q hq => Enc.encs_one' (E := (EI .i64)) _ q hq) fun w18 hC => ?_
  replace hC := own_re hC 0 ((pasteL (List.replicate ((IntKind.i64.wrap r10).toNat) (0 : Int)) 0 a0).length) ((EI .i64).encs (pasteL (List.replicate ((IntKind.i64.wrap r10).toNat) (0 : Int)) 0 a0)) rfl (pasteL_len _ _ _ (Nat.zero_le _)) (paste_encs (EI .i64) _ _ _)
  refine s_as (v := .int .i64 ((min a0.length ((List.replicate ((IntKind.i64.wrap r10).toNat) (0 : Int)).length - 0) : Nat) : Int)) rfl ?_
  refine dn ?_
  refine wp_seq ?_
  refine wp_block ?_
  refine loopW (S := (List Int) × Int) _ (fun s62 e_ w_ => ∃ (v63 : Value), Slots e_ [(4, .slice none 0 0), (7, v63), (8, .int .i64 s62.2)] ∧ Ctx Nox w0 w_ [own 2 1 v63 s62.1.length ((EI .i64).encs s62.1)] [Ty.item ((EI .i64).ty.sl) a0 [u0_0] fp0]) ?_ (s0 := (pasteL (List.replicate ((IntKind.i64.wrap r10).toNat) (0 : Int)) 0 a0, ((min a0.length ((List.replicate ((IntKind.i64.wrap r10).toNat) (0 : Int)).length - 0) : Nat) : Int))) ?_ h
  ·clear hC h
   rintro s62 e_ w67 next64 K65 ⟨v63, hS_, hC⟩ h hK66
   refine wp_seq ?_
   refine sr ?_
   refine s_mv (v := .int .i64 s62.2) (sx hS_ 2 rfl) ?_
   refine s_mv (v := v63) (sx hS_ 1 rfl) ?_
   obtain ⟨Ad68, c69, hv70⟩ := own_form (hC.getM 0 rfl)
   refine s_len Try.underlying22 (tr rfl hv70) ?_
   refine s_lss rfl rfl ?_
   refine dn ?_
   refine cw_cond rfl (fun hb71 => ?_) (fun hb71 => ?_)
   ·replace h := ift h (ct hb71)
    refine wp_skip ?_
    refine then_norm ?_
    refine wp_block ?_
    refine cw_draw 7 mixed [0, 0, 0, 6, 0, 0, 48, 126, 255, 511] [3, 6] [0, 1, 2, 4, 5] (by kernel_rfl) (by kernel_rfl) (by kernel_rfl) (fun hM73 hM74 w72 hB_ => ?_)
    replace hC := hC.grow hB_
    refine aF 0 (.int .i64 s62.2) rfl rfl (hM74 0 rfl) (rfl) (fun _ => by exact r_mv (v := .int .i64 s62.2) (sx hS_ 2 rfl)) (dbits 10 1) ?_
    refine aF 1 (v63) rfl rfl (hM74 1 rfl) (rfl) (fun _ => by exact r_mv (v := v63) (sx hS_ 1 rfl)) (dbits 10 3) ?_
    refine aF 2 (.int .i64 s62.2) rfl rfl (hM74 2 rfl) (rfl) (fun _ => by exact r_mv (v := .int .i64 s62.2) (sx hS_ 2 rfl)) (dbits 10 7) ?_
    obtain ⟨h0_75, h⟩ := h
    obtain ⟨Ad76, c77, hv78, hn79, hA80⟩ := own_sl (hC.getM 0 rfl)
    refine aL 3 (sliced Ad76 (s62.2.toNat) s62.1.length c77 1) rfl rfl (hM73 3 rfl) (rfl) (fun _ hB_ => by exact r_slL hv78 Try.underlying22 sc2.size rfl rfl h0_75.1 h0_75.2) (dbits 10 15) ?_
    refine aF 4 (v63) rfl rfl (hM74 4 rfl) (rfl) (fun _ => by exact r_mv (v := v63) (sx hS_ 1 rfl)) (dbits 10 31) ?_
    refine aF 5 (.int .i64 s62.2) rfl rfl (hM74 5 rfl) (rfl) (fun _ => by exact r_mv (v := .int .i64 s62.2) (sx hS_ 2 rfl)) (dbits 10 63) ?_
    obtain ⟨h0_81, h⟩ := h
    obtain ⟨Ad82, c83, hv84, hn85, hA86⟩ := own_sl (hC.getM 0 rfl)
    refine aL 6 (.slice Ad82 (s62.2.toNat) c83) rfl rfl (hM73 6 rfl) (rfl) (fun _ hB_ => by exact r_slH hv84 hn85 hA86 Try.underlying22 sc2.size rfl rfl h0_81.1 h0_81.2) (dbits 10 127) ?_
    refine aO 7 rfl ?_
    refine s_copyO hC 0 rfl Try.underlying22 el2 rfl rfl ⟨Ad76, c77, hv78, hn79, rfl⟩ (by omega) (src_eq (Enc.encs_take (EI .i64) _ _) (own_head (hC.getM 0 rfl) (by omega) ⟨Ad82, c83, hv84, rfl⟩)) (fun q hq => Enc.encs_one' (E := (EI .i64)) _ q hq) fun w87 hC => ?_
    replace hC := own_re hC 0 ((pasteL s62.1 s62.2.toNat (s62.1.take s62.2.toNat)).length) ((EI .i64).encs (pasteL s62.1 s62.2.toNat (s62.1.take s62.2.toNat))) rfl (pasteL_len _ _ _ (by omega)) (paste_encs (EI .i64) _ _ _)
    refine done ?_
    refine ak_introN (by decide) (l9 := (dbits 10 255)) (by kernel_rfl) ?_
    refine ae_tail 8 (by decide) (by decide) (by kernel_rfl) (by kernel_rfl) rfl ?_
    refine s_add rfl rfl ?_
    refine s_as (v := .int .i64 (IntKind.i64.wrap (s62.2 + ((min s62.2.toNat (s62.1.length - s62.2.toNat) : Nat) : Int)))) rfl ?_
    refine done ?_
    refine qn_norm ?_
    refine blk_norm ?_
    exact hK66 (pasteL s62.1 s62.2.toNat (s62.1.take s62.2.toNat), IntKind.i64.wrap (s62.2 + ((min s62.2.toNat (s62.1.length - s62.2.toNat) : Nat) : Int))) _ _ ⟨v63, (sk (sx hS_ 0 rfl) (sk (sx hS_ 1 rfl) (sk rfl sn))), hC⟩ h
   ·replace h := iff_ h (cf hb71)
    refine wp_exit (then_exit (then_exit (exit_in ?_)))
    refine then_norm ?_
    refine sr ?_
    refine s_mv (v := v63) (sx hS_ 1 rfl) ?_
    refine s_as (v := v63) rfl ?_
    refine dn ?_
    refine wp_ret ?_
    refine ret1 (fn := Try.f123) rfl ?_ ⟨s62.1, v63, (Option.toList (Value.ownBlock v63)), rfl, h, (own_item (hC.getM 0 rfl)), (own_fresh hC 0 rfl), hC.below⟩ (.inl rfl)
    exact res_tmp rfl
  ·skip
   exact ⟨v14, (sk rfl (sk rfl (sk rfl sn))), hC⟩
def f_impl_TorusModel (a0 : Int) (K : Alg → Int → Prop) : Prop :=
 f_impl_within a0 0 8 (fun r7 => (if ¬ (r7 = true) then K (⟨[], []⟩ : Alg) 2 else ((f_slices_Repeat_int64_int64 [1] a0 (fun r81 => ((0 ≤ a0 ∧ a0 * 24 ≤ 281474976710656) ∧ K (⟨r81, List.replicate a0.toNat ((⟨[]⟩ : Vc.Form) : Vc.Form)⟩ : Alg) 0)) ∧ ((0 ≤ a0 ∧ a0 * 24 ≤ 281474976710656) ∧ f_slices_Repeat_int64_int64 [1] a0 (fun r103 => K (⟨r103, List.replicate a0.toNat ((⟨[]⟩ : Vc.Form) : Vc.Form)⟩ : Alg) 0))) ∧ ((0 ≤ a0 ∧ a0 * 24 ≤ 281474976710656) ∧ f_slices_Repeat_int64_int64 [1] a0 (fun r124 => K (⟨r124, List.replicate a0.toNat ((⟨[]⟩ : Vc.Form) : Vc.Form)⟩ : Alg) 0)))))
theorem c_impl_TorusModel (a0 : Int)  {K : Alg → Int → Prop} (h : f_impl_TorusModel a0 K) (w0 : World)  :
  Calls Try.prog 71 #[.int .i64 a0] w0 fun e w' => ∃ (r0 : Alg) (z0_0 : Value) (z0_1 : Value) (fz0 : List Nat) (r1 : Int), 
   e = .returned (.tuple #[.agg #[z0_0, z0_1], .int .i64 r1]) ∧ K r0 r1 ∧ (Tr.item (TrAlg 2 114 95) r0 [z0_0, z0_1] fz0).holds w' ∧ (∀ b, b ∈ fz0 → w0.heap.size ≤ b) ∧ Bel w0 w' := by
 unfold f_impl_TorusModel at h
 refine calls_of (args := [.int .i64 a0]) Try.func71 rfl 14 Try.ntmps71 (Nat.le_of_ble_eq_true rfl) ?_
 have hC := Ctx.start (X := Nox) w0 [] (by simp)
 refine sr ?_
 refine s_alloc hC [.slice none 0 0, .slice none 0 0] z32 rfl fun b1 w3 hB_ hC => ?_
 refine s_as (v := .int .i64 0) rfl ?_
 refine dn ?_
 refine wp_seq ?_
 refine sr ?_
 refine s_mv (v := .int .i64 a0) rfl ?_
 refine s_call [.int .i64 a0, .int .i64 0, .int .i64 8] _ Try.func48 rfl rfl rfl (c_impl_within a0 0 8 h _) (fun ret4 w6 hR5 => ?_)
 obtain ⟨r7, rfl, h, hB8⟩ := hR5
 refine ⟨_, rfl, ?_⟩
 replace hC := hC.grow hB8
 refine s_not rfl ?_
 refine dn ?_
 refine cw_cond rfl (fun hb9 => ?_) (fun hb9 => ?_)
 ·replace h := ift h (ne_t (not_t hb9))
  refine sr ?_
  refine s_build [] rfl (bl32   _) ?_
  refine s_store (v := .agg #[.slice none 0 0, .slice none 0 0]) hC 0 [.slice none 0 0, .slice none 0 0] [.slice none 0 0, .slice none 0 0] rfl ag32.size rfl rfl rfl rfl rfl (Nat.le_of_ble_eq_true rfl) rfl fun w10 hC => ?_
  refine s_as (v := .int .i64 2) rfl ?_
  refine dn ?_
  refine wp_ret (then_ret ?_)
  refine ret2 (fn := Try.f71) rfl ?_ ?_ ⟨(⟨[], []⟩ : Alg), .slice none 0 0, .slice none 0 0, ([] ++ []), 2, rfl, h, (alg_join (nil_item _ _ _) (nil_item _ _ _) (fun x hx => absurd hx (by simp))), (fun b hb => (List.mem_append.1 hb).elim (fun hb => (fun b hb => absurd hb (by simp)) b hb) (fun hb => (fun b hb => absurd hb (by simp)) b hb)), hC.below⟩ (.inl rfl)
  ·exact res_cellA hC 0 rfl ag32 rfl rfl
  ·exact res_tmp rfl
 ·replace h := iff_ h (not_not_intro ((not_f hb9)))
  refine wp_skip ?_
  refine then_norm ?_
  refine wp_seq ?_
  refine cw_draw 5 mixed [0, 0, 3, 0, 8, 31, 63, 127] [] [1, 3] (by kernel_rfl) (by kernel_rfl) (by kernel_rfl) (fun hM12 hM13 w11 hB_ => ?_)
  replace hC := hC.grow hB_
  refine aF 1 (.int .i64 a0) rfl rfl (hM13 1 rfl) (rfl) (fun _ => by exact r_mv (v := .int .i64 a0) rfl) (dbits 8 2) ?_
  refine aF 3 (.int .i64 a0) rfl rfl (hM13 3 rfl) (rfl) (fun _ => by exact r_mv (v := .int .i64 a0) rfl) (dbits 8 10) ?_
  refine ae_join (fun e_ w_ => ∃ (v30 : Value), ∃ (u21 : Value), ∃ (r20 : List Int), Slots e_ [(2, .pointer (some ⟨b1, 0, none⟩)), (3, .int .i64 0)] ∧ Ctx Nox w0 w_ [Tr.item (Tr.sl 95 (TrForm 114)) (List.replicate a0.toNat ((⟨[]⟩ : Vc.Form) : Vc.Form)) [v30] ((Option.toList (Value.ownBlock v30)) ++ (List.replicate a0.toNat ([] : List Nat)).flatten), own 2 1 u21 r20.length ((EI .i64).encs r20), blk b1 32 [u21, v30]] [] ∧ (K (⟨r20, List.replicate a0.toNat ((⟨[]⟩ : Vc.Form) : Vc.Form)⟩ : Alg) 0)) ?_ ?_
  ·clear hC h
   rintro e_ w74 ⟨v30, u21, r20, hS_, hC, h⟩
   refine then_norm ?_
   refine wp_ret ?_
   refine ret2 (fn := Try.f71) rfl ?_ ?_ ⟨(⟨r20, List.replicate a0.toNat ((⟨[]⟩ : Vc.Form) : Vc.Form)⟩ : Alg), u21, v30, ((Option.toList (Value.ownBlock u21)) ++ ((Option.toList (Value.ownBlock v30)) ++ (List.replicate a0.toNat ([] : List Nat)).flatten)), 0, rfl, h, (alg_join (own_item (hC.getM 1 rfl)) (hC.getM 0 rfl) (fun x hx hx' => hC.mm 1 0 rfl rfl (by decide) x hx hx')), (fun b hb => (List.mem_append.1 hb).elim (fun hb => (own_fresh hC 1 rfl) b hb) (fun hb => (tr_fresh hC 0 rfl) b hb)), hC.below⟩ (.inl rfl)
   ·exact res_cellA hC 2 rfl ag32 (sx hS_ 0 rfl) rfl
   ·exact res_tmp (sx hS_ 1 rfl)
  refine ae_two 0 4 rfl rfl (by kernel_rfl) ?_ ?_
  ·skip
   replace h := h.1
   refine s_bslice (sz := 1) hC [(0, .int .i64 1)] ((EI .i64).encs [1]) rfl (fun _ => bs22_1 1 _) rfl (by decide) fun b75 w76 hB_ hC => ?_
   refine done ?_
   refine aK (by assumption) (dbits 8 11) ?_
   refine ae_two 2 4 rfl rfl (by kernel_rfl) ?_ ?_
   ·skip
    replace h := h.1
    refine s_call [.slice (some ⟨b75, 0, none⟩) 1 1, .int .i64 a0] _ Try.func123 rfl rfl rfl (c_slices_Repeat_int64_int64 [1] a0 h _ (own_repE (hC.getM 0 rfl))) (fun ret78 w80 hR79 => ?_)
    obtain ⟨r81, u82, f83, rfl, h, hr84, hf85, hB86⟩ := hR79
    refine ⟨_, rfl, ?_⟩
    replace hC := hC.push hB86 (Tr.item (Tr.sl 2 ((EI .i64).tr)) r81 [u82] f83) hr84 hf85
    obtain ⟨ho88, hf89⟩ := flat_tr (hC.getM 0 rfl).1
    subst hf89
    replace hC := hC.recast (c := own 2 1 u82 r81.length ((EI .i64).encs r81)) (fun _ h_ => h_) (fun _ => ho88)
    refine done ?_
    refine aK (by assumption) (dbits 8 15) ?_
    refine aO 4 rfl ?_
    obtain ⟨hm93, h⟩ := h
    refine s_make (sz := 1) hC (List.replicate a0.toNat (.slice none 0 0)) Try.underlying30 el95 (tr rfl (congrArg (Value.int .i64) (Int.toNat_of_nonneg hm93.1).symm)) (tr rfl (congrArg (Value.int .i64) (Int.toNat_of_nonneg hm93.1).symm)) (by omega) (by omega) (made_nil _) fun v91 w92 hB_ hC => ?_
    replace hC := hC.pushM0 (forest (TrForm 114) (List.replicate a0.toNat ((⟨[]⟩ : Vc.Form) : Vc.Form)) (List.replicate a0.toNat (.slice none 0 0)) (List.replicate a0.toNat [])) (forest_rep (form_join (nil_item _ _ _)) rfl _) (flat_rep _)
    replace hC := hC.gather (c := Tr.item (Tr.sl 95 (TrForm 114)) (List.replicate a0.toNat ((⟨[]⟩ : Vc.Form) : Vc.Form)) [v91] ((Option.toList (Value.ownBlock v91)) ++ (List.replicate a0.toNat ([] : List Nat)).flatten)) (fun x_ hx_ => (List.mem_append.1 hx_).symm) (fun h1_ h2_ hd_ => forest_up (by rw [List.length_replicate]; exact h2_) h1_ (fun b_ hb_ hb2_ => hd_ b_ hb2_ hb_))
    refine done ?_
    refine aK (by assumption) (dbits 8 31) ?_
    refine ae_tail 5 (by decide) (by decide) (by kernel_rfl) (by kernel_rfl) rfl ?_
    refine s_build [(0, u82), (1, v91)] rfl (bl32_0sl_1sl u82 v91 (own_isSl (hC.getM 1 rfl)) (rep_isSl (Tr.trep _ (hC.getM 0 rfl).1)) _) ?_
    refine s_store (v := .agg #[u82, v91]) hC 3 [u82, v91] [u82, v91] rfl ag32.size rfl rfl rfl rfl (all_c (own_oneC (hC.getM 1 rfl)) (all_c (rep_oneC (Tr.trep _ (hC.getM 0 rfl).1)) rfl)) (Nat.le_of_ble_eq_true rfl) rfl fun w95 hC => ?_
    refine s_as (v := .int .i64 0) rfl ?_
    refine done ?_
    refine qn_norm ?_
    replace hC := hC.sM [0, 1, 3] (M' := [Tr.item (Tr.sl 95 (TrForm 114)) (List.replicate a0.toNat ((⟨[]⟩ : Vc.Form) : Vc.Form)) [v91] ((Option.toList (Value.ownBlock v91)) ++ (List.replicate a0.toNat ([] : List Nat)).flatten), own 2 1 u82 r81.length ((EI .i64).encs r81), blk b1 32 [u82, v91]]) (by decide) rfl
    exact ⟨rfl, _, rfl, ⟨v91, u82, r81, (sk rfl (sk rfl sn)), hC, h⟩⟩
   ·skip
    replace h := h.2
    obtain ⟨hm98, h⟩ := h
    refine s_make (sz := 1) hC (List.replicate a0.toNat (.slice none 0 0)) Try.underlying30 el95 (tr rfl (congrArg (Value.int .i64) (Int.toNat_of_nonneg hm98.1).symm)) (tr rfl (congrArg (Value.int .i64) (Int.toNat_of_nonneg hm98.1).symm)) (by omega) (by omega) (made_nil _) fun v96 w97 hB_ hC => ?_
    replace hC := hC.pushM0 (forest (TrForm 114) (List.replicate a0.toNat ((⟨[]⟩ : Vc.Form) : Vc.Form)) (List.replicate a0.toNat (.slice none 0 0)) (List.replicate a0.toNat [])) (forest_rep (form_join (nil_item _ _ _)) rfl _) (flat_rep _)
    replace hC := hC.gather (c := Tr.item (Tr.sl 95 (TrForm 114)) (List.replicate a0.toNat ((⟨[]⟩ : Vc.Form) : Vc.Form)) [v96] ((Option.toList (Value.ownBlock v96)) ++ (List.replicate a0.toNat ([] : List Nat)).flatten)) (fun x_ hx_ => (List.mem_append.1 hx_).symm) (fun h1_ h2_ hd_ => forest_up (by rw [List.length_replicate]; exact h2_) h1_ (fun b_ hb_ hb2_ => hd_ b_ hb2_ hb_))
    refine done ?_
    refine aK (by assumption) (dbits 8 27) ?_
    refine aO 2 rfl ?_
    refine s_call [.slice (some ⟨b75, 0, none⟩) 1 1, .int .i64 a0] _ Try.func123 rfl rfl rfl (c_slices_Repeat_int64_int64 [1] a0 h _ (own_repE (hC.getM 1 rfl))) (fun ret100 w102 hR101 => ?_)
    obtain ⟨r103, u104, f105, rfl, h, hr106, hf107, hB108⟩ := hR101
    refine ⟨_, rfl, ?_⟩
    replace hC := hC.push hB108 (Tr.item (Tr.sl 2 ((EI .i64).tr)) r103 [u104] f105) hr106 hf107
    obtain ⟨ho110, hf111⟩ := flat_tr (hC.getM 0 rfl).1
    subst hf111
    replace hC := hC.recast (c := own 2 1 u104 r103.length ((EI .i64).encs r103)) (fun _ h_ => h_) (fun _ => ho110)
    refine done ?_
    refine aK (by assumption) (dbits 8 31) ?_
    refine ae_tail 5 (by decide) (by decide) (by kernel_rfl) (by kernel_rfl) rfl ?_
    refine s_build [(0, u104), (1, v96)] rfl (bl32_0sl_1sl u104 v96 (own_isSl (hC.getM 0 rfl)) (rep_isSl (Tr.trep _ (hC.getM 1 rfl).1)) _) ?_
    refine s_store (v := .agg #[u104, v96]) hC 3 [u104, v96] [u104, v96] rfl ag32.size rfl rfl rfl rfl (all_c (own_oneC (hC.getM 0 rfl)) (all_c (rep_oneC (Tr.trep _ (hC.getM 1 rfl).1)) rfl)) (Nat.le_of_ble_eq_true rfl) rfl fun w113 hC => ?_
    refine s_as (v := .int .i64 0) rfl ?_
    refine done ?_
    refine qn_norm ?_
    replace hC := hC.sM [1, 0, 3] (M' := [Tr.item (Tr.sl 95 (TrForm 114)) (List.replicate a0.toNat ((⟨[]⟩ : Vc.Form) : Vc.Form)) [v96] ((Option.toList (Value.ownBlock v96)) ++ (List.replicate a0.toNat ([] : List Nat)).flatten), own 2 1 u104 r103.length ((EI .i64).encs r103), blk b1 32 [u104, v96]]) (by decide) rfl
    exact ⟨rfl, _, rfl, ⟨v96, u104, r103, (sk rfl (sk rfl sn)), hC, h⟩⟩
  ·skip
   replace h := h.2
   obtain ⟨hm116, h⟩ := h
   refine s_make (sz := 1) hC (List.replicate a0.toNat (.slice none 0 0)) Try.underlying30 el95 (tr rfl (congrArg (Value.int .i64) (Int.toNat_of_nonneg hm116.1).symm)) (tr rfl (congrArg (Value.int .i64) (Int.toNat_of_nonneg hm116.1).symm)) (by omega) (by omega) (made_nil _) fun v114 w115 hB_ hC => ?_
   replace hC := hC.pushM0 (forest (TrForm 114) (List.replicate a0.toNat ((⟨[]⟩ : Vc.Form) : Vc.Form)) (List.replicate a0.toNat (.slice none 0 0)) (List.replicate a0.toNat [])) (forest_rep (form_join (nil_item _ _ _)) rfl _) (flat_rep _)
   replace hC := hC.gather (c := Tr.item (Tr.sl 95 (TrForm 114)) (List.replicate a0.toNat ((⟨[]⟩ : Vc.Form) : Vc.Form)) [v114] ((Option.toList (Value.ownBlock v114)) ++ (List.replicate a0.toNat ([] : List Nat)).flatten)) (fun x_ hx_ => (List.mem_append.1 hx_).symm) (fun h1_ h2_ hd_ => forest_up (by rw [List.length_replicate]; exact h2_) h1_ (fun b_ hb_ hb2_ => hd_ b_ hb2_ hb_))
   refine done ?_
   refine aK (by assumption) (dbits 8 26) ?_
   refine aO 0 rfl ?_
   refine s_bslice (sz := 1) hC [(0, .int .i64 1)] ((EI .i64).encs [1]) rfl (fun _ => bs22_1 1 _) rfl (by decide) fun b118 w119 hB_ hC => ?_
   refine done ?_
   refine aK (by assumption) (dbits 8 27) ?_
   refine aO 2 rfl ?_
   refine s_call [.slice (some ⟨b118, 0, none⟩) 1 1, .int .i64 a0] _ Try.func123 rfl rfl rfl (c_slices_Repeat_int64_int64 [1] a0 h _ (own_repE (hC.getM 0 rfl))) (fun ret121 w123 hR122 => ?_)
   obtain ⟨r124, u125, f126, rfl, h, hr127, hf128, hB129⟩ := hR122
   refine ⟨_, rfl, ?_⟩
   replace hC := hC.push hB129 (Tr.item (Tr.sl 2 ((EI .i64).tr)) r124 [u125] f126) hr127 hf128
   obtain ⟨ho131, hf132⟩ := flat_tr (hC.getM 0 rfl).1
   subst hf132
   replace hC := hC.recast (c := own 2 1 u125 r124.length ((EI .i64).encs r124)) (fun _ h_ => h_) (fun _ => ho131)
   refine done ?_
   refine aK (by assumption) (dbits 8 31) ?_
   refine ae_tail 5 (by decide) (by decide) (by kernel_rfl) (by kernel_rfl) rfl ?_
   refine s_build [(0, u125), (1, v114)] rfl (bl32_0sl_1sl u125 v114 (own_isSl (hC.getM 0 rfl)) (rep_isSl (Tr.trep _ (hC.getM 2 rfl).1)) _) ?_
   refine s_store (v := .agg #[u125, v114]) hC 3 [u125, v114] [u125, v114] rfl ag32.size rfl rfl rfl rfl (all_c (own_oneC (hC.getM 0 rfl)) (all_c (rep_oneC (Tr.trep _ (hC.getM 2 rfl).1)) rfl)) (Nat.le_of_ble_eq_true rfl) rfl fun w134 hC => ?_
   refine s_as (v := .int .i64 0) rfl ?_
   refine done ?_
   refine qn_norm ?_
   replace hC := hC.sM [2, 0, 3] (M' := [Tr.item (Tr.sl 95 (TrForm 114)) (List.replicate a0.toNat ((⟨[]⟩ : Vc.Form) : Vc.Form)) [v114] ((Option.toList (Value.ownBlock v114)) ++ (List.replicate a0.toNat ([] : List Nat)).flatten), own 2 1 u125 r124.length ((EI .i64).encs r124), blk b1 32 [u125, v114]]) (by decide) rfl
   exact ⟨rfl, _, rfl, ⟨v114, u125, r124, (sk rfl (sk rfl sn)), hC, h⟩⟩
def f_impl_generator (a0 : Int) (K : A8 → Prop) : Prop :=
 ((0 ≤ a0 ∧ a0 < 8) ∧ K (A8.zero.set a0.toNat 1))
theorem c_impl_generator (a0 : Int)  {K : A8 → Prop} (h : f_impl_generator a0 K) (w0 : World)  :
  Calls Try.prog 72 #[.int .i64 a0] w0 fun e w' => ∃ (r0 : A8), 
   e = .returned (.agg (List.toArray (A8.enc .i64 r0))) ∧ K r0 ∧ Bel w0 w' := by
 unfold f_impl_generator at h
 refine calls_of (args := [.int .i64 a0]) Try.func72 rfl 8 Try.ntmps72 (Nat.le_of_ble_eq_true rfl) ?_
 have hC := Ctx.start (X := Nox) w0 [] (by simp)
 refine sr ?_
 refine s_alloc hC (A8.enc .i64 A8.zero) z101 rfl fun b1 w3 hB_ hC => ?_
 refine dn ?_
 refine sr ?_
 refine s_build [] rfl (bl101   _) ?_
 refine s_alloc hC (A8.enc .i64 A8.zero) z101 rfl fun b4 w6 hB_ hC => ?_
 refine s_store (v := .agg (List.toArray (A8.enc .i64 A8.zero))) hC 0 (A8.enc .i64 A8.zero) (A8.enc .i64 A8.zero) rfl ag101.size rfl rfl rfl rfl rfl (Nat.le_of_ble_eq_true rfl) rfl fun w7 hC => ?_
 refine dn ?_
 refine sr ?_
 refine s_mv (v := .int .i64 a0) rfl ?_
 obtain ⟨⟨h0_8, h1_9⟩, h⟩ := h
 refine s_iaddrB a0.toNat Try.underlying101 sc3.size rfl rfl h0_8 h1_9 (by omega) ?_
 refine s_store (v := .int .i64 1) hC 0 [.int .i64 1] (A8.enc .i64 (A8.zero.set a0.toNat 1)) rfl sc3.size rfl rfl rfl rfl rfl (show a0.toNat < 8 by omega) (A8.enc_set _ _ _ (show a0.toNat < 8 by omega)) fun w10 hC => ?_
 refine dn ?_
 refine sr ?_
 refine s_loadA hC 0 (A8.enc .i64 (A8.zero.set a0.toNat 1)) rfl ag101 rfl rfl rfl ?_
 refine s_store (v := .agg (List.toArray (A8.enc .i64 (A8.zero.set a0.toNat 1)))) hC 1 (A8.enc .i64 (A8.zero.set a0.toNat 1)) (A8.enc .i64 (A8.zero.set a0.toNat 1)) rfl ag101.size rfl rfl rfl rfl rfl (Nat.le_of_ble_eq_true rfl) rfl fun w11 hC => ?_
 refine dn ?_
 refine wp_ret ?_
 refine ret1 (fn := Try.f72) rfl ?_ ⟨A8.zero.set a0.toNat 1, rfl, h, hC.below⟩ (.inl rfl)
 exact res_cellA hC 1 rfl ag101 rfl rfl
def f_impl_HeisenbergModel (a0 : Int) (K : Alg → Int → Prop) : Prop :=
 f_impl_within a0 1 3 (fun r7 => (if ¬ (r7 = true) then K (⟨[], []⟩ : Alg) 2 else f_impl_TorusModel (IntKind.i64.wrap ((IntKind.i64.wrap (2 * a0)) + 1)) (fun r14 r20 => whileP (fun (s120 : (List (A8 × Int)) × Int) next121 => (if s120.2 < a0 then f_impl_generator (IntKind.i64.wrap (2 * s120.2)) (fun r129 => ((0 ≤ IntKind.i64.wrap ((IntKind.i64.wrap (2 * s120.2)) + 1) ∧ IntKind.i64.wrap ((IntKind.i64.wrap (2 * s120.2)) + 1) < 8) ∧ next121 (mset s120.1 (r129.set ((IntKind.i64.wrap ((IntKind.i64.wrap (2 * s120.2)) + 1)).toNat) 1) 1, IntKind.i64.wrap (s120.2 + 1)))) else f_impl_sum_form s120.1 (fun r145 r150 => ((0 ≤ IntKind.i64.wrap (2 * a0) ∧ IntKind.i64.wrap (2 * a0) < (r14.images.length : Int)) ∧ K (⟨r14.degrees, r14.images.set ((IntKind.i64.wrap (2 * a0)).toNat) r145⟩ : Alg) 0)))) (([] : List (A8 × Int)), 0))))
theorem c_impl_HeisenbergModel (a0 : Int)  {K : Alg → Int → Prop} (h : f_impl_HeisenbergModel a0 K) (w0 : World)  :
  Calls Try.prog 22 #[.int .i64 a0] w0 fun e w' => ∃ (r0 : Alg) (z0_0 : Value) (z0_1 : Value) (fz0 : List Nat) (r1 : Int), 
   e = .returned (.tuple #[.agg #[z0_0, z0_1], .int .i64 r1]) ∧ K r0 r1 ∧ (Tr.item (TrAlg 2 114 95) r0 [z0_0, z0_1] fz0).holds w' ∧ (∀ b, b ∈ fz0 → w0.heap.size ≤ b) ∧ Bel w0 w' := by
 unfold f_impl_HeisenbergModel at h
 refine calls_of (args := [.int .i64 a0]) Try.func22 rfl 46 Try.ntmps22 (Nat.le_of_ble_eq_true rfl) ?_
 have hC := Ctx.start (X := Nox) w0 [] (by simp)
 refine sr ?_
 refine s_alloc hC [.slice none 0 0, .slice none 0 0] z32 rfl fun b1 w3 hB_ hC => ?_
 refine s_as (v := .int .i64 0) rfl ?_
 refine dn ?_
 refine wp_seq ?_
 refine sr ?_
 refine s_mv (v := .int .i64 a0) rfl ?_
 refine s_call [.int .i64 a0, .int .i64 1, .int .i64 3] _ Try.func48 rfl rfl rfl (c_impl_within a0 1 3 h _) (fun ret4 w6 hR5 => ?_)
 obtain ⟨r7, rfl, h, hB8⟩ := hR5
 refine ⟨_, rfl, ?_⟩
 replace hC := hC.grow hB8
 refine s_not rfl ?_
 refine dn ?_
 refine cw_cond rfl (fun hb9 => ?_) (fun hb9 => ?_)
 ·replace h := ift h (ne_t (not_t hb9))
  refine sr ?_
  refine s_build [] rfl (bl32   _) ?_
  refine s_store (v := .agg #[.slice none 0 0, .slice none 0 0]) hC 0 [.slice none 0 0, .slice none 0 0] [.slice none 0 0, .slice none 0 0] rfl ag32.size rfl rfl rfl rfl rfl (Nat.le_of_ble_eq_true rfl) rfl fun w10 hC => ?_
  refine s_as (v := .int .i64 2) rfl ?_
  refine dn ?_
  refine wp_ret (then_ret ?_)
  refine ret2 (fn := Try.f22) rfl ?_ ?_ ⟨(⟨[], []⟩ : Alg), .slice none 0 0, .slice none 0 0, ([] ++ []), 2, rfl, h, (alg_join (nil_item _ _ _) (nil_item _ _ _) (fun x hx => absurd hx (by simp))), (fun b hb => (List.mem_append.1 hb).elim (fun hb => (fun b hb => absurd hb (by simp)) b hb) (fun hb => (fun b hb => absurd hb (by simp)) b hb)), hC.below⟩ (.inl rfl)
  ·exact res_cellA hC 0 rfl ag32 rfl rfl
  ·exact res_tmp rfl
 ·replace h := iff_ h (not_not_intro ((not_f hb9)))
  refine wp_skip ?_
  refine then_norm ?_
  refine sr ?_
  refine s_mv (v := .int .i64 a0) rfl ?_
  refine s_mul rfl rfl ?_
  refine s_add rfl rfl ?_
  refine s_call [.int .i64 (IntKind.i64.wrap ((IntKind.i64.wrap (2 * a0)) + 1))] _ Try.func71 rfl rfl rfl (c_impl_TorusModel (IntKind.i64.wrap ((IntKind.i64.wrap (2 * a0)) + 1)) h _) (fun ret11 w13 hR12 => ?_)
  obtain ⟨r14, u15, u16, f17, r20, rfl, h, hr18, hf19, hB21⟩ := hR12
  refine ⟨_, rfl, ?_⟩
  replace hC := hC.push hB21 (Tr.item (TrAlg 2 114 95) r14 [u15, u16] f17) hr18 hf19
  obtain ⟨f23, ho24, ho25, hs26, hs27, hd28⟩ := alg_split (hC.getM 0 rfl)
  replace hC := hC.split (a := own 2 1 u15 r14.degrees.length ((EI .i64).encs r14.degrees)) (b := Tr.item (Tr.sl 95 (TrForm 114)) r14.images [u16] f23) hs26 hs27 ⟨ho24, ho25, hd28⟩
  refine s_mv (v := .tuple #[.agg #[u15, u16], .int .i64 r20]) rfl ?_
  refine s_ext (v := .agg #[u15, u16]) rfl rfl ?_
  refine s_ext (v := .int .i64 r20) rfl rfl ?_
  refine s_alloc hC [.slice none 0 0, .slice none 0 0] z32 rfl fun b31 w33 hB_ hC => ?_
  refine s_store (v := .agg #[u15, u16]) hC 0 [u15, u16] [u15, u16] rfl ag32.size rfl rfl rfl rfl (all_c (own_oneC (hC.getM 1 rfl)) (all_c (rep_oneC (Tr.trep _ (hC.getM 2 rfl).1)) rfl)) (Nat.le_of_ble_eq_true rfl) rfl fun w34 hC => ?_
  refine s_as (v := .int .i64 r20) rfl ?_
  refine dn ?_
  refine sr ?_
  refine s_makeMap hC (kvA .i64) (vvI .i64) fun b35 w37 hB_ hC => ?_
  refine s_as (v := .map (some b35)) rfl ?_
  refine dn ?_
  refine wp_seq ?_
  refine sr ?_
  refine s_mv (v := .int .i64 a0) rfl ?_
  refine s_mv (v := .int .i64 0) rfl ?_
  refine dn ?_
  refine wp_block ?_
  refine loopW (S := (List (A8 × Int)) × Int) _ (fun s120 e_ w_ => Slots e_ [(0, .int .i64 a0), (2, .pointer (some ⟨b1, 0, none⟩)), (3, .int .i64 0), (4, .pointer (some ⟨b31, 0, none⟩)), (6, .map (some b35)), (21, .int .i64 a0), (22, .int .i64 s120.2)] ∧ Ctx Nox w0 w_ [mapI (kvA .i64) (vvI .i64) b35 s120.1, blk b31 32 [u15, u16], own 2 1 u15 r14.degrees.length ((EI .i64).encs r14.degrees), Tr.item (Tr.sl 95 (TrForm 114)) r14.images [u16] f23, blk b1 32 [.slice none 0 0, .slice none 0 0]] []) ?_ (s0 := (([] : List (A8 × Int)), 0)) ?_ h
  ·clear hC h
   rintro s120 e_ w124 next121 K122 ⟨hS_, hC⟩ h hK123
   refine sr ?_
   refine s_lss (sx hS_ 6 rfl) (sx hS_ 5 rfl) ?_
   refine dn ?_
   refine wp_seq ?_
   refine cw_cond rfl (fun hb125 => ?_) (fun hb125 => ?_)
   ·replace h := ift h (ct hb125)
    refine wp_skip ?_
    refine then_norm ?_
    refine wp_seq ?_
    refine wp_block ?_
    refine sr ?_
    refine s_mv (v := .int .i64 s120.2) (sx hS_ 6 rfl) ?_
    refine s_as (v := .int .i64 s120.2) rfl ?_
    refine dn ?_
    refine sr ?_
    refine s_mv (v := .int .i64 s120.2) rfl ?_
    refine s_mul rfl rfl ?_
    refine s_call [.int .i64 (IntKind.i64.wrap (2 * s120.2))] _ Try.func72 rfl rfl rfl (c_impl_generator (IntKind.i64.wrap (2 * s120.2)) h _) (fun ret126 w128 hR127 => ?_)
    obtain ⟨r129, rfl, h, hB130⟩ := hR127
    refine ⟨_, rfl, ?_⟩
    replace hC := hC.grow hB130
    refine s_alloc hC (A8.enc .i64 A8.zero) z101 rfl fun b131 w133 hB_ hC => ?_
    refine s_store (v := .agg (List.toArray (A8.enc .i64 r129))) hC 0 (A8.enc .i64 r129) (A8.enc .i64 r129) rfl ag101.size rfl rfl rfl rfl rfl (Nat.le_of_ble_eq_true rfl) rfl fun w134 hC => ?_
    refine dn ?_
    refine sr ?_
    refine s_mv (v := .int .i64 s120.2) rfl ?_
    refine s_mul rfl rfl ?_
    refine s_add rfl rfl ?_
    obtain ⟨⟨h0_135, h1_136⟩, h⟩ := h
    refine s_iaddrB ((IntKind.i64.wrap ((IntKind.i64.wrap (2 * s120.2)) + 1)).toNat) Try.underlying101 sc3.size rfl rfl h0_135 h1_136 (by omega) ?_
    refine s_store (v := .int .i64 1) hC 0 [.int .i64 1] (A8.enc .i64 (r129.set ((IntKind.i64.wrap ((IntKind.i64.wrap (2 * s120.2)) + 1)).toNat) 1)) rfl sc3.size rfl rfl rfl rfl rfl (show (IntKind.i64.wrap ((IntKind.i64.wrap (2 * s120.2)) + 1)).toNat < 8 by omega) (A8.enc_set _ _ _ (show (IntKind.i64.wrap ((IntKind.i64.wrap (2 * s120.2)) + 1)).toNat < 8 by omega)) fun w137 hC => ?_
    refine dn ?_
    refine cw_region ?_
    refine s_mv (v := .map (some b35)) (sx hS_ 4 rfl) ?_
    refine s_loadA hC 0 (A8.enc .i64 (r129.set ((IntKind.i64.wrap ((IntKind.i64.wrap (2 * s120.2)) + 1)).toNat) 1)) rfl ag101 rfl rfl rfl ?_
    refine s_mapset hC 1 (r129.set ((IntKind.i64.wrap ((IntKind.i64.wrap (2 * s120.2)) + 1)).toNat) 1) 1 rfl kt101 Try.underlying99 rfl rfl rfl (fun w138 hC => ?_) (.inl rfl)
    refine done ?_
    refine blk_norm ?_
    refine then_norm ?_
    refine cw_region ?_
    refine s_add (sx hS_ 6 rfl) rfl ?_
    refine s_mv (v := .int .i64 (IntKind.i64.wrap (s120.2 + 1))) rfl ?_
    refine done ?_
    replace hC := hC.sM [1, 2, 3, 4, 5] (M' := [mapI (kvA .i64) (vvI .i64) b35 (mset s120.1 (r129.set ((IntKind.i64.wrap ((IntKind.i64.wrap (2 * s120.2)) + 1)).toNat) 1) 1), blk b31 32 [u15, u16], own 2 1 u15 r14.degrees.length ((EI .i64).encs r14.degrees), Tr.item (Tr.sl 95 (TrForm 114)) r14.images [u16] f23, blk b1 32 [.slice none 0 0, .slice none 0 0]]) (by decide) rfl
    exact hK123 (mset s120.1 (r129.set ((IntKind.i64.wrap ((IntKind.i64.wrap (2 * s120.2)) + 1)).toNat) 1) 1, IntKind.i64.wrap (s120.2 + 1)) _ _ ⟨(sk (sx hS_ 0 rfl) (sk (sx hS_ 1 rfl) (sk (sx hS_ 2 rfl) (sk (sx hS_ 3 rfl) (sk (sx hS_ 4 rfl) (sk (sx hS_ 5 rfl) (sk rfl sn))))))), hC⟩ h
   ·replace h := iff_ h (cf hb125)
    refine wp_exit (then_exit (then_exit (exit_in ?_)))
    refine then_norm ?_
    refine wp_seq ?_
    refine cw_draw 10 mixed [0, 1, 0, 4, 0, 16, 48, 112, 112, 255, 767] [1, 9] [0, 2, 3, 4, 6, 7, 8] (by kernel_rfl) (by kernel_rfl) (by kernel_rfl) (fun hM140 hM141 w139 hB_ => ?_)
    replace hC := hC.grow hB_
    refine aF 0 (.pointer (some ⟨b31, 1, none⟩)) rfl rfl (hM141 0 rfl) (rfl) (fun _ => by exact r_faddrB 1 Try.underlying32 rfl sc30.size (sx hS_ 3 rfl) rfl) (dbits 11 1) ?_
    refine aL 1 (u16) rfl rfl (hM140 1 rfl) (rfl) (fun _ hB_ => by exact r_loadS (hC.grow hB_) 1 (u16) rfl sc30 rfl rfl) (dbits 11 3) ?_
    refine aF 2 (.int .i64 a0) rfl rfl (hM141 2 rfl) (rfl) (fun _ => by exact r_mv (v := .int .i64 a0) (sx hS_ 0 rfl)) (dbits 11 7) ?_
    refine aF 3 (.int .i64 (IntKind.i64.wrap (2 * a0))) rfl rfl (hM141 3 rfl) (rfl) (fun _ => by exact r_mul rfl rfl) (dbits 11 15) ?_
    refine aF 4 (.map (some b35)) rfl rfl (hM141 4 rfl) (rfl) (fun _ => by exact r_mv (v := .map (some b35)) (sx hS_ 4 rfl)) (dbits 11 31) ?_
    refine aO 5 rfl ?_
    refine s_call [.map (some b35)] _ Try.func73 rfl rfl rfl (c_impl_sum_form s120.1 h _ (hC.getM 0 rfl)) (fun ret142 w144 hR143 => ?_)
    obtain ⟨r145, u146, f147, r150, rfl, h, hr148, hf149, hB151⟩ := hR143
    refine ⟨_, rfl, ?_⟩
    replace hC := hC.push hB151 (Tr.item (TrForm 114) r145 [u146] f147) hr148 hf149
    obtain ⟨ho153, hf154⟩ := form_split (hC.getM 0 rfl)
    subst hf154
    replace hC := hC.recast (c := own 114 9 u146 r145.terms.length (ETerm.encs r145.terms)) (fun _ h_ => h_) (fun _ => ho153)
    refine done ?_
    refine aK (by assumption) (dbits 11 63) ?_
    refine aF 6 (.tuple #[.agg #[u146], .int .i64 r150]) rfl rfl (hM141 6 rfl) (rfl) (fun _ => by exact r_mv (v := .tuple #[.agg #[u146], .int .i64 r150]) rfl) (dbits 11 127) ?_
    refine aF 7 (.agg #[u146]) rfl rfl (hM141 7 rfl) (rfl) (fun _ => by exact r_ext (v := .agg #[u146]) rfl rfl) (dbits 11 255) ?_
    refine aF 8 (.int .i64 r150) rfl rfl (hM141 8 rfl) (rfl) (fun _ => by exact r_ext (v := .int .i64 r150) rfl rfl) (dbits 11 511) ?_
    obtain ⟨⟨h0_156, h1_157⟩, h⟩ := h
    obtain ⟨g158, cap159, hv160⟩ := tr_formE (hC.getM 4 rfl) (Nat.lt_of_le_of_lt (Nat.zero_le _) (show (IntKind.i64.wrap (2 * a0)).toNat < r14.images.length by omega))
    refine aL 9 (.pointer (some ⟨g158, (IntKind.i64.wrap (2 * a0)).toNat * 1, none⟩)) rfl rfl (hM140 9 rfl) (rfl) (fun _ hB_ => by exact r_iaddrO ((IntKind.i64.wrap (2 * a0)).toNat * 1) Try.underlying30 ag95.size (by exact tr rfl hv160) rfl h0_156 h1_157 rfl) (dbits 11 1023) ?_
    refine aO 10 rfl ?_
    replace hC := hC.recast (c := Tr.item (TrForm 114) r145 [u146] (Option.toList (Value.ownBlock u146))) (fun _ h_ => h_) (fun h_ => form_join (own_item h_))
    replace hC := hC.sM [4, 0, 1, 2, 3, 5] (M' := [Tr.item (Tr.sl 95 (TrForm 114)) r14.images [u16] f23, Tr.item (TrForm 114) r145 [u146] (Option.toList (Value.ownBlock u146)), mapI (kvA .i64) (vvI .i64) b35 s120.1, blk b31 32 [u15, u16], own 2 1 u15 r14.degrees.length ((EI .i64).encs r14.degrees), blk b1 32 [.slice none 0 0, .slice none 0 0]]) (by decide) rfl
    refine s_storeT (u := .agg #[u146]) hC (show (IntKind.i64.wrap (2 * a0)).toNat < r14.images.length by omega) hv160 ag95.size rfl rfl rfl rfl fun f162 w163 hC => ?_
    refine done ?_
    refine ak_introN (by decide) (l9 := (dbits 11 2047)) (by kernel_rfl) ?_
    refine ae_tail 11 (by decide) (by decide) (by kernel_rfl) (by kernel_rfl) rfl ?_
    refine done ?_
    refine qn_norm ?_
    refine then_norm ?_
    refine sr ?_
    refine s_loadA hC 2 [u15, u16] rfl ag32 (sx hS_ 3 rfl) rfl rfl ?_
    refine s_store (v := .agg #[u15, u16]) hC 4 [u15, u16] [u15, u16] rfl ag32.size (sx hS_ 1 rfl) rfl rfl rfl (all_c (own_oneC (hC.getM 3 rfl)) (all_c (rep_oneC (Tr.trep _ (hC.getM 0 rfl).1)) rfl)) (Nat.le_of_ble_eq_true rfl) rfl fun w164 hC => ?_
    refine s_as (v := .int .i64 0) rfl ?_
    refine dn ?_
    refine wp_ret ?_
    refine ret2 (fn := Try.f22) rfl ?_ ?_ ⟨(⟨r14.degrees, r14.images.set ((IntKind.i64.wrap (2 * a0)).toNat) r145⟩ : Alg), u15, u16, ((Option.toList (Value.ownBlock u15)) ++ f162), 0, rfl, h, (alg_join (own_item (hC.getM 3 rfl)) (hC.getM 0 rfl) (fun x hx hx' => hC.mm 3 0 rfl rfl (by decide) x hx hx')), (fun b hb => (List.mem_append.1 hb).elim (fun hb => (own_fresh hC 3 rfl) b hb) (fun hb => (tr_fresh hC 0 rfl) b hb)), hC.below⟩ (.inl rfl)
    ·exact res_cellA hC 4 rfl ag32 (sx hS_ 1 rfl) rfl
    ·exact res_tmp rfl
  ·skip
   exact ⟨(sk rfl (sk rfl (sk rfl (sk rfl (sk rfl (sk rfl (sk rfl sn))))))), hC⟩
def f_laws_FnExactHeisenbergModel (a0 : Int) (K : Bool → Prop) : Prop :=
 f_spec_HeisenbergModel a0 (fun r4 r10 => f_impl_HeisenbergModel a0 (fun r28 r34 => f_laws_eqAlgebra r28 r4 (fun r52 => (if ¬ (r52 = true) then K false else (if r34 ≠ r10 then K false else f_laws_markAlgebra r28 1 (fun r59 m61 => f_laws_heldAlgebra (⟨m61.degrees, m61.images⟩ : Alg) 1 (fun r67 => (if r67 < 0 then K false else (if r67 ≠ r59 then K false else f_impl_HeisenbergModel a0 (fun r74 r80 => f_laws_eqAlgebra r74 (⟨r4.degrees, r4.images⟩ : Alg) (fun r98 => (if ¬ (r98 = true) then K false else (if r80 ≠ r10 then K false else f_laws_heldAlgebra (⟨m61.degrees, m61.images⟩ : Alg) 1 (fun r105 => (if r105 < 0 then K false else (if r105 ≠ r59 then K false else K true))))))))))))))))
theorem c_laws_FnExactHeisenbergModel (a0 : Int)  {K : Bool → Prop} (h : f_laws_FnExactHeisenbergModel a0 K) (w0 : World)  :
  Calls Try.prog 6 #[.int .i64 a0] w0 fun e w' => ∃ (r0 : Bool), 
   e = .returned (.bool r0) ∧ K r0 ∧ Bel w0 w' := by
 unfold f_laws_FnExactHeisenbergModel at h
 refine calls_of (args := [.int .i64 a0]) Try.func6 rfl 63 Try.ntmps6 (Nat.le_of_ble_eq_true rfl) ?_
 have hC := Ctx.start (X := Nox) w0 [] (by simp)
 refine sr ?_
 refine s_as (v := .bool false) rfl ?_
 refine dn ?_
 refine sr ?_
 refine s_mv (v := .int .i64 a0) rfl ?_
 refine s_call [.int .i64 a0] _ Try.func21 rfl rfl rfl (c_spec_HeisenbergModel a0 h _) (fun ret1 w3 hR2 => ?_)
 obtain ⟨r4, u5, u6, f7, r10, rfl, h, hr8, hf9, hB11⟩ := hR2
 refine ⟨_, rfl, ?_⟩
 replace hC := hC.push hB11 (Tr.item (TrAlg 2 114 95) r4 [u5, u6] f7) hr8 hf9
 obtain ⟨f13, ho14, ho15, hs16, hs17, hd18⟩ := alg_split (hC.getM 0 rfl)
 replace hC := hC.split (a := own 2 1 u5 r4.degrees.length ((EI .i64).encs r4.degrees)) (b := Tr.item (Tr.sl 95 (TrForm 114)) r4.images [u6] f13) hs16 hs17 ⟨ho14, ho15, hd18⟩
 refine s_mv (v := .tuple #[.agg #[u5, u6], .int .i64 r10]) rfl ?_
 refine s_ext (v := .agg #[u5, u6]) rfl rfl ?_
 refine s_ext (v := .int .i64 r10) rfl rfl ?_
 refine s_alloc hC [.slice none 0 0, .slice none 0 0] z32 rfl fun b21 w23 hB_ hC => ?_
 refine s_store (v := .agg #[u5, u6]) hC 0 [u5, u6] [u5, u6] rfl ag32.size rfl rfl rfl rfl (all_c (own_oneC (hC.getM 1 rfl)) (all_c (rep_oneC (Tr.trep _ (hC.getM 2 rfl).1)) rfl)) (Nat.le_of_ble_eq_true rfl) rfl fun w24 hC => ?_
 refine s_as (v := .int .i64 r10) rfl ?_
 refine dn ?_
 refine sr ?_
 refine s_mv (v := .int .i64 a0) rfl ?_
 refine s_call [.int .i64 a0] _ Try.func22 rfl rfl rfl (c_impl_HeisenbergModel a0 h _) (fun ret25 w27 hR26 => ?_)
 obtain ⟨r28, u29, u30, f31, r34, rfl, h, hr32, hf33, hB35⟩ := hR26
 refine ⟨_, rfl, ?_⟩
 replace hC := hC.push hB35 (Tr.item (TrAlg 2 114 95) r28 [u29, u30] f31) hr32 hf33
 obtain ⟨f37, ho38, ho39, hs40, hs41, hd42⟩ := alg_split (hC.getM 0 rfl)
 replace hC := hC.split (a := own 2 1 u29 r28.degrees.length ((EI .i64).encs r28.degrees)) (b := Tr.item (Tr.sl 95 (TrForm 114)) r28.images [u30] f37) hs40 hs41 ⟨ho38, ho39, hd42⟩
 refine s_mv (v := .tuple #[.agg #[u29, u30], .int .i64 r34]) rfl ?_
 refine s_ext (v := .agg #[u29, u30]) rfl rfl ?_
 refine s_ext (v := .int .i64 r34) rfl rfl ?_
 refine s_alloc hC [.slice none 0 0, .slice none 0 0] z32 rfl fun b45 w47 hB_ hC => ?_
 refine s_store (v := .agg #[u29, u30]) hC 0 [u29, u30] [u29, u30] rfl ag32.size rfl rfl rfl rfl (all_c (own_oneC (hC.getM 1 rfl)) (all_c (rep_oneC (Tr.trep _ (hC.getM 2 rfl).1)) rfl)) (Nat.le_of_ble_eq_true rfl) rfl fun w48 hC => ?_
 refine s_as (v := .int .i64 r34) rfl ?_
 refine dn ?_
 refine wp_seq ?_
 refine sr ?_
 refine s_loadA hC 0 [u29, u30] rfl ag32 rfl rfl rfl ?_
 refine s_loadA hC 3 [u5, u6] rfl ag32 rfl rfl rfl ?_
 refine s_call [.agg #[u29, u30], .agg #[u5, u6]] _ Try.func13 rfl rfl rfl (c_laws_eqAlgebra r28 r4 h _ (alg_mk (own_repE (hC.getM 1 rfl)) (Tr.trep _ (hC.getM 2 rfl).1)) (alg_mk (own_repE (hC.getM 4 rfl)) (Tr.trep _ (hC.getM 5 rfl).1))) (fun ret49 w51 hR50 => ?_)
 obtain ⟨r52, rfl, h, hB53⟩ := hR50
 refine ⟨_, rfl, ?_⟩
 replace hC := hC.grow hB53
 refine s_not rfl ?_
 refine s_mv (v := .bool (!r52)) rfl ?_
 refine bsplit (!r52) (fun hb54 => ?_) (fun hb54 => ?_)
 ·replace h := ift h (ne_t (not_t hb54))
  refine guardOff (b := true) 4 25 rfl (tr rfl (congrArg _ hb54)) (by decide) ?_
  refine guardOff (b := true) 4 25 rfl (tr rfl (congrArg _ hb54)) (by decide) ?_
  refine guardOff (b := true) 4 25 rfl (tr rfl (congrArg _ hb54)) (by decide) ?_
  refine s_pick (v := .bool true) (b := true) (tr rfl (congrArg _ hb54)) rfl ?_
  refine dn ?_
  refine cw_true rfl rfl ?_
  refine sr ?_
  refine s_as (v := .bool false) rfl ?_
  refine dn ?_
  refine wp_ret (then_ret ?_)
  refine ret1 (fn := Try.f6) rfl ?_ ⟨false, rfl, h, hC.below⟩ (.inl rfl)
  exact res_tmp rfl
 ·replace h := iff_ h (not_not_intro ((not_f hb54)))
  refine guardOn 4 25 rfl rfl hb54 ?_
  refine s_mv (v := .int .i64 r34) rfl ?_
  refine guardOn 4 25 rfl rfl hb54 ?_
  refine s_mv (v := .int .i64 r10) rfl ?_
  refine guardOn 4 25 rfl rfl hb54 ?_
  refine s_neq rfl rfl ?_
  refine s_pick (v := .bool (decide (r34 ≠ r10))) (b := false) (tr rfl (congrArg _ hb54)) rfl ?_
  refine dn ?_
  refine cw_cond rfl (fun hb55 => ?_) (fun hb55 => ?_)
  ·replace h := ift h (ct hb55)
   refine sr ?_
   refine s_as (v := .bool false) rfl ?_
   refine dn ?_
   refine wp_ret (then_ret ?_)
   refine ret1 (fn := Try.f6) rfl ?_ ⟨false, rfl, h, hC.below⟩ (.inl rfl)
   exact res_tmp rfl
  ·replace h := iff_ h (cf hb55)
   refine wp_skip ?_
   refine then_norm ?_
   refine sr ?_
   refine s_as (v := .int .i64 1) rfl ?_
   refine dn ?_
   refine sr ?_
   refine s_loadA hC 0 [u29, u30] rfl ag32 rfl rfl rfl ?_
   refine s_mv (v := .int .i64 1) rfl ?_
   refine s_call [.agg #[u29, u30], .int .i64 1] _ Try.func14 rfl rfl rfl (c_laws_markAlgebra r28 1 h _ (hC.getM 1 rfl) (hC.getM 2 rfl) (hC.mm 1 2 rfl rfl (by decide))) (fun ret56 w58 hR57 => ?_)
   obtain ⟨r59, m61, rfl, h, hm62, hm63, hB60⟩ := hR57
   refine ⟨_, rfl, ?_⟩
   replace hC := hC.turnL hB60 (M' := [blk b45 32 [u29, u30], own 2 1 u29 m61.degrees.length ((EI .i64).encs m61.degrees), Tr.item (Tr.sl 95 (TrForm 114)) m61.images [u30] f37, blk b21 32 [u5, u6], own 2 1 u5 r4.degrees.length ((EI .i64).encs r4.degrees), Tr.item (Tr.sl 95 (TrForm 114)) r4.images [u6] f13]) rfl (fun x_ hx_ => (List.mem_append.1 hx_).elim (fun hx_ => ⟨_, List.mem_of_getElem? (i := 1) rfl, hx_⟩) (fun hx_ => ⟨_, List.mem_of_getElem? (i := 2) rfl, hx_⟩)) (by simp only [List.mem_cons, List.not_mem_nil, or_false, forall_eq_or_imp, forall_eq]; exact ⟨(hC.stay 0 rfl hB60 (fun x_ hq_ hx_ => (List.mem_append.1 hx_).elim (fun hx_ => hC.mm 0 1 rfl rfl (by decide) x_ hq_ hx_) (fun hx_ => hC.mm 0 2 rfl rfl (by decide) x_ hq_ hx_))), hm62, hm63, (hC.stay 3 rfl hB60 (fun x_ hq_ hx_ => (List.mem_append.1 hx_).elim (fun hx_ => hC.mm 3 1 rfl rfl (by decide) x_ hq_ hx_) (fun hx_ => hC.mm 3 2 rfl rfl (by decide) x_ hq_ hx_))), (hC.stay 4 rfl hB60 (fun x_ hq_ hx_ => (List.mem_append.1 hx_).elim (fun hx_ => hC.mm 4 1 rfl rfl (by decide) x_ hq_ hx_) (fun hx_ => hC.mm 4 2 rfl rfl (by decide) x_ hq_ hx_))), (hC.stay 5 rfl hB60 (fun x_ hq_ hx_ => (List.mem_append.1 hx_).elim (fun hx_ => hC.mm 5 1 rfl rfl (by decide) x_ hq_ hx_) (fun hx_ => hC.mm 5 2 rfl rfl (by decide) x_ hq_ hx_)))⟩)
   refine s_as (v := .int .i64 r59) rfl ?_
   refine dn ?_
   refine sr ?_
   refine s_as (v := .int .i64 1) rfl ?_
   refine dn ?_
   refine sr ?_
   refine s_loadA hC 0 [u29, u30] rfl ag32 rfl rfl rfl ?_
   refine s_mv (v := .int .i64 1) rfl ?_
   refine s_call [.agg #[u29, u30], .int .i64 1] _ Try.func23 rfl rfl rfl (c_laws_heldAlgebra (⟨m61.degrees, m61.images⟩ : Alg) 1 h _ (alg_mk (own_repE (hC.getM 1 rfl)) (Tr.trep _ (hC.getM 2 rfl).1))) (fun ret64 w66 hR65 => ?_)
   obtain ⟨r67, rfl, h, hB68⟩ := hR65
   refine ⟨_, rfl, ?_⟩
   replace hC := hC.grow hB68
   refine s_as (v := .int .i64 r67) rfl ?_
   refine dn ?_
   refine wp_seq ?_
   refine sr ?_
   refine s_mv (v := .int .i64 r67) rfl ?_
   refine s_lss rfl rfl ?_
   refine dn ?_
   refine cw_cond rfl (fun hb69 => ?_) (fun hb69 => ?_)
   ·replace h := ift h (ct hb69)
    refine sr ?_
    refine s_as (v := .bool false) rfl ?_
    refine dn ?_
    refine wp_ret (then_ret ?_)
    refine ret1 (fn := Try.f6) rfl ?_ ⟨false, rfl, h, hC.below⟩ (.inl rfl)
    exact res_tmp rfl
   ·replace h := iff_ h (cf hb69)
    refine wp_skip ?_
    refine then_norm ?_
    refine wp_seq ?_
    refine sr ?_
    refine s_mv (v := .int .i64 r67) rfl ?_
    refine s_mv (v := .int .i64 r59) rfl ?_
    refine s_neq rfl rfl ?_
    refine dn ?_
    refine cw_cond rfl (fun hb70 => ?_) (fun hb70 => ?_)
    ·replace h := ift h (ct hb70)
     refine sr ?_
     refine s_as (v := .bool false) rfl ?_
     refine dn ?_
     refine wp_ret (then_ret ?_)
     refine ret1 (fn := Try.f6) rfl ?_ ⟨false, rfl, h, hC.below⟩ (.inl rfl)
     exact res_tmp rfl
    ·replace h := iff_ h (cf hb70)
     refine wp_skip ?_
     refine then_norm ?_
     refine sr ?_
     refine s_mv (v := .int .i64 a0) rfl ?_
     refine s_call [.int .i64 a0] _ Try.func22 rfl rfl rfl (c_impl_HeisenbergModel a0 h _) (fun ret71 w73 hR72 => ?_)
     obtain ⟨r74, u75, u76, f77, r80, rfl, h, hr78, hf79, hB81⟩ := hR72
     refine ⟨_, rfl, ?_⟩
     replace hC := hC.push hB81 (Tr.item (TrAlg 2 114 95) r74 [u75, u76] f77) hr78 hf79
     obtain ⟨f83, ho84, ho85, hs86, hs87, hd88⟩ := alg_split (hC.getM 0 rfl)
     replace hC := hC.split (a := own 2 1 u75 r74.degrees.length ((EI .i64).encs r74.degrees)) (b := Tr.item (Tr.sl 95 (TrForm 114)) r74.images [u76] f83) hs86 hs87 ⟨ho84, ho85, hd88⟩
     refine s_mv (v := .tuple #[.agg #[u75, u76], .int .i64 r80]) rfl ?_
     refine s_ext (v := .agg #[u75, u76]) rfl rfl ?_
     refine s_ext (v := .int .i64 r80) rfl rfl ?_
     refine s_alloc hC [.slice none 0 0, .slice none 0 0] z32 rfl fun b91 w93 hB_ hC => ?_
     refine s_store (v := .agg #[u75, u76]) hC 0 [u75, u76] [u75, u76] rfl ag32.size rfl rfl rfl rfl (all_c (own_oneC (hC.getM 1 rfl)) (all_c (rep_oneC (Tr.trep _ (hC.getM 2 rfl).1)) rfl)) (Nat.le_of_ble_eq_true rfl) rfl fun w94 hC => ?_
     refine s_as (v := .int .i64 r80) rfl ?_
     refine dn ?_
     refine wp_seq ?_
     refine sr ?_
     refine s_loadA hC 0 [u75, u76] rfl ag32 rfl rfl rfl ?_
     refine s_loadA hC 6 [u5, u6] rfl ag32 rfl rfl rfl ?_
     refine s_call [.agg #[u75, u76], .agg #[u5, u6]] _ Try.func13 rfl rfl rfl (c_laws_eqAlgebra r74 (⟨r4.degrees, r4.images⟩ : Alg) h _ (alg_mk (own_repE (hC.getM 1 rfl)) (Tr.trep _ (hC.getM 2 rfl).1)) (alg_mk (own_repE (hC.getM 7 rfl)) (Tr.trep _ (hC.getM 8 rfl).1))) (fun ret95 w97 hR96 => ?_)
     obtain ⟨r98, rfl, h, hB99⟩ := hR96
     refine ⟨_, rfl, ?_⟩
     replace hC := hC.grow hB99
     refine s_not rfl ?_
     refine s_mv (v := .bool (!r98)) rfl ?_
     refine bsplit (!r98) (fun hb100 => ?_) (fun hb100 => ?_)
     ·replace h := ift h (ne_t (not_t hb100))
      refine guardOff (b := true) 4 50 rfl (tr rfl (congrArg _ hb100)) (by decide) ?_
      refine guardOff (b := true) 4 50 rfl (tr rfl (congrArg _ hb100)) (by decide) ?_
      refine guardOff (b := true) 4 50 rfl (tr rfl (congrArg _ hb100)) (by decide) ?_
      refine s_pick (v := .bool true) (b := true) (tr rfl (congrArg _ hb100)) rfl ?_
      refine dn ?_
      refine cw_true rfl rfl ?_
      refine sr ?_
      refine s_as (v := .bool false) rfl ?_
      refine dn ?_
      refine wp_ret (then_ret ?_)
      refine ret1 (fn := Try.f6) rfl ?_ ⟨false, rfl, h, hC.below⟩ (.inl rfl)
      exact res_tmp rfl
     ·replace h := iff_ h (not_not_intro ((not_f hb100)))
      refine guardOn 4 50 rfl rfl hb100 ?_
      refine s_mv (v := .int .i64 r80) rfl ?_
      refine guardOn 4 50 rfl rfl hb100 ?_
      refine s_mv (v := .int .i64 r10) rfl ?_
      refine guardOn 4 50 rfl rfl hb100 ?_
      refine s_neq rfl rfl ?_
      refine s_pick (v := .bool (decide (r80 ≠ r10))) (b := false) (tr rfl (congrArg _ hb100)) rfl ?_
      refine dn ?_
      refine cw_cond rfl (fun hb101 => ?_) (fun hb101 => ?_)
      ·replace h := ift h (ct hb101)
       refine sr ?_
       refine s_as (v := .bool false) rfl ?_
       refine dn ?_
       refine wp_ret (then_ret ?_)
       refine ret1 (fn := Try.f6) rfl ?_ ⟨false, rfl, h, hC.below⟩ (.inl rfl)
       exact res_tmp rfl
      ·replace h := iff_ h (cf hb101)
       refine wp_skip ?_
       refine then_norm ?_
       refine sr ?_
       refine s_as (v := .int .i64 1) rfl ?_
       refine dn ?_
       refine sr ?_
       refine s_loadA hC 3 [u29, u30] rfl ag32 rfl rfl rfl ?_
       refine s_mv (v := .int .i64 1) rfl ?_
       refine s_call [.agg #[u29, u30], .int .i64 1] _ Try.func23 rfl rfl rfl (c_laws_heldAlgebra (⟨m61.degrees, m61.images⟩ : Alg) 1 h _ (alg_mk (own_repE (hC.getM 4 rfl)) (Tr.trep _ (hC.getM 5 rfl).1))) (fun ret102 w104 hR103 => ?_)
       obtain ⟨r105, rfl, h, hB106⟩ := hR103
       refine ⟨_, rfl, ?_⟩
       replace hC := hC.grow hB106
       refine s_as (v := .int .i64 r105) rfl ?_
       refine dn ?_
       refine wp_seq ?_
       refine sr ?_
       refine s_mv (v := .int .i64 r105) rfl ?_
       refine s_lss rfl rfl ?_
       refine dn ?_
       refine cw_cond rfl (fun hb107 => ?_) (fun hb107 => ?_)
       ·replace h := ift h (ct hb107)
        refine sr ?_
        refine s_as (v := .bool false) rfl ?_
        refine dn ?_
        refine wp_ret (then_ret ?_)
        refine ret1 (fn := Try.f6) rfl ?_ ⟨false, rfl, h, hC.below⟩ (.inl rfl)
        exact res_tmp rfl
       ·replace h := iff_ h (cf hb107)
        refine wp_skip ?_
        refine then_norm ?_
        refine wp_seq ?_
        refine sr ?_
        refine s_mv (v := .int .i64 r105) rfl ?_
        refine s_mv (v := .int .i64 r59) rfl ?_
        refine s_neq rfl rfl ?_
        refine dn ?_
        refine cw_cond rfl (fun hb108 => ?_) (fun hb108 => ?_)
        ·replace h := ift h (ct hb108)
         refine sr ?_
         refine s_as (v := .bool false) rfl ?_
         refine dn ?_
         refine wp_ret (then_ret ?_)
         refine ret1 (fn := Try.f6) rfl ?_ ⟨false, rfl, h, hC.below⟩ (.inl rfl)
         exact res_tmp rfl
        ·replace h := iff_ h (cf hb108)
         refine wp_skip ?_
         refine then_norm ?_
         refine sr ?_
         refine s_as (v := .bool true) rfl ?_
         refine dn ?_
         refine wp_ret ?_
         refine ret1 (fn := Try.f6) rfl ?_ ⟨true, rfl, h, hC.below⟩ (.inl rfl)
         exact res_tmp rfl
end Go.Proofs.Ytaagfepgbofmlaa
