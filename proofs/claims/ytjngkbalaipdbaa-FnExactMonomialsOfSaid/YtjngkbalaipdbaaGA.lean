/- Printed by vcgen.py: functions of the program as predicates, and that the machine's calls meet them. -/
import Derived.Test.YtjngkbalaipdbaaGAa
set_option linter.unusedVariables false
set_option linter.unusedSimpArgs false
set_option maxRecDepth 4000
set_option maxHeartbeats 4000000
namespace Go.Proofs.Ytjngkbalaipdbaa
open Go Go.RowKit Vc
def f_laws_eqMonomialS (a0 : List A8) (a1 : List A8) (K : Bool → Prop) : Prop :=
 (if (a0.length : Int) ≠ (a1.length : Int) then K false else forN (fun i36 (s37 : Unit) next39 => ((0 ≤ (i36 : Int) ∧ (i36 : Int) < (a1.length : Int)) ∧ f_laws_eqMonomial (a0.getD i36 default) (a1.getD i36 default) (fun r61 => (if ¬ (r61 = true) then K false else next39 ())))) (fun (s37 : Unit) => K true) a0.length 0 ())
theorem c_laws_eqMonomialS (a0 : List A8) (a1 : List A8) {u0_0 : Value} {u1_0 : Value} {fp0 : List Nat} {fp1 : List Nat} {K : Bool → Prop} (h : f_laws_eqMonomialS a0 a1 K) (w0 : World) (q0 : ((EA .u8).ty.sl).rep a0 [u0_0] fp0 w0) (q1 : ((EA .u8).ty.sl).rep a1 [u1_0] fp1 w0) :
  Calls Try.prog 26 #[u0_0, u1_0] w0 fun e w' => ∃ (r0 : Bool), 
   e = .returned (.bool r0) ∧ K r0 ∧ Bel w0 w' := by
 unfold f_laws_eqMonomialS at h
 refine calls_of (args := [u0_0, u1_0]) Try.func26 rfl 27 Try.ntmps26 (Nat.le_of_ble_eq_true rfl) ?_
 have hC := Ctx.start (X := Nox) w0 [Ty.item ((EA .u8).ty.sl) a0 [u0_0] fp0, Ty.item ((EA .u8).ty.sl) a1 [u1_0] fp1] (by simp only [List.mem_cons, List.not_mem_nil, or_false, forall_eq_or_imp, forall_eq]; exact ⟨q0, q1⟩)
 refine sr ?_
 refine s_as (v := .bool false) rfl ?_
 refine dn ?_
 refine wp_seq ?_
 refine sr ?_
 refine s_mv (v := u0_0) rfl ?_
 obtain ⟨Ad3, c4, hv5⟩ := sl_len (hC.getP 0 rfl)
 refine s_len Try.underlying40 (tr rfl hv5) ?_
 refine s_mv (v := u1_0) rfl ?_
 obtain ⟨Ad6, c7, hv8⟩ := sl_len (hC.getP 1 rfl)
 refine s_len Try.underlying40 (tr rfl hv8) ?_
 refine s_neq rfl rfl ?_
 refine dn ?_
 refine cw_cond rfl (fun hb9 => ?_) (fun hb9 => ?_)
 ·replace h := ift h (ct hb9)
  refine sr ?_
  refine s_as (v := .bool false) rfl ?_
  refine dn ?_
  refine wp_ret (then_ret ?_)
  refine ret1 (fn := Try.f26) rfl ?_ ⟨false, rfl, h, hC.below⟩ (.inl rfl)
  exact res_tmp rfl
 ·replace h := iff_ h (cf hb9)
  refine wp_skip ?_
  refine then_norm ?_
  refine wp_seq ?_
  refine sr ?_
  refine s_as (v := .int .i64 0) rfl ?_
  refine dn ?_
  refine wp_block ?_
  have hN38 : a0.length ≤ 9223372036854775807 := sl_max (hC.getP 0 rfl)
  refine loopN (S := Unit) _ _ (fun i36 s37 e_ w_ => Slots e_ [(0, u0_0), (1, u1_0), (4, .bool false), (5, .int .i64 (i36 : Int))] ∧ Ctx Nox w0 w_ [] [Ty.item ((EA .u8).ty.sl) a0 [u0_0] fp0, Ty.item ((EA .u8).ty.sl) a1 [u1_0] fp1]) a0.length ?_ ?_ (s0 := ()) ?_ h
  ·clear hC h
   rintro i36 s37 e_ w43 next39 K40 hi42 ⟨hS_, hC⟩ h hK41
   refine wp_seq ?_
   refine sr ?_
   refine s_mv (v := .int .i64 (i36 : Int)) (sx hS_ 3 rfl) ?_
   refine s_mv (v := u0_0) (sx hS_ 0 rfl) ?_
   obtain ⟨Ad44, c45, hv46⟩ := sl_len (hC.getP 0 rfl)
   refine s_len Try.underlying40 (tr rfl hv46) ?_
   refine s_lss rfl rfl ?_
   refine dn ?_
   refine cw_true rfl (decide_eq_true (by omega)) ?_
   refine wp_skip ?_
   refine then_norm ?_
   refine wp_seq ?_
   refine wp_block ?_
   refine wp_seq ?_
   refine cw_draw 8 mixed [0, 0, 3, 7, 0, 0, 48, 112, 255, 511] [2, 3, 6, 7] [0, 1, 4, 5] (by kernel_rfl) (by kernel_rfl) (by kernel_rfl) (fun hM48 hM49 w47 hB_ => ?_)
   replace hC := hC.grow hB_
   refine ae_lookF belPre 0 (u0_0) rfl rfl (by kernel_rfl) (hM49 0 rfl) (fun w_ => .inl ⟨rfl, by exact r_mv (v := u0_0) (sx hS_ 0 rfl)⟩) (listed' := (dbits 10 1)) (by kernel_rfl) ?_
   refine ae_lookF belPre 1 (.int .i64 (i36 : Int)) rfl rfl (by kernel_rfl) (hM49 1 rfl) (fun w_ => .inl ⟨rfl, by exact r_mv (v := .int .i64 (i36 : Int)) (sx hS_ 3 rfl)⟩) (listed' := (dbits 10 3)) (by kernel_rfl) ?_
   obtain ⟨Ad50, c51, hv52⟩ := sl_form (hC.getP 0 rfl) i36 hi42
   refine ae_look belPre 2 (.pointer (some (Ad50.add (i36 * 8)))) rfl rfl (by kernel_rfl) (hM48 2 rfl) (fun w_ hB_ => .inl ⟨rfl, by exact r_iaddrS (len := a0.length) Try.underlying40 ag24.size (by exact tr rfl hv52) rfl (Int.natCast_nonneg _) (Int.ofNat_lt.2 hi42)⟩) (listed' := (dbits 10 7)) (by kernel_rfl) ?_
   refine ae_look belPre 3 (.agg (List.toArray (A8.enc .u8 (a0.getD i36 default)))) rfl rfl (by kernel_rfl) (hM48 3 rfl) (fun w_ hB_ => .inl ⟨rfl, by exact r_loadCA (A8.enc .u8 (a0.getD i36 default)) (sl_cellsE ((hC.grow hB_).getP 0 rfl) hv52 i36 hi42) ag24 rfl rfl⟩) (listed' := (dbits 10 15)) (by kernel_rfl) ?_
   refine ae_lookF belPre 4 (u1_0) rfl rfl (by kernel_rfl) (hM49 4 rfl) (fun w_ => .inl ⟨rfl, by exact r_mv (v := u1_0) (sx hS_ 1 rfl)⟩) (listed' := (dbits 10 31)) (by kernel_rfl) ?_
   refine ae_lookF belPre 5 (.int .i64 (i36 : Int)) rfl rfl (by kernel_rfl) (hM49 5 rfl) (fun w_ => .inl ⟨rfl, by exact r_mv (v := .int .i64 (i36 : Int)) (sx hS_ 3 rfl)⟩) (listed' := (dbits 10 63)) (by kernel_rfl) ?_
   obtain ⟨⟨h0_53, h1_54⟩, h⟩ := h
   obtain ⟨Ad55, c56, hv57⟩ := sl_form (hC.getP 1 rfl) i36 (show i36 < a1.length by omega)
   refine ae_look belPre 6 (.pointer (some (Ad55.add (i36 * 8)))) rfl rfl (by kernel_rfl) (hM48 6 rfl) (fun w_ hB_ => .inl ⟨rfl, by exact r_iaddrS (len := a1.length) Try.underlying40 ag24.size (by exact tr rfl hv57) rfl h0_53 h1_54⟩) (listed' := (dbits 10 127)) (by kernel_rfl) ?_
   refine ae_look belPre 7 (.agg (List.toArray (A8.enc .u8 (a1.getD i36 default)))) rfl rfl (by kernel_rfl) (hM48 7 rfl) (fun w_ hB_ => .inl ⟨rfl, by exact r_loadCA (A8.enc .u8 (a1.getD i36 default)) (sl_cellsE ((hC.grow hB_).getP 1 rfl) hv57 i36 (show i36 < a1.length by omega)) ag24 rfl rfl⟩) (listed' := (dbits 10 255)) (by kernel_rfl) ?_
   refine ae_tail 8 (by decide) (by decide) (by kernel_rfl) (by kernel_rfl) rfl ?_
   refine s_call [.agg (List.toArray (A8.enc .u8 (a0.getD i36 default))), .agg (List.toArray (A8.enc .u8 (a1.getD i36 default)))] _ Try.func17 rfl rfl rfl (c_laws_eqMonomial (a0.getD i36 default) (a1.getD i36 default) h _) (fun ret58 w60 hR59 => ?_)
   obtain ⟨r61, rfl, h, hB62⟩ := hR59
   refine ⟨_, rfl, ?_⟩
   replace hC := hC.grow hB62
   refine s_not rfl ?_
   refine done ?_
   refine qn_norm ?_
   refine then_norm ?_
   refine cw_cond rfl (fun hb63 => ?_) (fun hb63 => ?_)
   ·replace h := ift h (ne_t (not_t hb63))
    refine sr ?_
    refine s_as (v := .bool false) rfl ?_
    refine dn ?_
    refine wp_ret (blk_ret (then_ret (then_ret (blk_ret (then_ret ?_)))))
    refine ret1 (fn := Try.f26) rfl ?_ ⟨false, rfl, h, hC.below⟩ (.inl rfl)
    exact res_tmp rfl
   ·replace h := iff_ h (not_not_intro ((not_f hb63)))
    refine wp_skip ?_
    refine blk_norm ?_
    refine then_norm ?_
    refine cw_region ?_
    refine s_mv (v := .int .i64 (i36 : Int)) (sx hS_ 3 rfl) ?_
    refine s_add rfl rfl ?_
    refine s_as (v := .int .i64 (IntKind.i64.wrap ((i36 : Int) + 1))) rfl ?_
    refine done ?_
    exact hK41 () _ _ ⟨(sk (sx hS_ 0 rfl) (sk (sx hS_ 1 rfl) (sk (sx hS_ 2 rfl) (sk (tr rfl (congrArg _ (wrap64_nat hi42 hN38))) sn)))), hC⟩ h
  ·clear hC h
   rintro s37 e_ w64 K40 ⟨hS_, hC⟩ h
   refine wp_seq ?_
   refine sr ?_
   refine s_mv (v := .int .i64 (a0.length : Int)) (sx hS_ 3 rfl) ?_
   refine s_mv (v := u0_0) (sx hS_ 0 rfl) ?_
   obtain ⟨Ad65, c66, hv67⟩ := sl_len (hC.getP 0 rfl)
   refine s_len Try.underlying40 (tr rfl hv67) ?_
   refine s_lss rfl rfl ?_
   refine dn ?_
   refine cw_false rfl (decide_eq_false (by omega)) ?_
   refine wp_exit (then_exit (then_exit (exit_in ?_)))
   refine then_norm ?_
   refine sr ?_
   refine s_as (v := .bool true) rfl ?_
   refine dn ?_
   refine wp_ret ?_
   refine ret1 (fn := Try.f26) rfl ?_ ⟨true, rfl, h, hC.below⟩ (.inl rfl)
   exact res_tmp rfl
  ·skip
   exact ⟨(sk rfl (sk rfl (sk rfl (sk rfl sn)))), hC⟩
def f_spec_l01Own (a0 : List Int) (K : List Int → Prop) : Prop :=
 (Room (0 + a0.length) 8 ∧ K a0)
theorem c_spec_l01Own (a0 : List Int) {u0_0 : Value} {fp0 : List Nat} {K : List Int → Prop} (h : f_spec_l01Own a0 K) (w0 : World) (q0 : ((EI .i64).ty.sl).rep a0 [u0_0] fp0 w0) :
  Calls Try.prog 116 #[u0_0] w0 fun e w' => ∃ (r0 : List Int) (z0_0 : Value) (fz0 : List Nat), 
   e = .returned (z0_0) ∧ K r0 ∧ (Tr.item (Tr.sl 2 ((EI .i64).tr)) r0 [z0_0] fz0).holds w' ∧ (∀ b, b ∈ fz0 → w0.heap.size ≤ b) ∧ Bel w0 w' := by
 unfold f_spec_l01Own at h
 refine calls_of (args := [u0_0]) Try.func116 rfl 6 Try.ntmps116 (Nat.le_of_ble_eq_true rfl) ?_
 have hC := Ctx.start (X := Nox) w0 [Ty.item ((EI .i64).ty.sl) a0 [u0_0] fp0] (by simp only [List.mem_cons, List.not_mem_nil, or_false, forall_eq_or_imp, forall_eq]; exact q0)
 refine sr ?_
 refine s_as (v := .slice none 0 0) rfl ?_
 refine dn ?_
 refine sr ?_
 refine s_bslice (sz := 1) hC [] ((EI .i64).encs []) rfl (fun _ => bs22_0  _) rfl (by decide) fun b2 w3 hB_ hC => ?_
 refine s_mv (v := u0_0) rfl ?_
 obtain ⟨hm7, h⟩ := h
 refine s_app hC 0 Try.underlying22 el2 rfl (by decide) (by decide) rfl (sl_rdr (hC.getP 0 rfl)) (fun q hq => Enc.encs_one' (E := (EI .i64)) _ q hq) rfl rfl hm7 fun v5 w6 hC => ?_
 replace hC := own_re hC 0 (a0.length) ((EI .i64).encs a0) rfl (by simp) (by first | (simp [Enc.encs_append]; done) | simp [Enc.encs_append, Enc.encs])
 refine s_as (v := v5) rfl ?_
 refine dn ?_
 refine wp_ret ?_
 refine ret1 (fn := Try.f116) rfl ?_ ⟨a0, v5, (Option.toList (Value.ownBlock v5)), rfl, h, (own_item (hC.getM 0 rfl)), (own_fresh hC 0 rfl), hC.below⟩ (.inl rfl)
 exact res_tmp rfl
def f_spec_l02Free (a0 : List Int) (K : Alg → Prop) : Prop :=
 (f_spec_l01Own a0 (fun r51 => ((0 ≤ (a0.length : Int) ∧ (a0.length : Int) * 24 ≤ 281474976710656) ∧ K (⟨r51, List.replicate ((a0.length : Int).toNat) ((⟨[]⟩ : Vc.Form) : Vc.Form)⟩ : Alg))) ∧ ((0 ≤ (a0.length : Int) ∧ (a0.length : Int) * 24 ≤ 281474976710656) ∧ f_spec_l01Own a0 (fun r73 => K (⟨r73, List.replicate ((a0.length : Int).toNat) ((⟨[]⟩ : Vc.Form) : Vc.Form)⟩ : Alg))))
theorem c_spec_l02Free (a0 : List Int) {u0_0 : Value} {fp0 : List Nat} {K : Alg → Prop} (h : f_spec_l02Free a0 K) (w0 : World) (q0 : ((EI .i64).ty.sl).rep a0 [u0_0] fp0 w0) :
  Calls Try.prog 79 #[u0_0] w0 fun e w' => ∃ (r0 : Alg) (z0_0 : Value) (z0_1 : Value) (fz0 : List Nat), 
   e = .returned (.agg #[z0_0, z0_1]) ∧ K r0 ∧ (Tr.item (TrAlg 2 93 51) r0 [z0_0, z0_1] fz0).holds w' ∧ (∀ b, b ∈ fz0 → w0.heap.size ≤ b) ∧ Bel w0 w' := by
 unfold f_spec_l02Free at h
 refine calls_of (args := [u0_0]) Try.func79 rfl 9 Try.ntmps79 (Nat.le_of_ble_eq_true rfl) ?_
 have hC := Ctx.start (X := Nox) w0 [Ty.item ((EI .i64).ty.sl) a0 [u0_0] fp0] (by simp only [List.mem_cons, List.not_mem_nil, or_false, forall_eq_or_imp, forall_eq]; exact q0)
 refine sr ?_
 refine s_alloc hC [.slice none 0 0, .slice none 0 0] z34 rfl fun b2 w4 hB_ hC => ?_
 refine dn ?_
 refine wp_seq ?_
 refine cw_draw 5 mixed [0, 1, 0, 4, 12, 31, 63] [3] [0, 2] (by kernel_rfl) (by kernel_rfl) (by kernel_rfl) (fun hM6 hM7 w5 hB_ => ?_)
 replace hC := hC.grow hB_
 refine ae_lookF belPre 0 (u0_0) rfl rfl (by kernel_rfl) (hM7 0 rfl) (fun w_ => .inl ⟨rfl, by exact r_mv (v := u0_0) rfl⟩) (listed' := (dbits 7 1)) (by kernel_rfl) ?_
 refine ae_lookF belPre 2 (u0_0) rfl rfl (by kernel_rfl) (hM7 2 rfl) (fun w_ => .inl ⟨rfl, by exact r_mv (v := u0_0) rfl⟩) (listed' := (dbits 7 5)) (by kernel_rfl) ?_
 obtain ⟨Ad8, c9, hv10⟩ := sl_len (hC.getP 0 rfl)
 refine ae_look belPre 3 (.int .i64 (a0.length : Int)) rfl rfl (by kernel_rfl) (hM6 3 rfl) (fun w_ hB_ => .inl ⟨rfl, by exact r_len Try.underlying22 (by exact tr rfl hv10)⟩) (listed' := (dbits 7 13)) (by kernel_rfl) ?_
 refine ae_join (fun e_ w_ => ∃ (v24 : Value), ∃ (u15 : Value), ∃ (r14 : List Int), Slots e_ [(2, .pointer (some ⟨b2, 0, none⟩))] ∧ Ctx Nox w0 w_ [Tr.item (Tr.sl 51 (TrForm 93)) (List.replicate ((a0.length : Int).toNat) ((⟨[]⟩ : Vc.Form) : Vc.Form)) [v24] ((Option.toList (Value.ownBlock v24)) ++ (List.replicate ((a0.length : Int).toNat) ([] : List Nat)).flatten), own 2 1 u15 r14.length ((EI .i64).encs r14), blk b2 34 [u15, v24]] [Ty.item ((EI .i64).ty.sl) a0 [u0_0] fp0] ∧ (K (⟨r14, List.replicate ((a0.length : Int).toNat) ((⟨[]⟩ : Vc.Form) : Vc.Form)⟩ : Alg))) ?_ ?_
 ·clear hC h
  rintro e_ w47 ⟨v24, u15, r14, hS_, hC, h⟩
  refine then_norm ?_
  refine wp_ret ?_
  refine ret1 (fn := Try.f79) rfl ?_ ⟨(⟨r14, List.replicate ((a0.length : Int).toNat) ((⟨[]⟩ : Vc.Form) : Vc.Form)⟩ : Alg), u15, v24, ((Option.toList (Value.ownBlock u15)) ++ ((Option.toList (Value.ownBlock v24)) ++ (List.replicate ((a0.length : Int).toNat) ([] : List Nat)).flatten)), rfl, h, (alg_join (own_item (hC.getM 1 rfl)) (hC.getM 0 rfl) (fun x hx hx' => hC.mm 1 0 rfl rfl (by decide) x hx hx')), (fun b hb => (List.mem_append.1 hb).elim (fun hb => (own_fresh hC 1 rfl) b hb) (fun hb => (tr_fresh hC 0 rfl) b hb)), hC.below⟩ (.inl rfl)
  exact res_cellA hC 2 rfl ag34 (sx hS_ 0 rfl) rfl
 refine ae_two 1 4 rfl rfl (by kernel_rfl) ?_ ?_
 ·skip
  replace h := h.1
  refine s_call [u0_0] _ Try.func116 rfl rfl rfl (c_spec_l01Own a0 h _ (hC.getP 0 rfl)) (fun ret48 w50 hR49 => ?_)
  obtain ⟨r51, u52, f53, rfl, h, hr54, hf55, hB56⟩ := hR49
  refine ⟨_, rfl, ?_⟩
  replace hC := hC.push hB56 (Tr.item (Tr.sl 2 ((EI .i64).tr)) r51 [u52] f53) hr54 hf55
  obtain ⟨ho58, hf59⟩ := flat_tr (hC.getM 0 rfl).1
  subst hf59
  replace hC := hC.recast (c := own 2 1 u52 r51.length ((EI .i64).encs r51)) (fun _ h_ => h_) (fun _ => ho58)
  refine done ?_
  refine ak_intro (by assumption) (listed' := (dbits 7 15)) (by kernel_rfl) ?_
  refine ae_one 4 rfl (by kernel_rfl) ?_
  obtain ⟨hm63, h⟩ := h
  refine s_make (sz := 1) hC (List.replicate ((a0.length : Int).toNat) (.slice none 0 0)) Try.underlying32 el51 (tr rfl (congrArg (Value.int .i64) (Int.toNat_of_nonneg hm63.1).symm)) (tr rfl (congrArg (Value.int .i64) (Int.toNat_of_nonneg hm63.1).symm)) (by omega) (by omega) (made_nil _) fun v61 w62 hB_ hC => ?_
  replace hC := hC.pushM0 (forest (TrForm 93) (List.replicate ((a0.length : Int).toNat) ((⟨[]⟩ : Vc.Form) : Vc.Form)) (List.replicate ((a0.length : Int).toNat) (.slice none 0 0)) (List.replicate ((a0.length : Int).toNat) [])) (forest_rep (form_join (nil_item _ _ _)) rfl _) (flat_rep _)
  replace hC := hC.gather (c := Tr.item (Tr.sl 51 (TrForm 93)) (List.replicate ((a0.length : Int).toNat) ((⟨[]⟩ : Vc.Form) : Vc.Form)) [v61] ((Option.toList (Value.ownBlock v61)) ++ (List.replicate ((a0.length : Int).toNat) ([] : List Nat)).flatten)) (fun x_ hx_ => (List.mem_append.1 hx_).symm) (fun h1_ h2_ hd_ => forest_up (by rw [List.length_replicate]; exact h2_) h1_ (fun b_ hb_ hb2_ => hd_ b_ hb2_ hb_))
  refine done ?_
  refine ak_intro (by assumption) (listed' := (dbits 7 31)) (by kernel_rfl) ?_
  refine ae_tail 5 (by decide) (by decide) (by kernel_rfl) (by kernel_rfl) rfl ?_
  refine s_build [(0, u52), (1, v61)] rfl (bl34_0sl_1sl u52 v61 (own_isSl (hC.getM 1 rfl)) (rep_isSl (Tr.trep _ (hC.getM 0 rfl).1)) _) ?_
  refine s_store (v := .agg #[u52, v61]) hC 2 [u52, v61] [u52, v61] rfl ag34.size rfl rfl rfl rfl (all_c (own_oneC (hC.getM 1 rfl)) (all_c (rep_oneC (Tr.trep _ (hC.getM 0 rfl).1)) rfl)) (Nat.le_of_ble_eq_true rfl) rfl fun w65 hC => ?_
  refine done ?_
  refine qn_norm ?_
  exact ⟨rfl, _, rfl, ⟨v61, u52, r51, (sk rfl sn), hC, h⟩⟩
 ·skip
  replace h := h.2
  obtain ⟨hm68, h⟩ := h
  refine s_make (sz := 1) hC (List.replicate ((a0.length : Int).toNat) (.slice none 0 0)) Try.underlying32 el51 (tr rfl (congrArg (Value.int .i64) (Int.toNat_of_nonneg hm68.1).symm)) (tr rfl (congrArg (Value.int .i64) (Int.toNat_of_nonneg hm68.1).symm)) (by omega) (by omega) (made_nil _) fun v66 w67 hB_ hC => ?_
  replace hC := hC.pushM0 (forest (TrForm 93) (List.replicate ((a0.length : Int).toNat) ((⟨[]⟩ : Vc.Form) : Vc.Form)) (List.replicate ((a0.length : Int).toNat) (.slice none 0 0)) (List.replicate ((a0.length : Int).toNat) [])) (forest_rep (form_join (nil_item _ _ _)) rfl _) (flat_rep _)
  replace hC := hC.gather (c := Tr.item (Tr.sl 51 (TrForm 93)) (List.replicate ((a0.length : Int).toNat) ((⟨[]⟩ : Vc.Form) : Vc.Form)) [v66] ((Option.toList (Value.ownBlock v66)) ++ (List.replicate ((a0.length : Int).toNat) ([] : List Nat)).flatten)) (fun x_ hx_ => (List.mem_append.1 hx_).symm) (fun h1_ h2_ hd_ => forest_up (by rw [List.length_replicate]; exact h2_) h1_ (fun b_ hb_ hb2_ => hd_ b_ hb2_ hb_))
  refine done ?_
  refine ak_intro (by assumption) (listed' := (dbits 7 29)) (by kernel_rfl) ?_
  refine ae_one 1 rfl (by kernel_rfl) ?_
  refine s_call [u0_0] _ Try.func116 rfl rfl rfl (c_spec_l01Own a0 h _ (hC.getP 0 rfl)) (fun ret70 w72 hR71 => ?_)
  obtain ⟨r73, u74, f75, rfl, h, hr76, hf77, hB78⟩ := hR71
  refine ⟨_, rfl, ?_⟩
  replace hC := hC.push hB78 (Tr.item (Tr.sl 2 ((EI .i64).tr)) r73 [u74] f75) hr76 hf77
  obtain ⟨ho80, hf81⟩ := flat_tr (hC.getM 0 rfl).1
  subst hf81
  replace hC := hC.recast (c := own 2 1 u74 r73.length ((EI .i64).encs r73)) (fun _ h_ => h_) (fun _ => ho80)
  refine done ?_
  refine ak_intro (by assumption) (listed' := (dbits 7 31)) (by kernel_rfl) ?_
  refine ae_tail 5 (by decide) (by decide) (by kernel_rfl) (by kernel_rfl) rfl ?_
  refine s_build [(0, u74), (1, v66)] rfl (bl34_0sl_1sl u74 v66 (own_isSl (hC.getM 0 rfl)) (rep_isSl (Tr.trep _ (hC.getM 1 rfl).1)) _) ?_
  refine s_store (v := .agg #[u74, v66]) hC 2 [u74, v66] [u74, v66] rfl ag34.size rfl rfl rfl rfl (all_c (own_oneC (hC.getM 0 rfl)) (all_c (rep_oneC (Tr.trep _ (hC.getM 1 rfl).1)) rfl)) (Nat.le_of_ble_eq_true rfl) rfl fun w83 hC => ?_
  refine done ?_
  refine qn_norm ?_
  replace hC := hC.sel [1, 0, 2] [0] (M' := [Tr.item (Tr.sl 51 (TrForm 93)) (List.replicate ((a0.length : Int).toNat) ((⟨[]⟩ : Vc.Form) : Vc.Form)) [v66] ((Option.toList (Value.ownBlock v66)) ++ (List.replicate ((a0.length : Int).toNat) ([] : List Nat)).flatten), own 2 1 u74 r73.length ((EI .i64).encs r73), blk b2 34 [u74, v66]]) (Ps' := [Ty.item ((EI .i64).ty.sl) a0 [u0_0] fp0]) (by decide) rfl rfl
  exact ⟨rfl, _, rfl, ⟨v66, u74, r73, (sk rfl sn), hC, h⟩⟩
def f_spec_SphereModel (a0 : Int) (K : Alg → Int → Prop) : Prop :=
 f_spec_l01In a0 1 12 (fun r7 => (if ¬ (r7 = true) then K (⟨[], []⟩ : Alg) 2 else (if Int.tmod a0 2 = 0 then (if a0 > 6 then K (⟨[], []⟩ : Alg) 2 else (if Int.tmod a0 2 ≠ 0 then f_spec_l02Free [a0] (fun r21 => K r21 0) else f_spec_l08Power 0 2 (fun r44 => K (⟨[a0, IntKind.i64.wrap ((IntKind.i64.wrap (2 * a0)) - 1)], [(⟨[]⟩ : Vc.Form), r44]⟩ : Alg) 0))) else (if Int.tmod a0 2 ≠ 0 then f_spec_l02Free [a0] (fun r67 => K r67 0) else f_spec_l08Power 0 2 (fun r90 => K (⟨[a0, IntKind.i64.wrap ((IntKind.i64.wrap (2 * a0)) - 1)], [(⟨[]⟩ : Vc.Form), r90]⟩ : Alg) 0)))))
theorem c_spec_SphereModel (a0 : Int)  {K : Alg → Int → Prop} (h : f_spec_SphereModel a0 K) (w0 : World)  :
  Calls Try.prog 30 #[.int .i64 a0] w0 fun e w' => ∃ (r0 : Alg) (z0_0 : Value) (z0_1 : Value) (fz0 : List Nat) (r1 : Int), 
   e = .returned (.tuple #[.agg #[z0_0, z0_1], .int .i64 r1]) ∧ K r0 r1 ∧ (Tr.item (TrAlg 2 93 51) r0 [z0_0, z0_1] fz0).holds w' ∧ (∀ b, b ∈ fz0 → w0.heap.size ≤ b) ∧ Bel w0 w' := by
 unfold f_spec_SphereModel at h
 refine calls_of (args := [.int .i64 a0]) Try.func30 rfl 32 Try.ntmps30 (Nat.le_of_ble_eq_true rfl) ?_
 have hC := Ctx.start (X := Nox) w0 [] (by simp)
 refine sr ?_
 refine s_alloc hC [.slice none 0 0, .slice none 0 0] z34 rfl fun b1 w3 hB_ hC => ?_
 refine s_as (v := .int .i64 0) rfl ?_
 refine dn ?_
 refine wp_seq ?_
 refine sr ?_
 refine s_mv (v := .int .i64 a0) rfl ?_
 refine s_call [.int .i64 a0, .int .i64 1, .int .i64 12] _ Try.func67 rfl rfl rfl (c_spec_l01In a0 1 12 h _) (fun ret4 w6 hR5 => ?_)
 obtain ⟨r7, rfl, h, hB8⟩ := hR5
 refine ⟨_, rfl, ?_⟩
 replace hC := hC.grow hB8
 refine s_not rfl ?_
 refine s_mv (v := .bool (!r7)) rfl ?_
 refine bsplit (!r7) (fun hb9 => ?_) (fun hb9 => ?_)
 ·replace h := ift h (ne_t (not_t hb9))
  refine guardOff (b := true) 3 7 rfl (tr rfl (congrArg _ hb9)) (by decide) ?_
  refine guardOff (b := true) 3 7 rfl (tr rfl (congrArg _ hb9)) (by decide) ?_
  refine guardOff (b := true) 3 7 rfl (tr rfl (congrArg _ hb9)) (by decide) ?_
  refine guardOff (b := true) 3 7 rfl (tr rfl (congrArg _ hb9)) (by decide) ?_
  refine guardOffU 7 11 rfl rfl ?_
  refine guardOffU 7 11 rfl rfl ?_
  refine guardOff (b := true) 3 7 rfl (tr rfl (congrArg _ hb9)) (by decide) ?_
  refine s_pick (v := .bool true) (b := true) (tr rfl (congrArg _ hb9)) rfl ?_
  refine dn ?_
  refine cw_true rfl rfl ?_
  refine sr ?_
  refine s_build [] rfl (bl34   _) ?_
  refine s_store (v := .agg #[.slice none 0 0, .slice none 0 0]) hC 0 [.slice none 0 0, .slice none 0 0] [.slice none 0 0, .slice none 0 0] rfl ag34.size rfl rfl rfl rfl rfl (Nat.le_of_ble_eq_true rfl) rfl fun w10 hC => ?_
  refine s_as (v := .int .i64 2) rfl ?_
  refine dn ?_
  refine wp_ret (then_ret ?_)
  refine ret2 (fn := Try.f30) rfl ?_ ?_ ⟨(⟨[], []⟩ : Alg), .slice none 0 0, .slice none 0 0, ([] ++ []), 2, rfl, h, (alg_join (nil_item _ _ _) (nil_item _ _ _) (fun x hx => absurd hx (by simp))), (fun b hb => (List.mem_append.1 hb).elim (fun hb => (fun b hb => absurd hb (by simp)) b hb) (fun hb => (fun b hb => absurd hb (by simp)) b hb)), hC.below⟩ (.inl rfl)
  ·exact res_cellA hC 0 rfl ag34 rfl rfl
  ·exact res_tmp rfl
 ·replace h := iff_ h (not_not_intro ((not_f hb9)))
  refine guardOn 3 7 rfl rfl hb9 ?_
  refine s_mv (v := .int .i64 a0) rfl ?_
  refine guardOn 3 7 rfl rfl hb9 ?_
  refine s_rem rfl rfl (by decide) ?_
  refine guardOn 3 7 rfl rfl hb9 ?_
  refine s_eql rfl rfl ?_
  refine guardOn 3 7 rfl rfl hb9 ?_
  refine s_mv (v := .bool (decide (Int.tmod a0 2 = 0))) rfl ?_
  refine bsplit (decide (Int.tmod a0 2 = 0)) (fun hb11 => ?_) (fun hb11 => ?_)
  ·replace h := ift h (ct hb11)
   refine guardOn 7 11 rfl rfl hb11 ?_
   refine s_mv (v := .int .i64 a0) rfl ?_
   refine guardOn 7 11 rfl rfl hb11 ?_
   refine s_gtr rfl rfl ?_
   refine guardOn 3 7 rfl rfl hb9 ?_
   refine s_pick (v := .bool (decide (a0 > 6))) (b := true) (tr rfl (congrArg _ hb11)) rfl ?_
   refine s_pick (v := .bool (decide (a0 > 6))) (b := false) (tr rfl (congrArg _ hb9)) rfl ?_
   refine dn ?_
   refine cw_cond rfl (fun hb12 => ?_) (fun hb12 => ?_)
   ·replace h := ift h (ct hb12)
    refine sr ?_
    refine s_build [] rfl (bl34   _) ?_
    refine s_store (v := .agg #[.slice none 0 0, .slice none 0 0]) hC 0 [.slice none 0 0, .slice none 0 0] [.slice none 0 0, .slice none 0 0] rfl ag34.size rfl rfl rfl rfl rfl (Nat.le_of_ble_eq_true rfl) rfl fun w13 hC => ?_
    refine s_as (v := .int .i64 2) rfl ?_
    refine dn ?_
    refine wp_ret (then_ret ?_)
    refine ret2 (fn := Try.f30) rfl ?_ ?_ ⟨(⟨[], []⟩ : Alg), .slice none 0 0, .slice none 0 0, ([] ++ []), 2, rfl, h, (alg_join (nil_item _ _ _) (nil_item _ _ _) (fun x hx => absurd hx (by simp))), (fun b hb => (List.mem_append.1 hb).elim (fun hb => (fun b hb => absurd hb (by simp)) b hb) (fun hb => (fun b hb => absurd hb (by simp)) b hb)), hC.below⟩ (.inl rfl)
    ·exact res_cellA hC 0 rfl ag34 rfl rfl
    ·exact res_tmp rfl
   ·replace h := iff_ h (cf hb12)
    refine wp_skip ?_
    refine then_norm ?_
    refine wp_seq ?_
    refine sr ?_
    refine s_mv (v := .int .i64 a0) rfl ?_
    refine s_rem rfl rfl (by decide) ?_
    refine s_neq rfl rfl ?_
    refine dn ?_
    refine cw_cond rfl (fun hb14 => ?_) (fun hb14 => ?_)
    ·replace h := ift h (ct hb14)
     refine sr ?_
     refine s_mv (v := .int .i64 a0) rfl ?_
     refine s_bslice (sz := 1) hC [(0, .int .i64 a0)] ((EI .i64).encs [a0]) rfl (fun _ => bs22_1 a0 _) rfl (by decide) fun b15 w16 hB_ hC => ?_
     refine s_call [.slice (some ⟨b15, 0, none⟩) 1 1] _ Try.func79 rfl rfl rfl (c_spec_l02Free [a0] h _ (own_repE (hC.getM 0 rfl))) (fun ret18 w20 hR19 => ?_)
     obtain ⟨r21, u22, u23, f24, rfl, h, hr25, hf26, hB27⟩ := hR19
     refine ⟨_, rfl, ?_⟩
     replace hC := hC.push hB27 (Tr.item (TrAlg 2 93 51) r21 [u22, u23] f24) hr25 hf26
     obtain ⟨f29, ho30, ho31, hs32, hs33, hd34⟩ := alg_split (hC.getM 0 rfl)
     replace hC := hC.split (a := own 2 1 u22 r21.degrees.length ((EI .i64).encs r21.degrees)) (b := Tr.item (Tr.sl 51 (TrForm 93)) r21.images [u23] f29) hs32 hs33 ⟨ho30, ho31, hd34⟩
     refine s_store (v := .agg #[u22, u23]) hC 3 [u22, u23] [u22, u23] rfl ag34.size rfl rfl rfl rfl (all_c (own_oneC (hC.getM 0 rfl)) (all_c (rep_oneC (Tr.trep _ (hC.getM 1 rfl).1)) rfl)) (Nat.le_of_ble_eq_true rfl) rfl fun w37 hC => ?_
     refine s_as (v := .int .i64 0) rfl ?_
     refine dn ?_
     refine wp_ret (then_ret ?_)
     refine ret2 (fn := Try.f30) rfl ?_ ?_ ⟨r21, u22, u23, ((Option.toList (Value.ownBlock u22)) ++ f29), 0, rfl, h, (alg_join (own_item (hC.getM 0 rfl)) (hC.getM 1 rfl) (fun x hx hx' => hC.mm 0 1 rfl rfl (by decide) x hx hx')), (fun b hb => (List.mem_append.1 hb).elim (fun hb => (own_fresh hC 0 rfl) b hb) (fun hb => (tr_fresh hC 1 rfl) b hb)), hC.below⟩ (.inl rfl)
     ·exact res_cellA hC 3 rfl ag34 rfl rfl
     ·exact res_tmp rfl
    ·replace h := iff_ h (cf hb14)
     refine wp_skip ?_
     refine then_norm ?_
     refine sr ?_
     refine s_mv (v := .int .i64 a0) rfl ?_
     refine s_mv (v := .int .i64 a0) rfl ?_
     refine s_mul rfl rfl ?_
     refine s_sub rfl rfl ?_
     refine s_bslice (sz := 1) hC [(0, .int .i64 a0), (1, .int .i64 (IntKind.i64.wrap ((IntKind.i64.wrap (2 * a0)) - 1)))] ((EI .i64).encs [a0, IntKind.i64.wrap ((IntKind.i64.wrap (2 * a0)) - 1)]) rfl (fun _ => bs22_2 a0 (IntKind.i64.wrap ((IntKind.i64.wrap (2 * a0)) - 1)) _) rfl (by decide) fun b38 w39 hB_ hC => ?_
     refine s_build [] rfl (bl51   _) ?_
     refine s_call [.int .i64 0, .int .u8 2] _ Try.func68 rfl rfl rfl (c_spec_l08Power 0 2 h _) (fun ret41 w43 hR42 => ?_)
     obtain ⟨r44, u45, f46, rfl, h, hr47, hf48, hB49⟩ := hR42
     refine ⟨_, rfl, ?_⟩
     replace hC := hC.push hB49 (Tr.item (TrForm 93) r44 [u45] f46) hr47 hf48
     obtain ⟨ho51, hf52⟩ := form_split (hC.getM 0 rfl)
     subst hf52
     replace hC := hC.recast (c := own 93 9 u45 r44.terms.length (ETerm.encs r44.terms)) (fun _ h_ => h_) (fun _ => ho51)
     refine s_bslice (sz := 1) hC [(0, .agg #[.slice none 0 0]), (1, .agg #[u45])] [.slice none 0 0, u45] rfl (fun _ => bsr32_2_n_s (.slice none 0 0) u45 ⟨_, _, _, rfl⟩ (own_isSl (hC.getM 0 rfl)) _) rfl (by decide) fun b54 w55 hB_ hC => ?_
     replace hC := hC.pushM0 (forest (TrForm 93) [] [] []) (forest_nil _ _) rfl
     replace hC := hC.sel [2, 0, 1, 3, 4] [] (M' := [own 93 9 u45 r44.terms.length (ETerm.encs r44.terms), forest (TrForm 93) [] [] [], own 51 1 (.slice (some ⟨b54, 0, none⟩) 2 2) 2 [.slice none 0 0, u45], own 2 1 (.slice (some ⟨b38, 0, none⟩) 2 2) ([a0, IntKind.i64.wrap ((IntKind.i64.wrap (2 * a0)) - 1)].length) ((EI .i64).encs [a0, IntKind.i64.wrap ((IntKind.i64.wrap (2 * a0)) - 1)]), blk b1 34 [.slice none 0 0, .slice none 0 0]]) (Ps' := []) (by decide) rfl rfl
     replace hC := hC.gather (c := forest (TrForm 93) [r44] [u45] [(Option.toList (Value.ownBlock u45))]) (fun x_ hx_ => forest_mem hx_) (fun h1_ h2_ hd_ => forest_cons (c := [u45]) (form_join (own_item h1_)) h2_ hd_)
     replace hC := hC.recast (c := forest (TrForm 93) [(⟨[]⟩ : Vc.Form), r44] [.slice none 0 0, u45] [[], (Option.toList (Value.ownBlock u45))]) (fun x_ hx_ => hx_) (fun h_ => forest_cons (c := [.slice none 0 0]) (form_join (nil_item _ _ _)) h_ (by simp))
     replace hC := hC.sel [1, 0, 2, 3] [] (M' := [own 51 1 (.slice (some ⟨b54, 0, none⟩) 2 2) 2 [.slice none 0 0, u45], forest (TrForm 93) [(⟨[]⟩ : Vc.Form), r44] [.slice none 0 0, u45] [[], (Option.toList (Value.ownBlock u45))], own 2 1 (.slice (some ⟨b38, 0, none⟩) 2 2) ([a0, IntKind.i64.wrap ((IntKind.i64.wrap (2 * a0)) - 1)].length) ((EI .i64).encs [a0, IntKind.i64.wrap ((IntKind.i64.wrap (2 * a0)) - 1)]), blk b1 34 [.slice none 0 0, .slice none 0 0]]) (Ps' := []) (by decide) rfl rfl
     replace hC := hC.gather (c := Tr.item (Tr.sl 51 (TrForm 93)) [(⟨[]⟩ : Vc.Form), r44] [.slice (some ⟨b54, 0, none⟩) 2 2] ((Option.toList (Value.ownBlock (.slice (some ⟨b54, 0, none⟩) 2 2))) ++ ([[], (Option.toList (Value.ownBlock u45))] : List (List Nat)).flatten)) (fun x_ hx_ => List.mem_append.1 hx_) (fun h1_ h2_ hd_ => forest_up h1_ h2_ hd_)
     refine s_build [(0, .slice (some ⟨b38, 0, none⟩) 2 2), (1, .slice (some ⟨b54, 0, none⟩) 2 2)] rfl (bl34_0sl_1sl (.slice (some ⟨b38, 0, none⟩) 2 2) (.slice (some ⟨b54, 0, none⟩) 2 2) (own_isSl (hC.getM 1 rfl)) (rep_isSl (Tr.trep _ (hC.getM 0 rfl).1)) _) ?_
     refine s_store (v := .agg #[.slice (some ⟨b38, 0, none⟩) 2 2, .slice (some ⟨b54, 0, none⟩) 2 2]) hC 2 [.slice (some ⟨b38, 0, none⟩) 2 2, .slice (some ⟨b54, 0, none⟩) 2 2] [.slice (some ⟨b38, 0, none⟩) 2 2, .slice (some ⟨b54, 0, none⟩) 2 2] rfl ag34.size rfl rfl rfl rfl (all_c (own_oneC (hC.getM 1 rfl)) (all_c (rep_oneC (Tr.trep _ (hC.getM 0 rfl).1)) rfl)) (Nat.le_of_ble_eq_true rfl) rfl fun w59 hC => ?_
     refine s_as (v := .int .i64 0) rfl ?_
     refine dn ?_
     refine wp_ret ?_
     refine ret2 (fn := Try.f30) rfl ?_ ?_ ⟨(⟨[a0, IntKind.i64.wrap ((IntKind.i64.wrap (2 * a0)) - 1)], [(⟨[]⟩ : Vc.Form), r44]⟩ : Alg), .slice (some ⟨b38, 0, none⟩) 2 2, .slice (some ⟨b54, 0, none⟩) 2 2, ((Option.toList (Value.ownBlock (.slice (some ⟨b38, 0, none⟩) 2 2))) ++ ((Option.toList (Value.ownBlock (.slice (some ⟨b54, 0, none⟩) 2 2))) ++ ([[], (Option.toList (Value.ownBlock u45))] : List (List Nat)).flatten)), 0, rfl, h, (alg_join (own_item (hC.getM 1 rfl)) (hC.getM 0 rfl) (fun x hx hx' => hC.mm 1 0 rfl rfl (by decide) x hx hx')), (fun b hb => (List.mem_append.1 hb).elim (fun hb => (own_fresh hC 1 rfl) b hb) (fun hb => (tr_fresh hC 0 rfl) b hb)), hC.below⟩ (.inl rfl)
     ·exact res_cellA hC 2 rfl ag34 rfl rfl
     ·exact res_tmp rfl
  ·replace h := iff_ h (cf hb11)
   refine guardOff (b := false) 7 11 rfl (tr rfl (congrArg _ hb11)) (by decide) ?_
   refine guardOff (b := false) 7 11 rfl (tr rfl (congrArg _ hb11)) (by decide) ?_
   refine guardOn 3 7 rfl rfl hb9 ?_
   refine s_pick (v := .bool false) (b := false) (tr rfl (congrArg _ hb11)) rfl ?_
   refine s_pick (v := .bool false) (b := false) (tr rfl (congrArg _ hb9)) rfl ?_
   refine dn ?_
   refine cw_false rfl rfl ?_
   refine wp_skip ?_
   refine then_norm ?_
   refine wp_seq ?_
   refine sr ?_
   refine s_mv (v := .int .i64 a0) rfl ?_
   refine s_rem rfl rfl (by decide) ?_
   refine s_neq rfl rfl ?_
   refine dn ?_
   refine cw_cond rfl (fun hb60 => ?_) (fun hb60 => ?_)
   ·replace h := ift h (ct hb60)
    refine sr ?_
    refine s_mv (v := .int .i64 a0) rfl ?_
    refine s_bslice (sz := 1) hC [(0, .int .i64 a0)] ((EI .i64).encs [a0]) rfl (fun _ => bs22_1 a0 _) rfl (by decide) fun b61 w62 hB_ hC => ?_
    refine s_call [.slice (some ⟨b61, 0, none⟩) 1 1] _ Try.func79 rfl rfl rfl (c_spec_l02Free [a0] h _ (own_repE (hC.getM 0 rfl))) (fun ret64 w66 hR65 => ?_)
    obtain ⟨r67, u68, u69, f70, rfl, h, hr71, hf72, hB73⟩ := hR65
    refine ⟨_, rfl, ?_⟩
    replace hC := hC.push hB73 (Tr.item (TrAlg 2 93 51) r67 [u68, u69] f70) hr71 hf72
    obtain ⟨f75, ho76, ho77, hs78, hs79, hd80⟩ := alg_split (hC.getM 0 rfl)
    replace hC := hC.split (a := own 2 1 u68 r67.degrees.length ((EI .i64).encs r67.degrees)) (b := Tr.item (Tr.sl 51 (TrForm 93)) r67.images [u69] f75) hs78 hs79 ⟨ho76, ho77, hd80⟩
    refine s_store (v := .agg #[u68, u69]) hC 3 [u68, u69] [u68, u69] rfl ag34.size rfl rfl rfl rfl (all_c (own_oneC (hC.getM 0 rfl)) (all_c (rep_oneC (Tr.trep _ (hC.getM 1 rfl).1)) rfl)) (Nat.le_of_ble_eq_true rfl) rfl fun w83 hC => ?_
    refine s_as (v := .int .i64 0) rfl ?_
    refine dn ?_
    refine wp_ret (then_ret ?_)
    refine ret2 (fn := Try.f30) rfl ?_ ?_ ⟨r67, u68, u69, ((Option.toList (Value.ownBlock u68)) ++ f75), 0, rfl, h, (alg_join (own_item (hC.getM 0 rfl)) (hC.getM 1 rfl) (fun x hx hx' => hC.mm 0 1 rfl rfl (by decide) x hx hx')), (fun b hb => (List.mem_append.1 hb).elim (fun hb => (own_fresh hC 0 rfl) b hb) (fun hb => (tr_fresh hC 1 rfl) b hb)), hC.below⟩ (.inl rfl)
    ·exact res_cellA hC 3 rfl ag34 rfl rfl
    ·exact res_tmp rfl
   ·replace h := iff_ h (cf hb60)
    refine wp_skip ?_
    refine then_norm ?_
    refine sr ?_
    refine s_mv (v := .int .i64 a0) rfl ?_
    refine s_mv (v := .int .i64 a0) rfl ?_
    refine s_mul rfl rfl ?_
    refine s_sub rfl rfl ?_
    refine s_bslice (sz := 1) hC [(0, .int .i64 a0), (1, .int .i64 (IntKind.i64.wrap ((IntKind.i64.wrap (2 * a0)) - 1)))] ((EI .i64).encs [a0, IntKind.i64.wrap ((IntKind.i64.wrap (2 * a0)) - 1)]) rfl (fun _ => bs22_2 a0 (IntKind.i64.wrap ((IntKind.i64.wrap (2 * a0)) - 1)) _) rfl (by decide) fun b84 w85 hB_ hC => ?_
    refine s_build [] rfl (bl51   _) ?_
    refine s_call [.int .i64 0, .int .u8 2] _ Try.func68 rfl rfl rfl (c_spec_l08Power 0 2 h _) (fun ret87 w89 hR88 => ?_)
    obtain ⟨r90, u91, f92, rfl, h, hr93, hf94, hB95⟩ := hR88
    refine ⟨_, rfl, ?_⟩
    replace hC := hC.push hB95 (Tr.item (TrForm 93) r90 [u91] f92) hr93 hf94
    obtain ⟨ho97, hf98⟩ := form_split (hC.getM 0 rfl)
    subst hf98
    replace hC := hC.recast (c := own 93 9 u91 r90.terms.length (ETerm.encs r90.terms)) (fun _ h_ => h_) (fun _ => ho97)
    refine s_bslice (sz := 1) hC [(0, .agg #[.slice none 0 0]), (1, .agg #[u91])] [.slice none 0 0, u91] rfl (fun _ => bsr32_2_n_s (.slice none 0 0) u91 ⟨_, _, _, rfl⟩ (own_isSl (hC.getM 0 rfl)) _) rfl (by decide) fun b100 w101 hB_ hC => ?_
    replace hC := hC.pushM0 (forest (TrForm 93) [] [] []) (forest_nil _ _) rfl
    replace hC := hC.sel [2, 0, 1, 3, 4] [] (M' := [own 93 9 u91 r90.terms.length (ETerm.encs r90.terms), forest (TrForm 93) [] [] [], own 51 1 (.slice (some ⟨b100, 0, none⟩) 2 2) 2 [.slice none 0 0, u91], own 2 1 (.slice (some ⟨b84, 0, none⟩) 2 2) ([a0, IntKind.i64.wrap ((IntKind.i64.wrap (2 * a0)) - 1)].length) ((EI .i64).encs [a0, IntKind.i64.wrap ((IntKind.i64.wrap (2 * a0)) - 1)]), blk b1 34 [.slice none 0 0, .slice none 0 0]]) (Ps' := []) (by decide) rfl rfl
    replace hC := hC.gather (c := forest (TrForm 93) [r90] [u91] [(Option.toList (Value.ownBlock u91))]) (fun x_ hx_ => forest_mem hx_) (fun h1_ h2_ hd_ => forest_cons (c := [u91]) (form_join (own_item h1_)) h2_ hd_)
    replace hC := hC.recast (c := forest (TrForm 93) [(⟨[]⟩ : Vc.Form), r90] [.slice none 0 0, u91] [[], (Option.toList (Value.ownBlock u91))]) (fun x_ hx_ => hx_) (fun h_ => forest_cons (c := [.slice none 0 0]) (form_join (nil_item _ _ _)) h_ (by simp))
    replace hC := hC.sel [1, 0, 2, 3] [] (M' := [own 51 1 (.slice (some ⟨b100, 0, none⟩) 2 2) 2 [.slice none 0 0, u91], forest (TrForm 93) [(⟨[]⟩ : Vc.Form), r90] [.slice none 0 0, u91] [[], (Option.toList (Value.ownBlock u91))], own 2 1 (.slice (some ⟨b84, 0, none⟩) 2 2) ([a0, IntKind.i64.wrap ((IntKind.i64.wrap (2 * a0)) - 1)].length) ((EI .i64).encs [a0, IntKind.i64.wrap ((IntKind.i64.wrap (2 * a0)) - 1)]), blk b1 34 [.slice none 0 0, .slice none 0 0]]) (Ps' := []) (by decide) rfl rfl
    replace hC := hC.gather (c := Tr.item (Tr.sl 51 (TrForm 93)) [(⟨[]⟩ : Vc.Form), r90] [.slice (some ⟨b100, 0, none⟩) 2 2] ((Option.toList (Value.ownBlock (.slice (some ⟨b100, 0, none⟩) 2 2))) ++ ([[], (Option.toList (Value.ownBlock u91))] : List (List Nat)).flatten)) (fun x_ hx_ => List.mem_append.1 hx_) (fun h1_ h2_ hd_ => forest_up h1_ h2_ hd_)
    refine s_build [(0, .slice (some ⟨b84, 0, none⟩) 2 2), (1, .slice (some ⟨b100, 0, none⟩) 2 2)] rfl (bl34_0sl_1sl (.slice (some ⟨b84, 0, none⟩) 2 2) (.slice (some ⟨b100, 0, none⟩) 2 2) (own_isSl (hC.getM 1 rfl)) (rep_isSl (Tr.trep _ (hC.getM 0 rfl).1)) _) ?_
    refine s_store (v := .agg #[.slice (some ⟨b84, 0, none⟩) 2 2, .slice (some ⟨b100, 0, none⟩) 2 2]) hC 2 [.slice (some ⟨b84, 0, none⟩) 2 2, .slice (some ⟨b100, 0, none⟩) 2 2] [.slice (some ⟨b84, 0, none⟩) 2 2, .slice (some ⟨b100, 0, none⟩) 2 2] rfl ag34.size rfl rfl rfl rfl (all_c (own_oneC (hC.getM 1 rfl)) (all_c (rep_oneC (Tr.trep _ (hC.getM 0 rfl).1)) rfl)) (Nat.le_of_ble_eq_true rfl) rfl fun w105 hC => ?_
    refine s_as (v := .int .i64 0) rfl ?_
    refine dn ?_
    refine wp_ret ?_
    refine ret2 (fn := Try.f30) rfl ?_ ?_ ⟨(⟨[a0, IntKind.i64.wrap ((IntKind.i64.wrap (2 * a0)) - 1)], [(⟨[]⟩ : Vc.Form), r90]⟩ : Alg), .slice (some ⟨b84, 0, none⟩) 2 2, .slice (some ⟨b100, 0, none⟩) 2 2, ((Option.toList (Value.ownBlock (.slice (some ⟨b84, 0, none⟩) 2 2))) ++ ((Option.toList (Value.ownBlock (.slice (some ⟨b100, 0, none⟩) 2 2))) ++ ([[], (Option.toList (Value.ownBlock u91))] : List (List Nat)).flatten)), 0, rfl, h, (alg_join (own_item (hC.getM 1 rfl)) (hC.getM 0 rfl) (fun x hx hx' => hC.mm 1 0 rfl rfl (by decide) x hx hx')), (fun b hb => (List.mem_append.1 hb).elim (fun hb => (own_fresh hC 1 rfl) b hb) (fun hb => (tr_fresh hC 0 rfl) b hb)), hC.below⟩ (.inl rfl)
    ·exact res_cellA hC 2 rfl ag34 rfl rfl
    ·exact res_tmp rfl
def f_impl_SphereModel (a0 : Int) (K : Alg → Int → Prop) : Prop :=
 (if Int.tmod a0 2 = 0 then f_impl_within a0 2 6 (fun r8 => (if r8 = true then f_impl_powerForm 0 2 (fun r17 => K (⟨[a0, IntKind.i64.wrap ((IntKind.i64.wrap (2 * a0)) - 1)], [(⟨[]⟩ : Vc.Form), r17]⟩ : Alg) 0) else (if Int.tmod a0 2 ≠ 0 then f_impl_within a0 1 12 (fun r37 => (if r37 = true then (True ∧ K (⟨[a0], List.replicate 1 ((⟨[]⟩ : Vc.Form) : Vc.Form)⟩ : Alg) 0) else K (⟨[], []⟩ : Alg) 2)) else K (⟨[], []⟩ : Alg) 2))) else (if Int.tmod a0 2 ≠ 0 then f_impl_within a0 1 12 (fun r54 => (if r54 = true then (True ∧ K (⟨[a0], List.replicate 1 ((⟨[]⟩ : Vc.Form) : Vc.Form)⟩ : Alg) 0) else K (⟨[], []⟩ : Alg) 2)) else K (⟨[], []⟩ : Alg) 2))
theorem c_impl_SphereModel (a0 : Int)  {K : Alg → Int → Prop} (h : f_impl_SphereModel a0 K) (w0 : World)  :
  Calls Try.prog 31 #[.int .i64 a0] w0 fun e w' => ∃ (r0 : Alg) (z0_0 : Value) (z0_1 : Value) (fz0 : List Nat) (r1 : Int), 
   e = .returned (.tuple #[.agg #[z0_0, z0_1], .int .i64 r1]) ∧ K r0 r1 ∧ (Tr.item (TrAlg 2 93 51) r0 [z0_0, z0_1] fz0).holds w' ∧ (∀ b, b ∈ fz0 → w0.heap.size ≤ b) ∧ Bel w0 w' := by
 unfold f_impl_SphereModel at h
 refine calls_of (args := [.int .i64 a0]) Try.func31 rfl 34 Try.ntmps31 (Nat.le_of_ble_eq_true rfl) ?_
 have hC := Ctx.start (X := Nox) w0 [] (by simp)
 refine sr ?_
 refine s_alloc hC [.slice none 0 0, .slice none 0 0] z34 rfl fun b1 w3 hB_ hC => ?_
 refine s_as (v := .int .i64 0) rfl ?_
 refine dn ?_
 refine wp_seq ?_
 refine wp_block ?_
 refine sr ?_
 refine s_mv (v := .int .i64 a0) rfl ?_
 refine s_rem rfl rfl (by decide) ?_
 refine s_eql rfl rfl ?_
 refine s_mv (v := .bool (decide (Int.tmod a0 2 = 0))) rfl ?_
 refine bsplit (decide (Int.tmod a0 2 = 0)) (fun hb4 => ?_) (fun hb4 => ?_)
 ·replace h := ift h (ct hb4)
  refine guardOn 3 8 rfl rfl hb4 ?_
  refine s_mv (v := .int .i64 a0) rfl ?_
  refine guardOn 3 8 rfl rfl hb4 ?_
  refine s_call [.int .i64 a0, .int .i64 2, .int .i64 6] _ Try.func69 rfl rfl rfl (c_impl_within a0 2 6 h _) (fun ret5 w7 hR6 => ?_)
  obtain ⟨r8, rfl, h, hB9⟩ := hR6
  refine ⟨_, rfl, ?_⟩
  replace hC := hC.grow hB9
  refine s_pick (v := .bool r8) (b := true) (tr rfl (congrArg _ hb4)) rfl ?_
  refine s_as (v := .bool r8) rfl ?_
  refine dn ?_
  refine cw_cond rfl (fun hb10 => ?_) (fun hb10 => ?_)
  ·replace h := ift h (hb10)
   refine sr ?_
   refine s_mv (v := .int .i64 a0) rfl ?_
   refine s_mv (v := .int .i64 a0) rfl ?_
   refine s_mul rfl rfl ?_
   refine s_sub rfl rfl ?_
   refine s_bslice (sz := 1) hC [(0, .int .i64 a0), (1, .int .i64 (IntKind.i64.wrap ((IntKind.i64.wrap (2 * a0)) - 1)))] ((EI .i64).encs [a0, IntKind.i64.wrap ((IntKind.i64.wrap (2 * a0)) - 1)]) rfl (fun _ => bs22_2 a0 (IntKind.i64.wrap ((IntKind.i64.wrap (2 * a0)) - 1)) _) rfl (by decide) fun b11 w12 hB_ hC => ?_
   refine s_build [] rfl (bl51   _) ?_
   refine s_call [.int .i64 0, .int .i64 2] _ Try.func70 rfl rfl rfl (c_impl_powerForm 0 2 h _) (fun ret14 w16 hR15 => ?_)
   obtain ⟨r17, u18, f19, rfl, h, hr20, hf21, hB22⟩ := hR15
   refine ⟨_, rfl, ?_⟩
   replace hC := hC.push hB22 (Tr.item (TrForm 93) r17 [u18] f19) hr20 hf21
   obtain ⟨ho24, hf25⟩ := form_split (hC.getM 0 rfl)
   subst hf25
   replace hC := hC.recast (c := own 93 9 u18 r17.terms.length (ETerm.encs r17.terms)) (fun _ h_ => h_) (fun _ => ho24)
   refine s_bslice (sz := 1) hC [(0, .agg #[.slice none 0 0]), (1, .agg #[u18])] [.slice none 0 0, u18] rfl (fun _ => bsr32_2_n_s (.slice none 0 0) u18 ⟨_, _, _, rfl⟩ (own_isSl (hC.getM 0 rfl)) _) rfl (by decide) fun b27 w28 hB_ hC => ?_
   replace hC := hC.pushM0 (forest (TrForm 93) [] [] []) (forest_nil _ _) rfl
   replace hC := hC.sel [2, 0, 1, 3, 4] [] (M' := [own 93 9 u18 r17.terms.length (ETerm.encs r17.terms), forest (TrForm 93) [] [] [], own 51 1 (.slice (some ⟨b27, 0, none⟩) 2 2) 2 [.slice none 0 0, u18], own 2 1 (.slice (some ⟨b11, 0, none⟩) 2 2) ([a0, IntKind.i64.wrap ((IntKind.i64.wrap (2 * a0)) - 1)].length) ((EI .i64).encs [a0, IntKind.i64.wrap ((IntKind.i64.wrap (2 * a0)) - 1)]), blk b1 34 [.slice none 0 0, .slice none 0 0]]) (Ps' := []) (by decide) rfl rfl
   replace hC := hC.gather (c := forest (TrForm 93) [r17] [u18] [(Option.toList (Value.ownBlock u18))]) (fun x_ hx_ => forest_mem hx_) (fun h1_ h2_ hd_ => forest_cons (c := [u18]) (form_join (own_item h1_)) h2_ hd_)
   replace hC := hC.recast (c := forest (TrForm 93) [(⟨[]⟩ : Vc.Form), r17] [.slice none 0 0, u18] [[], (Option.toList (Value.ownBlock u18))]) (fun x_ hx_ => hx_) (fun h_ => forest_cons (c := [.slice none 0 0]) (form_join (nil_item _ _ _)) h_ (by simp))
   replace hC := hC.sel [1, 0, 2, 3] [] (M' := [own 51 1 (.slice (some ⟨b27, 0, none⟩) 2 2) 2 [.slice none 0 0, u18], forest (TrForm 93) [(⟨[]⟩ : Vc.Form), r17] [.slice none 0 0, u18] [[], (Option.toList (Value.ownBlock u18))], own 2 1 (.slice (some ⟨b11, 0, none⟩) 2 2) ([a0, IntKind.i64.wrap ((IntKind.i64.wrap (2 * a0)) - 1)].length) ((EI .i64).encs [a0, IntKind.i64.wrap ((IntKind.i64.wrap (2 * a0)) - 1)]), blk b1 34 [.slice none 0 0, .slice none 0 0]]) (Ps' := []) (by decide) rfl rfl
   replace hC := hC.gather (c := Tr.item (Tr.sl 51 (TrForm 93)) [(⟨[]⟩ : Vc.Form), r17] [.slice (some ⟨b27, 0, none⟩) 2 2] ((Option.toList (Value.ownBlock (.slice (some ⟨b27, 0, none⟩) 2 2))) ++ ([[], (Option.toList (Value.ownBlock u18))] : List (List Nat)).flatten)) (fun x_ hx_ => List.mem_append.1 hx_) (fun h1_ h2_ hd_ => forest_up h1_ h2_ hd_)
   refine s_build [(0, .slice (some ⟨b11, 0, none⟩) 2 2), (1, .slice (some ⟨b27, 0, none⟩) 2 2)] rfl (bl34_0sl_1sl (.slice (some ⟨b11, 0, none⟩) 2 2) (.slice (some ⟨b27, 0, none⟩) 2 2) (own_isSl (hC.getM 1 rfl)) (rep_isSl (Tr.trep _ (hC.getM 0 rfl).1)) _) ?_
   refine s_store (v := .agg #[.slice (some ⟨b11, 0, none⟩) 2 2, .slice (some ⟨b27, 0, none⟩) 2 2]) hC 2 [.slice (some ⟨b11, 0, none⟩) 2 2, .slice (some ⟨b27, 0, none⟩) 2 2] [.slice (some ⟨b11, 0, none⟩) 2 2, .slice (some ⟨b27, 0, none⟩) 2 2] rfl ag34.size rfl rfl rfl rfl (all_c (own_oneC (hC.getM 1 rfl)) (all_c (rep_oneC (Tr.trep _ (hC.getM 0 rfl).1)) rfl)) (Nat.le_of_ble_eq_true rfl) rfl fun w32 hC => ?_
   refine s_as (v := .int .i64 0) rfl ?_
   refine dn ?_
   refine wp_ret (blk_ret (then_ret ?_))
   refine ret2 (fn := Try.f31) rfl ?_ ?_ ⟨(⟨[a0, IntKind.i64.wrap ((IntKind.i64.wrap (2 * a0)) - 1)], [(⟨[]⟩ : Vc.Form), r17]⟩ : Alg), .slice (some ⟨b11, 0, none⟩) 2 2, .slice (some ⟨b27, 0, none⟩) 2 2, ((Option.toList (Value.ownBlock (.slice (some ⟨b11, 0, none⟩) 2 2))) ++ ((Option.toList (Value.ownBlock (.slice (some ⟨b27, 0, none⟩) 2 2))) ++ ([[], (Option.toList (Value.ownBlock u18))] : List (List Nat)).flatten)), 0, rfl, h, (alg_join (own_item (hC.getM 1 rfl)) (hC.getM 0 rfl) (fun x hx hx' => hC.mm 1 0 rfl rfl (by decide) x hx hx')), (fun b hb => (List.mem_append.1 hb).elim (fun hb => (own_fresh hC 1 rfl) b hb) (fun hb => (tr_fresh hC 0 rfl) b hb)), hC.below⟩ (.inl rfl)
   ·exact res_cellA hC 2 rfl ag34 rfl rfl
   ·exact res_tmp rfl
  ·replace h := iff_ h (ne_t hb10)
   refine sr ?_
   refine s_mv (v := .int .i64 a0) rfl ?_
   refine s_rem rfl rfl (by decide) ?_
   refine s_neq rfl rfl ?_
   refine s_mv (v := .bool (decide (Int.tmod a0 2 ≠ 0))) rfl ?_
   refine bsplit (decide (Int.tmod a0 2 ≠ 0)) (fun hb33 => ?_) (fun hb33 => ?_)
   ·replace h := ift h (ct hb33)
    refine guardOn 3 25 rfl rfl hb33 ?_
    refine s_mv (v := .int .i64 a0) rfl ?_
    refine guardOn 3 25 rfl rfl hb33 ?_
    refine s_call [.int .i64 a0, .int .i64 1, .int .i64 12] _ Try.func69 rfl rfl rfl (c_impl_within a0 1 12 h _) (fun ret34 w36 hR35 => ?_)
    obtain ⟨r37, rfl, h, hB38⟩ := hR35
    refine ⟨_, rfl, ?_⟩
    replace hC := hC.grow hB38
    refine s_pick (v := .bool r37) (b := true) (tr rfl (congrArg _ hb33)) rfl ?_
    refine s_as (v := .bool r37) rfl ?_
    refine dn ?_
    refine cw_cond rfl (fun hb39 => ?_) (fun hb39 => ?_)
    ·replace h := ift h (hb39)
     refine sr ?_
     refine s_mv (v := .int .i64 a0) rfl ?_
     refine s_bslice (sz := 1) hC [(0, .int .i64 a0)] ((EI .i64).encs [a0]) rfl (fun _ => bs22_1 a0 _) rfl (by decide) fun b40 w41 hB_ hC => ?_
     obtain ⟨hm45, h⟩ := h
     refine s_make (sz := 1) hC (List.replicate 1 (.slice none 0 0)) Try.underlying32 el51 rfl rfl (by decide) (by decide) (made_nil _) fun v43 w44 hB_ hC => ?_
     replace hC := hC.pushM0 (forest (TrForm 93) (List.replicate 1 ((⟨[]⟩ : Vc.Form) : Vc.Form)) (List.replicate 1 (.slice none 0 0)) (List.replicate 1 [])) (forest_rep (form_join (nil_item _ _ _)) rfl _) (flat_rep _)
     replace hC := hC.gather (c := Tr.item (Tr.sl 51 (TrForm 93)) (List.replicate 1 ((⟨[]⟩ : Vc.Form) : Vc.Form)) [v43] ((Option.toList (Value.ownBlock v43)) ++ (List.replicate 1 ([] : List Nat)).flatten)) (fun x_ hx_ => (List.mem_append.1 hx_).symm) (fun h1_ h2_ hd_ => forest_up (by rw [List.length_replicate]; exact h2_) h1_ (fun b_ hb_ hb2_ => hd_ b_ hb2_ hb_))
     refine s_build [(0, .slice (some ⟨b40, 0, none⟩) 1 1), (1, v43)] rfl (bl34_0sl_1sl (.slice (some ⟨b40, 0, none⟩) 1 1) v43 (own_isSl (hC.getM 1 rfl)) (rep_isSl (Tr.trep _ (hC.getM 0 rfl).1)) _) ?_
     refine s_store (v := .agg #[.slice (some ⟨b40, 0, none⟩) 1 1, v43]) hC 2 [.slice (some ⟨b40, 0, none⟩) 1 1, v43] [.slice (some ⟨b40, 0, none⟩) 1 1, v43] rfl ag34.size rfl rfl rfl rfl (all_c (own_oneC (hC.getM 1 rfl)) (all_c (rep_oneC (Tr.trep _ (hC.getM 0 rfl).1)) rfl)) (Nat.le_of_ble_eq_true rfl) rfl fun w47 hC => ?_
     refine s_as (v := .int .i64 0) rfl ?_
     refine dn ?_
     refine wp_ret (blk_ret (then_ret ?_))
     refine ret2 (fn := Try.f31) rfl ?_ ?_ ⟨(⟨[a0], List.replicate 1 ((⟨[]⟩ : Vc.Form) : Vc.Form)⟩ : Alg), .slice (some ⟨b40, 0, none⟩) 1 1, v43, ((Option.toList (Value.ownBlock (.slice (some ⟨b40, 0, none⟩) 1 1))) ++ ((Option.toList (Value.ownBlock v43)) ++ (List.replicate 1 ([] : List Nat)).flatten)), 0, rfl, h, (alg_join (own_item (hC.getM 1 rfl)) (hC.getM 0 rfl) (fun x hx hx' => hC.mm 1 0 rfl rfl (by decide) x hx hx')), (fun b hb => (List.mem_append.1 hb).elim (fun hb => (own_fresh hC 1 rfl) b hb) (fun hb => (tr_fresh hC 0 rfl) b hb)), hC.below⟩ (.inl rfl)
     ·exact res_cellA hC 2 rfl ag34 rfl rfl
     ·exact res_tmp rfl
    ·replace h := iff_ h (ne_t hb39)
     refine wp_skip ?_
     refine blk_norm ?_
     refine then_norm ?_
     refine sr ?_
     refine s_build [] rfl (bl34   _) ?_
     refine s_store (v := .agg #[.slice none 0 0, .slice none 0 0]) hC 0 [.slice none 0 0, .slice none 0 0] [.slice none 0 0, .slice none 0 0] rfl ag34.size rfl rfl rfl rfl rfl (Nat.le_of_ble_eq_true rfl) rfl fun w48 hC => ?_
     refine s_as (v := .int .i64 2) rfl ?_
     refine dn ?_
     refine wp_ret ?_
     refine ret2 (fn := Try.f31) rfl ?_ ?_ ⟨(⟨[], []⟩ : Alg), .slice none 0 0, .slice none 0 0, ([] ++ []), 2, rfl, h, (alg_join (nil_item _ _ _) (nil_item _ _ _) (fun x hx => absurd hx (by simp))), (fun b hb => (List.mem_append.1 hb).elim (fun hb => (fun b hb => absurd hb (by simp)) b hb) (fun hb => (fun b hb => absurd hb (by simp)) b hb)), hC.below⟩ (.inl rfl)
     ·exact res_cellA hC 0 rfl ag34 rfl rfl
     ·exact res_tmp rfl
   ·replace h := iff_ h (cf hb33)
    refine guardOff (b := false) 3 25 rfl (tr rfl (congrArg _ hb33)) (by decide) ?_
    refine guardOff (b := false) 3 25 rfl (tr rfl (congrArg _ hb33)) (by decide) ?_
    refine s_pick (v := .bool false) (b := false) (tr rfl (congrArg _ hb33)) rfl ?_
    refine s_as (v := .bool false) rfl ?_
    refine dn ?_
    refine cw_false rfl rfl ?_
    refine wp_skip ?_
    refine blk_norm ?_
    refine then_norm ?_
    refine sr ?_
    refine s_build [] rfl (bl34   _) ?_
    refine s_store (v := .agg #[.slice none 0 0, .slice none 0 0]) hC 0 [.slice none 0 0, .slice none 0 0] [.slice none 0 0, .slice none 0 0] rfl ag34.size rfl rfl rfl rfl rfl (Nat.le_of_ble_eq_true rfl) rfl fun w49 hC => ?_
    refine s_as (v := .int .i64 2) rfl ?_
    refine dn ?_
    refine wp_ret ?_
    refine ret2 (fn := Try.f31) rfl ?_ ?_ ⟨(⟨[], []⟩ : Alg), .slice none 0 0, .slice none 0 0, ([] ++ []), 2, rfl, h, (alg_join (nil_item _ _ _) (nil_item _ _ _) (fun x hx => absurd hx (by simp))), (fun b hb => (List.mem_append.1 hb).elim (fun hb => (fun b hb => absurd hb (by simp)) b hb) (fun hb => (fun b hb => absurd hb (by simp)) b hb)), hC.below⟩ (.inl rfl)
    ·exact res_cellA hC 0 rfl ag34 rfl rfl
    ·exact res_tmp rfl
 ·replace h := iff_ h (cf hb4)
  refine guardOff (b := false) 3 8 rfl (tr rfl (congrArg _ hb4)) (by decide) ?_
  refine guardOff (b := false) 3 8 rfl (tr rfl (congrArg _ hb4)) (by decide) ?_
  refine s_pick (v := .bool false) (b := false) (tr rfl (congrArg _ hb4)) rfl ?_
  refine s_as (v := .bool false) rfl ?_
  refine dn ?_
  refine cw_false rfl rfl ?_
  refine sr ?_
  refine s_mv (v := .int .i64 a0) rfl ?_
  refine s_rem rfl rfl (by decide) ?_
  refine s_neq rfl rfl ?_
  refine s_mv (v := .bool (decide (Int.tmod a0 2 ≠ 0))) rfl ?_
  refine bsplit (decide (Int.tmod a0 2 ≠ 0)) (fun hb50 => ?_) (fun hb50 => ?_)
  ·replace h := ift h (ct hb50)
   refine guardOn 3 25 rfl rfl hb50 ?_
   refine s_mv (v := .int .i64 a0) rfl ?_
   refine guardOn 3 25 rfl rfl hb50 ?_
   refine s_call [.int .i64 a0, .int .i64 1, .int .i64 12] _ Try.func69 rfl rfl rfl (c_impl_within a0 1 12 h _) (fun ret51 w53 hR52 => ?_)
   obtain ⟨r54, rfl, h, hB55⟩ := hR52
   refine ⟨_, rfl, ?_⟩
   replace hC := hC.grow hB55
   refine s_pick (v := .bool r54) (b := true) (tr rfl (congrArg _ hb50)) rfl ?_
   refine s_as (v := .bool r54) rfl ?_
   refine dn ?_
   refine cw_cond rfl (fun hb56 => ?_) (fun hb56 => ?_)
   ·replace h := ift h (hb56)
    refine sr ?_
    refine s_mv (v := .int .i64 a0) rfl ?_
    refine s_bslice (sz := 1) hC [(0, .int .i64 a0)] ((EI .i64).encs [a0]) rfl (fun _ => bs22_1 a0 _) rfl (by decide) fun b57 w58 hB_ hC => ?_
    obtain ⟨hm62, h⟩ := h
    refine s_make (sz := 1) hC (List.replicate 1 (.slice none 0 0)) Try.underlying32 el51 rfl rfl (by decide) (by decide) (made_nil _) fun v60 w61 hB_ hC => ?_
    replace hC := hC.pushM0 (forest (TrForm 93) (List.replicate 1 ((⟨[]⟩ : Vc.Form) : Vc.Form)) (List.replicate 1 (.slice none 0 0)) (List.replicate 1 [])) (forest_rep (form_join (nil_item _ _ _)) rfl _) (flat_rep _)
    replace hC := hC.gather (c := Tr.item (Tr.sl 51 (TrForm 93)) (List.replicate 1 ((⟨[]⟩ : Vc.Form) : Vc.Form)) [v60] ((Option.toList (Value.ownBlock v60)) ++ (List.replicate 1 ([] : List Nat)).flatten)) (fun x_ hx_ => (List.mem_append.1 hx_).symm) (fun h1_ h2_ hd_ => forest_up (by rw [List.length_replicate]; exact h2_) h1_ (fun b_ hb_ hb2_ => hd_ b_ hb2_ hb_))
    refine s_build [(0, .slice (some ⟨b57, 0, none⟩) 1 1), (1, v60)] rfl (bl34_0sl_1sl (.slice (some ⟨b57, 0, none⟩) 1 1) v60 (own_isSl (hC.getM 1 rfl)) (rep_isSl (Tr.trep _ (hC.getM 0 rfl).1)) _) ?_
    refine s_store (v := .agg #[.slice (some ⟨b57, 0, none⟩) 1 1, v60]) hC 2 [.slice (some ⟨b57, 0, none⟩) 1 1, v60] [.slice (some ⟨b57, 0, none⟩) 1 1, v60] rfl ag34.size rfl rfl rfl rfl (all_c (own_oneC (hC.getM 1 rfl)) (all_c (rep_oneC (Tr.trep _ (hC.getM 0 rfl).1)) rfl)) (Nat.le_of_ble_eq_true rfl) rfl fun w64 hC => ?_
    refine s_as (v := .int .i64 0) rfl ?_
    refine dn ?_
    refine wp_ret (blk_ret (then_ret ?_))
    refine ret2 (fn := Try.f31) rfl ?_ ?_ ⟨(⟨[a0], List.replicate 1 ((⟨[]⟩ : Vc.Form) : Vc.Form)⟩ : Alg), .slice (some ⟨b57, 0, none⟩) 1 1, v60, ((Option.toList (Value.ownBlock (.slice (some ⟨b57, 0, none⟩) 1 1))) ++ ((Option.toList (Value.ownBlock v60)) ++ (List.replicate 1 ([] : List Nat)).flatten)), 0, rfl, h, (alg_join (own_item (hC.getM 1 rfl)) (hC.getM 0 rfl) (fun x hx hx' => hC.mm 1 0 rfl rfl (by decide) x hx hx')), (fun b hb => (List.mem_append.1 hb).elim (fun hb => (own_fresh hC 1 rfl) b hb) (fun hb => (tr_fresh hC 0 rfl) b hb)), hC.below⟩ (.inl rfl)
    ·exact res_cellA hC 2 rfl ag34 rfl rfl
    ·exact res_tmp rfl
   ·replace h := iff_ h (ne_t hb56)
    refine wp_skip ?_
    refine blk_norm ?_
    refine then_norm ?_
    refine sr ?_
    refine s_build [] rfl (bl34   _) ?_
    refine s_store (v := .agg #[.slice none 0 0, .slice none 0 0]) hC 0 [.slice none 0 0, .slice none 0 0] [.slice none 0 0, .slice none 0 0] rfl ag34.size rfl rfl rfl rfl rfl (Nat.le_of_ble_eq_true rfl) rfl fun w65 hC => ?_
    refine s_as (v := .int .i64 2) rfl ?_
    refine dn ?_
    refine wp_ret ?_
    refine ret2 (fn := Try.f31) rfl ?_ ?_ ⟨(⟨[], []⟩ : Alg), .slice none 0 0, .slice none 0 0, ([] ++ []), 2, rfl, h, (alg_join (nil_item _ _ _) (nil_item _ _ _) (fun x hx => absurd hx (by simp))), (fun b hb => (List.mem_append.1 hb).elim (fun hb => (fun b hb => absurd hb (by simp)) b hb) (fun hb => (fun b hb => absurd hb (by simp)) b hb)), hC.below⟩ (.inl rfl)
    ·exact res_cellA hC 0 rfl ag34 rfl rfl
    ·exact res_tmp rfl
  ·replace h := iff_ h (cf hb50)
   refine guardOff (b := false) 3 25 rfl (tr rfl (congrArg _ hb50)) (by decide) ?_
   refine guardOff (b := false) 3 25 rfl (tr rfl (congrArg _ hb50)) (by decide) ?_
   refine s_pick (v := .bool false) (b := false) (tr rfl (congrArg _ hb50)) rfl ?_
   refine s_as (v := .bool false) rfl ?_
   refine dn ?_
   refine cw_false rfl rfl ?_
   refine wp_skip ?_
   refine blk_norm ?_
   refine then_norm ?_
   refine sr ?_
   refine s_build [] rfl (bl34   _) ?_
   refine s_store (v := .agg #[.slice none 0 0, .slice none 0 0]) hC 0 [.slice none 0 0, .slice none 0 0] [.slice none 0 0, .slice none 0 0] rfl ag34.size rfl rfl rfl rfl rfl (Nat.le_of_ble_eq_true rfl) rfl fun w66 hC => ?_
   refine s_as (v := .int .i64 2) rfl ?_
   refine dn ?_
   refine wp_ret ?_
   refine ret2 (fn := Try.f31) rfl ?_ ?_ ⟨(⟨[], []⟩ : Alg), .slice none 0 0, .slice none 0 0, ([] ++ []), 2, rfl, h, (alg_join (nil_item _ _ _) (nil_item _ _ _) (fun x hx => absurd hx (by simp))), (fun b hb => (List.mem_append.1 hb).elim (fun hb => (fun b hb => absurd hb (by simp)) b hb) (fun hb => (fun b hb => absurd hb (by simp)) b hb)), hC.below⟩ (.inl rfl)
   ·exact res_cellA hC 0 rfl ag34 rfl rfl
   ·exact res_tmp rfl
def f_spec_l01Degrees (a0 : List Int) (K : Bool → Prop) : Prop :=
 forN (fun i23 (s24 : Unit) next26 => f_spec_l01In (a0.getD i23 default) 1 12 (fun r40 => (if ¬ (r40 = true) then K false else next26 ()))) (fun (s24 : Unit) => K (decide ((a0.length : Int) ≤ 8))) a0.length 0 ()
theorem c_spec_l01Degrees (a0 : List Int) {u0_0 : Value} {fp0 : List Nat} {K : Bool → Prop} (h : f_spec_l01Degrees a0 K) (w0 : World) (q0 : ((EI .i64).ty.sl).rep a0 [u0_0] fp0 w0) :
  Calls Try.prog 61 #[u0_0] w0 fun e w' => ∃ (r0 : Bool), 
   e = .returned (.bool r0) ∧ K r0 ∧ Bel w0 w' := by
 unfold f_spec_l01Degrees at h
 refine calls_of (args := [u0_0]) Try.func61 rfl 19 Try.ntmps61 (Nat.le_of_ble_eq_true rfl) ?_
 have hC := Ctx.start (X := Nox) w0 [Ty.item ((EI .i64).ty.sl) a0 [u0_0] fp0] (by simp only [List.mem_cons, List.not_mem_nil, or_false, forall_eq_or_imp, forall_eq]; exact q0)
 refine sr ?_
 refine s_as (v := .bool false) rfl ?_
 refine dn ?_
 refine wp_seq ?_
 refine sr ?_
 refine s_as (v := .int .i64 0) rfl ?_
 refine dn ?_
 refine wp_block ?_
 have hN25 : a0.length ≤ 9223372036854775807 := sl_max (hC.getP 0 rfl)
 refine loopN (S := Unit) _ _ (fun i23 s24 e_ w_ => Slots e_ [(0, u0_0), (2, .bool false), (3, .int .i64 (i23 : Int))] ∧ Ctx Nox w0 w_ [] [Ty.item ((EI .i64).ty.sl) a0 [u0_0] fp0]) a0.length ?_ ?_ (s0 := ()) ?_ h
 ·clear hC h
  rintro i23 s24 e_ w30 next26 K27 hi29 ⟨hS_, hC⟩ h hK28
  refine wp_seq ?_
  refine sr ?_
  refine s_mv (v := .int .i64 (i23 : Int)) (sx hS_ 2 rfl) ?_
  refine s_mv (v := u0_0) (sx hS_ 0 rfl) ?_
  obtain ⟨Ad31, c32, hv33⟩ := sl_len (hC.getP 0 rfl)
  refine s_len Try.underlying22 (tr rfl hv33) ?_
  refine s_lss rfl rfl ?_
  refine dn ?_
  refine cw_true rfl (decide_eq_true (by omega)) ?_
  refine wp_skip ?_
  refine then_norm ?_
  refine wp_seq ?_
  refine wp_block ?_
  refine sr ?_
  refine s_mv (v := u0_0) (sx hS_ 0 rfl) ?_
  refine s_mv (v := .int .i64 (i23 : Int)) (sx hS_ 2 rfl) ?_
  obtain ⟨Ad34, c35, hv36⟩ := sl_form (hC.getP 0 rfl) i23 hi29
  refine s_iaddrS (len := a0.length) Try.underlying22 sc2.size (tr rfl hv36) rfl (Int.natCast_nonneg _) (Int.ofNat_lt.2 hi29) ?_
  refine s_loadCS (.int .i64 (a0.getD i23 default)) (sl_cellsE (hC.getP 0 rfl) hv36 i23 hi29) sc2 rfl ?_
  refine s_call [.int .i64 (a0.getD i23 default), .int .i64 1, .int .i64 12] _ Try.func67 rfl rfl rfl (c_spec_l01In (a0.getD i23 default) 1 12 h _) (fun ret37 w39 hR38 => ?_)
  obtain ⟨r40, rfl, h, hB41⟩ := hR38
  refine ⟨_, rfl, ?_⟩
  replace hC := hC.grow hB41
  refine s_not rfl ?_
  refine dn ?_
  refine cw_cond rfl (fun hb42 => ?_) (fun hb42 => ?_)
  ·replace h := ift h (ne_t (not_t hb42))
   refine sr ?_
   refine s_as (v := .bool false) rfl ?_
   refine dn ?_
   refine wp_ret (blk_ret (then_ret (then_ret (blk_ret (then_ret ?_)))))
   refine ret1 (fn := Try.f61) rfl ?_ ⟨false, rfl, h, hC.below⟩ (.inl rfl)
   exact res_tmp rfl
  ·replace h := iff_ h (not_not_intro ((not_f hb42)))
   refine wp_skip ?_
   refine blk_norm ?_
   refine then_norm ?_
   refine cw_region ?_
   refine s_mv (v := .int .i64 (i23 : Int)) (sx hS_ 2 rfl) ?_
   refine s_add rfl rfl ?_
   refine s_as (v := .int .i64 (IntKind.i64.wrap ((i23 : Int) + 1))) rfl ?_
   refine done ?_
   exact hK28 () _ _ ⟨(sk (sx hS_ 0 rfl) (sk (sx hS_ 1 rfl) (sk (tr rfl (congrArg _ (wrap64_nat hi29 hN25))) sn))), hC⟩ h
 ·clear hC h
  rintro s24 e_ w43 K27 ⟨hS_, hC⟩ h
  refine wp_seq ?_
  refine sr ?_
  refine s_mv (v := .int .i64 (a0.length : Int)) (sx hS_ 2 rfl) ?_
  refine s_mv (v := u0_0) (sx hS_ 0 rfl) ?_
  obtain ⟨Ad44, c45, hv46⟩ := sl_len (hC.getP 0 rfl)
  refine s_len Try.underlying22 (tr rfl hv46) ?_
  refine s_lss rfl rfl ?_
  refine dn ?_
  refine cw_false rfl (decide_eq_false (by omega)) ?_
  refine wp_exit (then_exit (then_exit (exit_in ?_)))
  refine then_norm ?_
  refine sr ?_
  refine s_mv (v := u0_0) (sx hS_ 0 rfl) ?_
  obtain ⟨Ad47, c48, hv49⟩ := sl_len (hC.getP 0 rfl)
  refine s_len Try.underlying22 (tr rfl hv49) ?_
  refine s_leq rfl rfl ?_
  refine s_as (v := .bool (decide ((a0.length : Int) ≤ 8))) rfl ?_
  refine dn ?_
  refine wp_ret ?_
  refine ret1 (fn := Try.f61) rfl ?_ ⟨decide ((a0.length : Int) ≤ 8), rfl, h, hC.below⟩ (.inl rfl)
  exact res_tmp rfl
 ·skip
  exact ⟨(sk rfl (sk rfl (sk rfl sn))), hC⟩
def f_spec_l01Mono (a0 : List Int) (a1 : A8) (K : Bool → Prop) : Prop :=
 forN (fun i21 (s22 : Unit) next23 => (if (i21 : Int) ≥ (a0.length : Int) then (if a1.get i21 ≠ 0 then K false else next23 ()) else (if a1.get i21 > 20 then K false else ((0 ≤ (i21 : Int) ∧ (i21 : Int) < (a0.length : Int)) ∧ (if Int.tmod (a0.getD i21 default) 2 ≠ 0 then (if a1.get i21 > 1 then K false else next23 ()) else next23 ()))))) (fun (s22 : Unit) => K true) 8 0 ()
theorem c_spec_l01Mono (a0 : List Int) (a1 : A8) {u0_0 : Value} {fp0 : List Nat} {K : Bool → Prop} (h : f_spec_l01Mono a0 a1 K) (w0 : World) (q0 : ((EI .i64).ty.sl).rep a0 [u0_0] fp0 w0) :
  Calls Try.prog 62 #[u0_0, .agg (List.toArray (A8.enc .u8 a1))] w0 fun e w' => ∃ (r0 : Bool), 
   e = .returned (.bool r0) ∧ K r0 ∧ Bel w0 w' := by
 unfold f_spec_l01Mono at h
 refine calls_of (args := [u0_0, .agg (List.toArray (A8.enc .u8 a1))]) Try.func62 rfl 38 Try.ntmps62 (Nat.le_of_ble_eq_true rfl) ?_
 have hC := Ctx.start (X := Nox) w0 [Ty.item ((EI .i64).ty.sl) a0 [u0_0] fp0] (by simp only [List.mem_cons, List.not_mem_nil, or_false, forall_eq_or_imp, forall_eq]; exact q0)
 refine sr ?_
 refine s_box (v := .agg (List.toArray (A8.enc .u8 a1))) hC (A8.enc .u8 a1) rfl rfl fun b2 w4 hB_ hC => ?_
 refine s_as (v := .bool false) rfl ?_
 refine dn ?_
 refine wp_seq ?_
 refine sr ?_
 refine s_as (v := .int .i64 0) rfl ?_
 refine dn ?_
 refine wp_block ?_
 refine loopN (S := Unit) _ _ (fun i21 s22 e_ w_ => Slots e_ [(0, u0_0), (3, .pointer (some ⟨b2, 0, none⟩)), (4, .bool false), (5, .int .i64 (i21 : Int))] ∧ Ctx Nox w0 w_ [blk b2 24 (A8.enc .u8 a1)] [Ty.item ((EI .i64).ty.sl) a0 [u0_0] fp0]) 8 ?_ ?_ (s0 := ()) ?_ h
 ·clear hC h
  rintro i21 s22 e_ w27 next23 K24 hi26 ⟨hS_, hC⟩ h hK25
  refine wp_seq ?_
  refine sr ?_
  refine s_mv (v := .int .i64 (i21 : Int)) (sx hS_ 3 rfl) ?_
  refine s_lss rfl rfl ?_
  refine dn ?_
  refine cw_true rfl (decide_eq_true (by omega)) ?_
  refine wp_skip ?_
  refine then_norm ?_
  refine wp_seq ?_
  refine wp_block ?_
  refine wp_block ?_
  refine sr ?_
  refine s_mv (v := .int .i64 (i21 : Int)) (sx hS_ 3 rfl) ?_
  refine s_mv (v := u0_0) (sx hS_ 0 rfl) ?_
  obtain ⟨Ad28, c29, hv30⟩ := sl_len (hC.getP 0 rfl)
  refine s_len Try.underlying22 (tr rfl hv30) ?_
  refine s_geq rfl rfl ?_
  refine s_as (v := .bool (decide ((i21 : Int) ≥ (a0.length : Int)))) rfl ?_
  refine dn ?_
  refine cw_cond rfl (fun hb31 => ?_) (fun hb31 => ?_)
  ·replace h := ift h (ct hb31)
   refine sr ?_
   refine s_mv (v := .int .i64 (i21 : Int)) (sx hS_ 3 rfl) ?_
   refine s_iaddrB i21 Try.underlying24 sc5.size (sx hS_ 1 rfl) rfl (Int.natCast_nonneg _) (by omega) (by omega) ?_
   refine s_loadS hC 0 (.int .u8 (a1.get i21)) rfl sc5 rfl (A8.enc_get _ _ hi26) ?_
   refine s_neq rfl rfl ?_
   refine dn ?_
   refine cw_cond rfl (fun hb32 => ?_) (fun hb32 => ?_)
   ·replace h := ift h (ct hb32)
    refine sr ?_
    refine s_as (v := .bool false) rfl ?_
    refine dn ?_
    refine wp_ret (blk_ret (blk_ret (then_ret (then_ret (blk_ret (then_ret ?_))))))
    refine ret1 (fn := Try.f62) rfl ?_ ⟨false, rfl, h, hC.below⟩ (.inl rfl)
    exact res_tmp rfl
   ·replace h := iff_ h (cf hb32)
    refine wp_skip ?_
    refine blk_norm ?_
    refine blk_norm ?_
    refine then_norm ?_
    refine cw_region ?_
    refine s_mv (v := .int .i64 (i21 : Int)) (sx hS_ 3 rfl) ?_
    refine s_add rfl rfl ?_
    refine s_as (v := .int .i64 (IntKind.i64.wrap ((i21 : Int) + 1))) rfl ?_
    refine done ?_
    exact hK25 () _ _ ⟨(sk (sx hS_ 0 rfl) (sk (sx hS_ 1 rfl) (sk (sx hS_ 2 rfl) (sk (tr rfl (congrArg _ (wrap64_nat hi26 (by decide)))) sn)))), hC⟩ h
  ·replace h := iff_ h (cf hb31)
   refine sr ?_
   refine s_mv (v := .int .i64 (i21 : Int)) (sx hS_ 3 rfl) ?_
   refine s_iaddrB i21 Try.underlying24 sc5.size (sx hS_ 1 rfl) rfl (Int.natCast_nonneg _) (by omega) (by omega) ?_
   refine s_loadS hC 0 (.int .u8 (a1.get i21)) rfl sc5 rfl (A8.enc_get _ _ hi26) ?_
   refine s_gtr rfl rfl ?_
   refine s_mv (v := .bool (decide (a1.get i21 > 20))) rfl ?_
   refine bsplit (decide (a1.get i21 > 20)) (fun hb33 => ?_) (fun hb33 => ?_)
   ·replace h := ift h (ct hb33)
    refine guardOff (b := true) 4 24 rfl (tr rfl (congrArg _ hb33)) (by decide) ?_
    refine guardOff (b := true) 4 24 rfl (tr rfl (congrArg _ hb33)) (by decide) ?_
    refine guardOff (b := true) 4 24 rfl (tr rfl (congrArg _ hb33)) (by decide) ?_
    refine guardOff (b := true) 4 24 rfl (tr rfl (congrArg _ hb33)) (by decide) ?_
    refine guardOff (b := true) 4 24 rfl (tr rfl (congrArg _ hb33)) (by decide) ?_
    refine guardOff (b := true) 4 24 rfl (tr rfl (congrArg _ hb33)) (by decide) ?_
    refine guardOff (b := true) 4 24 rfl (tr rfl (congrArg _ hb33)) (by decide) ?_
    refine guardOffU 11 31 rfl rfl ?_
    refine guardOffU 11 31 rfl rfl ?_
    refine guardOffU 11 31 rfl rfl ?_
    refine guardOffU 11 31 rfl rfl ?_
    refine guardOff (b := true) 4 24 rfl (tr rfl (congrArg _ hb33)) (by decide) ?_
    refine s_pick (v := .bool true) (b := true) (tr rfl (congrArg _ hb33)) rfl ?_
    refine s_as (v := .bool true) rfl ?_
    refine dn ?_
    refine cw_true rfl rfl ?_
    refine sr ?_
    refine s_as (v := .bool false) rfl ?_
    refine dn ?_
    refine wp_ret (blk_ret (blk_ret (then_ret (then_ret (blk_ret (then_ret ?_))))))
    refine ret1 (fn := Try.f62) rfl ?_ ⟨false, rfl, h, hC.below⟩ (.inl rfl)
    exact res_tmp rfl
   ·replace h := iff_ h (cf hb33)
    refine guardOn 4 24 rfl rfl hb33 ?_
    refine s_mv (v := u0_0) (sx hS_ 0 rfl) ?_
    refine guardOn 4 24 rfl rfl hb33 ?_
    refine s_mv (v := .int .i64 (i21 : Int)) (sx hS_ 3 rfl) ?_
    refine guardOn 4 24 rfl rfl hb33 ?_
    obtain ⟨⟨h0_34, h1_35⟩, h⟩ := h
    obtain ⟨Ad36, c37, hv38⟩ := sl_form (hC.getP 0 rfl) i21 (show i21 < a0.length by omega)
    refine s_iaddrS (len := a0.length) Try.underlying22 sc2.size (tr rfl hv38) rfl h0_34 h1_35 ?_
    refine guardOn 4 24 rfl rfl hb33 ?_
    refine s_loadCS (.int .i64 (a0.getD i21 default)) (sl_cellsE (hC.getP 0 rfl) hv38 i21 (show i21 < a0.length by omega)) sc2 rfl ?_
    refine guardOn 4 24 rfl rfl hb33 ?_
    refine s_rem rfl rfl (by decide) ?_
    refine guardOn 4 24 rfl rfl hb33 ?_
    refine s_neq rfl rfl ?_
    refine guardOn 4 24 rfl rfl hb33 ?_
    refine s_mv (v := .bool (decide (Int.tmod (a0.getD i21 default) 2 ≠ 0))) rfl ?_
    refine bsplit (decide (Int.tmod (a0.getD i21 default) 2 ≠ 0)) (fun hb39 => ?_) (fun hb39 => ?_)
    ·replace h := ift h (ct hb39)
     refine guardOn 11 31 rfl rfl hb39 ?_
     refine s_mv (v := .int .i64 (i21 : Int)) (sx hS_ 3 rfl) ?_
     refine guardOn 11 31 rfl rfl hb39 ?_
     refine s_iaddrB i21 Try.underlying24 sc5.size (sx hS_ 1 rfl) rfl (Int.natCast_nonneg _) (by omega) (by omega) ?_
     refine guardOn 11 31 rfl rfl hb39 ?_
     refine s_loadS hC 0 (.int .u8 (a1.get i21)) rfl sc5 rfl (A8.enc_get _ _ hi26) ?_
     refine guardOn 11 31 rfl rfl hb39 ?_
     refine s_gtr rfl rfl ?_
     refine guardOn 4 24 rfl rfl hb33 ?_
     refine s_pick (v := .bool (decide (a1.get i21 > 1))) (b := true) (tr rfl (congrArg _ hb39)) rfl ?_
     refine s_pick (v := .bool (decide (a1.get i21 > 1))) (b := false) (tr rfl (congrArg _ hb33)) rfl ?_
     refine s_as (v := .bool (decide (a1.get i21 > 1))) rfl ?_
     refine dn ?_
     refine cw_cond rfl (fun hb40 => ?_) (fun hb40 => ?_)
     ·replace h := ift h (ct hb40)
      refine sr ?_
      refine s_as (v := .bool false) rfl ?_
      refine dn ?_
      refine wp_ret (blk_ret (blk_ret (then_ret (then_ret (blk_ret (then_ret ?_))))))
      refine ret1 (fn := Try.f62) rfl ?_ ⟨false, rfl, h, hC.below⟩ (.inl rfl)
      exact res_tmp rfl
     ·replace h := iff_ h (cf hb40)
      refine wp_skip ?_
      refine blk_norm ?_
      refine blk_norm ?_
      refine then_norm ?_
      refine cw_region ?_
      refine s_mv (v := .int .i64 (i21 : Int)) (sx hS_ 3 rfl) ?_
      refine s_add rfl rfl ?_
      refine s_as (v := .int .i64 (IntKind.i64.wrap ((i21 : Int) + 1))) rfl ?_
      refine done ?_
      exact hK25 () _ _ ⟨(sk (sx hS_ 0 rfl) (sk (sx hS_ 1 rfl) (sk (sx hS_ 2 rfl) (sk (tr rfl (congrArg _ (wrap64_nat hi26 (by decide)))) sn)))), hC⟩ h
    ·replace h := iff_ h (cf hb39)
     refine guardOff (b := false) 11 31 rfl (tr rfl (congrArg _ hb39)) (by decide) ?_
     refine guardOff (b := false) 11 31 rfl (tr rfl (congrArg _ hb39)) (by decide) ?_
     refine guardOff (b := false) 11 31 rfl (tr rfl (congrArg _ hb39)) (by decide) ?_
     refine guardOff (b := false) 11 31 rfl (tr rfl (congrArg _ hb39)) (by decide) ?_
     refine guardOn 4 24 rfl rfl hb33 ?_
     refine s_pick (v := .bool false) (b := false) (tr rfl (congrArg _ hb39)) rfl ?_
     refine s_pick (v := .bool false) (b := false) (tr rfl (congrArg _ hb33)) rfl ?_
     refine s_as (v := .bool false) rfl ?_
     refine dn ?_
     refine cw_false rfl rfl ?_
     refine wp_skip ?_
     refine blk_norm ?_
     refine blk_norm ?_
     refine then_norm ?_
     refine cw_region ?_
     refine s_mv (v := .int .i64 (i21 : Int)) (sx hS_ 3 rfl) ?_
     refine s_add rfl rfl ?_
     refine s_as (v := .int .i64 (IntKind.i64.wrap ((i21 : Int) + 1))) rfl ?_
     refine done ?_
     exact hK25 () _ _ ⟨(sk (sx hS_ 0 rfl) (sk (sx hS_ 1 rfl) (sk (sx hS_ 2 rfl) (sk (tr rfl (congrArg _ (wrap64_nat hi26 (by decide)))) sn)))), hC⟩ h
 ·clear hC h
  rintro s22 e_ w41 K24 ⟨hS_, hC⟩ h
  refine wp_seq ?_
  refine sr ?_
  refine s_mv (v := .int .i64 8) (sx hS_ 3 rfl) ?_
  refine s_lss rfl rfl ?_
  refine dn ?_
  refine cw_false rfl (decide_eq_false (by omega)) ?_
  refine wp_exit (then_exit (then_exit (exit_in ?_)))
  refine then_norm ?_
  refine sr ?_
  refine s_as (v := .bool true) rfl ?_
  refine dn ?_
  refine wp_ret ?_
  refine ret1 (fn := Try.f62) rfl ?_ ⟨true, rfl, h, hC.below⟩ (.inl rfl)
  exact res_tmp rfl
 ·skip
  exact ⟨(sk rfl (sk rfl (sk rfl (sk rfl sn)))), hC⟩
def f_spec_l01Joined (a0 : List Int) (a1 : A8) (a2 : A8) (K : A8 → Int → Prop) : Prop :=
 forN (fun i178 (s179 : A8 × Int) next181 => ((0 ≤ (i178 : Int) ∧ (i178 : Int) < 8) ∧ ((0 ≤ (i178 : Int) ∧ (i178 : Int) < 8) ∧ ((0 ≤ (i178 : Int) ∧ (i178 : Int) < 8) ∧ (if Int.tmod (a0.getD i178 default) 2 = 0 then next181 (s179.1.set i178 (IntKind.u8.wrap ((a1.get i178) + (a2.get i178))), s179.2) else ((0 ≤ (i178 : Int) ∧ (i178 : Int) < 8) ∧ (if (s179.1.set i178 (IntKind.u8.wrap ((a1.get i178) + (a2.get i178)))).get i178 > 1 then K A8.zero 0 else whileP (fun (s241 : Int × Int) next242 => (if s241.1 < (a0.length : Int) then ((0 ≤ (i178 : Int) ∧ (i178 : Int) < 8) ∧ (if a2.get i178 = 1 then ((0 ≤ s241.1 ∧ s241.1 < (a0.length : Int)) ∧ (if Int.tmod (a0.getD s241.1.toNat default) 2 ≠ 0 then ((0 ≤ s241.1 ∧ s241.1 < 8) ∧ (if a1.get s241.1.toNat = 1 then next242 (IntKind.i64.wrap (s241.1 + 1), IntKind.i64.wrap (0 - s241.2)) else next242 (IntKind.i64.wrap (s241.1 + 1), s241.2))) else next242 (IntKind.i64.wrap (s241.1 + 1), s241.2))) else next181 (s179.1.set i178 (IntKind.u8.wrap ((a1.get i178) + (a2.get i178))), s241.2))) else next181 (s179.1.set i178 (IntKind.u8.wrap ((a1.get i178) + (a2.get i178))), s241.2))) (IntKind.i64.wrap ((i178 : Int) + 1), s179.2)))))))) (fun (s179 : A8 × Int) => K s179.1 s179.2) a0.length 0 (A8.zero, 1)
theorem c_spec_l01Joined (a0 : List Int) (a1 : A8) (a2 : A8) {u0_0 : Value} {fp0 : List Nat} {K : A8 → Int → Prop} (h : f_spec_l01Joined a0 a1 a2 K) (w0 : World) (q0 : ((EI .i64).ty.sl).rep a0 [u0_0] fp0 w0) :
  Calls Try.prog 63 #[u0_0, .agg (List.toArray (A8.enc .u8 a1)), .agg (List.toArray (A8.enc .u8 a2))] w0 fun e w' => ∃ (r0 : A8) (r1 : Int), 
   e = .returned (.tuple #[.agg (List.toArray (A8.enc .u8 r0)), .int .i64 r1]) ∧ K r0 r1 ∧ Bel w0 w' := by
 unfold f_spec_l01Joined at h
 refine calls_of (args := [u0_0, .agg (List.toArray (A8.enc .u8 a1)), .agg (List.toArray (A8.enc .u8 a2))]) Try.func63 rfl 69 Try.ntmps63 (Nat.le_of_ble_eq_true rfl) ?_
 have hC := Ctx.start (X := Nox) w0 [Ty.item ((EI .i64).ty.sl) a0 [u0_0] fp0] (by simp only [List.mem_cons, List.not_mem_nil, or_false, forall_eq_or_imp, forall_eq]; exact q0)
 refine sr ?_
 refine s_box (v := .agg (List.toArray (A8.enc .u8 a1))) hC (A8.enc .u8 a1) rfl rfl fun b2 w4 hB_ hC => ?_
 refine s_box (v := .agg (List.toArray (A8.enc .u8 a2))) hC (A8.enc .u8 a2) rfl rfl fun b5 w7 hB_ hC => ?_
 refine s_alloc hC (A8.enc .u8 A8.zero) z24 rfl fun b8 w10 hB_ hC => ?_
 refine s_as (v := .int .i64 0) rfl ?_
 refine dn ?_
 refine sr ?_
 refine s_build [] rfl (bl24   _) ?_
 refine s_alloc hC (A8.enc .u8 A8.zero) z24 rfl fun b11 w13 hB_ hC => ?_
 refine s_store (v := .agg (List.toArray (A8.enc .u8 A8.zero))) hC 0 (A8.enc .u8 A8.zero) (A8.enc .u8 A8.zero) rfl ag24.size rfl rfl rfl rfl rfl (Nat.le_of_ble_eq_true rfl) rfl fun w14 hC => ?_
 refine s_as (v := .int .i64 1) rfl ?_
 refine dn ?_
 refine wp_seq ?_
 refine sr ?_
 refine s_as (v := .int .i64 0) rfl ?_
 refine dn ?_
 refine wp_block ?_
 have hN180 : a0.length ≤ 9223372036854775807 := sl_max (hC.getP 0 rfl)
 refine loopN (S := A8 × Int) _ _ (fun i178 s179 e_ w_ => Slots e_ [(0, u0_0), (4, .pointer (some ⟨b2, 0, none⟩)), (5, .pointer (some ⟨b5, 0, none⟩)), (6, .pointer (some ⟨b8, 0, none⟩)), (7, .int .i64 0), (8, .pointer (some ⟨b11, 0, none⟩)), (9, .int .i64 s179.2), (10, .int .i64 (i178 : Int))] ∧ Ctx Nox w0 w_ [blk b11 24 (A8.enc .u8 s179.1), blk b8 24 (A8.enc .u8 A8.zero), blk b5 24 (A8.enc .u8 a2), blk b2 24 (A8.enc .u8 a1)] [Ty.item ((EI .i64).ty.sl) a0 [u0_0] fp0]) a0.length ?_ ?_ (s0 := (A8.zero, 1)) ?_ h
 ·clear hC h
  rintro i178 s179 e_ w185 next181 K182 hi184 ⟨hS_, hC⟩ h hK183
  refine wp_seq ?_
  refine sr ?_
  refine s_mv (v := .int .i64 (i178 : Int)) (sx hS_ 7 rfl) ?_
  refine s_mv (v := u0_0) (sx hS_ 0 rfl) ?_
  obtain ⟨Ad186, c187, hv188⟩ := sl_len (hC.getP 0 rfl)
  refine s_len Try.underlying22 (tr rfl hv188) ?_
  refine s_lss rfl rfl ?_
  refine dn ?_
  refine cw_true rfl (decide_eq_true (by omega)) ?_
  refine wp_skip ?_
  refine then_norm ?_
  refine wp_seq ?_
  refine wp_block ?_
  refine wp_seq ?_
  refine cw_draw 8 mixed [0, 0, 2, 6, 0, 16, 48, 126, 255, 511] [2, 3, 5, 6] [0, 1, 4, 7] (by kernel_rfl) (by kernel_rfl) (by kernel_rfl) (fun hM190 hM191 w189 hB_ => ?_)
  replace hC := hC.grow hB_
  refine ae_lookF belPre 0 (.int .i64 (i178 : Int)) rfl rfl (by kernel_rfl) (hM191 0 rfl) (fun w_ => .inl ⟨rfl, by exact r_mv (v := .int .i64 (i178 : Int)) (sx hS_ 7 rfl)⟩) (listed' := (dbits 10 1)) (by kernel_rfl) ?_
  refine ae_lookF belPre 1 (.int .i64 (i178 : Int)) rfl rfl (by kernel_rfl) (hM191 1 rfl) (fun w_ => .inl ⟨rfl, by exact r_mv (v := .int .i64 (i178 : Int)) (sx hS_ 7 rfl)⟩) (listed' := (dbits 10 3)) (by kernel_rfl) ?_
  obtain ⟨⟨h0_192, h1_193⟩, h⟩ := h
  refine ae_look belPre 2 (.pointer (some ⟨b2, i178, none⟩)) rfl rfl (by kernel_rfl) (hM190 2 rfl) (fun w_ hB_ => .inl ⟨rfl, by exact r_iaddrB i178 Try.underlying24 sc5.size (sx hS_ 1 rfl) rfl h0_192 h1_193 (by omega)⟩) (listed' := (dbits 10 7)) (by kernel_rfl) ?_
  refine ae_look belPre 3 (.int .u8 (a1.get i178)) rfl rfl (by kernel_rfl) (hM190 3 rfl) (fun w_ hB_ => .inl ⟨rfl, by exact r_loadS (hC.grow hB_) 3 (.int .u8 (a1.get i178)) rfl sc5 rfl (A8.enc_get _ _ (show i178 < 8 by omega))⟩) (listed' := (dbits 10 15)) (by kernel_rfl) ?_
  refine ae_lookF belPre 4 (.int .i64 (i178 : Int)) rfl rfl (by kernel_rfl) (hM191 4 rfl) (fun w_ => .inl ⟨rfl, by exact r_mv (v := .int .i64 (i178 : Int)) (sx hS_ 7 rfl)⟩) (listed' := (dbits 10 31)) (by kernel_rfl) ?_
  obtain ⟨⟨h0_194, h1_195⟩, h⟩ := h
  refine ae_look belPre 5 (.pointer (some ⟨b5, i178, none⟩)) rfl rfl (by kernel_rfl) (hM190 5 rfl) (fun w_ hB_ => .inl ⟨rfl, by exact r_iaddrB i178 Try.underlying24 sc5.size (sx hS_ 2 rfl) rfl h0_194 h1_195 (by omega)⟩) (listed' := (dbits 10 63)) (by kernel_rfl) ?_
  refine ae_look belPre 6 (.int .u8 (a2.get i178)) rfl rfl (by kernel_rfl) (hM190 6 rfl) (fun w_ hB_ => .inl ⟨rfl, by exact r_loadS (hC.grow hB_) 2 (.int .u8 (a2.get i178)) rfl sc5 rfl (A8.enc_get _ _ (show i178 < 8 by omega))⟩) (listed' := (dbits 10 127)) (by kernel_rfl) ?_
  refine ae_lookF belPre 7 (.int .u8 (IntKind.u8.wrap ((a1.get i178) + (a2.get i178)))) rfl rfl (by kernel_rfl) (hM191 7 rfl) (fun w_ => .inl ⟨rfl, by exact r_add rfl rfl⟩) (listed' := (dbits 10 255)) (by kernel_rfl) ?_
  refine ae_tail 8 (by decide) (by decide) (by kernel_rfl) (by kernel_rfl) rfl ?_
  obtain ⟨⟨h0_196, h1_197⟩, h⟩ := h
  refine s_iaddrB i178 Try.underlying24 sc5.size (sx hS_ 5 rfl) rfl h0_196 h1_197 (by omega) ?_
  refine s_store (v := .int .u8 (IntKind.u8.wrap ((a1.get i178) + (a2.get i178)))) hC 0 [.int .u8 (IntKind.u8.wrap ((a1.get i178) + (a2.get i178)))] (A8.enc .u8 (s179.1.set i178 (IntKind.u8.wrap ((a1.get i178) + (a2.get i178))))) rfl sc5.size rfl rfl rfl rfl rfl (show i178 < 8 by omega) (A8.enc_set _ _ _ (show i178 < 8 by omega)) fun w198 hC => ?_
  refine done ?_
  refine qn_norm ?_
  refine then_norm ?_
  refine wp_seq ?_
  refine sr ?_
  refine s_mv (v := u0_0) (sx hS_ 0 rfl) ?_
  refine s_mv (v := .int .i64 (i178 : Int)) (sx hS_ 7 rfl) ?_
  obtain ⟨Ad199, c200, hv201⟩ := sl_form (hC.getP 0 rfl) i178 hi184
  refine s_iaddrS (len := a0.length) Try.underlying22 sc2.size (tr rfl hv201) rfl (Int.natCast_nonneg _) (Int.ofNat_lt.2 hi184) ?_
  refine s_loadCS (.int .i64 (a0.getD i178 default)) (sl_cellsE (hC.getP 0 rfl) hv201 i178 hi184) sc2 rfl ?_
  refine s_rem rfl rfl (by decide) ?_
  refine s_eql rfl rfl ?_
  refine dn ?_
  refine cw_cond rfl (fun hb202 => ?_) (fun hb202 => ?_)
  ·replace h := ift h (ct hb202)
   refine wp_exit (then_exit (exit_in ?_))
   refine then_norm ?_
   refine cw_region ?_
   refine s_mv (v := .int .i64 (i178 : Int)) (sx hS_ 7 rfl) ?_
   refine s_add rfl rfl ?_
   refine s_as (v := .int .i64 (IntKind.i64.wrap ((i178 : Int) + 1))) rfl ?_
   refine done ?_
   exact hK183 (s179.1.set i178 (IntKind.u8.wrap ((a1.get i178) + (a2.get i178))), s179.2) _ _ ⟨(sk (sx hS_ 0 rfl) (sk (sx hS_ 1 rfl) (sk (sx hS_ 2 rfl) (sk (sx hS_ 3 rfl) (sk (sx hS_ 4 rfl) (sk (sx hS_ 5 rfl) (sk (sx hS_ 6 rfl) (sk (tr rfl (congrArg _ (wrap64_nat hi184 hN180))) sn)))))))), hC⟩ h
  ·replace h := iff_ h (cf hb202)
   refine wp_skip ?_
   refine then_norm ?_
   refine wp_seq ?_
   refine sr ?_
   refine s_mv (v := .int .i64 (i178 : Int)) (sx hS_ 7 rfl) ?_
   obtain ⟨⟨h0_203, h1_204⟩, h⟩ := h
   refine s_iaddrB i178 Try.underlying24 sc5.size (sx hS_ 5 rfl) rfl h0_203 h1_204 (by omega) ?_
   refine s_loadS hC 0 (.int .u8 ((s179.1.set i178 (IntKind.u8.wrap ((a1.get i178) + (a2.get i178)))).get i178)) rfl sc5 rfl (A8.enc_get _ _ (show i178 < 8 by omega)) ?_
   refine s_gtr rfl rfl ?_
   refine dn ?_
   refine cw_cond rfl (fun hb205 => ?_) (fun hb205 => ?_)
   ·replace h := ift h (ct hb205)
    refine sr ?_
    refine s_build [] rfl (bl24   _) ?_
    refine s_store (v := .agg (List.toArray (A8.enc .u8 A8.zero))) hC 1 (A8.enc .u8 A8.zero) (A8.enc .u8 A8.zero) rfl ag24.size (sx hS_ 3 rfl) rfl rfl rfl rfl (Nat.le_of_ble_eq_true rfl) rfl fun w206 hC => ?_
    refine s_as (v := .int .i64 0) rfl ?_
    refine dn ?_
    refine wp_ret (then_ret (blk_ret (then_ret (then_ret (blk_ret (then_ret ?_))))))
    refine ret2 (fn := Try.f63) rfl ?_ ?_ ⟨A8.zero, 0, rfl, h, hC.below⟩ (.inl rfl)
    ·exact res_cellA hC 1 rfl ag24 (sx hS_ 3 rfl) rfl
    ·exact res_tmp rfl
   ·replace h := iff_ h (cf hb205)
    refine wp_skip ?_
    refine then_norm ?_
    refine sr ?_
    refine s_mv (v := .int .i64 (i178 : Int)) (sx hS_ 7 rfl) ?_
    refine s_add rfl rfl ?_
    refine s_as (v := .int .i64 (IntKind.i64.wrap ((i178 : Int) + 1))) rfl ?_
    refine dn ?_
    refine wp_block ?_
    refine loopW (S := Int × Int) _ (fun s241 e_ w_ => Slots e_ [(0, u0_0), (4, .pointer (some ⟨b2, 0, none⟩)), (5, .pointer (some ⟨b5, 0, none⟩)), (6, .pointer (some ⟨b8, 0, none⟩)), (7, .int .i64 0), (8, .pointer (some ⟨b11, 0, none⟩)), (9, .int .i64 s241.2), (10, .int .i64 (i178 : Int)), (11, .int .i64 s241.1), (13, .int .i64 (i178 : Int)), (14, u0_0), (15, .int .i64 (a0.length : Int)), (16, .bool (decide ((i178 : Int) < (a0.length : Int)))), (19, .int .i64 (i178 : Int)), (20, .int .i64 (i178 : Int)), (21, .pointer (some ⟨b2, i178, none⟩)), (22, .int .u8 (a1.get i178)), (23, .int .i64 (i178 : Int)), (24, .pointer (some ⟨b5, i178, none⟩)), (25, .int .u8 (a2.get i178)), (26, .int .u8 (IntKind.u8.wrap ((a1.get i178) + (a2.get i178)))), (27, .pointer (some ⟨b11, i178, none⟩)), (28, u0_0), (29, .int .i64 (i178 : Int)), (30, .pointer (some (Ad199.add (i178 * 1)))), (31, .int .i64 (a0.getD i178 default)), (32, .int .i64 (Int.tmod (a0.getD i178 default) 2)), (33, .bool (decide (Int.tmod (a0.getD i178 default) 2 = 0))), (34, .int .i64 (i178 : Int)), (35, .pointer (some ⟨b11, i178, none⟩)), (36, .int .u8 ((s179.1.set i178 (IntKind.u8.wrap ((a1.get i178) + (a2.get i178)))).get i178)), (37, .bool (decide ((s179.1.set i178 (IntKind.u8.wrap ((a1.get i178) + (a2.get i178)))).get i178 > 1))), (39, .int .i64 (i178 : Int)), (40, .int .i64 (IntKind.i64.wrap ((i178 : Int) + 1)))] ∧ Ctx Nox w0 w_ [blk b11 24 (A8.enc .u8 (s179.1.set i178 (IntKind.u8.wrap ((a1.get i178) + (a2.get i178))))), blk b8 24 (A8.enc .u8 A8.zero), blk b5 24 (A8.enc .u8 a2), blk b2 24 (A8.enc .u8 a1)] [Ty.item ((EI .i64).ty.sl) a0 [u0_0] fp0]) ?_ (s0 := (IntKind.i64.wrap ((i178 : Int) + 1), s179.2)) ?_ h
    ·clear hC h
     rintro s241 e_ w245 next242 K243 ⟨hS_, hC⟩ h hK244
     refine wp_seq ?_
     refine sr ?_
     refine s_mv (v := .int .i64 s241.1) (sx hS_ 8 rfl) ?_
     refine s_mv (v := u0_0) (sx hS_ 0 rfl) ?_
     obtain ⟨Ad246, c247, hv248⟩ := sl_len (hC.getP 0 rfl)
     refine s_len Try.underlying22 (tr rfl hv248) ?_
     refine s_lss rfl rfl ?_
     refine s_mv (v := .bool (decide (s241.1 < (a0.length : Int)))) rfl ?_
     refine bsplit (decide (s241.1 < (a0.length : Int))) (fun hb249 => ?_) (fun hb249 => ?_)
     ·replace h := ift h (ct hb249)
      refine guardOn 4 45 rfl rfl hb249 ?_
      refine s_mv (v := .int .i64 (i178 : Int)) (sx hS_ 7 rfl) ?_
      refine guardOn 4 45 rfl rfl hb249 ?_
      obtain ⟨⟨h0_250, h1_251⟩, h⟩ := h
      refine s_iaddrB i178 Try.underlying24 sc5.size (sx hS_ 2 rfl) rfl h0_250 h1_251 (by omega) ?_
      refine guardOn 4 45 rfl rfl hb249 ?_
      refine s_loadS hC 2 (.int .u8 (a2.get i178)) rfl sc5 rfl (A8.enc_get _ _ (show i178 < 8 by omega)) ?_
      refine guardOn 4 45 rfl rfl hb249 ?_
      refine s_eql rfl rfl ?_
      refine s_pick (v := .bool (decide (a2.get i178 = 1))) (b := true) (tr rfl (congrArg _ hb249)) rfl ?_
      refine dn ?_
      refine cw_cond rfl (fun hb252 => ?_) (fun hb252 => ?_)
      ·replace h := ift h (ct hb252)
       refine wp_skip ?_
       refine then_norm ?_
       refine wp_seq ?_
       refine wp_block ?_
       refine sr ?_
       refine s_mv (v := u0_0) (sx hS_ 0 rfl) ?_
       refine s_mv (v := .int .i64 s241.1) (sx hS_ 8 rfl) ?_
       obtain ⟨⟨h0_253, h1_254⟩, h⟩ := h
       obtain ⟨Ad255, c256, hv257⟩ := sl_form (hC.getP 0 rfl) s241.1.toNat (show s241.1.toNat < a0.length by omega)
       refine s_iaddrS (len := a0.length) Try.underlying22 sc2.size (tr rfl hv257) rfl h0_253 h1_254 ?_
       refine s_loadCS (.int .i64 (a0.getD s241.1.toNat default)) (sl_cellsE (hC.getP 0 rfl) hv257 s241.1.toNat (show s241.1.toNat < a0.length by omega)) sc2 rfl ?_
       refine s_rem rfl rfl (by decide) ?_
       refine s_neq rfl rfl ?_
       refine s_mv (v := .bool (decide (Int.tmod (a0.getD s241.1.toNat default) 2 ≠ 0))) rfl ?_
       refine bsplit (decide (Int.tmod (a0.getD s241.1.toNat default) 2 ≠ 0)) (fun hb258 => ?_) (fun hb258 => ?_)
       ·replace h := ift h (ct hb258)
        refine guardOn 6 59 rfl rfl hb258 ?_
        refine s_mv (v := .int .i64 s241.1) (sx hS_ 8 rfl) ?_
        refine guardOn 6 59 rfl rfl hb258 ?_
        obtain ⟨⟨h0_259, h1_260⟩, h⟩ := h
        refine s_iaddrB s241.1.toNat Try.underlying24 sc5.size (sx hS_ 1 rfl) rfl h0_259 h1_260 (by omega) ?_
        refine guardOn 6 59 rfl rfl hb258 ?_
        refine s_loadS hC 3 (.int .u8 (a1.get s241.1.toNat)) rfl sc5 rfl (A8.enc_get _ _ (show s241.1.toNat < 8 by omega)) ?_
        refine guardOn 6 59 rfl rfl hb258 ?_
        refine s_eql rfl rfl ?_
        refine s_pick (v := .bool (decide (a1.get s241.1.toNat = 1))) (b := true) (tr rfl (congrArg _ hb258)) rfl ?_
        refine dn ?_
        refine cw_cond rfl (fun hb261 => ?_) (fun hb261 => ?_)
        ·replace h := ift h (ct hb261)
         refine cw_region ?_
         refine s_mv (v := .int .i64 s241.2) (sx hS_ 6 rfl) ?_
         refine s_neg rfl ?_
         refine s_as (v := .int .i64 (IntKind.i64.wrap (0 - s241.2))) rfl ?_
         refine done ?_
         refine blk_norm ?_
         refine then_norm ?_
         refine cw_region ?_
         refine s_mv (v := .int .i64 s241.1) (sx hS_ 8 rfl) ?_
         refine s_add rfl rfl ?_
         refine s_as (v := .int .i64 (IntKind.i64.wrap (s241.1 + 1))) rfl ?_
         refine done ?_
         exact hK244 (IntKind.i64.wrap (s241.1 + 1), IntKind.i64.wrap (0 - s241.2)) _ _ ⟨(sk (sx hS_ 0 rfl) (sk (sx hS_ 1 rfl) (sk (sx hS_ 2 rfl) (sk (sx hS_ 3 rfl) (sk (sx hS_ 4 rfl) (sk (sx hS_ 5 rfl) (sk rfl (sk (sx hS_ 7 rfl) (sk rfl (sk (sx hS_ 9 rfl) (sk (sx hS_ 10 rfl) (sk (sx hS_ 11 rfl) (sk (sx hS_ 12 rfl) (sk (sx hS_ 13 rfl) (sk (sx hS_ 14 rfl) (sk (sx hS_ 15 rfl) (sk (sx hS_ 16 rfl) (sk (sx hS_ 17 rfl) (sk (sx hS_ 18 rfl) (sk (sx hS_ 19 rfl) (sk (sx hS_ 20 rfl) (sk (sx hS_ 21 rfl) (sk (sx hS_ 22 rfl) (sk (sx hS_ 23 rfl) (sk (sx hS_ 24 rfl) (sk (sx hS_ 25 rfl) (sk (sx hS_ 26 rfl) (sk (sx hS_ 27 rfl) (sk (sx hS_ 28 rfl) (sk (sx hS_ 29 rfl) (sk (sx hS_ 30 rfl) (sk (sx hS_ 31 rfl) (sk (sx hS_ 32 rfl) (sk (sx hS_ 33 rfl) sn)))))))))))))))))))))))))))))))))), hC⟩ h
        ·replace h := iff_ h (cf hb261)
         refine wp_skip ?_
         refine blk_norm ?_
         refine then_norm ?_
         refine cw_region ?_
         refine s_mv (v := .int .i64 s241.1) (sx hS_ 8 rfl) ?_
         refine s_add rfl rfl ?_
         refine s_as (v := .int .i64 (IntKind.i64.wrap (s241.1 + 1))) rfl ?_
         refine done ?_
         exact hK244 (IntKind.i64.wrap (s241.1 + 1), s241.2) _ _ ⟨(sk (sx hS_ 0 rfl) (sk (sx hS_ 1 rfl) (sk (sx hS_ 2 rfl) (sk (sx hS_ 3 rfl) (sk (sx hS_ 4 rfl) (sk (sx hS_ 5 rfl) (sk (sx hS_ 6 rfl) (sk (sx hS_ 7 rfl) (sk rfl (sk (sx hS_ 9 rfl) (sk (sx hS_ 10 rfl) (sk (sx hS_ 11 rfl) (sk (sx hS_ 12 rfl) (sk (sx hS_ 13 rfl) (sk (sx hS_ 14 rfl) (sk (sx hS_ 15 rfl) (sk (sx hS_ 16 rfl) (sk (sx hS_ 17 rfl) (sk (sx hS_ 18 rfl) (sk (sx hS_ 19 rfl) (sk (sx hS_ 20 rfl) (sk (sx hS_ 21 rfl) (sk (sx hS_ 22 rfl) (sk (sx hS_ 23 rfl) (sk (sx hS_ 24 rfl) (sk (sx hS_ 25 rfl) (sk (sx hS_ 26 rfl) (sk (sx hS_ 27 rfl) (sk (sx hS_ 28 rfl) (sk (sx hS_ 29 rfl) (sk (sx hS_ 30 rfl) (sk (sx hS_ 31 rfl) (sk (sx hS_ 32 rfl) (sk (sx hS_ 33 rfl) sn)))))))))))))))))))))))))))))))))), hC⟩ h
       ·replace h := iff_ h (cf hb258)
        refine guardOff (b := false) 6 59 rfl (tr rfl (congrArg _ hb258)) (by decide) ?_
        refine guardOff (b := false) 6 59 rfl (tr rfl (congrArg _ hb258)) (by decide) ?_
        refine guardOff (b := false) 6 59 rfl (tr rfl (congrArg _ hb258)) (by decide) ?_
        refine guardOff (b := false) 6 59 rfl (tr rfl (congrArg _ hb258)) (by decide) ?_
        refine s_pick (v := .bool false) (b := false) (tr rfl (congrArg _ hb258)) rfl ?_
        refine dn ?_
        refine cw_false rfl rfl ?_
        refine wp_skip ?_
        refine blk_norm ?_
        refine then_norm ?_
        refine cw_region ?_
        refine s_mv (v := .int .i64 s241.1) (sx hS_ 8 rfl) ?_
        refine s_add rfl rfl ?_
        refine s_as (v := .int .i64 (IntKind.i64.wrap (s241.1 + 1))) rfl ?_
        refine done ?_
        exact hK244 (IntKind.i64.wrap (s241.1 + 1), s241.2) _ _ ⟨(sk (sx hS_ 0 rfl) (sk (sx hS_ 1 rfl) (sk (sx hS_ 2 rfl) (sk (sx hS_ 3 rfl) (sk (sx hS_ 4 rfl) (sk (sx hS_ 5 rfl) (sk (sx hS_ 6 rfl) (sk (sx hS_ 7 rfl) (sk rfl (sk (sx hS_ 9 rfl) (sk (sx hS_ 10 rfl) (sk (sx hS_ 11 rfl) (sk (sx hS_ 12 rfl) (sk (sx hS_ 13 rfl) (sk (sx hS_ 14 rfl) (sk (sx hS_ 15 rfl) (sk (sx hS_ 16 rfl) (sk (sx hS_ 17 rfl) (sk (sx hS_ 18 rfl) (sk (sx hS_ 19 rfl) (sk (sx hS_ 20 rfl) (sk (sx hS_ 21 rfl) (sk (sx hS_ 22 rfl) (sk (sx hS_ 23 rfl) (sk (sx hS_ 24 rfl) (sk (sx hS_ 25 rfl) (sk (sx hS_ 26 rfl) (sk (sx hS_ 27 rfl) (sk (sx hS_ 28 rfl) (sk (sx hS_ 29 rfl) (sk (sx hS_ 30 rfl) (sk (sx hS_ 31 rfl) (sk (sx hS_ 32 rfl) (sk (sx hS_ 33 rfl) sn)))))))))))))))))))))))))))))))))), hC⟩ h
      ·replace h := iff_ h (cf hb252)
       refine wp_exit (then_exit (then_exit (exit_in ?_)))
       refine blk_norm ?_
       refine then_norm ?_
       refine cw_region ?_
       refine s_mv (v := .int .i64 (i178 : Int)) (sx hS_ 7 rfl) ?_
       refine s_add rfl rfl ?_
       refine s_as (v := .int .i64 (IntKind.i64.wrap ((i178 : Int) + 1))) rfl ?_
       refine done ?_
       exact hK183 (s179.1.set i178 (IntKind.u8.wrap ((a1.get i178) + (a2.get i178))), s241.2) _ _ ⟨(sk (sx hS_ 0 rfl) (sk (sx hS_ 1 rfl) (sk (sx hS_ 2 rfl) (sk (sx hS_ 3 rfl) (sk (sx hS_ 4 rfl) (sk (sx hS_ 5 rfl) (sk (sx hS_ 6 rfl) (sk (tr rfl (congrArg _ (wrap64_nat hi184 hN180))) sn)))))))), hC⟩ h
     ·replace h := iff_ h (cf hb249)
      refine guardOff (b := false) 4 45 rfl (tr rfl (congrArg _ hb249)) (by decide) ?_
      refine guardOff (b := false) 4 45 rfl (tr rfl (congrArg _ hb249)) (by decide) ?_
      refine guardOff (b := false) 4 45 rfl (tr rfl (congrArg _ hb249)) (by decide) ?_
      refine guardOff (b := false) 4 45 rfl (tr rfl (congrArg _ hb249)) (by decide) ?_
      refine s_pick (v := .bool false) (b := false) (tr rfl (congrArg _ hb249)) rfl ?_
      refine dn ?_
      refine cw_false rfl rfl ?_
      refine wp_exit (then_exit (then_exit (exit_in ?_)))
      refine blk_norm ?_
      refine then_norm ?_
      refine cw_region ?_
      refine s_mv (v := .int .i64 (i178 : Int)) (sx hS_ 7 rfl) ?_
      refine s_add rfl rfl ?_
      refine s_as (v := .int .i64 (IntKind.i64.wrap ((i178 : Int) + 1))) rfl ?_
      refine done ?_
      exact hK183 (s179.1.set i178 (IntKind.u8.wrap ((a1.get i178) + (a2.get i178))), s241.2) _ _ ⟨(sk (sx hS_ 0 rfl) (sk (sx hS_ 1 rfl) (sk (sx hS_ 2 rfl) (sk (sx hS_ 3 rfl) (sk (sx hS_ 4 rfl) (sk (sx hS_ 5 rfl) (sk (sx hS_ 6 rfl) (sk (tr rfl (congrArg _ (wrap64_nat hi184 hN180))) sn)))))))), hC⟩ h
    ·skip
     exact ⟨(sk (sx hS_ 0 rfl) (sk (sx hS_ 1 rfl) (sk (sx hS_ 2 rfl) (sk (sx hS_ 3 rfl) (sk (sx hS_ 4 rfl) (sk (sx hS_ 5 rfl) (sk (sx hS_ 6 rfl) (sk (sx hS_ 7 rfl) (sk rfl (sk rfl (sk rfl (sk rfl (sk rfl (sk rfl (sk rfl (sk rfl (sk rfl (sk rfl (sk rfl (sk rfl (sk rfl (sk rfl (sk rfl (sk rfl (sk rfl (sk rfl (sk rfl (sk rfl (sk rfl (sk rfl (sk rfl (sk rfl (sk rfl (sk rfl sn)))))))))))))))))))))))))))))))))), hC⟩
 ·clear hC h
  rintro s179 e_ w262 K182 ⟨hS_, hC⟩ h
  refine wp_seq ?_
  refine sr ?_
  refine s_mv (v := .int .i64 (a0.length : Int)) (sx hS_ 7 rfl) ?_
  refine s_mv (v := u0_0) (sx hS_ 0 rfl) ?_
  obtain ⟨Ad263, c264, hv265⟩ := sl_len (hC.getP 0 rfl)
  refine s_len Try.underlying22 (tr rfl hv265) ?_
  refine s_lss rfl rfl ?_
  refine dn ?_
  refine cw_false rfl (decide_eq_false (by omega)) ?_
  refine wp_exit (then_exit (then_exit (exit_in ?_)))
  refine then_norm ?_
  refine sr ?_
  refine s_loadA hC 0 (A8.enc .u8 s179.1) rfl ag24 (sx hS_ 5 rfl) rfl rfl ?_
  refine s_mv (v := .int .i64 s179.2) (sx hS_ 6 rfl) ?_
  refine s_store (v := .agg (List.toArray (A8.enc .u8 s179.1))) hC 1 (A8.enc .u8 s179.1) (A8.enc .u8 s179.1) rfl ag24.size (sx hS_ 3 rfl) rfl rfl rfl rfl (Nat.le_of_ble_eq_true rfl) rfl fun w266 hC => ?_
  refine s_as (v := .int .i64 s179.2) rfl ?_
  refine dn ?_
  refine wp_ret ?_
  refine ret2 (fn := Try.f63) rfl ?_ ?_ ⟨s179.1, s179.2, rfl, h, hC.below⟩ (.inl rfl)
  ·exact res_cellA hC 1 rfl ag24 (sx hS_ 3 rfl) rfl
  ·exact res_tmp rfl
 ·skip
  exact ⟨(sk rfl (sk rfl (sk rfl (sk rfl (sk rfl (sk rfl (sk rfl (sk rfl sn)))))))), hC⟩
def f_spec_MultiplyMonomials (a0 : List Int) (a1 : A8) (a2 : A8) (K : A8 → Int → Int → Prop) : Prop :=
 f_spec_l01Degrees a0 (fun r14 => (if ¬ (r14 = true) then K A8.zero 0 1 else f_spec_l01Mono a0 a1 (fun r21 => (if ¬ (r21 = true) then K A8.zero 0 1 else f_spec_l01Mono a0 a2 (fun r28 => (if ¬ (r28 = true) then K A8.zero 0 1 else f_spec_l01Joined a0 a1 a2 (fun r35 r36 => (if r36 ≠ 0 then f_spec_l01Mono a0 r35 (fun r46 => (if ¬ (r46 = true) then K A8.zero 0 3 else K r35 r36 0)) else K r35 r36 0))))))))
theorem c_spec_MultiplyMonomials (a0 : List Int) (a1 : A8) (a2 : A8) {u0_0 : Value} {fp0 : List Nat} {K : A8 → Int → Int → Prop} (h : f_spec_MultiplyMonomials a0 a1 a2 K) (w0 : World) (q0 : ((EI .i64).ty.sl).rep a0 [u0_0] fp0 w0) :
  Calls Try.prog 13 #[u0_0, .agg (List.toArray (A8.enc .u8 a1)), .agg (List.toArray (A8.enc .u8 a2))] w0 fun e w' => ∃ (r0 : A8) (r1 : Int) (r2 : Int), 
   e = .returned (.tuple #[.agg (List.toArray (A8.enc .u8 r0)), .int .i64 r1, .int .i64 r2]) ∧ K r0 r1 r2 ∧ Bel w0 w' := by
 unfold f_spec_MultiplyMonomials at h
 refine calls_of (args := [u0_0, .agg (List.toArray (A8.enc .u8 a1)), .agg (List.toArray (A8.enc .u8 a2))]) Try.func13 rfl 45 Try.ntmps13 (Nat.le_of_ble_eq_true rfl) ?_
 have hC := Ctx.start (X := Nox) w0 [Ty.item ((EI .i64).ty.sl) a0 [u0_0] fp0] (by simp only [List.mem_cons, List.not_mem_nil, or_false, forall_eq_or_imp, forall_eq]; exact q0)
 refine sr ?_
 refine s_box (v := .agg (List.toArray (A8.enc .u8 a1))) hC (A8.enc .u8 a1) rfl rfl fun b2 w4 hB_ hC => ?_
 refine s_box (v := .agg (List.toArray (A8.enc .u8 a2))) hC (A8.enc .u8 a2) rfl rfl fun b5 w7 hB_ hC => ?_
 refine s_alloc hC (A8.enc .u8 A8.zero) z24 rfl fun b8 w10 hB_ hC => ?_
 refine s_as (v := .int .i64 0) rfl ?_
 refine s_as (v := .int .i64 0) rfl ?_
 refine dn ?_
 refine wp_seq ?_
 refine sr ?_
 refine s_mv (v := u0_0) rfl ?_
 refine s_call [u0_0] _ Try.func61 rfl rfl rfl (c_spec_l01Degrees a0 h _ (hC.getP 0 rfl)) (fun ret11 w13 hR12 => ?_)
 obtain ⟨r14, rfl, h, hB15⟩ := hR12
 refine ⟨_, rfl, ?_⟩
 replace hC := hC.grow hB15
 refine s_not rfl ?_
 refine s_mv (v := .bool (!r14)) rfl ?_
 refine bsplit (!r14) (fun hb16 => ?_) (fun hb16 => ?_)
 ·replace h := ift h (ne_t (not_t hb16))
  refine guardOff (b := true) 3 14 rfl (tr rfl (congrArg _ hb16)) (by decide) ?_
  refine guardOff (b := true) 3 14 rfl (tr rfl (congrArg _ hb16)) (by decide) ?_
  refine guardOff (b := true) 3 14 rfl (tr rfl (congrArg _ hb16)) (by decide) ?_
  refine guardOff (b := true) 3 14 rfl (tr rfl (congrArg _ hb16)) (by decide) ?_
  refine s_pick (v := .bool true) (b := true) (tr rfl (congrArg _ hb16)) rfl ?_
  refine s_mv (v := .bool true) rfl ?_
  refine guardOff (b := true) 9 20 rfl (tr rfl (congrArg _ rfl)) (by decide) ?_
  refine guardOff (b := true) 9 20 rfl (tr rfl (congrArg _ rfl)) (by decide) ?_
  refine guardOff (b := true) 9 20 rfl (tr rfl (congrArg _ rfl)) (by decide) ?_
  refine guardOff (b := true) 9 20 rfl (tr rfl (congrArg _ rfl)) (by decide) ?_
  refine s_pick (v := .bool true) (b := true) rfl rfl ?_
  refine dn ?_
  refine cw_true rfl rfl ?_
  refine sr ?_
  refine s_build [] rfl (bl24   _) ?_
  refine s_store (v := .agg (List.toArray (A8.enc .u8 A8.zero))) hC 0 (A8.enc .u8 A8.zero) (A8.enc .u8 A8.zero) rfl ag24.size rfl rfl rfl rfl rfl (Nat.le_of_ble_eq_true rfl) rfl fun w17 hC => ?_
  refine s_as (v := .int .i64 0) rfl ?_
  refine s_as (v := .int .i64 1) rfl ?_
  refine dn ?_
  refine wp_ret (then_ret ?_)
  refine ret3 (fn := Try.f13) rfl ?_ ?_ ?_ ⟨A8.zero, 0, 1, rfl, h, hC.below⟩ (.inl rfl)
  ·exact res_cellA hC 0 rfl ag24 rfl rfl
  ·exact res_tmp rfl
  ·exact res_tmp rfl
 ·replace h := iff_ h (not_not_intro ((not_f hb16)))
  refine guardOn 3 14 rfl rfl hb16 ?_
  refine s_mv (v := u0_0) rfl ?_
  refine guardOn 3 14 rfl rfl hb16 ?_
  refine s_loadA hC 2 (A8.enc .u8 a1) rfl ag24 rfl rfl rfl ?_
  refine guardOn 3 14 rfl rfl hb16 ?_
  refine s_call [u0_0, .agg (List.toArray (A8.enc .u8 a1))] _ Try.func62 rfl rfl rfl (c_spec_l01Mono a0 a1 h _ (hC.getP 0 rfl)) (fun ret18 w20 hR19 => ?_)
  obtain ⟨r21, rfl, h, hB22⟩ := hR19
  refine ⟨_, rfl, ?_⟩
  replace hC := hC.grow hB22
  refine guardOn 3 14 rfl rfl hb16 ?_
  refine s_not rfl ?_
  refine s_pick (v := .bool (!r21)) (b := false) (tr rfl (congrArg _ hb16)) rfl ?_
  refine s_mv (v := .bool (!r21)) rfl ?_
  refine bsplit (!r21) (fun hb23 => ?_) (fun hb23 => ?_)
  ·replace h := ift h (ne_t (not_t hb23))
   refine guardOff (b := true) 9 20 rfl (tr rfl (congrArg _ hb23)) (by decide) ?_
   refine guardOff (b := true) 9 20 rfl (tr rfl (congrArg _ hb23)) (by decide) ?_
   refine guardOff (b := true) 9 20 rfl (tr rfl (congrArg _ hb23)) (by decide) ?_
   refine guardOff (b := true) 9 20 rfl (tr rfl (congrArg _ hb23)) (by decide) ?_
   refine s_pick (v := .bool true) (b := true) (tr rfl (congrArg _ hb23)) rfl ?_
   refine dn ?_
   refine cw_true rfl rfl ?_
   refine sr ?_
   refine s_build [] rfl (bl24   _) ?_
   refine s_store (v := .agg (List.toArray (A8.enc .u8 A8.zero))) hC 0 (A8.enc .u8 A8.zero) (A8.enc .u8 A8.zero) rfl ag24.size rfl rfl rfl rfl rfl (Nat.le_of_ble_eq_true rfl) rfl fun w24 hC => ?_
   refine s_as (v := .int .i64 0) rfl ?_
   refine s_as (v := .int .i64 1) rfl ?_
   refine dn ?_
   refine wp_ret (then_ret ?_)
   refine ret3 (fn := Try.f13) rfl ?_ ?_ ?_ ⟨A8.zero, 0, 1, rfl, h, hC.below⟩ (.inl rfl)
   ·exact res_cellA hC 0 rfl ag24 rfl rfl
   ·exact res_tmp rfl
   ·exact res_tmp rfl
  ·replace h := iff_ h (not_not_intro ((not_f hb23)))
   refine guardOn 9 20 rfl rfl hb23 ?_
   refine s_mv (v := u0_0) rfl ?_
   refine guardOn 9 20 rfl rfl hb23 ?_
   refine s_loadA hC 1 (A8.enc .u8 a2) rfl ag24 rfl rfl rfl ?_
   refine guardOn 9 20 rfl rfl hb23 ?_
   refine s_call [u0_0, .agg (List.toArray (A8.enc .u8 a2))] _ Try.func62 rfl rfl rfl (c_spec_l01Mono a0 a2 h _ (hC.getP 0 rfl)) (fun ret25 w27 hR26 => ?_)
   obtain ⟨r28, rfl, h, hB29⟩ := hR26
   refine ⟨_, rfl, ?_⟩
   replace hC := hC.grow hB29
   refine guardOn 9 20 rfl rfl hb23 ?_
   refine s_not rfl ?_
   refine s_pick (v := .bool (!r28)) (b := false) (tr rfl (congrArg _ hb23)) rfl ?_
   refine dn ?_
   refine cw_cond rfl (fun hb30 => ?_) (fun hb30 => ?_)
   ·replace h := ift h (ne_t (not_t hb30))
    refine sr ?_
    refine s_build [] rfl (bl24   _) ?_
    refine s_store (v := .agg (List.toArray (A8.enc .u8 A8.zero))) hC 0 (A8.enc .u8 A8.zero) (A8.enc .u8 A8.zero) rfl ag24.size rfl rfl rfl rfl rfl (Nat.le_of_ble_eq_true rfl) rfl fun w31 hC => ?_
    refine s_as (v := .int .i64 0) rfl ?_
    refine s_as (v := .int .i64 1) rfl ?_
    refine dn ?_
    refine wp_ret (then_ret ?_)
    refine ret3 (fn := Try.f13) rfl ?_ ?_ ?_ ⟨A8.zero, 0, 1, rfl, h, hC.below⟩ (.inl rfl)
    ·exact res_cellA hC 0 rfl ag24 rfl rfl
    ·exact res_tmp rfl
    ·exact res_tmp rfl
   ·replace h := iff_ h (not_not_intro ((not_f hb30)))
    refine wp_skip ?_
    refine then_norm ?_
    refine sr ?_
    refine s_mv (v := u0_0) rfl ?_
    refine s_loadA hC 2 (A8.enc .u8 a1) rfl ag24 rfl rfl rfl ?_
    refine s_loadA hC 1 (A8.enc .u8 a2) rfl ag24 rfl rfl rfl ?_
    refine s_call [u0_0, .agg (List.toArray (A8.enc .u8 a1)), .agg (List.toArray (A8.enc .u8 a2))] _ Try.func63 rfl rfl rfl (c_spec_l01Joined a0 a1 a2 h _ (hC.getP 0 rfl)) (fun ret32 w34 hR33 => ?_)
    obtain ⟨r35, r36, rfl, h, hB37⟩ := hR33
    refine ⟨_, rfl, ?_⟩
    replace hC := hC.grow hB37
    refine s_mv (v := .tuple #[.agg (List.toArray (A8.enc .u8 r35)), .int .i64 r36]) rfl ?_
    refine s_ext (v := .agg (List.toArray (A8.enc .u8 r35))) rfl rfl ?_
    refine s_ext (v := .int .i64 r36) rfl rfl ?_
    refine s_alloc hC (A8.enc .u8 A8.zero) z24 rfl fun b38 w40 hB_ hC => ?_
    refine s_store (v := .agg (List.toArray (A8.enc .u8 r35))) hC 0 (A8.enc .u8 r35) (A8.enc .u8 r35) rfl ag24.size rfl rfl rfl rfl rfl (Nat.le_of_ble_eq_true rfl) rfl fun w41 hC => ?_
    refine s_as (v := .int .i64 r36) rfl ?_
    refine dn ?_
    refine wp_seq ?_
    refine sr ?_
    refine s_mv (v := .int .i64 r36) rfl ?_
    refine s_neq rfl rfl ?_
    refine s_mv (v := .bool (decide (r36 ≠ 0))) rfl ?_
    refine bsplit (decide (r36 ≠ 0)) (fun hb42 => ?_) (fun hb42 => ?_)
    ·replace h := ift h (ct hb42)
     refine guardOn 2 36 rfl rfl hb42 ?_
     refine s_mv (v := u0_0) rfl ?_
     refine guardOn 2 36 rfl rfl hb42 ?_
     refine s_loadA hC 0 (A8.enc .u8 r35) rfl ag24 rfl rfl rfl ?_
     refine guardOn 2 36 rfl rfl hb42 ?_
     refine s_call [u0_0, .agg (List.toArray (A8.enc .u8 r35))] _ Try.func62 rfl rfl rfl (c_spec_l01Mono a0 r35 h _ (hC.getP 0 rfl)) (fun ret43 w45 hR44 => ?_)
     obtain ⟨r46, rfl, h, hB47⟩ := hR44
     refine ⟨_, rfl, ?_⟩
     replace hC := hC.grow hB47
     refine guardOn 2 36 rfl rfl hb42 ?_
     refine s_not rfl ?_
     refine s_pick (v := .bool (!r46)) (b := true) (tr rfl (congrArg _ hb42)) rfl ?_
     refine dn ?_
     refine cw_cond rfl (fun hb48 => ?_) (fun hb48 => ?_)
     ·replace h := ift h (ne_t (not_t hb48))
      refine sr ?_
      refine s_build [] rfl (bl24   _) ?_
      refine s_store (v := .agg (List.toArray (A8.enc .u8 A8.zero))) hC 1 (A8.enc .u8 A8.zero) (A8.enc .u8 A8.zero) rfl ag24.size rfl rfl rfl rfl rfl (Nat.le_of_ble_eq_true rfl) rfl fun w49 hC => ?_
      refine s_as (v := .int .i64 0) rfl ?_
      refine s_as (v := .int .i64 3) rfl ?_
      refine dn ?_
      refine wp_ret (then_ret ?_)
      refine ret3 (fn := Try.f13) rfl ?_ ?_ ?_ ⟨A8.zero, 0, 3, rfl, h, hC.below⟩ (.inl rfl)
      ·exact res_cellA hC 1 rfl ag24 rfl rfl
      ·exact res_tmp rfl
      ·exact res_tmp rfl
     ·replace h := iff_ h (not_not_intro ((not_f hb48)))
      refine wp_skip ?_
      refine then_norm ?_
      refine sr ?_
      refine s_loadA hC 0 (A8.enc .u8 r35) rfl ag24 rfl rfl rfl ?_
      refine s_mv (v := .int .i64 r36) rfl ?_
      refine s_store (v := .agg (List.toArray (A8.enc .u8 r35))) hC 1 (A8.enc .u8 r35) (A8.enc .u8 r35) rfl ag24.size rfl rfl rfl rfl rfl (Nat.le_of_ble_eq_true rfl) rfl fun w50 hC => ?_
      refine s_as (v := .int .i64 r36) rfl ?_
      refine s_as (v := .int .i64 0) rfl ?_
      refine dn ?_
      refine wp_ret ?_
      refine ret3 (fn := Try.f13) rfl ?_ ?_ ?_ ⟨r35, r36, 0, rfl, h, hC.below⟩ (.inl rfl)
      ·exact res_cellA hC 1 rfl ag24 rfl rfl
      ·exact res_tmp rfl
      ·exact res_tmp rfl
    ·replace h := iff_ h (cf hb42)
     refine guardOff (b := false) 2 36 rfl (tr rfl (congrArg _ hb42)) (by decide) ?_
     refine guardOff (b := false) 2 36 rfl (tr rfl (congrArg _ hb42)) (by decide) ?_
     refine guardOff (b := false) 2 36 rfl (tr rfl (congrArg _ hb42)) (by decide) ?_
     refine guardOff (b := false) 2 36 rfl (tr rfl (congrArg _ hb42)) (by decide) ?_
     refine s_pick (v := .bool false) (b := false) (tr rfl (congrArg _ hb42)) rfl ?_
     refine dn ?_
     refine cw_false rfl rfl ?_
     refine wp_skip ?_
     refine then_norm ?_
     refine sr ?_
     refine s_loadA hC 0 (A8.enc .u8 r35) rfl ag24 rfl rfl rfl ?_
     refine s_mv (v := .int .i64 r36) rfl ?_
     refine s_store (v := .agg (List.toArray (A8.enc .u8 r35))) hC 1 (A8.enc .u8 r35) (A8.enc .u8 r35) rfl ag24.size rfl rfl rfl rfl rfl (Nat.le_of_ble_eq_true rfl) rfl fun w51 hC => ?_
     refine s_as (v := .int .i64 r36) rfl ?_
     refine s_as (v := .int .i64 0) rfl ?_
     refine dn ?_
     refine wp_ret ?_
     refine ret3 (fn := Try.f13) rfl ?_ ?_ ?_ ⟨r35, r36, 0, rfl, h, hC.below⟩ (.inl rfl)
     ·exact res_cellA hC 1 rfl ag24 rfl rfl
     ·exact res_tmp rfl
     ·exact res_tmp rfl
def f_laws_toInt64S (a0 : List Int) (K : List Int → Prop) : Prop :=
 ((0 ≤ (a0.length : Int) ∧ (a0.length : Int) * 8 ≤ 281474976710656) ∧ forN (fun i43 (s44 : (List Int)) next47 => ((0 ≤ (i43 : Int) ∧ (i43 : Int) < (s44.length : Int)) ∧ next47 (s44.set i43 (a0.getD i43 default)))) (fun (s44 : (List Int)) => K s44) a0.length 0 (List.replicate ((a0.length : Int).toNat) (0 : Int)))
theorem c_laws_toInt64S (a0 : List Int) {u0_0 : Value} {fp0 : List Nat} {K : List Int → Prop} (h : f_laws_toInt64S a0 K) (w0 : World) (q0 : ((EI .i64).ty.sl).rep a0 [u0_0] fp0 w0) :
  Calls Try.prog 14 #[u0_0] w0 fun e w' => ∃ (r0 : List Int) (z0_0 : Value) (fz0 : List Nat), 
   e = .returned (z0_0) ∧ K r0 ∧ (Tr.item (Tr.sl 2 ((EI .i64).tr)) r0 [z0_0] fz0).holds w' ∧ (∀ b, b ∈ fz0 → w0.heap.size ≤ b) ∧ Bel w0 w' := by
 unfold f_laws_toInt64S at h
 refine calls_of (args := [u0_0]) Try.func14 rfl 22 Try.ntmps14 (Nat.le_of_ble_eq_true rfl) ?_
 have hC := Ctx.start (X := Nox) w0 [Ty.item ((EI .i64).ty.sl) a0 [u0_0] fp0] (by simp only [List.mem_cons, List.not_mem_nil, or_false, forall_eq_or_imp, forall_eq]; exact q0)
 refine sr ?_
 refine s_as (v := .slice none 0 0) rfl ?_
 refine dn ?_
 refine sr ?_
 refine s_mv (v := u0_0) rfl ?_
 obtain ⟨Ad2, c3, hv4⟩ := sl_len (hC.getP 0 rfl)
 refine s_len Try.underlying22 (tr rfl hv4) ?_
 obtain ⟨hm7, h⟩ := h
 refine s_make (sz := 1) hC ((EI .i64).encs (List.replicate ((a0.length : Int).toNat) (0 : Int))) Try.underlying22 el2 (tr rfl (congrArg (Value.int .i64) (Int.toNat_of_nonneg hm7.1).symm)) (tr rfl (congrArg (Value.int .i64) (Int.toNat_of_nonneg hm7.1).symm)) (by omega) (by omega) (made_encs (E := (EI .i64)) _ _) fun v5 w6 hB_ hC => ?_
 replace hC := own_re hC 0 ((List.replicate ((a0.length : Int).toNat) (0 : Int)).length) ((EI .i64).encs (List.replicate ((a0.length : Int).toNat) (0 : Int))) rfl (by simp) rfl
 refine s_as (v := v5) rfl ?_
 refine dn ?_
 refine wp_seq ?_
 refine sr ?_
 refine s_as (v := .int .i64 0) rfl ?_
 refine dn ?_
 refine wp_block ?_
 have hN46 : a0.length ≤ 9223372036854775807 := sl_max (hC.getP 0 rfl)
 refine loopN (S := (List Int)) _ _ (fun i43 s44 e_ w_ => ∃ (v45 : Value), Slots e_ [(0, u0_0), (2, .slice none 0 0), (3, v45), (4, .int .i64 (i43 : Int))] ∧ Ctx Nox w0 w_ [own 2 1 v45 s44.length ((EI .i64).encs s44)] [Ty.item ((EI .i64).ty.sl) a0 [u0_0] fp0]) a0.length ?_ ?_ (s0 := (List.replicate ((a0.length : Int).toNat) (0 : Int))) ?_ h
 ·clear hC h
  rintro i43 s44 e_ w51 next47 K48 hi50 ⟨v45, hS_, hC⟩ h hK49
  refine wp_seq ?_
  refine sr ?_
  refine s_mv (v := .int .i64 (i43 : Int)) (sx hS_ 3 rfl) ?_
  refine s_mv (v := u0_0) (sx hS_ 0 rfl) ?_
  obtain ⟨Ad52, c53, hv54⟩ := sl_len (hC.getP 0 rfl)
  refine s_len Try.underlying22 (tr rfl hv54) ?_
  refine s_lss rfl rfl ?_
  refine dn ?_
  refine cw_true rfl (decide_eq_true (by omega)) ?_
  refine wp_skip ?_
  refine then_norm ?_
  refine wp_seq ?_
  refine wp_block ?_
  refine cw_region ?_
  refine s_mv (v := v45) (sx hS_ 2 rfl) ?_
  refine s_mv (v := .int .i64 (i43 : Int)) (sx hS_ 3 rfl) ?_
  refine s_mv (v := u0_0) (sx hS_ 0 rfl) ?_
  refine s_mv (v := .int .i64 (i43 : Int)) (sx hS_ 3 rfl) ?_
  obtain ⟨Ad55, c56, hv57⟩ := sl_form (hC.getP 0 rfl) i43 hi50
  refine s_iaddrS (len := a0.length) Try.underlying22 sc2.size (tr rfl hv57) rfl (Int.natCast_nonneg _) (Int.ofNat_lt.2 hi50) ?_
  refine s_loadCS (.int .i64 (a0.getD i43 default)) (sl_cellsE (hC.getP 0 rfl) hv57 i43 hi50) sc2 rfl ?_
  obtain ⟨⟨h0_58, h1_59⟩, h⟩ := h
  obtain ⟨Ad60, c61, hv62⟩ := own_formE (hC.getM 0 rfl) (Nat.lt_of_le_of_lt (Nat.zero_le _) (show i43 < s44.length by omega))
  refine s_iaddrO (i43 * 1) Try.underlying22 sc2.size (tr rfl hv62) rfl h0_58 h1_59 rfl ?_
  refine s_storeO (v := .int .i64 (a0.getD i43 default)) hC 0 [.int .i64 (a0.getD i43 default)] ((EI .i64).encs (s44.set i43 (a0.getD i43 default))) rfl hv62 sc2.size rfl rfl rfl rfl rfl (by rw [Enc.encs_len]; exact seg_le (sz := 1) (show i43 < s44.length by omega)) (encs_set _ _ _ (show i43 < s44.length by omega)) fun w63 hC => ?_
  replace hC := own_re hC 0 ((s44.set i43 (a0.getD i43 default)).length) ((EI .i64).encs (s44.set i43 (a0.getD i43 default))) rfl (by simp) rfl
  refine done ?_
  refine blk_norm ?_
  refine then_norm ?_
  refine cw_region ?_
  refine s_mv (v := .int .i64 (i43 : Int)) (sx hS_ 3 rfl) ?_
  refine s_add rfl rfl ?_
  refine s_as (v := .int .i64 (IntKind.i64.wrap ((i43 : Int) + 1))) rfl ?_
  refine done ?_
  exact hK49 (s44.set i43 (a0.getD i43 default)) _ _ ⟨v45, (sk (sx hS_ 0 rfl) (sk (sx hS_ 1 rfl) (sk (sx hS_ 2 rfl) (sk (tr rfl (congrArg _ (wrap64_nat hi50 hN46))) sn)))), hC⟩ h
 ·clear hC h
  rintro s44 e_ w64 K48 ⟨v45, hS_, hC⟩ h
  refine wp_seq ?_
  refine sr ?_
  refine s_mv (v := .int .i64 (a0.length : Int)) (sx hS_ 3 rfl) ?_
  refine s_mv (v := u0_0) (sx hS_ 0 rfl) ?_
  obtain ⟨Ad65, c66, hv67⟩ := sl_len (hC.getP 0 rfl)
  refine s_len Try.underlying22 (tr rfl hv67) ?_
  refine s_lss rfl rfl ?_
  refine dn ?_
  refine cw_false rfl (decide_eq_false (by omega)) ?_
  refine wp_exit (then_exit (then_exit (exit_in ?_)))
  refine then_norm ?_
  refine sr ?_
  refine s_mv (v := v45) (sx hS_ 2 rfl) ?_
  refine s_as (v := v45) rfl ?_
  refine dn ?_
  refine wp_ret ?_
  refine ret1 (fn := Try.f14) rfl ?_ ⟨s44, v45, (Option.toList (Value.ownBlock v45)), rfl, h, (own_item (hC.getM 0 rfl)), (own_fresh hC 0 rfl), hC.below⟩ (.inl rfl)
  exact res_tmp rfl
 ·skip
  exact ⟨v5, (sk rfl (sk rfl (sk rfl (sk rfl sn)))), hC⟩
def f_laws_toMonomial (a0 : A8) (K : A8 → Prop) : Prop :=
 forN (fun i20 (s21 : A8) next22 => next22 (s21.set i20 (a0.get i20))) (fun (s21 : A8) => K s21) 8 0 A8.zero
theorem c_laws_toMonomial (a0 : A8)  {K : A8 → Prop} (h : f_laws_toMonomial a0 K) (w0 : World)  :
  Calls Try.prog 15 #[.agg (List.toArray (A8.enc .u8 a0))] w0 fun e w' => ∃ (r0 : A8), 
   e = .returned (.agg (List.toArray (A8.enc .u8 r0))) ∧ K r0 ∧ Bel w0 w' := by
 unfold f_laws_toMonomial at h
 refine calls_of (args := [.agg (List.toArray (A8.enc .u8 a0))]) Try.func15 rfl 15 Try.ntmps15 (Nat.le_of_ble_eq_true rfl) ?_
 have hC := Ctx.start (X := Nox) w0 [] (by simp)
 refine sr ?_
 refine s_box (v := .agg (List.toArray (A8.enc .u8 a0))) hC (A8.enc .u8 a0) rfl rfl fun b1 w3 hB_ hC => ?_
 refine s_alloc hC (A8.enc .u8 A8.zero) z24 rfl fun b4 w6 hB_ hC => ?_
 refine dn ?_
 refine sr ?_
 refine s_alloc hC (A8.enc .u8 A8.zero) z24 rfl fun b7 w9 hB_ hC => ?_
 refine dn ?_
 refine wp_seq ?_
 refine sr ?_
 refine s_as (v := .int .i64 0) rfl ?_
 refine dn ?_
 refine wp_block ?_
 refine loopN (S := A8) _ _ (fun i20 s21 e_ w_ => Slots e_ [(1, .pointer (some ⟨b1, 0, none⟩)), (2, .pointer (some ⟨b4, 0, none⟩)), (3, .pointer (some ⟨b7, 0, none⟩)), (4, .int .i64 (i20 : Int))] ∧ Ctx Nox w0 w_ [blk b7 24 (A8.enc .u8 s21), blk b4 24 (A8.enc .u8 A8.zero), blk b1 23 (A8.enc .u8 a0)] []) 8 ?_ ?_ (s0 := A8.zero) ?_ h
 ·clear hC h
  rintro i20 s21 e_ w26 next22 K23 hi25 ⟨hS_, hC⟩ h hK24
  refine wp_seq ?_
  refine sr ?_
  refine s_mv (v := .int .i64 (i20 : Int)) (sx hS_ 3 rfl) ?_
  refine s_lss rfl rfl ?_
  refine dn ?_
  refine cw_true rfl (decide_eq_true (by omega)) ?_
  refine wp_skip ?_
  refine then_norm ?_
  refine wp_seq ?_
  refine wp_block ?_
  refine cw_region ?_
  refine s_mv (v := .int .i64 (i20 : Int)) (sx hS_ 3 rfl) ?_
  refine s_mv (v := .int .i64 (i20 : Int)) (sx hS_ 3 rfl) ?_
  refine s_iaddrB i20 Try.underlying23 sc5.size (sx hS_ 0 rfl) rfl (Int.natCast_nonneg _) (by omega) (by omega) ?_
  refine s_loadS hC 2 (.int .u8 (a0.get i20)) rfl sc5 rfl (A8.enc_get _ _ hi25) ?_
  refine s_iaddrB i20 Try.underlying24 sc5.size (sx hS_ 2 rfl) rfl (Int.natCast_nonneg _) (by omega) (by omega) ?_
  refine s_store (v := .int .u8 (a0.get i20)) hC 0 [.int .u8 (a0.get i20)] (A8.enc .u8 (s21.set i20 (a0.get i20))) rfl sc5.size rfl rfl rfl rfl rfl hi25 (A8.enc_set _ _ _ hi25) fun w27 hC => ?_
  refine done ?_
  refine blk_norm ?_
  refine then_norm ?_
  refine cw_region ?_
  refine s_mv (v := .int .i64 (i20 : Int)) (sx hS_ 3 rfl) ?_
  refine s_add rfl rfl ?_
  refine s_as (v := .int .i64 (IntKind.i64.wrap ((i20 : Int) + 1))) rfl ?_
  refine done ?_
  exact hK24 (s21.set i20 (a0.get i20)) _ _ ⟨(sk (sx hS_ 0 rfl) (sk (sx hS_ 1 rfl) (sk (sx hS_ 2 rfl) (sk (tr rfl (congrArg _ (wrap64_nat hi25 (by decide)))) sn)))), hC⟩ h
 ·clear hC h
  rintro s21 e_ w28 K23 ⟨hS_, hC⟩ h
  refine wp_seq ?_
  refine sr ?_
  refine s_mv (v := .int .i64 8) (sx hS_ 3 rfl) ?_
  refine s_lss rfl rfl ?_
  refine dn ?_
  refine cw_false rfl (decide_eq_false (by omega)) ?_
  refine wp_exit (then_exit (then_exit (exit_in ?_)))
  refine then_norm ?_
  refine sr ?_
  refine s_loadA hC 0 (A8.enc .u8 s21) rfl ag24 (sx hS_ 2 rfl) rfl rfl ?_
  refine s_store (v := .agg (List.toArray (A8.enc .u8 s21))) hC 1 (A8.enc .u8 s21) (A8.enc .u8 s21) rfl ag24.size (sx hS_ 1 rfl) rfl rfl rfl rfl (Nat.le_of_ble_eq_true rfl) rfl fun w29 hC => ?_
  refine dn ?_
  refine wp_ret ?_
  refine ret1 (fn := Try.f15) rfl ?_ ⟨s21, rfl, h, hC.below⟩ (.inl rfl)
  exact res_cellA hC 1 rfl ag24 (sx hS_ 1 rfl) rfl
 ·skip
  exact ⟨(sk rfl (sk rfl (sk rfl (sk rfl sn)))), hC⟩
def f_slices_IndexFunc_int64_int64 (a0 : List Int) (p1 : Int → (Bool → Prop) → Prop) (K : Int → Prop) : Prop :=
 forN (fun i17 (s18 : Unit) next20 => p1 (a0.getD i17 default) (fun r32 => (if r32 = true then K (i17 : Int) else next20 ()))) (fun (s18 : Unit) => K (-1)) a0.length 0 ()
theorem c_slices_IndexFunc_int64_int64 (a0 : List Int) (p1 : Int → (Bool → Prop) → Prop) {u0_0 : Value} {fp0 : List Nat} {K : Int → Prop} (h : f_slices_IndexFunc_int64_int64 a0 p1 K) (w0 : World) (q0 : ((EI .i64).ty.sl).rep a0 [u0_0] fp0 w0) {g1 : Nat} {cp1 : List Value} {fn1 : Func} (hf1 : Try.prog.funcs[g1]? = some fn1) (hb1 : fn1.body.isNone = false) (hn1 : (fn1.name == "runtime.NumGoroutine") = false) (hp1 : ∀ (y0 : Int) (K_ : Bool → Prop) (w_ : World), Bel w0 w_ → p1 y0 K_ → Calls Try.prog g1 (List.toArray ([.int .i64 y0] ++ cp1)) w_ fun e w' => ∃ (z0 : Bool), e = .returned (.bool z0) ∧ K_ z0 ∧ Bel w_ w') :
  Calls Try.prog 125 #[u0_0, .func (.func g1) #[] (List.toArray cp1)] w0 fun e w' => ∃ (r0 : Int), 
   e = .returned (.int .i64 r0) ∧ K r0 ∧ Bel w0 w' := by
 unfold f_slices_IndexFunc_int64_int64 at h
 refine calls_of (args := [u0_0, .func (.func g1) #[] (List.toArray cp1)]) Try.func125 rfl 19 Try.ntmps125 (Nat.le_of_ble_eq_true rfl) ?_
 have hC := Ctx.start (X := Nox) w0 [Ty.item ((EI .i64).ty.sl) a0 [u0_0] fp0] (by simp only [List.mem_cons, List.not_mem_nil, or_false, forall_eq_or_imp, forall_eq]; exact q0)
 refine sr ?_
 refine s_as (v := .int .i64 0) rfl ?_
 refine dn ?_
 refine wp_seq ?_
 refine sr ?_
 refine s_mv (v := u0_0) rfl ?_
 obtain ⟨Ad2, c3, hv4⟩ := sl_len (hC.getP 0 rfl)
 refine s_len Try.underlying22 (tr rfl hv4) ?_
 refine s_mv (v := .int .i64 0) rfl ?_
 refine dn ?_
 refine wp_block ?_
 have hN19 : a0.length ≤ 9223372036854775807 := sl_max (hC.getP 0 rfl)
 refine loopN (S := Unit) _ _ (fun i17 s18 e_ w_ => Slots e_ [(0, u0_0), (1, .func (.func g1) #[] (List.toArray cp1)), (4, .int .i64 0), (7, .int .i64 (a0.length : Int)), (8, .int .i64 (i17 : Int))] ∧ Ctx Nox w0 w_ [] [Ty.item ((EI .i64).ty.sl) a0 [u0_0] fp0]) a0.length ?_ ?_ (s0 := ()) ?_ h
 ·clear hC h
  rintro i17 s18 e_ w24 next20 K21 hi23 ⟨hS_, hC⟩ h hK22
  refine sr ?_
  refine s_lss (sx hS_ 4 rfl) (sx hS_ 3 rfl) ?_
  refine dn ?_
  refine wp_seq ?_
  refine cw_true rfl (decide_eq_true (by omega)) ?_
  refine wp_skip ?_
  refine then_norm ?_
  refine wp_seq ?_
  refine wp_block ?_
  refine sr ?_
  refine s_mv (v := .int .i64 (i17 : Int)) (sx hS_ 4 rfl) ?_
  refine s_as (v := .int .i64 (i17 : Int)) rfl ?_
  refine dn ?_
  refine sr ?_
  refine s_mv (v := .func (.func g1) #[] (List.toArray cp1)) (sx hS_ 1 rfl) ?_
  refine s_mv (v := u0_0) (sx hS_ 0 rfl) ?_
  refine s_mv (v := .int .i64 (i17 : Int)) rfl ?_
  obtain ⟨Ad25, c26, hv27⟩ := sl_form (hC.getP 0 rfl) i17 hi23
  refine s_iaddrS (len := a0.length) Try.underlying22 sc2.size (tr rfl hv27) rfl (Int.natCast_nonneg _) (Int.ofNat_lt.2 hi23) ?_
  refine s_loadCS (.int .i64 (a0.getD i17 default)) (sl_cellsE (hC.getP 0 rfl) hv27 i17 hi23) sc2 rfl ?_
  refine s_callv [.int .i64 (a0.getD i17 default)] _ rfl hf1 hb1 hn1 rfl (hp1 _ _ _ hC.below  h) (fun ret28 w30 hR29 => ?_)
  obtain ⟨r32, rfl, h, hB31⟩ := hR29
  refine ⟨_, rfl, ?_⟩
  replace hC := hC.grow hB31
  refine dn ?_
  refine cw_cond rfl (fun hb33 => ?_) (fun hb33 => ?_)
  ·replace h := ift h (hb33)
   refine sr ?_
   refine s_mv (v := .int .i64 (i17 : Int)) rfl ?_
   refine s_as (v := .int .i64 (i17 : Int)) rfl ?_
   refine dn ?_
   refine wp_ret (blk_ret (then_ret (then_ret (blk_ret (then_ret ?_)))))
   refine ret1 (fn := Try.f125) rfl ?_ ⟨(i17 : Int), rfl, h, hC.below⟩ (.inl rfl)
   exact res_tmp rfl
  ·replace h := iff_ h (ne_t hb33)
   refine wp_skip ?_
   refine blk_norm ?_
   refine then_norm ?_
   refine cw_region ?_
   refine s_add (sx hS_ 4 rfl) rfl ?_
   refine s_mv (v := .int .i64 (IntKind.i64.wrap ((i17 : Int) + 1))) rfl ?_
   refine done ?_
   exact hK22 () _ _ ⟨(sk (sx hS_ 0 rfl) (sk (sx hS_ 1 rfl) (sk (sx hS_ 2 rfl) (sk (sx hS_ 3 rfl) (sk (tr rfl (congrArg _ (wrap64_nat hi23 hN19))) sn))))), hC⟩ h
 ·clear hC h
  rintro s18 e_ w34 K21 ⟨hS_, hC⟩ h
  refine sr ?_
  refine s_lss (sx hS_ 4 rfl) (sx hS_ 3 rfl) ?_
  refine dn ?_
  refine wp_seq ?_
  refine cw_false rfl (decide_eq_false (by omega)) ?_
  refine wp_exit (then_exit (then_exit (exit_in ?_)))
  refine then_norm ?_
  refine sr ?_
  refine s_as (v := .int .i64 (-1)) rfl ?_
  refine dn ?_
  refine wp_ret ?_
  refine ret1 (fn := Try.f125) rfl ?_ ⟨(-1), rfl, h, hC.below⟩ (.inl rfl)
  exact res_tmp rfl
 ·skip
  exact ⟨(sk rfl (sk rfl (sk rfl (sk rfl (sk rfl sn))))), hC⟩
def f_slices_ContainsFunc_int64_int64 (a0 : List Int) (p1 : Int → (Bool → Prop) → Prop) (K : Bool → Prop) : Prop :=
 f_slices_IndexFunc_int64_int64 a0 p1 (fun r5 => K (decide (r5 ≥ 0)))
theorem c_slices_ContainsFunc_int64_int64 (a0 : List Int) (p1 : Int → (Bool → Prop) → Prop) {u0_0 : Value} {fp0 : List Nat} {K : Bool → Prop} (h : f_slices_ContainsFunc_int64_int64 a0 p1 K) (w0 : World) (q0 : ((EI .i64).ty.sl).rep a0 [u0_0] fp0 w0) {g1 : Nat} {cp1 : List Value} {fn1 : Func} (hf1 : Try.prog.funcs[g1]? = some fn1) (hb1 : fn1.body.isNone = false) (hn1 : (fn1.name == "runtime.NumGoroutine") = false) (hp1 : ∀ (y0 : Int) (K_ : Bool → Prop) (w_ : World), Bel w0 w_ → p1 y0 K_ → Calls Try.prog g1 (List.toArray ([.int .i64 y0] ++ cp1)) w_ fun e w' => ∃ (z0 : Bool), e = .returned (.bool z0) ∧ K_ z0 ∧ Bel w_ w') :
  Calls Try.prog 102 #[u0_0, .func (.func g1) #[] (List.toArray cp1)] w0 fun e w' => ∃ (r0 : Bool), 
   e = .returned (.bool r0) ∧ K r0 ∧ Bel w0 w' := by
 unfold f_slices_ContainsFunc_int64_int64 at h
 refine calls_of (args := [u0_0, .func (.func g1) #[] (List.toArray cp1)]) Try.func102 rfl 9 Try.ntmps102 (Nat.le_of_ble_eq_true rfl) ?_
 have hC := Ctx.start (X := Nox) w0 [Ty.item ((EI .i64).ty.sl) a0 [u0_0] fp0] (by simp only [List.mem_cons, List.not_mem_nil, or_false, forall_eq_or_imp, forall_eq]; exact q0)
 refine sr ?_
 refine s_as (v := .bool false) rfl ?_
 refine dn ?_
 refine sr ?_
 refine s_mv (v := u0_0) rfl ?_
 refine s_mv (v := .func (.func g1) #[] (List.toArray cp1)) rfl ?_
 refine s_call [u0_0, .func (.func g1) #[] (List.toArray cp1)] _ Try.func125 rfl rfl rfl (c_slices_IndexFunc_int64_int64 a0 p1 h _ (hC.getP 0 rfl) hf1 hb1 hn1 (fun x0_ K_ w_ hb_ => hp1 x0_ K_ w_ (below_on hC.below hb_))) (fun ret2 w4 hR3 => ?_)
 obtain ⟨r5, rfl, h, hB6⟩ := hR3
 refine ⟨_, rfl, ?_⟩
 replace hC := hC.grow hB6
 refine s_geq rfl rfl ?_
 refine s_as (v := .bool (decide (r5 ≥ 0))) rfl ?_
 refine dn ?_
 refine wp_ret ?_
 refine ret1 (fn := Try.f102) rfl ?_ ⟨decide (r5 ≥ 0), rfl, h, hC.below⟩ (.inl rfl)
 exact res_tmp rfl
def f_impl_AreDegrees_1 (a0 : Int) (K : Bool → Prop) : Prop :=
 f_impl_within a0 1 12 (fun r4 => K (!r4))
theorem c_impl_AreDegrees_1 (a0 : Int)  {K : Bool → Prop} (h : f_impl_AreDegrees_1 a0 K) (w0 : World)  :
  Calls Try.prog 103 #[.int .i64 a0] w0 fun e w' => ∃ (r0 : Bool), 
   e = .returned (.bool r0) ∧ K r0 ∧ Bel w0 w' := by
 unfold f_impl_AreDegrees_1 at h
 refine calls_of (args := [.int .i64 a0]) Try.func103 rfl 6 Try.ntmps103 (Nat.le_of_ble_eq_true rfl) ?_
 have hC := Ctx.start (X := Nox) w0 [] (by simp)
 refine sr ?_
 refine s_as (v := .bool false) rfl ?_
 refine dn ?_
 refine sr ?_
 refine s_mv (v := .int .i64 a0) rfl ?_
 refine s_call [.int .i64 a0, .int .i64 1, .int .i64 12] _ Try.func69 rfl rfl rfl (c_impl_within a0 1 12 h _) (fun ret1 w3 hR2 => ?_)
 obtain ⟨r4, rfl, h, hB5⟩ := hR2
 refine ⟨_, rfl, ?_⟩
 replace hC := hC.grow hB5
 refine s_not rfl ?_
 refine s_as (v := .bool (!r4)) rfl ?_
 refine dn ?_
 refine wp_ret ?_
 refine ret1 (fn := Try.f103) rfl ?_ ⟨!r4, rfl, h, hC.below⟩ (.inl rfl)
 exact res_tmp rfl
def f_impl_AreDegrees (a0 : List Int) (K : Bool → Prop) : Prop :=
 (if (a0.length : Int) ≤ 8 then f_slices_ContainsFunc_int64_int64 a0 f_impl_AreDegrees_1 (fun r9 => K (!r9)) else K false)
theorem c_impl_AreDegrees (a0 : List Int) {u0_0 : Value} {fp0 : List Nat} {K : Bool → Prop} (h : f_impl_AreDegrees a0 K) (w0 : World) (q0 : ((EI .i64).ty.sl).rep a0 [u0_0] fp0 w0) :
  Calls Try.prog 52 #[u0_0] w0 fun e w' => ∃ (r0 : Bool), 
   e = .returned (.bool r0) ∧ K r0 ∧ Bel w0 w' := by
 unfold f_impl_AreDegrees at h
 refine calls_of (args := [u0_0]) Try.func52 rfl 11 Try.ntmps52 (Nat.le_of_ble_eq_true rfl) ?_
 have hC := Ctx.start (X := Nox) w0 [Ty.item ((EI .i64).ty.sl) a0 [u0_0] fp0] (by simp only [List.mem_cons, List.not_mem_nil, or_false, forall_eq_or_imp, forall_eq]; exact q0)
 refine sr ?_
 refine s_as (v := .bool false) rfl ?_
 refine dn ?_
 refine sr ?_
 refine s_mv (v := u0_0) rfl ?_
 obtain ⟨Ad2, c3, hv4⟩ := sl_len (hC.getP 0 rfl)
 refine s_len Try.underlying22 (tr rfl hv4) ?_
 refine s_leq rfl rfl ?_
 refine s_mv (v := .bool (decide ((a0.length : Int) ≤ 8))) rfl ?_
 refine bsplit (decide ((a0.length : Int) ≤ 8)) (fun hb5 => ?_) (fun hb5 => ?_)
 ·replace h := ift h (ct hb5)
  refine guardOn 3 6 rfl rfl hb5 ?_
  refine s_mv (v := u0_0) rfl ?_
  refine guardOn 3 6 rfl rfl hb5 ?_
  refine s_call [u0_0, .func (.func 103) #[] (List.toArray [])] _ Try.func102 rfl rfl rfl (c_slices_ContainsFunc_int64_int64 a0 f_impl_AreDegrees_1 h _ (hC.getP 0 rfl) Try.func103 rfl rfl (fun x0_ K_ w_ _ hq_ => c_impl_AreDegrees_1 x0_ hq_ w_)) (fun ret6 w8 hR7 => ?_)
  obtain ⟨r9, rfl, h, hB10⟩ := hR7
  refine ⟨_, rfl, ?_⟩
  replace hC := hC.grow hB10
  refine guardOn 3 6 rfl rfl hb5 ?_
  refine s_not rfl ?_
  refine s_pick (v := .bool (!r9)) (b := true) (tr rfl (congrArg _ hb5)) rfl ?_
  refine s_as (v := .bool (!r9)) rfl ?_
  refine dn ?_
  refine wp_ret ?_
  refine ret1 (fn := Try.f52) rfl ?_ ⟨!r9, rfl, h, hC.below⟩ (.inl rfl)
  exact res_tmp rfl
 ·replace h := iff_ h (cf hb5)
  refine guardOff (b := false) 3 6 rfl (tr rfl (congrArg _ hb5)) (by decide) ?_
  refine guardOff (b := false) 3 6 rfl (tr rfl (congrArg _ hb5)) (by decide) ?_
  refine guardOff (b := false) 3 6 rfl (tr rfl (congrArg _ hb5)) (by decide) ?_
  refine s_pick (v := .bool false) (b := false) (tr rfl (congrArg _ hb5)) rfl ?_
  refine s_as (v := .bool false) rfl ?_
  refine dn ?_
  refine wp_ret ?_
  refine ret1 (fn := Try.f52) rfl ?_ ⟨false, rfl, h, hC.below⟩ (.inl rfl)
  exact res_tmp rfl
def f_impl_isMonomial (a0 : List Int) (a1 : A8) (K : Bool → Prop) : Prop :=
 forN (fun i21 (s22 : Unit) next23 => (if (i21 : Int) < (a0.length : Int) then ((0 ≤ (i21 : Int) ∧ (i21 : Int) < (a0.length : Int)) ∧ (if Int.tmod (a0.getD i21 default) 2 = 1 then (if a1.get i21 > 1 then K false else next23 ()) else (if a1.get i21 > 20 then K false else next23 ()))) else (if a1.get i21 > 0 then K false else next23 ()))) (fun (s22 : Unit) => K true) 8 0 ()
theorem c_impl_isMonomial (a0 : List Int) (a1 : A8) {u0_0 : Value} {fp0 : List Nat} {K : Bool → Prop} (h : f_impl_isMonomial a0 a1 K) (w0 : World) (q0 : ((EI .i64).ty.sl).rep a0 [u0_0] fp0 w0) :
  Calls Try.prog 101 #[u0_0, .agg (List.toArray (A8.enc .u8 a1))] w0 fun e w' => ∃ (r0 : Bool), 
   e = .returned (.bool r0) ∧ K r0 ∧ Bel w0 w' := by
 unfold f_impl_isMonomial at h
 refine calls_of (args := [u0_0, .agg (List.toArray (A8.enc .u8 a1))]) Try.func101 rfl 27 Try.ntmps101 (Nat.le_of_ble_eq_true rfl) ?_
 have hC := Ctx.start (X := Nox) w0 [Ty.item ((EI .i64).ty.sl) a0 [u0_0] fp0] (by simp only [List.mem_cons, List.not_mem_nil, or_false, forall_eq_or_imp, forall_eq]; exact q0)
 refine sr ?_
 refine s_box (v := .agg (List.toArray (A8.enc .u8 a1))) hC (A8.enc .u8 a1) rfl rfl fun b2 w4 hB_ hC => ?_
 refine s_as (v := .bool false) rfl ?_
 refine dn ?_
 refine wp_seq ?_
 refine sr ?_
 refine s_loadA hC 0 (A8.enc .u8 a1) rfl ag24 rfl rfl rfl ?_
 refine s_mv (v := .int .i64 0) rfl ?_
 refine dn ?_
 refine wp_block ?_
 refine loopN (S := Unit) _ _ (fun i21 s22 e_ w_ => Slots e_ [(0, u0_0), (4, .bool false), (8, .agg (List.toArray (A8.enc .u8 a1))), (9, .int .i64 (i21 : Int))] ∧ Ctx Nox w0 w_ [] [Ty.item ((EI .i64).ty.sl) a0 [u0_0] fp0]) 8 ?_ ?_ (s0 := ()) ?_ h
 ·clear hC h
  rintro i21 s22 e_ w27 next23 K24 hi26 ⟨hS_, hC⟩ h hK25
  refine sr ?_
  refine s_lss (sx hS_ 3 rfl) rfl ?_
  refine dn ?_
  refine wp_seq ?_
  refine cw_true rfl (decide_eq_true (by omega)) ?_
  refine wp_skip ?_
  refine then_norm ?_
  refine wp_seq ?_
  refine wp_block ?_
  refine sr ?_
  refine s_mv (v := .int .i64 (i21 : Int)) (sx hS_ 3 rfl) ?_
  refine s_index (.int .u8 (a1.get i21)) Try.underlying24 (sx hS_ 2 rfl) (sx hS_ 3 rfl) (Int.natCast_nonneg _) (by omega) sc5 (A8.enc_get _ _ hi26) ?_
  refine s_as (v := .int .i64 (i21 : Int)) rfl ?_
  refine s_as (v := .int .u8 (a1.get i21)) rfl ?_
  refine dn ?_
  refine sr ?_
  refine s_as (v := .int .u8 0) rfl ?_
  refine dn ?_
  refine wp_seq ?_
  refine sr ?_
  refine s_mv (v := .int .i64 (i21 : Int)) rfl ?_
  refine s_mv (v := u0_0) (sx hS_ 0 rfl) ?_
  obtain ⟨Ad28, c29, hv30⟩ := sl_len (hC.getP 0 rfl)
  refine s_len Try.underlying22 (tr rfl hv30) ?_
  refine s_lss rfl rfl ?_
  refine dn ?_
  refine cw_cond rfl (fun hb31 => ?_) (fun hb31 => ?_)
  ·replace h := ift h (ct hb31)
   refine sr ?_
   refine s_as (v := .int .u8 20) rfl ?_
   refine dn ?_
   refine sr ?_
   refine s_mv (v := u0_0) (sx hS_ 0 rfl) ?_
   refine s_mv (v := .int .i64 (i21 : Int)) rfl ?_
   obtain ⟨⟨h0_32, h1_33⟩, h⟩ := h
   obtain ⟨Ad34, c35, hv36⟩ := sl_form (hC.getP 0 rfl) i21 (show i21 < a0.length by omega)
   refine s_iaddrS (len := a0.length) Try.underlying22 sc2.size (tr rfl hv36) rfl h0_32 h1_33 ?_
   refine s_loadCS (.int .i64 (a0.getD i21 default)) (sl_cellsE (hC.getP 0 rfl) hv36 i21 (show i21 < a0.length by omega)) sc2 rfl ?_
   refine s_rem rfl rfl (by decide) ?_
   refine s_eql rfl rfl ?_
   refine dn ?_
   refine cw_cond rfl (fun hb37 => ?_) (fun hb37 => ?_)
   ·replace h := ift h (ct hb37)
    refine cw_region ?_
    refine s_as (v := .int .u8 1) rfl ?_
    refine dn ?_
    refine sr ?_
    refine s_mv (v := .int .u8 (a1.get i21)) rfl ?_
    refine s_mv (v := .int .u8 1) rfl ?_
    refine s_gtr rfl rfl ?_
    refine dn ?_
    refine cw_cond rfl (fun hb38 => ?_) (fun hb38 => ?_)
    ·replace h := ift h (ct hb38)
     refine sr ?_
     refine s_as (v := .bool false) rfl ?_
     refine dn ?_
     refine wp_ret (blk_ret (then_ret (then_ret (blk_ret (then_ret ?_)))))
     refine ret1 (fn := Try.f101) rfl ?_ ⟨false, rfl, h, hC.below⟩ (.inl rfl)
     exact res_tmp rfl
    ·replace h := iff_ h (cf hb38)
     refine wp_skip ?_
     refine blk_norm ?_
     refine then_norm ?_
     refine cw_region ?_
     refine s_add (sx hS_ 3 rfl) rfl ?_
     refine s_mv (v := .int .i64 (IntKind.i64.wrap ((i21 : Int) + 1))) rfl ?_
     refine done ?_
     exact hK25 () _ _ ⟨(sk (sx hS_ 0 rfl) (sk (sx hS_ 1 rfl) (sk (sx hS_ 2 rfl) (sk (tr rfl (congrArg _ (wrap64_nat hi26 (by decide)))) sn)))), hC⟩ h
   ·replace h := iff_ h (cf hb37)
    refine wp_skip ?_
    refine then_norm ?_
    refine sr ?_
    refine s_mv (v := .int .u8 (a1.get i21)) rfl ?_
    refine s_mv (v := .int .u8 20) rfl ?_
    refine s_gtr rfl rfl ?_
    refine dn ?_
    refine cw_cond rfl (fun hb39 => ?_) (fun hb39 => ?_)
    ·replace h := ift h (ct hb39)
     refine sr ?_
     refine s_as (v := .bool false) rfl ?_
     refine dn ?_
     refine wp_ret (blk_ret (then_ret (then_ret (blk_ret (then_ret ?_)))))
     refine ret1 (fn := Try.f101) rfl ?_ ⟨false, rfl, h, hC.below⟩ (.inl rfl)
     exact res_tmp rfl
    ·replace h := iff_ h (cf hb39)
     refine wp_skip ?_
     refine blk_norm ?_
     refine then_norm ?_
     refine cw_region ?_
     refine s_add (sx hS_ 3 rfl) rfl ?_
     refine s_mv (v := .int .i64 (IntKind.i64.wrap ((i21 : Int) + 1))) rfl ?_
     refine done ?_
     exact hK25 () _ _ ⟨(sk (sx hS_ 0 rfl) (sk (sx hS_ 1 rfl) (sk (sx hS_ 2 rfl) (sk (tr rfl (congrArg _ (wrap64_nat hi26 (by decide)))) sn)))), hC⟩ h
  ·replace h := iff_ h (cf hb31)
   refine wp_skip ?_
   refine then_norm ?_
   refine sr ?_
   refine s_mv (v := .int .u8 (a1.get i21)) rfl ?_
   refine s_mv (v := .int .u8 0) rfl ?_
   refine s_gtr rfl rfl ?_
   refine dn ?_
   refine cw_cond rfl (fun hb40 => ?_) (fun hb40 => ?_)
   ·replace h := ift h (ct hb40)
    refine sr ?_
    refine s_as (v := .bool false) rfl ?_
    refine dn ?_
    refine wp_ret (blk_ret (then_ret (then_ret (blk_ret (then_ret ?_)))))
    refine ret1 (fn := Try.f101) rfl ?_ ⟨false, rfl, h, hC.below⟩ (.inl rfl)
    exact res_tmp rfl
   ·replace h := iff_ h (cf hb40)
    refine wp_skip ?_
    refine blk_norm ?_
    refine then_norm ?_
    refine cw_region ?_
    refine s_add (sx hS_ 3 rfl) rfl ?_
    refine s_mv (v := .int .i64 (IntKind.i64.wrap ((i21 : Int) + 1))) rfl ?_
    refine done ?_
    exact hK25 () _ _ ⟨(sk (sx hS_ 0 rfl) (sk (sx hS_ 1 rfl) (sk (sx hS_ 2 rfl) (sk (tr rfl (congrArg _ (wrap64_nat hi26 (by decide)))) sn)))), hC⟩ h
 ·clear hC h
  rintro s22 e_ w41 K24 ⟨hS_, hC⟩ h
  refine sr ?_
  refine s_lss (sx hS_ 3 rfl) rfl ?_
  refine dn ?_
  refine wp_seq ?_
  refine cw_false rfl (decide_eq_false (by omega)) ?_
  refine wp_exit (then_exit (then_exit (exit_in ?_)))
  refine then_norm ?_
  refine sr ?_
  refine s_as (v := .bool true) rfl ?_
  refine dn ?_
  refine wp_ret ?_
  refine ret1 (fn := Try.f101) rfl ?_ ⟨true, rfl, h, hC.below⟩ (.inl rfl)
  exact res_tmp rfl
 ·skip
  replace hC := hC.sel [] [0] (M' := []) (Ps' := [Ty.item ((EI .i64).ty.sl) a0 [u0_0] fp0]) (by decide) rfl rfl
  exact ⟨(sk rfl (sk rfl (sk rfl (sk rfl sn)))), hC⟩
def f_impl_IsMonomial (a0 : List Int) (a1 : A8) (K : Bool → Prop) : Prop :=
 f_impl_AreDegrees a0 (fun r8 => (if r8 = true then f_impl_isMonomial a0 a1 (fun r14 => K r14) else K false))
theorem c_impl_IsMonomial (a0 : List Int) (a1 : A8) {u0_0 : Value} {fp0 : List Nat} {K : Bool → Prop} (h : f_impl_IsMonomial a0 a1 K) (w0 : World) (q0 : ((EI .i64).ty.sl).rep a0 [u0_0] fp0 w0) :
  Calls Try.prog 50 #[u0_0, .agg (List.toArray (A8.enc .u8 a1))] w0 fun e w' => ∃ (r0 : Bool), 
   e = .returned (.bool r0) ∧ K r0 ∧ Bel w0 w' := by
 unfold f_impl_IsMonomial at h
 refine calls_of (args := [u0_0, .agg (List.toArray (A8.enc .u8 a1))]) Try.func50 rfl 12 Try.ntmps50 (Nat.le_of_ble_eq_true rfl) ?_
 have hC := Ctx.start (X := Nox) w0 [Ty.item ((EI .i64).ty.sl) a0 [u0_0] fp0] (by simp only [List.mem_cons, List.not_mem_nil, or_false, forall_eq_or_imp, forall_eq]; exact q0)
 refine sr ?_
 refine s_box (v := .agg (List.toArray (A8.enc .u8 a1))) hC (A8.enc .u8 a1) rfl rfl fun b2 w4 hB_ hC => ?_
 refine s_as (v := .bool false) rfl ?_
 refine dn ?_
 refine sr ?_
 refine s_mv (v := u0_0) rfl ?_
 refine s_call [u0_0] _ Try.func52 rfl rfl rfl (c_impl_AreDegrees a0 h _ (hC.getP 0 rfl)) (fun ret5 w7 hR6 => ?_)
 obtain ⟨r8, rfl, h, hB9⟩ := hR6
 refine ⟨_, rfl, ?_⟩
 replace hC := hC.grow hB9
 refine s_mv (v := .bool r8) rfl ?_
 refine bsplit r8 (fun hb10 => ?_) (fun hb10 => ?_)
 ·replace h := ift h (hb10)
  refine guardOn 2 7 rfl rfl hb10 ?_
  refine s_mv (v := u0_0) rfl ?_
  refine guardOn 2 7 rfl rfl hb10 ?_
  refine s_loadA hC 0 (A8.enc .u8 a1) rfl ag24 rfl rfl rfl ?_
  refine guardOn 2 7 rfl rfl hb10 ?_
  refine s_call [u0_0, .agg (List.toArray (A8.enc .u8 a1))] _ Try.func101 rfl rfl rfl (c_impl_isMonomial a0 a1 h _ (hC.getP 0 rfl)) (fun ret11 w13 hR12 => ?_)
  obtain ⟨r14, rfl, h, hB15⟩ := hR12
  refine ⟨_, rfl, ?_⟩
  replace hC := hC.grow hB15
  refine s_pick (v := .bool r14) (b := true) (tr rfl (congrArg _ hb10)) rfl ?_
  refine s_as (v := .bool r14) rfl ?_
  refine dn ?_
  refine wp_ret ?_
  refine ret1 (fn := Try.f50) rfl ?_ ⟨r14, rfl, h, hC.below⟩ (.inl rfl)
  exact res_tmp rfl
 ·replace h := iff_ h (ne_t hb10)
  refine guardOff (b := false) 2 7 rfl (tr rfl (congrArg _ hb10)) (by decide) ?_
  refine guardOff (b := false) 2 7 rfl (tr rfl (congrArg _ hb10)) (by decide) ?_
  refine guardOff (b := false) 2 7 rfl (tr rfl (congrArg _ hb10)) (by decide) ?_
  refine s_pick (v := .bool false) (b := false) (tr rfl (congrArg _ hb10)) rfl ?_
  refine s_as (v := .bool false) rfl ?_
  refine dn ?_
  refine wp_ret ?_
  refine ret1 (fn := Try.f50) rfl ?_ ⟨false, rfl, h, hC.below⟩ (.inl rfl)
  exact res_tmp rfl
def f_impl_MultiplyMonomials (a0 : List Int) (a1 : A8) (a2 : A8) (K : A8 → Int → Int → Prop) : Prop :=
 f_impl_IsMonomial a0 a1 (fun r14 => (if ¬ (r14 = true) then K A8.zero 0 1 else f_impl_IsMonomial a0 a2 (fun r21 => (if ¬ (r21 = true) then K A8.zero 0 1 else f_impl_powerOf a1 (fun r129 => f_impl_powerOf a2 (fun r134 => f_impl_power_times r129 a0 r134 (fun r139 r140 => (if r140 = 0 then K A8.zero 0 0 else f_impl_sum_form (mset ([] : List (A8 × Int)) r139 1) (fun r103 r108 => (if r108 ≠ 0 then K A8.zero 0 r108 else ((0 ≤ (0 : Int) ∧ (0 : Int) < (r103.terms.length : Int)) ∧ K ((r103.terms.getD 0 default).mono) r140 0)))))))))))
theorem c_impl_MultiplyMonomials (a0 : List Int) (a1 : A8) (a2 : A8) {u0_0 : Value} {fp0 : List Nat} {K : A8 → Int → Int → Prop} (h : f_impl_MultiplyMonomials a0 a1 a2 K) (w0 : World) (q0 : ((EI .i64).ty.sl).rep a0 [u0_0] fp0 w0) :
  Calls Try.prog 16 #[u0_0, .agg (List.toArray (A8.enc .u8 a1)), .agg (List.toArray (A8.enc .u8 a2))] w0 fun e w' => ∃ (r0 : A8) (r1 : Int) (r2 : Int), 
   e = .returned (.tuple #[.agg (List.toArray (A8.enc .u8 r0)), .int .i64 r1, .int .i64 r2]) ∧ K r0 r1 r2 ∧ Bel w0 w' := by
 unfold f_impl_MultiplyMonomials at h
 refine calls_of (args := [u0_0, .agg (List.toArray (A8.enc .u8 a1)), .agg (List.toArray (A8.enc .u8 a2))]) Try.func16 rfl 53 Try.ntmps16 (Nat.le_of_ble_eq_true rfl) ?_
 have hC := Ctx.start (X := Nox) w0 [Ty.item ((EI .i64).ty.sl) a0 [u0_0] fp0] (by simp only [List.mem_cons, List.not_mem_nil, or_false, forall_eq_or_imp, forall_eq]; exact q0)
 refine sr ?_
 refine s_box (v := .agg (List.toArray (A8.enc .u8 a1))) hC (A8.enc .u8 a1) rfl rfl fun b2 w4 hB_ hC => ?_
 refine s_box (v := .agg (List.toArray (A8.enc .u8 a2))) hC (A8.enc .u8 a2) rfl rfl fun b5 w7 hB_ hC => ?_
 refine s_alloc hC (A8.enc .u8 A8.zero) z24 rfl fun b8 w10 hB_ hC => ?_
 refine s_as (v := .int .i64 0) rfl ?_
 refine s_as (v := .int .i64 0) rfl ?_
 refine dn ?_
 refine wp_seq ?_
 refine sr ?_
 refine s_mv (v := u0_0) rfl ?_
 refine s_loadA hC 2 (A8.enc .u8 a1) rfl ag24 rfl rfl rfl ?_
 refine s_call [u0_0, .agg (List.toArray (A8.enc .u8 a1))] _ Try.func50 rfl rfl rfl (c_impl_IsMonomial a0 a1 h _ (hC.getP 0 rfl)) (fun ret11 w13 hR12 => ?_)
 obtain ⟨r14, rfl, h, hB15⟩ := hR12
 refine ⟨_, rfl, ?_⟩
 replace hC := hC.grow hB15
 refine s_not rfl ?_
 refine s_mv (v := .bool (!r14)) rfl ?_
 refine bsplit (!r14) (fun hb16 => ?_) (fun hb16 => ?_)
 ·replace h := ift h (ne_t (not_t hb16))
  refine guardOff (b := true) 4 17 rfl (tr rfl (congrArg _ hb16)) (by decide) ?_
  refine guardOff (b := true) 4 17 rfl (tr rfl (congrArg _ hb16)) (by decide) ?_
  refine guardOff (b := true) 4 17 rfl (tr rfl (congrArg _ hb16)) (by decide) ?_
  refine guardOff (b := true) 4 17 rfl (tr rfl (congrArg _ hb16)) (by decide) ?_
  refine s_pick (v := .bool true) (b := true) (tr rfl (congrArg _ hb16)) rfl ?_
  refine dn ?_
  refine cw_true rfl rfl ?_
  refine sr ?_
  refine s_build [] rfl (bl24   _) ?_
  refine s_store (v := .agg (List.toArray (A8.enc .u8 A8.zero))) hC 0 (A8.enc .u8 A8.zero) (A8.enc .u8 A8.zero) rfl ag24.size rfl rfl rfl rfl rfl (Nat.le_of_ble_eq_true rfl) rfl fun w17 hC => ?_
  refine s_as (v := .int .i64 0) rfl ?_
  refine s_as (v := .int .i64 1) rfl ?_
  refine dn ?_
  refine wp_ret (then_ret ?_)
  refine ret3 (fn := Try.f16) rfl ?_ ?_ ?_ ⟨A8.zero, 0, 1, rfl, h, hC.below⟩ (.inl rfl)
  ·exact res_cellA hC 0 rfl ag24 rfl rfl
  ·exact res_tmp rfl
  ·exact res_tmp rfl
 ·replace h := iff_ h (not_not_intro ((not_f hb16)))
  refine guardOn 4 17 rfl rfl hb16 ?_
  refine s_mv (v := u0_0) rfl ?_
  refine guardOn 4 17 rfl rfl hb16 ?_
  refine s_loadA hC 1 (A8.enc .u8 a2) rfl ag24 rfl rfl rfl ?_
  refine guardOn 4 17 rfl rfl hb16 ?_
  refine s_call [u0_0, .agg (List.toArray (A8.enc .u8 a2))] _ Try.func50 rfl rfl rfl (c_impl_IsMonomial a0 a2 h _ (hC.getP 0 rfl)) (fun ret18 w20 hR19 => ?_)
  obtain ⟨r21, rfl, h, hB22⟩ := hR19
  refine ⟨_, rfl, ?_⟩
  replace hC := hC.grow hB22
  refine guardOn 4 17 rfl rfl hb16 ?_
  refine s_not rfl ?_
  refine s_pick (v := .bool (!r21)) (b := false) (tr rfl (congrArg _ hb16)) rfl ?_
  refine dn ?_
  refine cw_cond rfl (fun hb23 => ?_) (fun hb23 => ?_)
  ·replace h := ift h (ne_t (not_t hb23))
   refine sr ?_
   refine s_build [] rfl (bl24   _) ?_
   refine s_store (v := .agg (List.toArray (A8.enc .u8 A8.zero))) hC 0 (A8.enc .u8 A8.zero) (A8.enc .u8 A8.zero) rfl ag24.size rfl rfl rfl rfl rfl (Nat.le_of_ble_eq_true rfl) rfl fun w24 hC => ?_
   refine s_as (v := .int .i64 0) rfl ?_
   refine s_as (v := .int .i64 1) rfl ?_
   refine dn ?_
   refine wp_ret (then_ret ?_)
   refine ret3 (fn := Try.f16) rfl ?_ ?_ ?_ ⟨A8.zero, 0, 1, rfl, h, hC.below⟩ (.inl rfl)
   ·exact res_cellA hC 0 rfl ag24 rfl rfl
   ·exact res_tmp rfl
   ·exact res_tmp rfl
  ·replace h := iff_ h (not_not_intro ((not_f hb23)))
   refine wp_skip ?_
   refine then_norm ?_
   refine wp_seq ?_
   refine cw_draw 10 mixed [0, 1, 0, 0, 11, 31, 63, 127, 127, 0, 767, 2047] [0, 3] [2, 6, 7, 8] (by kernel_rfl) (by kernel_rfl) (by kernel_rfl) (fun hM26 hM27 w25 hB_ => ?_)
   replace hC := hC.grow hB_
   refine ae_look belPre 0 (.agg (List.toArray (A8.enc .u8 a1))) rfl rfl (by kernel_rfl) (hM26 0 rfl) (fun w_ hB_ => .inl ⟨rfl, by exact r_loadA (hC.grow hB_) 2 (A8.enc .u8 a1) rfl ag24 rfl rfl rfl⟩) (listed' := (dbits 12 1)) (by kernel_rfl) ?_
   refine ae_lookF belPre 2 (u0_0) rfl rfl (by kernel_rfl) (hM27 2 rfl) (fun w_ => .inl ⟨rfl, by exact r_mv (v := u0_0) rfl⟩) (listed' := (dbits 12 5)) (by kernel_rfl) ?_
   refine ae_look belPre 3 (.agg (List.toArray (A8.enc .u8 a2))) rfl rfl (by kernel_rfl) (hM26 3 rfl) (fun w_ hB_ => .inl ⟨rfl, by exact r_loadA (hC.grow hB_) 1 (A8.enc .u8 a2) rfl ag24 rfl rfl rfl⟩) (listed' := (dbits 12 13)) (by kernel_rfl) ?_
   refine ae_join (fun e_ w_ => ∃ (b44 : Nat), ∃ (r41 : A8), ∃ (r42 : Int), Slots e_ [(6, .pointer (some ⟨b8, 0, none⟩)), (7, .int .i64 0), (8, .int .i64 0), (9, .pointer (some ⟨b44, 0, none⟩)), (10, .int .i64 r42)] ∧ Ctx Nox w0 w_ [blk b44 85 (A8.enc .i64 r41), blk b8 24 (A8.enc .u8 A8.zero)] [Ty.item ((EI .i64).ty.sl) a0 [u0_0] fp0] ∧ (if r42 = 0 then K A8.zero 0 0 else f_impl_sum_form (mset ([] : List (A8 × Int)) r41 1) (fun r103 r108 => (if r108 ≠ 0 then K A8.zero 0 r108 else ((0 ≤ (0 : Int) ∧ (0 : Int) < (r103.terms.length : Int)) ∧ K ((r103.terms.getD 0 default).mono) r42 0))))) ?_ ?_
   ·clear hC h
    rintro e_ w93 ⟨b44, r41, r42, hS_, hC, h⟩
    refine then_norm ?_
    refine wp_seq ?_
    refine sr ?_
    refine s_mv (v := .int .i64 r42) (sx hS_ 4 rfl) ?_
    refine s_eql rfl rfl ?_
    refine dn ?_
    refine cw_cond rfl (fun hb94 => ?_) (fun hb94 => ?_)
    ·replace h := ift h (ct hb94)
     refine sr ?_
     refine s_build [] rfl (bl24   _) ?_
     refine s_store (v := .agg (List.toArray (A8.enc .u8 A8.zero))) hC 1 (A8.enc .u8 A8.zero) (A8.enc .u8 A8.zero) rfl ag24.size (sx hS_ 0 rfl) rfl rfl rfl rfl (Nat.le_of_ble_eq_true rfl) rfl fun w95 hC => ?_
     refine s_as (v := .int .i64 0) rfl ?_
     refine s_as (v := .int .i64 0) rfl ?_
     refine dn ?_
     refine wp_ret (then_ret ?_)
     refine ret3 (fn := Try.f16) rfl ?_ ?_ ?_ ⟨A8.zero, 0, 0, rfl, h, hC.below⟩ (.inl rfl)
     ·exact res_cellA hC 1 rfl ag24 (sx hS_ 0 rfl) rfl
     ·exact res_tmp rfl
     ·exact res_tmp rfl
    ·replace h := iff_ h (cf hb94)
     refine wp_skip ?_
     refine then_norm ?_
     refine sr ?_
     refine s_makeMap hC (kvA .i64) (vvI .i64) fun b96 w98 hB_ hC => ?_
     refine s_loadA hC 1 (A8.enc .i64 r41) rfl ag85 (sx hS_ 3 rfl) rfl rfl ?_
     refine s_mapset hC 0 r41 1 rfl kt85 Try.underlying90 rfl rfl rfl (fun w99 hC => ?_) (.inr rfl)
     refine s_mv (v := .map (some b96)) rfl ?_
     refine s_call [.map (some b96)] _ Try.func66 rfl rfl rfl (c_impl_sum_form (mset ([] : List (A8 × Int)) r41 1) h _ (hC.getM 0 rfl)) (fun ret100 w102 hR101 => ?_)
     obtain ⟨r103, u104, f105, r108, rfl, h, hr106, hf107, hB109⟩ := hR101
     refine ⟨_, rfl, ?_⟩
     replace hC := hC.push hB109 (Tr.item (TrForm 93) r103 [u104] f105) hr106 hf107
     obtain ⟨ho111, hf112⟩ := form_split (hC.getM 0 rfl)
     subst hf112
     replace hC := hC.recast (c := own 93 9 u104 r103.terms.length (ETerm.encs r103.terms)) (fun _ h_ => h_) (fun _ => ho111)
     refine s_mv (v := .tuple #[.agg #[u104], .int .i64 r108]) rfl ?_
     refine s_ext (v := .agg #[u104]) rfl rfl ?_
     refine s_ext (v := .int .i64 r108) rfl rfl ?_
     refine s_alloc hC [.slice none 0 0] z51 rfl fun b114 w116 hB_ hC => ?_
     refine s_store (v := .agg #[u104]) hC 0 [u104] [u104] rfl ag51.size rfl rfl rfl rfl (all_c (own_oneC (hC.getM 1 rfl)) rfl) (Nat.le_of_ble_eq_true rfl) rfl fun w117 hC => ?_
     refine s_as (v := .int .i64 r108) rfl ?_
     refine dn ?_
     refine wp_seq ?_
     refine sr ?_
     refine s_mv (v := .int .i64 r108) rfl ?_
     refine s_neq rfl rfl ?_
     refine dn ?_
     refine cw_cond rfl (fun hb118 => ?_) (fun hb118 => ?_)
     ·replace h := ift h (ct hb118)
      refine sr ?_
      refine s_build [] rfl (bl24   _) ?_
      refine s_mv (v := .int .i64 r108) rfl ?_
      refine s_store (v := .agg (List.toArray (A8.enc .u8 A8.zero))) hC 4 (A8.enc .u8 A8.zero) (A8.enc .u8 A8.zero) rfl ag24.size (sx hS_ 0 rfl) rfl rfl rfl rfl (Nat.le_of_ble_eq_true rfl) rfl fun w119 hC => ?_
      refine s_as (v := .int .i64 0) rfl ?_
      refine s_as (v := .int .i64 r108) rfl ?_
      refine dn ?_
      refine wp_ret (then_ret ?_)
      refine ret3 (fn := Try.f16) rfl ?_ ?_ ?_ ⟨A8.zero, 0, r108, rfl, h, hC.below⟩ (.inl rfl)
      ·exact res_cellA hC 4 rfl ag24 (sx hS_ 0 rfl) rfl
      ·exact res_tmp rfl
      ·exact res_tmp rfl
     ·replace h := iff_ h (cf hb118)
      refine wp_skip ?_
      refine then_norm ?_
      refine sr ?_
      refine s_faddrB 0 Try.underlying51 rfl sc49.size rfl rfl ?_
      refine s_loadS hC 0 (u104) rfl sc49 rfl rfl ?_
      obtain ⟨⟨h0_120, h1_121⟩, h⟩ := h
      obtain ⟨Ad122, c123, hv124⟩ := own_formE (hC.getM 1 rfl) (Nat.lt_of_le_of_lt (Nat.zero_le _) (show 0 < r103.terms.length by omega))
      refine s_iaddrO (0 * 9) Try.underlying49 ag93.size (tr rfl hv124) rfl h0_120 h1_121 rfl ?_
      refine s_faddrB (0 * 9 + 0) Try.underlying93 rfl ag24.size rfl rfl ?_
      refine s_loadCA (A8.enc .u8 ((r103.terms.getD 0 default).mono)) (cells_subO (o := 0) (k := 8) (own_cellsE (hC.getM 1 rfl) hv124 0 (show 0 < r103.terms.length by omega)) rfl) ag24 rfl rfl ?_
      refine s_mv (v := .int .i64 r42) (sx hS_ 4 rfl) ?_
      refine s_store (v := .agg (List.toArray (A8.enc .u8 ((r103.terms.getD 0 default).mono)))) hC 4 (A8.enc .u8 ((r103.terms.getD 0 default).mono)) (A8.enc .u8 ((r103.terms.getD 0 default).mono)) rfl ag24.size (sx hS_ 0 rfl) rfl rfl rfl rfl (Nat.le_of_ble_eq_true rfl) rfl fun w125 hC => ?_
      refine s_as (v := .int .i64 r42) rfl ?_
      refine s_as (v := .int .i64 0) rfl ?_
      refine dn ?_
      refine wp_ret ?_
      refine ret3 (fn := Try.f16) rfl ?_ ?_ ?_ ⟨(r103.terms.getD 0 default).mono, r42, 0, rfl, h, hC.below⟩ (.inl rfl)
      ·exact res_cellA hC 4 rfl ag24 (sx hS_ 0 rfl) rfl
      ·exact res_tmp rfl
      ·exact res_tmp rfl
   refine ae_two 1 9 rfl rfl (by kernel_rfl) ?_ ?_
   ·skip
    refine s_call [.agg (List.toArray (A8.enc .u8 a1))] _ Try.func64 rfl rfl rfl (c_impl_powerOf a1 h _) (fun ret126 w128 hR127 => ?_)
    obtain ⟨r129, rfl, h, hB130⟩ := hR127
    refine ⟨_, rfl, ?_⟩
    replace hC := hC.grow hB130
    refine done ?_
    refine ak_intro (by assumption) (listed' := (dbits 12 15)) (by kernel_rfl) ?_
    refine ae_two 4 9 rfl rfl (by kernel_rfl) ?_ ?_
    ·skip
     refine s_call [.agg (List.toArray (A8.enc .u8 a2))] _ Try.func64 rfl rfl rfl (c_impl_powerOf a2 h _) (fun ret131 w133 hR132 => ?_)
     obtain ⟨r134, rfl, h, hB135⟩ := hR132
     refine ⟨_, rfl, ?_⟩
     replace hC := hC.grow hB135
     refine done ?_
     refine ak_intro (by assumption) (listed' := (dbits 12 31)) (by kernel_rfl) ?_
     refine ae_two 5 9 rfl rfl (by kernel_rfl) ?_ ?_
     ·skip
      refine s_call [.agg (List.toArray (A8.enc .i64 r129)), u0_0, .agg (List.toArray (A8.enc .i64 r134))] _ Try.func65 rfl rfl rfl (c_impl_power_times r129 a0 r134 h _ (hC.getP 0 rfl)) (fun ret136 w138 hR137 => ?_)
      obtain ⟨r139, r140, rfl, h, hB141⟩ := hR137
      refine ⟨_, rfl, ?_⟩
      replace hC := hC.grow hB141
      refine done ?_
      refine ak_intro (by assumption) (listed' := (dbits 12 63)) (by kernel_rfl) ?_
      refine ae_lookF belPre 6 (.tuple #[.agg (List.toArray (A8.enc .i64 r139)), .int .i64 r140]) rfl rfl (by kernel_rfl) (hM27 6 rfl) (fun w_ => .inl ⟨rfl, by exact r_mv (v := .tuple #[.agg (List.toArray (A8.enc .i64 r139)), .int .i64 r140]) rfl⟩) (listed' := (dbits 12 127)) (by kernel_rfl) ?_
      refine ae_lookF belPre 7 (.agg (List.toArray (A8.enc .i64 r139))) rfl rfl (by kernel_rfl) (hM27 7 rfl) (fun w_ => .inl ⟨rfl, by exact r_ext (v := .agg (List.toArray (A8.enc .i64 r139))) rfl rfl⟩) (listed' := (dbits 12 255)) (by kernel_rfl) ?_
      refine ae_lookF belPre 8 (.int .i64 r140) rfl rfl (by kernel_rfl) (hM27 8 rfl) (fun w_ => .inl ⟨rfl, by exact r_ext (v := .int .i64 r140) rfl rfl⟩) (listed' := (dbits 12 511)) (by kernel_rfl) ?_
      refine ae_one 9 rfl (by kernel_rfl) ?_
      refine s_alloc hC (A8.enc .i64 A8.zero) z85 rfl fun b142 w144 hB_ hC => ?_
      refine done ?_
      refine ak_intro (by assumption) (listed' := (dbits 12 1023)) (by kernel_rfl) ?_
      refine ae_one 10 rfl (by kernel_rfl) ?_
      refine s_store (v := .agg (List.toArray (A8.enc .i64 r139))) hC 0 (A8.enc .i64 r139) (A8.enc .i64 r139) rfl ag85.size rfl rfl rfl rfl rfl (Nat.le_of_ble_eq_true rfl) rfl fun w145 hC => ?_
      refine done ?_
      refine ak_introN (by decide) (listed' := (dbits 12 2047)) (by kernel_rfl) ?_
      refine ae_tail 11 (by decide) (by decide) (by kernel_rfl) (by kernel_rfl) rfl ?_
      refine s_as (v := .int .i64 r140) rfl ?_
      refine done ?_
      refine qn_norm ?_
      replace hC := hC.sel [0, 1] [0] (M' := [blk b142 85 (A8.enc .i64 r139), blk b8 24 (A8.enc .u8 A8.zero)]) (Ps' := [Ty.item ((EI .i64).ty.sl) a0 [u0_0] fp0]) (by decide) rfl rfl
      exact ⟨rfl, _, rfl, ⟨b142, r139, r140, (sk rfl (sk rfl (sk rfl (sk rfl (sk rfl sn))))), hC, h⟩⟩
     ·skip
      refine s_alloc hC (A8.enc .i64 A8.zero) z85 rfl fun b146 w148 hB_ hC => ?_
      refine done ?_
      refine ak_intro (by assumption) (listed' := (dbits 12 543)) (by kernel_rfl) ?_
      refine ae_one 5 rfl (by kernel_rfl) ?_
      refine s_call [.agg (List.toArray (A8.enc .i64 r129)), u0_0, .agg (List.toArray (A8.enc .i64 r134))] _ Try.func65 rfl rfl rfl (c_impl_power_times r129 a0 r134 h _ (hC.getP 0 rfl)) (fun ret149 w151 hR150 => ?_)
      obtain ⟨r152, r153, rfl, h, hB154⟩ := hR150
      refine ⟨_, rfl, ?_⟩
      replace hC := hC.grow hB154
      refine done ?_
      refine ak_intro (by assumption) (listed' := (dbits 12 575)) (by kernel_rfl) ?_
      refine ae_lookF belPre 6 (.tuple #[.agg (List.toArray (A8.enc .i64 r152)), .int .i64 r153]) rfl rfl (by kernel_rfl) (hM27 6 rfl) (fun w_ => .inl ⟨rfl, by exact r_mv (v := .tuple #[.agg (List.toArray (A8.enc .i64 r152)), .int .i64 r153]) rfl⟩) (listed' := (dbits 12 639)) (by kernel_rfl) ?_
      refine ae_lookF belPre 7 (.agg (List.toArray (A8.enc .i64 r152))) rfl rfl (by kernel_rfl) (hM27 7 rfl) (fun w_ => .inl ⟨rfl, by exact r_ext (v := .agg (List.toArray (A8.enc .i64 r152))) rfl rfl⟩) (listed' := (dbits 12 767)) (by kernel_rfl) ?_
      refine ae_lookF belPre 8 (.int .i64 r153) rfl rfl (by kernel_rfl) (hM27 8 rfl) (fun w_ => .inl ⟨rfl, by exact r_ext (v := .int .i64 r153) rfl rfl⟩) (listed' := (dbits 12 1023)) (by kernel_rfl) ?_
      refine ae_one 10 rfl (by kernel_rfl) ?_
      refine s_store (v := .agg (List.toArray (A8.enc .i64 r152))) hC 0 (A8.enc .i64 r152) (A8.enc .i64 r152) rfl ag85.size rfl rfl rfl rfl rfl (Nat.le_of_ble_eq_true rfl) rfl fun w155 hC => ?_
      refine done ?_
      refine ak_introN (by decide) (listed' := (dbits 12 2047)) (by kernel_rfl) ?_
      refine ae_tail 11 (by decide) (by decide) (by kernel_rfl) (by kernel_rfl) rfl ?_
      refine s_as (v := .int .i64 r153) rfl ?_
      refine done ?_
      refine qn_norm ?_
      replace hC := hC.sel [0, 1] [0] (M' := [blk b146 85 (A8.enc .i64 r152), blk b8 24 (A8.enc .u8 A8.zero)]) (Ps' := [Ty.item ((EI .i64).ty.sl) a0 [u0_0] fp0]) (by decide) rfl rfl
      exact ⟨rfl, _, rfl, ⟨b146, r152, r153, (sk rfl (sk rfl (sk rfl (sk rfl (sk rfl sn))))), hC, h⟩⟩
    ·skip
     refine s_alloc hC (A8.enc .i64 A8.zero) z85 rfl fun b156 w158 hB_ hC => ?_
     refine done ?_
     refine ak_intro (by assumption) (listed' := (dbits 12 527)) (by kernel_rfl) ?_
     refine ae_one 4 rfl (by kernel_rfl) ?_
     refine s_call [.agg (List.toArray (A8.enc .u8 a2))] _ Try.func64 rfl rfl rfl (c_impl_powerOf a2 h _) (fun ret159 w161 hR160 => ?_)
     obtain ⟨r162, rfl, h, hB163⟩ := hR160
     refine ⟨_, rfl, ?_⟩
     replace hC := hC.grow hB163
     refine done ?_
     refine ak_intro (by assumption) (listed' := (dbits 12 543)) (by kernel_rfl) ?_
     refine ae_one 5 rfl (by kernel_rfl) ?_
     refine s_call [.agg (List.toArray (A8.enc .i64 r129)), u0_0, .agg (List.toArray (A8.enc .i64 r162))] _ Try.func65 rfl rfl rfl (c_impl_power_times r129 a0 r162 h _ (hC.getP 0 rfl)) (fun ret164 w166 hR165 => ?_)
     obtain ⟨r167, r168, rfl, h, hB169⟩ := hR165
     refine ⟨_, rfl, ?_⟩
     replace hC := hC.grow hB169
     refine done ?_
     refine ak_intro (by assumption) (listed' := (dbits 12 575)) (by kernel_rfl) ?_
     refine ae_lookF belPre 6 (.tuple #[.agg (List.toArray (A8.enc .i64 r167)), .int .i64 r168]) rfl rfl (by kernel_rfl) (hM27 6 rfl) (fun w_ => .inl ⟨rfl, by exact r_mv (v := .tuple #[.agg (List.toArray (A8.enc .i64 r167)), .int .i64 r168]) rfl⟩) (listed' := (dbits 12 639)) (by kernel_rfl) ?_
     refine ae_lookF belPre 7 (.agg (List.toArray (A8.enc .i64 r167))) rfl rfl (by kernel_rfl) (hM27 7 rfl) (fun w_ => .inl ⟨rfl, by exact r_ext (v := .agg (List.toArray (A8.enc .i64 r167))) rfl rfl⟩) (listed' := (dbits 12 767)) (by kernel_rfl) ?_
     refine ae_lookF belPre 8 (.int .i64 r168) rfl rfl (by kernel_rfl) (hM27 8 rfl) (fun w_ => .inl ⟨rfl, by exact r_ext (v := .int .i64 r168) rfl rfl⟩) (listed' := (dbits 12 1023)) (by kernel_rfl) ?_
     refine ae_one 10 rfl (by kernel_rfl) ?_
     refine s_store (v := .agg (List.toArray (A8.enc .i64 r167))) hC 0 (A8.enc .i64 r167) (A8.enc .i64 r167) rfl ag85.size rfl rfl rfl rfl rfl (Nat.le_of_ble_eq_true rfl) rfl fun w170 hC => ?_
     refine done ?_
     refine ak_introN (by decide) (listed' := (dbits 12 2047)) (by kernel_rfl) ?_
     refine ae_tail 11 (by decide) (by decide) (by kernel_rfl) (by kernel_rfl) rfl ?_
     refine s_as (v := .int .i64 r168) rfl ?_
     refine done ?_
     refine qn_norm ?_
     replace hC := hC.sel [0, 1] [0] (M' := [blk b156 85 (A8.enc .i64 r167), blk b8 24 (A8.enc .u8 A8.zero)]) (Ps' := [Ty.item ((EI .i64).ty.sl) a0 [u0_0] fp0]) (by decide) rfl rfl
     exact ⟨rfl, _, rfl, ⟨b156, r167, r168, (sk rfl (sk rfl (sk rfl (sk rfl (sk rfl sn))))), hC, h⟩⟩
   ·skip
    refine s_alloc hC (A8.enc .i64 A8.zero) z85 rfl fun b171 w173 hB_ hC => ?_
    refine done ?_
    refine ak_intro (by assumption) (listed' := (dbits 12 525)) (by kernel_rfl) ?_
    refine ae_one 1 rfl (by kernel_rfl) ?_
    refine s_call [.agg (List.toArray (A8.enc .u8 a1))] _ Try.func64 rfl rfl rfl (c_impl_powerOf a1 h _) (fun ret174 w176 hR175 => ?_)
    obtain ⟨r177, rfl, h, hB178⟩ := hR175
    refine ⟨_, rfl, ?_⟩
    replace hC := hC.grow hB178
    refine done ?_
    refine ak_intro (by assumption) (listed' := (dbits 12 527)) (by kernel_rfl) ?_
    refine ae_one 4 rfl (by kernel_rfl) ?_
    refine s_call [.agg (List.toArray (A8.enc .u8 a2))] _ Try.func64 rfl rfl rfl (c_impl_powerOf a2 h _) (fun ret179 w181 hR180 => ?_)
    obtain ⟨r182, rfl, h, hB183⟩ := hR180
    refine ⟨_, rfl, ?_⟩
    replace hC := hC.grow hB183
    refine done ?_
    refine ak_intro (by assumption) (listed' := (dbits 12 543)) (by kernel_rfl) ?_
    refine ae_one 5 rfl (by kernel_rfl) ?_
    refine s_call [.agg (List.toArray (A8.enc .i64 r177)), u0_0, .agg (List.toArray (A8.enc .i64 r182))] _ Try.func65 rfl rfl rfl (c_impl_power_times r177 a0 r182 h _ (hC.getP 0 rfl)) (fun ret184 w186 hR185 => ?_)
    obtain ⟨r187, r188, rfl, h, hB189⟩ := hR185
    refine ⟨_, rfl, ?_⟩
    replace hC := hC.grow hB189
    refine done ?_
    refine ak_intro (by assumption) (listed' := (dbits 12 575)) (by kernel_rfl) ?_
    refine ae_lookF belPre 6 (.tuple #[.agg (List.toArray (A8.enc .i64 r187)), .int .i64 r188]) rfl rfl (by kernel_rfl) (hM27 6 rfl) (fun w_ => .inl ⟨rfl, by exact r_mv (v := .tuple #[.agg (List.toArray (A8.enc .i64 r187)), .int .i64 r188]) rfl⟩) (listed' := (dbits 12 639)) (by kernel_rfl) ?_
    refine ae_lookF belPre 7 (.agg (List.toArray (A8.enc .i64 r187))) rfl rfl (by kernel_rfl) (hM27 7 rfl) (fun w_ => .inl ⟨rfl, by exact r_ext (v := .agg (List.toArray (A8.enc .i64 r187))) rfl rfl⟩) (listed' := (dbits 12 767)) (by kernel_rfl) ?_
    refine ae_lookF belPre 8 (.int .i64 r188) rfl rfl (by kernel_rfl) (hM27 8 rfl) (fun w_ => .inl ⟨rfl, by exact r_ext (v := .int .i64 r188) rfl rfl⟩) (listed' := (dbits 12 1023)) (by kernel_rfl) ?_
    refine ae_one 10 rfl (by kernel_rfl) ?_
    refine s_store (v := .agg (List.toArray (A8.enc .i64 r187))) hC 0 (A8.enc .i64 r187) (A8.enc .i64 r187) rfl ag85.size rfl rfl rfl rfl rfl (Nat.le_of_ble_eq_true rfl) rfl fun w190 hC => ?_
    refine done ?_
    refine ak_introN (by decide) (listed' := (dbits 12 2047)) (by kernel_rfl) ?_
    refine ae_tail 11 (by decide) (by decide) (by kernel_rfl) (by kernel_rfl) rfl ?_
    refine s_as (v := .int .i64 r188) rfl ?_
    refine done ?_
    refine qn_norm ?_
    replace hC := hC.sel [0, 1] [0] (M' := [blk b171 85 (A8.enc .i64 r187), blk b8 24 (A8.enc .u8 A8.zero)]) (Ps' := [Ty.item ((EI .i64).ty.sl) a0 [u0_0] fp0]) (by decide) rfl rfl
    exact ⟨rfl, _, rfl, ⟨b171, r187, r188, (sk rfl (sk rfl (sk rfl (sk rfl (sk rfl sn))))), hC, h⟩⟩
end Go.Proofs.Ytjngkbalaipdbaa
