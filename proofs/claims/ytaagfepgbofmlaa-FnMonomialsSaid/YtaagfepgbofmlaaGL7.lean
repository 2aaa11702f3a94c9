/- Printed by vcgen.py: functions of the program as predicates, and that the machine's calls meet them. -/
import Derived.Test.YtaagfepgbofmlaaGL7a
set_option linter.unusedVariables false
set_option linter.unusedSimpArgs false
set_option maxRecDepth 4000
set_option maxHeartbeats 4000000
namespace Go.Proofs.Ytaagfepgbofmlaa
open Go Go.RowKit Vc
def f_impl_monomials (a0 : List Int) (a1 : Int) (a2 : Int) (K : List A8 → Bool → Prop) : Prop :=
 (if a1 ≥ 0 then f_impl_lister_from 9 (⟨a0, a2, []⟩ : List Int × Int × List A8) 0 A8.zero a1 (fun m11 => K m11 (decide ((m11.length : Int) ≤ a2))) else K [] (decide (0 ≤ a2)))
theorem c_impl_monomials (a0 : List Int) (a1 : Int) (a2 : Int) {u0_0 : Value} {fp0 : List Nat} {K : List A8 → Bool → Prop} (h : f_impl_monomials a0 a1 a2 K) (w0 : World) (q0 : ((EI .i64).ty.sl).rep a0 [u0_0] fp0 w0) :
  Calls Try.prog 91 #[u0_0, .int .i64 a1, .int .i64 a2] w0 fun e w' => ∃ (r0 : List A8) (z0_0 : Value) (fz0 : List Nat) (r1 : Bool), 
   e = .returned (.tuple #[z0_0, .bool r1]) ∧ K r0 r1 ∧ (Tr.item (Tr.sl 101 ((EA .i64).tr)) r0 [z0_0] fz0).holds w' ∧ (∀ b, b ∈ fz0 → w0.heap.size ≤ b) ∧ Bel w0 w' := by
 unfold f_impl_monomials at h
 refine calls_of (args := [u0_0, .int .i64 a1, .int .i64 a2]) Try.func91 rfl 30 Try.ntmps91 (Nat.le_of_ble_eq_true rfl) ?_
 have hC := Ctx.start (X := Nox) w0 [Ty.item ((EI .i64).ty.sl) a0 [u0_0] fp0] (by simp only [List.mem_cons, List.not_mem_nil, or_false, forall_eq_or_imp, forall_eq]; exact q0)
 refine sr ?_
 refine s_as (v := .slice none 0 0) rfl ?_
 refine s_as (v := .bool false) rfl ?_
 refine dn ?_
 refine sr ?_
 refine s_mv (v := u0_0) rfl ?_
 refine s_mv (v := .int .i64 a2) rfl ?_
 refine s_build [(0, u0_0), (1, .int .i64 a2)] rfl (bl175_0sl_1int u0_0 a2 (rep_isSl (hC.getP 0 rfl)) _) ?_
 refine s_box (v := .agg #[u0_0, .int .i64 a2, .slice none 0 0]) hC [u0_0, .int .i64 a2, .slice none 0 0] rfl rfl fun b2 w4 hB_ hC => ?_
 refine s_as (v := .pointer (some ⟨b2, 0, none⟩)) rfl ?_
 refine dn ?_
 refine wp_seq ?_
 refine sr ?_
 refine s_mv (v := .int .i64 a1) rfl ?_
 refine s_geq rfl rfl ?_
 refine dn ?_
 refine cw_cond rfl (fun hb5 => ?_) (fun hb5 => ?_)
 ·replace h := ift h (ct hb5)
  refine cw_region ?_
  refine s_mv (v := .pointer (some ⟨b2, 0, none⟩)) rfl ?_
  refine s_build [] rfl (bl101   _) ?_
  refine s_mv (v := .int .i64 a1) rfl ?_
  replace hC := hC.pushNil 101 8
  replace hC := hC.sM [1, 0] (M' := [blk b2 175 [u0_0, .int .i64 a2, .slice none 0 0], own 101 8 (.slice none 0 0) 0 ((EA .i64).encs [])]) (by decide) rfl
  refine s_call [.pointer (some ⟨b2, 0, none⟩), .int .i64 0, .agg (List.toArray (A8.enc .i64 A8.zero)), .int .i64 a1] _ Try.func127 rfl rfl rfl (c_impl_lister_from 9 (⟨a0, a2, []⟩ : List Int × Int × List A8) 0 A8.zero a1 h _ (hC.getP 0 rfl) (hC.getM 0 rfl) (hC.getM 1 rfl) (fun hb_ => hC.mm 0 1 rfl rfl (by decide) _ (List.mem_singleton_self _) hb_) (fun b_ hb_ hb2_ => (List.mem_cons.1 hb2_).elim (fun e_ => hC.pd _ (List.mem_of_getElem? (i := 0) rfl) b_ hb_ _ (List.mem_of_getElem? (i := 0) rfl) (List.mem_singleton.2 e_)) (fun hb2_ => hC.pd _ (List.mem_of_getElem? (i := 0) rfl) b_ hb_ _ (List.mem_of_getElem? (i := 1) rfl) hb2_))) (fun ret7 w9 hR8 => ?_)
  obtain ⟨m11, v12, rfl, h, hm13, hm14, hm15, hB10⟩ := hR8
  refine ⟨_, rfl, ?_⟩
  replace hC := hC.turnS hB10 hm13 hm14 hm15
  refine dn ?_
  refine wp_seq ?_
  refine cw_draw 12 mixed [0, 1, 3, 7, 0, 16, 48, 112, 240, 0, 1008, 15, 4095] [3, 7, 8] [0, 1, 2, 4, 5, 6, 9, 10, 11] (by kernel_rfl) (by kernel_rfl) (by kernel_rfl) (fun hM17 hM18 w16 hB_ => ?_)
  replace hC := hC.grow hB_
  refine aF 0 (.pointer (some ⟨b2, 0, none⟩)) rfl rfl (hM18 0 rfl) (rfl) (fun _ => by exact r_mv (v := .pointer (some ⟨b2, 0, none⟩)) rfl) (dbits 13 1) ?_
  refine aF 1 (.pointer (some ⟨b2, 0, none⟩)) rfl rfl (hM18 1 rfl) (rfl) (fun _ => by exact r_nilchk rfl) (dbits 13 3) ?_
  refine aF 2 (.pointer (some ⟨b2, 2, none⟩)) rfl rfl (hM18 2 rfl) (rfl) (fun _ => by exact r_faddrB 2 Try.underlying175 rfl sc121.size rfl rfl) (dbits 13 7) ?_
  refine aL 3 (v12) rfl rfl (hM17 3 rfl) (rfl) (fun _ hB_ => by exact r_loadS (hC.grow hB_) 0 (v12) rfl sc121 rfl rfl) (dbits 13 15) ?_
  refine aF 4 (.pointer (some ⟨b2, 0, none⟩)) rfl rfl (hM18 4 rfl) (rfl) (fun _ => by exact r_mv (v := .pointer (some ⟨b2, 0, none⟩)) rfl) (dbits 13 31) ?_
  refine aF 5 (.pointer (some ⟨b2, 0, none⟩)) rfl rfl (hM18 5 rfl) (rfl) (fun _ => by exact r_nilchk rfl) (dbits 13 63) ?_
  refine aF 6 (.pointer (some ⟨b2, 2, none⟩)) rfl rfl (hM18 6 rfl) (rfl) (fun _ => by exact r_faddrB 2 Try.underlying175 rfl sc121.size rfl rfl) (dbits 13 127) ?_
  refine aL 7 (v12) rfl rfl (hM17 7 rfl) (rfl) (fun _ hB_ => by exact r_loadS (hC.grow hB_) 0 (v12) rfl sc121 rfl rfl) (dbits 13 255) ?_
  obtain ⟨Ad19, c20, hv21⟩ := own_form (hC.getM 1 rfl)
  refine aL 8 (.int .i64 (m11.length : Int)) rfl rfl (hM17 8 rfl) (rfl) (fun _ hB_ => by exact r_len Try.underlying121 (by exact tr rfl hv21)) (dbits 13 511) ?_
  refine aF 9 (.int .i64 a2) rfl rfl (hM18 9 rfl) (rfl) (fun _ => by exact r_mv (v := .int .i64 a2) rfl) (dbits 13 1023) ?_
  refine aF 10 (.bool (decide ((m11.length : Int) ≤ a2))) rfl rfl (hM18 10 rfl) (rfl) (fun _ => by exact r_leq rfl rfl) (dbits 13 2047) ?_
  refine aF 11 (v12) rfl rfl (hM18 11 rfl) (rfl) (fun _ => by exact r_as (v := v12) rfl) (dbits 13 4095) ?_
  refine ae_tail 12 (by decide) (by decide) (by kernel_rfl) (by kernel_rfl) rfl ?_
  refine s_as (v := .bool (decide ((m11.length : Int) ≤ a2))) rfl ?_
  refine done ?_
  refine qn_norm ?_
  refine then_norm ?_
  refine wp_ret ?_
  refine ret2 (fn := Try.f91) rfl ?_ ?_ ⟨m11, v12, (Option.toList (Value.ownBlock v12)), decide ((m11.length : Int) ≤ a2), rfl, h, (own_item (hC.getM 1 rfl)), (own_fresh hC 1 rfl), hC.below⟩ (.inl rfl)
  ·exact res_tmp rfl
  ·exact res_tmp rfl
 ·replace h := iff_ h (cf hb5)
  refine wp_skip ?_
  refine then_norm ?_
  refine wp_seq ?_
  refine cw_draw 12 mixed [0, 1, 3, 7, 0, 16, 48, 112, 240, 0, 1008, 15, 4095] [3, 7, 8] [0, 1, 2, 4, 5, 6, 9, 10, 11] (by kernel_rfl) (by kernel_rfl) (by kernel_rfl) (fun hM23 hM24 w22 hB_ => ?_)
  replace hC := hC.grow hB_
  refine aF 0 (.pointer (some ⟨b2, 0, none⟩)) rfl rfl (hM24 0 rfl) (rfl) (fun _ => by exact r_mv (v := .pointer (some ⟨b2, 0, none⟩)) rfl) (dbits 13 1) ?_
  refine aF 1 (.pointer (some ⟨b2, 0, none⟩)) rfl rfl (hM24 1 rfl) (rfl) (fun _ => by exact r_nilchk rfl) (dbits 13 3) ?_
  refine aF 2 (.pointer (some ⟨b2, 2, none⟩)) rfl rfl (hM24 2 rfl) (rfl) (fun _ => by exact r_faddrB 2 Try.underlying175 rfl sc121.size rfl rfl) (dbits 13 7) ?_
  refine aL 3 (.slice none 0 0) rfl rfl (hM23 3 rfl) (rfl) (fun _ hB_ => by exact r_loadS (hC.grow hB_) 0 (.slice none 0 0) rfl sc121 rfl rfl) (dbits 13 15) ?_
  refine aF 4 (.pointer (some ⟨b2, 0, none⟩)) rfl rfl (hM24 4 rfl) (rfl) (fun _ => by exact r_mv (v := .pointer (some ⟨b2, 0, none⟩)) rfl) (dbits 13 31) ?_
  refine aF 5 (.pointer (some ⟨b2, 0, none⟩)) rfl rfl (hM24 5 rfl) (rfl) (fun _ => by exact r_nilchk rfl) (dbits 13 63) ?_
  refine aF 6 (.pointer (some ⟨b2, 2, none⟩)) rfl rfl (hM24 6 rfl) (rfl) (fun _ => by exact r_faddrB 2 Try.underlying175 rfl sc121.size rfl rfl) (dbits 13 127) ?_
  refine aL 7 (.slice none 0 0) rfl rfl (hM23 7 rfl) (rfl) (fun _ hB_ => by exact r_loadS (hC.grow hB_) 0 (.slice none 0 0) rfl sc121 rfl rfl) (dbits 13 255) ?_
  refine aL 8 (.int .i64 0) rfl rfl (hM23 8 rfl) (rfl) (fun _ hB_ => by exact r_len Try.underlying121 rfl) (dbits 13 511) ?_
  refine aF 9 (.int .i64 a2) rfl rfl (hM24 9 rfl) (rfl) (fun _ => by exact r_mv (v := .int .i64 a2) rfl) (dbits 13 1023) ?_
  refine aF 10 (.bool (decide (0 ≤ a2))) rfl rfl (hM24 10 rfl) (rfl) (fun _ => by exact r_leq rfl rfl) (dbits 13 2047) ?_
  refine aF 11 (.slice none 0 0) rfl rfl (hM24 11 rfl) (rfl) (fun _ => by exact r_as (v := .slice none 0 0) rfl) (dbits 13 4095) ?_
  refine ae_tail 12 (by decide) (by decide) (by kernel_rfl) (by kernel_rfl) rfl ?_
  refine s_as (v := .bool (decide (0 ≤ a2))) rfl ?_
  refine done ?_
  refine qn_norm ?_
  refine then_norm ?_
  refine wp_ret ?_
  refine ret2 (fn := Try.f91) rfl ?_ ?_ ⟨[], .slice none 0 0, [], decide (0 ≤ a2), rfl, h, (nil_item _ _ _), (fun b hb => absurd hb (by simp)), hC.below⟩ (.inl rfl)
  ·exact res_tmp rfl
  ·exact res_tmp rfl
def f_impl_MonomialsOf (a0 : List Int) (a1 : Int) (K : List A8 → Int → Prop) : Prop :=
 f_impl_AreDegrees a0 (fun r5 => f_impl_when (!r5) 1 (fun r10 => f_impl_within a1 0 40 (fun r15 => f_impl_when (!r15) 2 (fun r20 => f_impl_first [r10, r20] (fun r28 => (if r28 ≠ 0 then K [] r28 else f_impl_monomials a0 a1 400 (fun r34 r39 => (if ¬ (r39 = true) then K [] 3 else forN (fun i139 (s140 : (List A8)) next143 => f_impl_sum_form (mset ([] : List (A8 × Int)) (r34.getD i139 default) 1) (fun r162 r167 => ((0 ≤ (0 : Int) ∧ (0 : Int) < (r162.terms.length : Int)) ∧ (Room (s140.length + 1) 8 ∧ next143 (s140 ++ [(r162.terms.getD 0 default).mono]))))) (fun (s140 : (List A8)) => K s140 0) r34.length 0 []))))))))
theorem c_impl_MonomialsOf (a0 : List Int) (a1 : Int) {u0_0 : Value} {fp0 : List Nat} {K : List A8 → Int → Prop} (h : f_impl_MonomialsOf a0 a1 K) (w0 : World) (q0 : ((EI .i64).ty.sl).rep a0 [u0_0] fp0 w0) :
  Calls Try.prog 34 #[u0_0, .int .i64 a1] w0 fun e w' => ∃ (r0 : List A8) (z0_0 : Value) (fz0 : List Nat) (r1 : Int), 
   e = .returned (.tuple #[z0_0, .int .i64 r1]) ∧ K r0 r1 ∧ (Tr.item (Tr.sl 49 ((EA .u8).tr)) r0 [z0_0] fz0).holds w' ∧ (∀ b, b ∈ fz0 → w0.heap.size ≤ b) ∧ Bel w0 w' := by
 unfold f_impl_MonomialsOf at h
 refine calls_of (args := [u0_0, .int .i64 a1]) Try.func34 rfl 59 Try.ntmps34 (Nat.le_of_ble_eq_true rfl) ?_
 have hC := Ctx.start (X := Nox) w0 [Ty.item ((EI .i64).ty.sl) a0 [u0_0] fp0] (by simp only [List.mem_cons, List.not_mem_nil, or_false, forall_eq_or_imp, forall_eq]; exact q0)
 refine sr ?_
 refine s_as (v := .slice none 0 0) rfl ?_
 refine s_as (v := .int .i64 0) rfl ?_
 refine dn ?_
 refine wp_seq ?_
 refine sr ?_
 refine s_mv (v := u0_0) rfl ?_
 refine s_call [u0_0] _ Try.func30 rfl rfl rfl (c_impl_AreDegrees a0 h _ (hC.getP 0 rfl)) (fun ret2 w4 hR3 => ?_)
 obtain ⟨r5, rfl, h, hB6⟩ := hR3
 refine ⟨_, rfl, ?_⟩
 replace hC := hC.grow hB6
 refine s_not rfl ?_
 refine s_call [.bool (!r5), .int .i64 1] _ Try.func47 rfl rfl rfl (c_impl_when (!r5) 1 h _) (fun ret7 w9 hR8 => ?_)
 obtain ⟨r10, rfl, h, hB11⟩ := hR8
 refine ⟨_, rfl, ?_⟩
 replace hC := hC.grow hB11
 refine s_mv (v := .int .i64 a1) rfl ?_
 refine s_call [.int .i64 a1, .int .i64 0, .int .i64 40] _ Try.func48 rfl rfl rfl (c_impl_within a1 0 40 h _) (fun ret12 w14 hR13 => ?_)
 obtain ⟨r15, rfl, h, hB16⟩ := hR13
 refine ⟨_, rfl, ?_⟩
 replace hC := hC.grow hB16
 refine s_not rfl ?_
 refine s_call [.bool (!r15), .int .i64 2] _ Try.func47 rfl rfl rfl (c_impl_when (!r15) 2 h _) (fun ret17 w19 hR18 => ?_)
 obtain ⟨r20, rfl, h, hB21⟩ := hR18
 refine ⟨_, rfl, ?_⟩
 replace hC := hC.grow hB21
 refine s_bslice (sz := 1) hC [(0, .int .i64 r10), (1, .int .i64 r20)] ((EI .i64).encs [r10, r20]) rfl (fun _ => bs22_2 r10 r20 _) rfl (by decide) fun b22 w23 hB_ hC => ?_
 refine s_call [.slice (some ⟨b22, 0, none⟩) 2 2] _ Try.func45 rfl rfl rfl (c_impl_first [r10, r20] h _ (own_repE (hC.getM 0 rfl))) (fun ret25 w27 hR26 => ?_)
 obtain ⟨r28, rfl, h, hB29⟩ := hR26
 refine ⟨_, rfl, ?_⟩
 replace hC := hC.grow hB29
 refine s_as (v := .int .i64 r28) rfl ?_
 refine dn ?_
 refine sr ?_
 refine s_mv (v := .int .i64 r28) rfl ?_
 refine s_neq rfl rfl ?_
 refine dn ?_
 refine cw_cond rfl (fun hb30 => ?_) (fun hb30 => ?_)
 ·replace h := ift h (ct hb30)
  refine sr ?_
  refine s_mv (v := .int .i64 r28) rfl ?_
  refine s_as (v := .slice none 0 0) rfl ?_
  refine s_as (v := .int .i64 r28) rfl ?_
  refine dn ?_
  refine wp_ret (then_ret ?_)
  refine ret2 (fn := Try.f34) rfl ?_ ?_ ⟨[], .slice none 0 0, [], r28, rfl, h, (nil_item _ _ _), (fun b hb => absurd hb (by simp)), hC.below⟩ (.inl rfl)
  ·exact res_tmp rfl
  ·exact res_tmp rfl
 ·replace h := iff_ h (cf hb30)
  refine wp_skip ?_
  refine then_norm ?_
  refine sr ?_
  refine s_mv (v := u0_0) rfl ?_
  refine s_mv (v := .int .i64 a1) rfl ?_
  refine s_call [u0_0, .int .i64 a1, .int .i64 400] _ Try.func91 rfl rfl rfl (c_impl_monomials a0 a1 400 h _ (hC.getP 0 rfl)) (fun ret31 w33 hR32 => ?_)
  obtain ⟨r34, u35, f36, r39, rfl, h, hr37, hf38, hB40⟩ := hR32
  refine ⟨_, rfl, ?_⟩
  replace hC := hC.push hB40 (Tr.item (Tr.sl 101 ((EA .i64).tr)) r34 [u35] f36) hr37 hf38
  obtain ⟨ho42, hf43⟩ := flat_tr (hC.getM 0 rfl).1
  subst hf43
  replace hC := hC.recast (c := own 101 8 u35 r34.length ((EA .i64).encs r34)) (fun _ h_ => h_) (fun _ => ho42)
  refine s_mv (v := .tuple #[u35, .bool r39]) rfl ?_
  refine s_ext (v := u35) rfl rfl ?_
  refine s_ext (v := .bool r39) rfl rfl ?_
  refine s_as (v := u35) rfl ?_
  refine s_as (v := .bool r39) rfl ?_
  refine dn ?_
  refine wp_seq ?_
  refine sr ?_
  refine s_mv (v := .bool r39) rfl ?_
  refine s_not rfl ?_
  refine dn ?_
  refine cw_cond rfl (fun hb45 => ?_) (fun hb45 => ?_)
  ·replace h := ift h (ne_t (not_t hb45))
   refine sr ?_
   refine s_as (v := .slice none 0 0) rfl ?_
   refine s_as (v := .int .i64 3) rfl ?_
   refine dn ?_
   refine wp_ret (then_ret ?_)
   refine ret2 (fn := Try.f34) rfl ?_ ?_ ⟨[], .slice none 0 0, [], 3, rfl, h, (nil_item _ _ _), (fun b hb => absurd hb (by simp)), hC.below⟩ (.inl rfl)
   ·exact res_tmp rfl
   ·exact res_tmp rfl
  ·replace h := iff_ h (not_not_intro ((not_f hb45)))
   refine wp_skip ?_
   refine then_norm ?_
   refine sr ?_
   refine s_bslice (sz := 8) hC [] ((EA .u8).encs []) rfl (fun _ => bs59_0  _) rfl (by decide) fun b46 w47 hB_ hC => ?_
   refine s_as (v := .slice (some ⟨b46, 0, none⟩) 0 0) rfl ?_
   refine dn ?_
   refine wp_seq ?_
   refine sr ?_
   refine s_mv (v := u35) rfl ?_
   obtain ⟨Ad49, c50, hv51⟩ := own_form (hC.getM 1 rfl)
   refine s_len Try.underlying121 (tr rfl hv51) ?_
   refine s_mv (v := .int .i64 0) rfl ?_
   refine dn ?_
   refine wp_block ?_
   have hN142 : r34.length ≤ 9223372036854775807 := own_max (hC.getM 1 rfl)
   refine loopN (S := (List A8)) _ _ (fun i139 s140 e_ w_ => ∃ (v141 : Value), Slots e_ [(4, .slice none 0 0), (5, .int .i64 0), (9, v141), (36, u35), (37, .int .i64 (r34.length : Int)), (38, .int .i64 (i139 : Int))] ∧ Ctx Nox w0 w_ [own 49 8 v141 s140.length ((EA .u8).encs s140), own 101 8 u35 r34.length ((EA .i64).encs r34)] [Ty.item ((EI .i64).ty.sl) a0 [u0_0] fp0]) r34.length ?_ ?_ (s0 := []) ?_ h
   ·clear hC h
    rintro i139 s140 e_ w147 next143 K144 hi146 ⟨v141, hS_, hC⟩ h hK145
    refine sr ?_
    refine s_lss (sx hS_ 5 rfl) (sx hS_ 4 rfl) ?_
    refine dn ?_
    refine wp_seq ?_
    refine cw_true rfl (decide_eq_true (by omega)) ?_
    refine wp_skip ?_
    refine then_norm ?_
    refine wp_seq ?_
    refine wp_block ?_
    refine sr ?_
    obtain ⟨Ad148, c149, hv150⟩ := own_formE (hC.getM 1 rfl) (Nat.lt_of_le_of_lt (Nat.zero_le _) hi146)
    refine s_iaddrO (i139 * 8) Try.underlying121 ag101.size (tr (sx hS_ 3 rfl) hv150) (sx hS_ 5 rfl) (Int.natCast_nonneg _) (Int.ofNat_lt.2 hi146) rfl ?_
    refine s_loadCA (A8.enc .i64 (r34.getD i139 default)) (own_cellsE (hC.getM 1 rfl) hv150 i139 hi146) ag101 rfl rfl ?_
    refine s_alloc hC (A8.enc .i64 A8.zero) z101 rfl fun b151 w153 hB_ hC => ?_
    refine s_store (v := .agg (List.toArray (A8.enc .i64 (r34.getD i139 default)))) hC 0 (A8.enc .i64 (r34.getD i139 default)) (A8.enc .i64 (r34.getD i139 default)) rfl ag101.size rfl rfl rfl rfl rfl (Nat.le_of_ble_eq_true rfl) rfl fun w154 hC => ?_
    refine dn ?_
    refine sr ?_
    refine s_makeMap hC (kvA .i64) (vvI .i64) fun b155 w157 hB_ hC => ?_
    refine s_loadA hC 1 (A8.enc .i64 (r34.getD i139 default)) rfl ag101 rfl rfl rfl ?_
    refine s_mapset hC 0 (r34.getD i139 default) 1 rfl kt101 Try.underlying99 rfl rfl rfl (fun w158 hC => ?_) (.inr rfl)
    refine s_mv (v := .map (some b155)) rfl ?_
    refine s_call [.map (some b155)] _ Try.func73 rfl rfl rfl (c_impl_sum_form (mset ([] : List (A8 × Int)) (r34.getD i139 default) 1) h _ (hC.getM 0 rfl)) (fun ret159 w161 hR160 => ?_)
    obtain ⟨r162, u163, f164, r167, rfl, h, hr165, hf166, hB168⟩ := hR160
    refine ⟨_, rfl, ?_⟩
    replace hC := hC.push hB168 (Tr.item (TrForm 114) r162 [u163] f164) hr165 hf166
    obtain ⟨ho170, hf171⟩ := form_split (hC.getM 0 rfl)
    subst hf171
    replace hC := hC.recast (c := own 114 9 u163 r162.terms.length (ETerm.encs r162.terms)) (fun _ h_ => h_) (fun _ => ho170)
    refine s_mv (v := .tuple #[.agg #[u163], .int .i64 r167]) rfl ?_
    refine s_ext (v := .agg #[u163]) rfl rfl ?_
    refine s_ext (v := .int .i64 r167) rfl rfl ?_
    refine s_alloc hC [.slice none 0 0] z95 rfl fun b173 w175 hB_ hC => ?_
    refine s_store (v := .agg #[u163]) hC 0 [u163] [u163] rfl ag95.size rfl rfl rfl rfl (all_c (own_oneC (hC.getM 1 rfl)) rfl) (Nat.le_of_ble_eq_true rfl) rfl fun w176 hC => ?_
    refine s_as (v := .int .i64 r167) rfl ?_
    refine dn ?_
    refine cw_region ?_
    refine s_mv (v := v141) (sx hS_ 2 rfl) ?_
    refine s_faddrB 0 Try.underlying95 rfl sc93.size rfl rfl ?_
    refine s_loadS hC 0 (u163) rfl sc93 rfl rfl ?_
    obtain ⟨⟨h0_177, h1_178⟩, h⟩ := h
    obtain ⟨Ad179, c180, hv181⟩ := own_formE (hC.getM 1 rfl) (Nat.lt_of_le_of_lt (Nat.zero_le _) (show 0 < r162.terms.length by omega))
    refine s_iaddrO (0 * 9) Try.underlying93 ag114.size (tr rfl hv181) rfl h0_177 h1_178 rfl ?_
    refine s_faddrB (0 * 9 + 0) Try.underlying114 rfl ag49.size rfl rfl ?_
    refine s_loadCA (A8.enc .u8 ((r162.terms.getD 0 default).mono)) (cells_subO (o := 0) (k := 8) (own_cellsE (hC.getM 1 rfl) hv181 0 (show 0 < r162.terms.length by omega)) rfl) ag49 rfl rfl ?_
    refine s_bslice (sz := 8) hC [(0, .agg (List.toArray (A8.enc .u8 ((r162.terms.getD 0 default).mono))))] ((EA .u8).encs [(r162.terms.getD 0 default).mono]) rfl (fun _ => bs59_1 ((r162.terms.getD 0 default).mono) _) rfl (by decide) fun b182 w183 hB_ hC => ?_
    obtain ⟨hm187, h⟩ := h
    refine s_app hC 5 Try.underlying59 el49 rfl (by decide) (by decide) rfl (own_rdr (hC.getM 0 rfl)) (fun q hq => Enc.encs_one' (E := (EA .u8)) _ q hq) rfl rfl hm187 fun v185 w186 hC => ?_
    replace hC := own_re hC 5 ((s140 ++ [(r162.terms.getD 0 default).mono]).length) ((EA .u8).encs (s140 ++ [(r162.terms.getD 0 default).mono])) rfl (by simp) (by first | (simp [Enc.encs_append]; done) | simp [Enc.encs_append, Enc.encs])
    refine s_as (v := v185) rfl ?_
    refine done ?_
    refine blk_norm ?_
    refine then_norm ?_
    refine cw_region ?_
    refine s_add (sx hS_ 5 rfl) rfl ?_
    refine s_mv (v := .int .i64 (IntKind.i64.wrap ((i139 : Int) + 1))) rfl ?_
    refine done ?_
    replace hC := hC.sM [5, 6] (M' := [own 49 8 v185 ((s140 ++ [(r162.terms.getD 0 default).mono]).length) ((EA .u8).encs (s140 ++ [(r162.terms.getD 0 default).mono])), own 101 8 u35 r34.length ((EA .i64).encs r34)]) (by decide) rfl
    exact hK145 (s140 ++ [(r162.terms.getD 0 default).mono]) _ _ ⟨v185, (sk (sx hS_ 0 rfl) (sk (sx hS_ 1 rfl) (sk rfl (sk (sx hS_ 3 rfl) (sk (sx hS_ 4 rfl) (sk (tr rfl (congrArg _ (wrap64_nat hi146 hN142))) sn)))))), hC⟩ h
   ·clear hC h
    rintro s140 e_ w188 K144 ⟨v141, hS_, hC⟩ h
    refine sr ?_
    refine s_lss (sx hS_ 5 rfl) (sx hS_ 4 rfl) ?_
    refine dn ?_
    refine wp_seq ?_
    refine cw_false rfl (decide_eq_false (by omega)) ?_
    refine wp_exit (then_exit (then_exit (exit_in ?_)))
    refine then_norm ?_
    refine sr ?_
    refine s_mv (v := v141) (sx hS_ 2 rfl) ?_
    refine s_as (v := v141) rfl ?_
    refine s_as (v := .int .i64 0) rfl ?_
    refine dn ?_
    refine wp_ret ?_
    refine ret2 (fn := Try.f34) rfl ?_ ?_ ⟨s140, v141, (Option.toList (Value.ownBlock v141)), 0, rfl, h, (own_item (hC.getM 0 rfl)), (own_fresh hC 0 rfl), hC.below⟩ (.inl rfl)
    ·exact res_tmp rfl
    ·exact res_tmp rfl
   ·skip
    replace hC := hC.sM [0, 1] (M' := [own 49 8 (.slice (some ⟨b46, 0, none⟩) 0 0) 0 ((EA .u8).encs []), own 101 8 u35 r34.length ((EA .i64).encs r34)]) (by decide) rfl
    exact ⟨.slice (some ⟨b46, 0, none⟩) 0 0, (sk rfl (sk rfl (sk rfl (sk rfl (sk rfl (sk rfl sn)))))), hC⟩
def f_spec_l01Fill (fu_ : Nat) (a0 : List Int) (a1 : A8) (a2 : Int) (a3 : Int) (a4 : List A8) (K : List A8 → Prop) : Prop :=
 match fu_ with
 | 0 => False
 | fu_ + 1 => (if a2 = (a0.length : Int) then (if a3 = 0 then (Room (a4.length + 1) 8 ∧ K (a4 ++ [a1])) else K a4) else ((0 ≤ a2 ∧ a2 < (a0.length : Int)) ∧ ((a0.getD a2.toNat default) ≠ 0 ∧ ((0 ≤ a2 ∧ a2 < (a0.length : Int)) ∧ (if Int.tmod (a0.getD a2.toNat default) 2 ≠ 0 then whileP (fun (s80 : A8 × (List A8) × Int) next82 => (if s80.2.2 ≥ 0 then (if (s80.2.1.length : Int) ≤ 400 then ((0 ≤ a2 ∧ a2 < 8) ∧ ((0 ≤ a2 ∧ a2 < (a0.length : Int)) ∧ f_spec_l01Fill fu_ a0 (s80.1.set a2.toNat (IntKind.u8.wrap s80.2.2)) (IntKind.i64.wrap (a2 + 1)) (IntKind.i64.wrap (a3 - (IntKind.i64.wrap (s80.2.2 * (a0.getD a2.toNat default))))) s80.2.1 (fun r105 => next82 (s80.1.set a2.toNat (IntKind.u8.wrap s80.2.2), r105, IntKind.i64.wrap (s80.2.2 - 1))))) else K s80.2.1) else K s80.2.1)) (a1, a4, (if 20 < (if 1 < IntKind.i64.wrap (Int.tdiv a3 (a0.getD a2.toNat default)) then 1 else IntKind.i64.wrap (Int.tdiv a3 (a0.getD a2.toNat default))) then 20 else (if 1 < IntKind.i64.wrap (Int.tdiv a3 (a0.getD a2.toNat default)) then 1 else IntKind.i64.wrap (Int.tdiv a3 (a0.getD a2.toNat default))))) else whileP (fun (s161 : A8 × (List A8) × Int) next163 => (if s161.2.2 ≥ 0 then (if (s161.2.1.length : Int) ≤ 400 then ((0 ≤ a2 ∧ a2 < 8) ∧ ((0 ≤ a2 ∧ a2 < (a0.length : Int)) ∧ f_spec_l01Fill fu_ a0 (s161.1.set a2.toNat (IntKind.u8.wrap s161.2.2)) (IntKind.i64.wrap (a2 + 1)) (IntKind.i64.wrap (a3 - (IntKind.i64.wrap (s161.2.2 * (a0.getD a2.toNat default))))) s161.2.1 (fun r186 => next163 (s161.1.set a2.toNat (IntKind.u8.wrap s161.2.2), r186, IntKind.i64.wrap (s161.2.2 - 1))))) else K s161.2.1) else K s161.2.1)) (a1, a4, (if 20 < IntKind.i64.wrap (Int.tdiv a3 (a0.getD a2.toNat default)) then 20 else IntKind.i64.wrap (Int.tdiv a3 (a0.getD a2.toNat default)))))))))
theorem c_spec_l01Fill (fu_ : Nat) : ∀ (a0 : List Int) (a1 : A8) (a2 : Int) (a3 : Int) (a4 : List A8) {u4_0 : Value} {u0_0 : Value} {fp0 : List Nat} {K : List A8 → Prop} (h : f_spec_l01Fill fu_ a0 a1 a2 a3 a4 K) (w0 : World) (q0 : ((EI .i64).ty.sl).rep a0 [u0_0] fp0 w0) (qo4 : (own 49 8 u4_0 a4.length ((EA .u8).encs a4)).holds w0) (do0 : ∀ b, b ∈ fp0 → b ∉ Option.toList (Value.ownBlock u4_0)),
  Calls Try.prog 128 #[u0_0, .agg (List.toArray (A8.enc .u8 a1)), .int .i64 a2, .int .i64 a3, u4_0] w0 fun e w' => ∃ (r0 : List A8) (z0_0 : Value), 
   e = .returned (z0_0) ∧ K r0 ∧ (own 49 8 z0_0 r0.length ((EA .u8).encs r0)).holds w' ∧ (∀ b, b ∈ Option.toList (Value.ownBlock z0_0) → b ∈ Option.toList (Value.ownBlock u4_0) ∨ w0.heap.size ≤ b) ∧ BelO (Option.toList (Value.ownBlock u4_0)) w0 w' := by
 induction fu_ with
 | zero =>
  intro a0 a1 a2 a3 a4 u4_0 u0_0 fp0 K h w0 q0 qo4 do0
  exact False.elim h
 | succ fu_ ih_ =>
  intro a0 a1 a2 a3 a4 u4_0 u0_0 fp0 K h w0 q0 qo4 do0
  rw [f_spec_l01Fill.eq_2] at h
  refine calls_of (args := [u0_0, .agg (List.toArray (A8.enc .u8 a1)), .int .i64 a2, .int .i64 a3, u4_0]) Try.func128 rfl 68 Try.ntmps128 (Nat.le_of_ble_eq_true rfl) ?_
  have hC := Ctx.startL w0 (Option.toList (Value.ownBlock u4_0)) [own 49 8 u4_0 a4.length ((EA .u8).encs a4)] [Ty.item ((EI .i64).ty.sl) a0 [u0_0] fp0] (by simp only [List.mem_cons, List.not_mem_nil, or_false, forall_eq_or_imp, forall_eq]; exact qo4) (by simp only [List.mem_cons, List.not_mem_nil, or_false, forall_eq_or_imp, forall_eq]; exact q0) (by simp only [List.mem_cons, List.not_mem_nil, or_false, forall_eq_or_imp, forall_eq]; exact (fun b_ hb_ => hb_)) (List.pairwise_singleton _ _) (by simp only [List.mem_cons, List.not_mem_nil, or_false, forall_eq_or_imp, forall_eq]; exact do0)
  refine sr ?_
  refine s_box (v := .agg (List.toArray (A8.enc .u8 a1))) hC (A8.enc .u8 a1) rfl rfl fun b3 w5 hB_ hC => ?_
  refine s_as (v := .slice none 0 0) rfl ?_
  refine dn ?_
  refine wp_seq ?_
  refine sr ?_
  refine s_mv (v := .int .i64 a2) rfl ?_
  refine s_mv (v := u0_0) rfl ?_
  obtain ⟨Ad6, c7, hv8⟩ := sl_len (hC.getP 0 rfl)
  refine s_len Try.underlying22 (tr rfl hv8) ?_
  refine s_eql rfl rfl ?_
  refine dn ?_
  refine cw_cond rfl (fun hb9 => ?_) (fun hb9 => ?_)
  ·replace h := ift h (ct hb9)
   refine wp_seq ?_
   refine sr ?_
   refine s_mv (v := .int .i64 a3) rfl ?_
   refine s_eql rfl rfl ?_
   refine dn ?_
   refine cw_cond rfl (fun hb10 => ?_) (fun hb10 => ?_)
   ·replace h := ift h (ct hb10)
    refine sr ?_
    refine s_mv (v := u4_0) rfl ?_
    refine s_loadA hC 0 (A8.enc .u8 a1) rfl ag49 rfl rfl rfl ?_
    refine s_bslice (sz := 8) hC [(0, .agg (List.toArray (A8.enc .u8 a1)))] ((EA .u8).encs [a1]) rfl (fun _ => bs59_1 a1 _) rfl (by decide) fun b11 w12 hB_ hC => ?_
    obtain ⟨hm16, h⟩ := h
    refine s_app hC 2 Try.underlying59 el49 rfl (by decide) (by decide) rfl (own_rdr (hC.getM 0 rfl)) (fun q hq => Enc.encs_one' (E := (EA .u8)) _ q hq) rfl rfl hm16 fun v14 w15 hC => ?_
    replace hC := own_re hC 2 ((a4 ++ [a1]).length) ((EA .u8).encs (a4 ++ [a1])) rfl (by simp) (by first | (simp [Enc.encs_append]; done) | simp [Enc.encs_append, Enc.encs])
    refine s_as (v := v14) rfl ?_
    refine dn ?_
    refine wp_ret (then_ret (then_ret ?_))
    refine ret1 (fn := Try.f128) rfl ?_ ⟨a4 ++ [a1], v14, rfl, h, (hC.getM 2 rfl), (fun b_ hb_ => (hC.mfp _ (List.mem_of_getElem? (i := 2) rfl) b_ hb_).symm), hC.belO⟩ (.inl rfl)
    exact res_tmp rfl
   ·replace h := iff_ h (cf hb10)
    refine wp_skip ?_
    refine then_norm ?_
    refine sr ?_
    refine s_mv (v := u4_0) rfl ?_
    refine s_as (v := u4_0) rfl ?_
    refine dn ?_
    refine wp_ret (then_ret ?_)
    refine ret1 (fn := Try.f128) rfl ?_ ⟨a4, u4_0, rfl, h, (hC.getM 1 rfl), (fun b_ hb_ => (hC.mfp _ (List.mem_of_getElem? (i := 1) rfl) b_ hb_).symm), hC.belO⟩ (.inl rfl)
    exact res_tmp rfl
  ·replace h := iff_ h (cf hb9)
   refine wp_skip ?_
   refine then_norm ?_
   refine sr ?_
   refine s_mv (v := .int .i64 a3) rfl ?_
   refine s_mv (v := u0_0) rfl ?_
   refine s_mv (v := .int .i64 a2) rfl ?_
   obtain ⟨⟨h0_17, h1_18⟩, h⟩ := h
   obtain ⟨Ad19, c20, hv21⟩ := sl_form (hC.getP 0 rfl) a2.toNat (show a2.toNat < a0.length by omega)
   refine s_iaddrS (len := a0.length) Try.underlying22 sc2.size (tr rfl hv21) rfl h0_17 h1_18 ?_
   refine s_loadCS (.int .i64 (a0.getD a2.toNat default)) (sl_cellsE (hC.getP 0 rfl) hv21 a2.toNat (show a2.toNat < a0.length by omega)) sc2 rfl ?_
   obtain ⟨h0_22, h⟩ := h
   refine s_quo rfl rfl h0_22 ?_
   refine s_as (v := .int .i64 (IntKind.i64.wrap (Int.tdiv a3 (a0.getD a2.toNat default)))) rfl ?_
   refine dn ?_
   refine wp_seq ?_
   refine sr ?_
   refine s_mv (v := u0_0) rfl ?_
   refine s_mv (v := .int .i64 a2) rfl ?_
   obtain ⟨⟨h0_23, h1_24⟩, h⟩ := h
   obtain ⟨Ad25, c26, hv27⟩ := sl_form (hC.getP 0 rfl) a2.toNat (show a2.toNat < a0.length by omega)
   refine s_iaddrS (len := a0.length) Try.underlying22 sc2.size (tr rfl hv27) rfl h0_23 h1_24 ?_
   refine s_loadCS (.int .i64 (a0.getD a2.toNat default)) (sl_cellsE (hC.getP 0 rfl) hv27 a2.toNat (show a2.toNat < a0.length by omega)) sc2 rfl ?_
   refine s_rem rfl rfl (by decide) ?_
   refine s_neq rfl rfl ?_
   refine dn ?_
   refine cw_cond rfl (fun hb28 => ?_) (fun hb28 => ?_)
   ·replace h := ift h (ct hb28)
    refine cw_region ?_
    refine s_mv (v := .int .i64 (IntKind.i64.wrap (Int.tdiv a3 (a0.getD a2.toNat default)))) rfl ?_
    refine s_min rfl rfl ?_
    refine s_as (v := .int .i64 (if 1 < IntKind.i64.wrap (Int.tdiv a3 (a0.getD a2.toNat default)) then 1 else IntKind.i64.wrap (Int.tdiv a3 (a0.getD a2.toNat default)))) rfl ?_
    refine dn ?_
    refine wp_seq ?_
    refine sr ?_
    refine s_mv (v := .int .i64 (if 1 < IntKind.i64.wrap (Int.tdiv a3 (a0.getD a2.toNat default)) then 1 else IntKind.i64.wrap (Int.tdiv a3 (a0.getD a2.toNat default)))) rfl ?_
    refine s_min rfl rfl ?_
    refine s_as (v := .int .i64 (if 20 < (if 1 < IntKind.i64.wrap (Int.tdiv a3 (a0.getD a2.toNat default)) then 1 else IntKind.i64.wrap (Int.tdiv a3 (a0.getD a2.toNat default))) then 20 else (if 1 < IntKind.i64.wrap (Int.tdiv a3 (a0.getD a2.toNat default)) then 1 else IntKind.i64.wrap (Int.tdiv a3 (a0.getD a2.toNat default))))) rfl ?_
    refine dn ?_
    refine wp_block ?_
    refine loopW (S := A8 × (List A8) × Int) _ (fun s80 e_ w_ => ∃ (v81 : Value), Slots e_ [(0, u0_0), (2, .int .i64 a2), (3, .int .i64 a3), (4, v81), (6, .pointer (some ⟨b3, 0, none⟩)), (10, .slice none 0 0), (12, .int .i64 s80.2.2)] ∧ Ctx (fun c_ => c_ ∈ Option.toList (Value.ownBlock u4_0)) w0 w_ [blk b3 49 (A8.enc .u8 s80.1), own 49 8 v81 s80.2.1.length ((EA .u8).encs s80.2.1)] [Ty.item ((EI .i64).ty.sl) a0 [u0_0] fp0]) ?_ (s0 := (a1, a4, (if 20 < (if 1 < IntKind.i64.wrap (Int.tdiv a3 (a0.getD a2.toNat default)) then 1 else IntKind.i64.wrap (Int.tdiv a3 (a0.getD a2.toNat default))) then 20 else (if 1 < IntKind.i64.wrap (Int.tdiv a3 (a0.getD a2.toNat default)) then 1 else IntKind.i64.wrap (Int.tdiv a3 (a0.getD a2.toNat default)))))) ?_ h
    ·clear hC h
     rintro s80 e_ w85 next82 K83 ⟨v81, hS_, hC⟩ h hK84
     refine wp_seq ?_
     refine sr ?_
     refine s_mv (v := .int .i64 s80.2.2) (sx hS_ 6 rfl) ?_
     refine s_geq rfl rfl ?_
     refine s_mv (v := .bool (decide (s80.2.2 ≥ 0))) rfl ?_
     refine bsplit (decide (s80.2.2 ≥ 0)) (fun hb86 => ?_) (fun hb86 => ?_)
     ·replace h := ift h (ct hb86)
      refine guardOn 2 42 rfl rfl hb86 ?_
      refine s_mv (v := v81) (sx hS_ 3 rfl) ?_
      refine guardOn 2 42 rfl rfl hb86 ?_
      obtain ⟨Ad87, c88, hv89⟩ := own_form (hC.getM 1 rfl)
      refine s_len Try.underlying59 (tr rfl hv89) ?_
      refine guardOn 2 42 rfl rfl hb86 ?_
      refine s_leq rfl rfl ?_
      refine s_pick (v := .bool (decide ((s80.2.1.length : Int) ≤ 400))) (b := true) (tr rfl (congrArg _ hb86)) rfl ?_
      refine dn ?_
      refine cw_cond rfl (fun hb90 => ?_) (fun hb90 => ?_)
      ·replace h := ift h (ct hb90)
       refine wp_skip ?_
       refine then_norm ?_
       refine wp_seq ?_
       refine wp_block ?_
       refine sr ?_
       refine s_mv (v := .int .i64 a2) (sx hS_ 1 rfl) ?_
       refine s_mv (v := .int .i64 s80.2.2) (sx hS_ 6 rfl) ?_
       refine s_conv Try.underlying2 Try.underlying5 rfl ?_
       obtain ⟨⟨h0_91, h1_92⟩, h⟩ := h
       refine s_iaddrB a2.toNat Try.underlying49 sc5.size (sx hS_ 4 rfl) rfl h0_91 h1_92 (by omega) ?_
       refine s_store (v := .int .u8 (IntKind.u8.wrap s80.2.2)) hC 0 [.int .u8 (IntKind.u8.wrap s80.2.2)] (A8.enc .u8 (s80.1.set a2.toNat (IntKind.u8.wrap s80.2.2))) rfl sc5.size rfl rfl rfl rfl rfl (show a2.toNat < 8 by omega) (A8.enc_set _ _ _ (show a2.toNat < 8 by omega)) fun w93 hC => ?_
       refine dn ?_
       refine cw_draw 13 mixed [0, 0, 0, 4, 0, 0, 0, 0, 192, 448, 992, 2032, 0, 8191, 16383] [1, 8, 9] [0, 2, 3, 4, 5, 6, 7, 10, 11, 12] (by kernel_rfl) (by kernel_rfl) (by kernel_rfl) (fun hM95 hM96 w94 hB_ => ?_)
       replace hC := hC.grow hB_
       refine aF 0 (u0_0) rfl rfl (hM96 0 rfl) (rfl) (fun _ => by exact r_mv (v := u0_0) (sx hS_ 0 rfl)) (dbits 15 1) ?_
       refine aL 1 (.agg (List.toArray (A8.enc .u8 (s80.1.set a2.toNat (IntKind.u8.wrap s80.2.2))))) rfl rfl (hM95 1 rfl) (rfl) (fun _ hB_ => by exact r_loadA (hC.grow hB_) 0 (A8.enc .u8 (s80.1.set a2.toNat (IntKind.u8.wrap s80.2.2))) rfl ag49 (sx hS_ 4 rfl) rfl rfl) (dbits 15 3) ?_
       refine aF 2 (.int .i64 a2) rfl rfl (hM96 2 rfl) (rfl) (fun _ => by exact r_mv (v := .int .i64 a2) (sx hS_ 1 rfl)) (dbits 15 7) ?_
       refine aF 3 (.int .i64 (IntKind.i64.wrap (a2 + 1))) rfl rfl (hM96 3 rfl) (rfl) (fun _ => by exact r_add rfl rfl) (dbits 15 15) ?_
       refine aF 4 (.int .i64 a3) rfl rfl (hM96 4 rfl) (rfl) (fun _ => by exact r_mv (v := .int .i64 a3) (sx hS_ 2 rfl)) (dbits 15 31) ?_
       refine aF 5 (.int .i64 s80.2.2) rfl rfl (hM96 5 rfl) (rfl) (fun _ => by exact r_mv (v := .int .i64 s80.2.2) (sx hS_ 6 rfl)) (dbits 15 63) ?_
       refine aF 6 (u0_0) rfl rfl (hM96 6 rfl) (rfl) (fun _ => by exact r_mv (v := u0_0) (sx hS_ 0 rfl)) (dbits 15 127) ?_
       refine aF 7 (.int .i64 a2) rfl rfl (hM96 7 rfl) (rfl) (fun _ => by exact r_mv (v := .int .i64 a2) (sx hS_ 1 rfl)) (dbits 15 255) ?_
       obtain ⟨⟨h0_97, h1_98⟩, h⟩ := h
       obtain ⟨Ad99, c100, hv101⟩ := sl_form (hC.getP 0 rfl) a2.toNat (show a2.toNat < a0.length by omega)
       refine aL 8 (.pointer (some (Ad99.add (a2.toNat * 1)))) rfl rfl (hM95 8 rfl) (rfl) (fun _ hB_ => by exact r_iaddrS (len := a0.length) Try.underlying22 sc2.size (by exact tr rfl hv101) rfl h0_97 h1_98) (dbits 15 511) ?_
       refine aL 9 (.int .i64 (a0.getD a2.toNat default)) rfl rfl (hM95 9 rfl) (rfl) (fun _ hB_ => by exact r_loadCS (.int .i64 (a0.getD a2.toNat default)) (sl_cellsE ((hC.grow hB_).getP 0 rfl) hv101 a2.toNat (show a2.toNat < a0.length by omega)) sc2 rfl) (dbits 15 1023) ?_
       refine aF 10 (.int .i64 (IntKind.i64.wrap (s80.2.2 * (a0.getD a2.toNat default)))) rfl rfl (hM96 10 rfl) (rfl) (fun _ => by exact r_mul rfl rfl) (dbits 15 2047) ?_
       refine aF 11 (.int .i64 (IntKind.i64.wrap (a3 - (IntKind.i64.wrap (s80.2.2 * (a0.getD a2.toNat default)))))) rfl rfl (hM96 11 rfl) (rfl) (fun _ => by exact r_sub rfl rfl) (dbits 15 4095) ?_
       refine aF 12 (v81) rfl rfl (hM96 12 rfl) (rfl) (fun _ => by exact r_mv (v := v81) (sx hS_ 3 rfl)) (dbits 15 8191) ?_
       refine ae_tail 13 (by decide) (by decide) (by kernel_rfl) (by kernel_rfl) rfl ?_
       refine s_call [u0_0, .agg (List.toArray (A8.enc .u8 (s80.1.set a2.toNat (IntKind.u8.wrap s80.2.2)))), .int .i64 (IntKind.i64.wrap (a2 + 1)), .int .i64 (IntKind.i64.wrap (a3 - (IntKind.i64.wrap (s80.2.2 * (a0.getD a2.toNat default))))), v81] _ Try.func128 rfl rfl rfl (ih_ a0 (s80.1.set a2.toNat (IntKind.u8.wrap s80.2.2)) (IntKind.i64.wrap (a2 + 1)) (IntKind.i64.wrap (a3 - (IntKind.i64.wrap (s80.2.2 * (a0.getD a2.toNat default))))) s80.2.1 h _ (hC.getP 0 rfl) (hC.getM 1 rfl) (fun b_ hb_ hb2_ => hC.pd _ (List.mem_of_getElem? (i := 0) rfl) b_ hb_ _ (List.mem_of_getElem? (i := 1) rfl) hb2_)) (fun ret102 w104 hR103 => ?_)
       obtain ⟨r105, v106, rfl, h, hr107, hf108, hB109⟩ := hR103
       refine ⟨_, rfl, ?_⟩
       replace hC := hC.turnO 1 rfl hB109 hr107 hf108
       refine s_as (v := v106) rfl ?_
       refine done ?_
       refine qn_norm ?_
       refine blk_norm ?_
       refine then_norm ?_
       refine cw_region ?_
       refine s_mv (v := .int .i64 s80.2.2) (sx hS_ 6 rfl) ?_
       refine s_sub rfl rfl ?_
       refine s_as (v := .int .i64 (IntKind.i64.wrap (s80.2.2 - 1))) rfl ?_
       refine done ?_
       exact hK84 (s80.1.set a2.toNat (IntKind.u8.wrap s80.2.2), r105, IntKind.i64.wrap (s80.2.2 - 1)) _ _ ⟨v106, (sk (sx hS_ 0 rfl) (sk (sx hS_ 1 rfl) (sk (sx hS_ 2 rfl) (sk rfl (sk (sx hS_ 4 rfl) (sk (sx hS_ 5 rfl) (sk rfl sn))))))), hC⟩ h
      ·replace h := iff_ h (cf hb90)
       refine wp_exit (then_exit (then_exit (exit_in ?_)))
       refine then_norm ?_
       refine sr ?_
       refine s_mv (v := v81) (sx hS_ 3 rfl) ?_
       refine s_as (v := v81) rfl ?_
       refine dn ?_
       refine wp_ret ?_
       refine ret1 (fn := Try.f128) rfl ?_ ⟨s80.2.1, v81, rfl, h, (hC.getM 1 rfl), (fun b_ hb_ => (hC.mfp _ (List.mem_of_getElem? (i := 1) rfl) b_ hb_).symm), hC.belO⟩ (.inl rfl)
       exact res_tmp rfl
     ·replace h := iff_ h (cf hb86)
      refine guardOff (b := false) 2 42 rfl (tr rfl (congrArg _ hb86)) (by decide) ?_
      refine guardOff (b := false) 2 42 rfl (tr rfl (congrArg _ hb86)) (by decide) ?_
      refine guardOff (b := false) 2 42 rfl (tr rfl (congrArg _ hb86)) (by decide) ?_
      refine s_pick (v := .bool false) (b := false) (tr rfl (congrArg _ hb86)) rfl ?_
      refine dn ?_
      refine cw_false rfl rfl ?_
      refine wp_exit (then_exit (then_exit (exit_in ?_)))
      refine then_norm ?_
      refine sr ?_
      refine s_mv (v := v81) (sx hS_ 3 rfl) ?_
      refine s_as (v := v81) rfl ?_
      refine dn ?_
      refine wp_ret ?_
      refine ret1 (fn := Try.f128) rfl ?_ ⟨s80.2.1, v81, rfl, h, (hC.getM 1 rfl), (fun b_ hb_ => (hC.mfp _ (List.mem_of_getElem? (i := 1) rfl) b_ hb_).symm), hC.belO⟩ (.inl rfl)
      exact res_tmp rfl
    ·skip
     exact ⟨u4_0, (sk rfl (sk rfl (sk rfl (sk rfl (sk rfl (sk rfl (sk rfl sn))))))), hC⟩
   ·replace h := iff_ h (cf hb28)
    refine wp_skip ?_
    refine then_norm ?_
    refine wp_seq ?_
    refine sr ?_
    refine s_mv (v := .int .i64 (IntKind.i64.wrap (Int.tdiv a3 (a0.getD a2.toNat default)))) rfl ?_
    refine s_min rfl rfl ?_
    refine s_as (v := .int .i64 (if 20 < IntKind.i64.wrap (Int.tdiv a3 (a0.getD a2.toNat default)) then 20 else IntKind.i64.wrap (Int.tdiv a3 (a0.getD a2.toNat default)))) rfl ?_
    refine dn ?_
    refine wp_block ?_
    refine loopW (S := A8 × (List A8) × Int) _ (fun s161 e_ w_ => ∃ (v162 : Value), Slots e_ [(0, u0_0), (2, .int .i64 a2), (3, .int .i64 a3), (4, v162), (6, .pointer (some ⟨b3, 0, none⟩)), (10, .slice none 0 0), (12, .int .i64 s161.2.2)] ∧ Ctx (fun c_ => c_ ∈ Option.toList (Value.ownBlock u4_0)) w0 w_ [blk b3 49 (A8.enc .u8 s161.1), own 49 8 v162 s161.2.1.length ((EA .u8).encs s161.2.1)] [Ty.item ((EI .i64).ty.sl) a0 [u0_0] fp0]) ?_ (s0 := (a1, a4, (if 20 < IntKind.i64.wrap (Int.tdiv a3 (a0.getD a2.toNat default)) then 20 else IntKind.i64.wrap (Int.tdiv a3 (a0.getD a2.toNat default))))) ?_ h
    ·clear hC h
     rintro s161 e_ w166 next163 K164 ⟨v162, hS_, hC⟩ h hK165
     refine wp_seq ?_
     refine sr ?_
     refine s_mv (v := .int .i64 s161.2.2) (sx hS_ 6 rfl) ?_
     refine s_geq rfl rfl ?_
     refine s_mv (v := .bool (decide (s161.2.2 ≥ 0))) rfl ?_
     refine bsplit (decide (s161.2.2 ≥ 0)) (fun hb167 => ?_) (fun hb167 => ?_)
     ·replace h := ift h (ct hb167)
      refine guardOn 2 42 rfl rfl hb167 ?_
      refine s_mv (v := v162) (sx hS_ 3 rfl) ?_
      refine guardOn 2 42 rfl rfl hb167 ?_
      obtain ⟨Ad168, c169, hv170⟩ := own_form (hC.getM 1 rfl)
      refine s_len Try.underlying59 (tr rfl hv170) ?_
      refine guardOn 2 42 rfl rfl hb167 ?_
      refine s_leq rfl rfl ?_
      refine s_pick (v := .bool (decide ((s161.2.1.length : Int) ≤ 400))) (b := true) (tr rfl (congrArg _ hb167)) rfl ?_
      refine dn ?_
      refine cw_cond rfl (fun hb171 => ?_) (fun hb171 => ?_)
      ·replace h := ift h (ct hb171)
       refine wp_skip ?_
       refine then_norm ?_
       refine wp_seq ?_
       refine wp_block ?_
       refine sr ?_
       refine s_mv (v := .int .i64 a2) (sx hS_ 1 rfl) ?_
       refine s_mv (v := .int .i64 s161.2.2) (sx hS_ 6 rfl) ?_
       refine s_conv Try.underlying2 Try.underlying5 rfl ?_
       obtain ⟨⟨h0_172, h1_173⟩, h⟩ := h
       refine s_iaddrB a2.toNat Try.underlying49 sc5.size (sx hS_ 4 rfl) rfl h0_172 h1_173 (by omega) ?_
       refine s_store (v := .int .u8 (IntKind.u8.wrap s161.2.2)) hC 0 [.int .u8 (IntKind.u8.wrap s161.2.2)] (A8.enc .u8 (s161.1.set a2.toNat (IntKind.u8.wrap s161.2.2))) rfl sc5.size rfl rfl rfl rfl rfl (show a2.toNat < 8 by omega) (A8.enc_set _ _ _ (show a2.toNat < 8 by omega)) fun w174 hC => ?_
       refine dn ?_
       refine cw_draw 13 mixed [0, 0, 0, 4, 0, 0, 0, 0, 192, 448, 992, 2032, 0, 8191, 16383] [1, 8, 9] [0, 2, 3, 4, 5, 6, 7, 10, 11, 12] (by kernel_rfl) (by kernel_rfl) (by kernel_rfl) (fun hM176 hM177 w175 hB_ => ?_)
       replace hC := hC.grow hB_
       refine aF 0 (u0_0) rfl rfl (hM177 0 rfl) (rfl) (fun _ => by exact r_mv (v := u0_0) (sx hS_ 0 rfl)) (dbits 15 1) ?_
       refine aL 1 (.agg (List.toArray (A8.enc .u8 (s161.1.set a2.toNat (IntKind.u8.wrap s161.2.2))))) rfl rfl (hM176 1 rfl) (rfl) (fun _ hB_ => by exact r_loadA (hC.grow hB_) 0 (A8.enc .u8 (s161.1.set a2.toNat (IntKind.u8.wrap s161.2.2))) rfl ag49 (sx hS_ 4 rfl) rfl rfl) (dbits 15 3) ?_
       refine aF 2 (.int .i64 a2) rfl rfl (hM177 2 rfl) (rfl) (fun _ => by exact r_mv (v := .int .i64 a2) (sx hS_ 1 rfl)) (dbits 15 7) ?_
       refine aF 3 (.int .i64 (IntKind.i64.wrap (a2 + 1))) rfl rfl (hM177 3 rfl) (rfl) (fun _ => by exact r_add rfl rfl) (dbits 15 15) ?_
       refine aF 4 (.int .i64 a3) rfl rfl (hM177 4 rfl) (rfl) (fun _ => by exact r_mv (v := .int .i64 a3) (sx hS_ 2 rfl)) (dbits 15 31) ?_
       refine aF 5 (.int .i64 s161.2.2) rfl rfl (hM177 5 rfl) (rfl) (fun _ => by exact r_mv (v := .int .i64 s161.2.2) (sx hS_ 6 rfl)) (dbits 15 63) ?_
       refine aF 6 (u0_0) rfl rfl (hM177 6 rfl) (rfl) (fun _ => by exact r_mv (v := u0_0) (sx hS_ 0 rfl)) (dbits 15 127) ?_
       refine aF 7 (.int .i64 a2) rfl rfl (hM177 7 rfl) (rfl) (fun _ => by exact r_mv (v := .int .i64 a2) (sx hS_ 1 rfl)) (dbits 15 255) ?_
       obtain ⟨⟨h0_178, h1_179⟩, h⟩ := h
       obtain ⟨Ad180, c181, hv182⟩ := sl_form (hC.getP 0 rfl) a2.toNat (show a2.toNat < a0.length by omega)
       refine aL 8 (.pointer (some (Ad180.add (a2.toNat * 1)))) rfl rfl (hM176 8 rfl) (rfl) (fun _ hB_ => by exact r_iaddrS (len := a0.length) Try.underlying22 sc2.size (by exact tr rfl hv182) rfl h0_178 h1_179) (dbits 15 511) ?_
       refine aL 9 (.int .i64 (a0.getD a2.toNat default)) rfl rfl (hM176 9 rfl) (rfl) (fun _ hB_ => by exact r_loadCS (.int .i64 (a0.getD a2.toNat default)) (sl_cellsE ((hC.grow hB_).getP 0 rfl) hv182 a2.toNat (show a2.toNat < a0.length by omega)) sc2 rfl) (dbits 15 1023) ?_
       refine aF 10 (.int .i64 (IntKind.i64.wrap (s161.2.2 * (a0.getD a2.toNat default)))) rfl rfl (hM177 10 rfl) (rfl) (fun _ => by exact r_mul rfl rfl) (dbits 15 2047) ?_
       refine aF 11 (.int .i64 (IntKind.i64.wrap (a3 - (IntKind.i64.wrap (s161.2.2 * (a0.getD a2.toNat default)))))) rfl rfl (hM177 11 rfl) (rfl) (fun _ => by exact r_sub rfl rfl) (dbits 15 4095) ?_
       refine aF 12 (v162) rfl rfl (hM177 12 rfl) (rfl) (fun _ => by exact r_mv (v := v162) (sx hS_ 3 rfl)) (dbits 15 8191) ?_
       refine ae_tail 13 (by decide) (by decide) (by kernel_rfl) (by kernel_rfl) rfl ?_
       refine s_call [u0_0, .agg (List.toArray (A8.enc .u8 (s161.1.set a2.toNat (IntKind.u8.wrap s161.2.2)))), .int .i64 (IntKind.i64.wrap (a2 + 1)), .int .i64 (IntKind.i64.wrap (a3 - (IntKind.i64.wrap (s161.2.2 * (a0.getD a2.toNat default))))), v162] _ Try.func128 rfl rfl rfl (ih_ a0 (s161.1.set a2.toNat (IntKind.u8.wrap s161.2.2)) (IntKind.i64.wrap (a2 + 1)) (IntKind.i64.wrap (a3 - (IntKind.i64.wrap (s161.2.2 * (a0.getD a2.toNat default))))) s161.2.1 h _ (hC.getP 0 rfl) (hC.getM 1 rfl) (fun b_ hb_ hb2_ => hC.pd _ (List.mem_of_getElem? (i := 0) rfl) b_ hb_ _ (List.mem_of_getElem? (i := 1) rfl) hb2_)) (fun ret183 w185 hR184 => ?_)
       obtain ⟨r186, v187, rfl, h, hr188, hf189, hB190⟩ := hR184
       refine ⟨_, rfl, ?_⟩
       replace hC := hC.turnO 1 rfl hB190 hr188 hf189
       refine s_as (v := v187) rfl ?_
       refine done ?_
       refine qn_norm ?_
       refine blk_norm ?_
       refine then_norm ?_
       refine cw_region ?_
       refine s_mv (v := .int .i64 s161.2.2) (sx hS_ 6 rfl) ?_
       refine s_sub rfl rfl ?_
       refine s_as (v := .int .i64 (IntKind.i64.wrap (s161.2.2 - 1))) rfl ?_
       refine done ?_
       exact hK165 (s161.1.set a2.toNat (IntKind.u8.wrap s161.2.2), r186, IntKind.i64.wrap (s161.2.2 - 1)) _ _ ⟨v187, (sk (sx hS_ 0 rfl) (sk (sx hS_ 1 rfl) (sk (sx hS_ 2 rfl) (sk rfl (sk (sx hS_ 4 rfl) (sk (sx hS_ 5 rfl) (sk rfl sn))))))), hC⟩ h
      ·replace h := iff_ h (cf hb171)
       refine wp_exit (then_exit (then_exit (exit_in ?_)))
       refine then_norm ?_
       refine sr ?_
       refine s_mv (v := v162) (sx hS_ 3 rfl) ?_
       refine s_as (v := v162) rfl ?_
       refine dn ?_
       refine wp_ret ?_
       refine ret1 (fn := Try.f128) rfl ?_ ⟨s161.2.1, v162, rfl, h, (hC.getM 1 rfl), (fun b_ hb_ => (hC.mfp _ (List.mem_of_getElem? (i := 1) rfl) b_ hb_).symm), hC.belO⟩ (.inl rfl)
       exact res_tmp rfl
     ·replace h := iff_ h (cf hb167)
      refine guardOff (b := false) 2 42 rfl (tr rfl (congrArg _ hb167)) (by decide) ?_
      refine guardOff (b := false) 2 42 rfl (tr rfl (congrArg _ hb167)) (by decide) ?_
      refine guardOff (b := false) 2 42 rfl (tr rfl (congrArg _ hb167)) (by decide) ?_
      refine s_pick (v := .bool false) (b := false) (tr rfl (congrArg _ hb167)) rfl ?_
      refine dn ?_
      refine cw_false rfl rfl ?_
      refine wp_exit (then_exit (then_exit (exit_in ?_)))
      refine then_norm ?_
      refine sr ?_
      refine s_mv (v := v162) (sx hS_ 3 rfl) ?_
      refine s_as (v := v162) rfl ?_
      refine dn ?_
      refine wp_ret ?_
      refine ret1 (fn := Try.f128) rfl ?_ ⟨s161.2.1, v162, rfl, h, (hC.getM 1 rfl), (fun b_ hb_ => (hC.mfp _ (List.mem_of_getElem? (i := 1) rfl) b_ hb_).symm), hC.belO⟩ (.inl rfl)
      exact res_tmp rfl
    ·skip
     exact ⟨u4_0, (sk rfl (sk rfl (sk rfl (sk rfl (sk rfl (sk rfl (sk rfl sn))))))), hC⟩
def f_spec_l01Monomials (a0 : List Int) (a1 : Int) (K : List A8 → Prop) : Prop :=
 f_spec_l01Fill 9 a0 A8.zero 0 a1 [] (fun r6 => K r6)
theorem c_spec_l01Monomials (a0 : List Int) (a1 : Int) {u0_0 : Value} {fp0 : List Nat} {K : List A8 → Prop} (h : f_spec_l01Monomials a0 a1 K) (w0 : World) (q0 : ((EI .i64).ty.sl).rep a0 [u0_0] fp0 w0) :
  Calls Try.prog 92 #[u0_0, .int .i64 a1] w0 fun e w' => ∃ (r0 : List A8) (z0_0 : Value) (fz0 : List Nat), 
   e = .returned (z0_0) ∧ K r0 ∧ (Tr.item (Tr.sl 49 ((EA .u8).tr)) r0 [z0_0] fz0).holds w' ∧ (∀ b, b ∈ fz0 → w0.heap.size ≤ b) ∧ Bel w0 w' := by
 unfold f_spec_l01Monomials at h
 refine calls_of (args := [u0_0, .int .i64 a1]) Try.func92 rfl 9 Try.ntmps92 (Nat.le_of_ble_eq_true rfl) ?_
 have hC := Ctx.start (X := Nox) w0 [Ty.item ((EI .i64).ty.sl) a0 [u0_0] fp0] (by simp only [List.mem_cons, List.not_mem_nil, or_false, forall_eq_or_imp, forall_eq]; exact q0)
 refine sr ?_
 refine s_as (v := .slice none 0 0) rfl ?_
 refine dn ?_
 refine sr ?_
 refine s_mv (v := u0_0) rfl ?_
 refine s_build [] rfl (bl49   _) ?_
 refine s_mv (v := .int .i64 a1) rfl ?_
 replace hC := hC.pushNil 49 8
 refine s_call [u0_0, .agg (List.toArray (A8.enc .u8 A8.zero)), .int .i64 0, .int .i64 a1, .slice none 0 0] _ Try.func128 rfl rfl rfl (c_spec_l01Fill 9 a0 A8.zero 0 a1 [] h _ (hC.getP 0 rfl) (hC.getM 0 rfl) (fun b_ hb_ hb2_ => hC.pd _ (List.mem_of_getElem? (i := 0) rfl) b_ hb_ _ (List.mem_of_getElem? (i := 0) rfl) hb2_)) (fun ret3 w5 hR4 => ?_)
 obtain ⟨r6, v7, rfl, h, hr8, hf9, hB10⟩ := hR4
 refine ⟨_, rfl, ?_⟩
 replace hC := hC.turnO 0 rfl hB10 hr8 hf9
 refine s_as (v := v7) rfl ?_
 refine dn ?_
 refine wp_ret ?_
 refine ret1 (fn := Try.f92) rfl ?_ ⟨r6, v7, (Option.toList (Value.ownBlock v7)), rfl, h, (own_item (hC.getM 0 rfl)), (own_fresh hC 0 rfl), hC.below⟩ (.inl rfl)
 exact res_tmp rfl
def f_spec_MonomialsOf (a0 : List Int) (a1 : Int) (K : List A8 → Int → Prop) : Prop :=
 f_spec_l01Degrees a0 (fun r5 => (if ¬ (r5 = true) then K [] 1 else f_spec_l01In a1 0 40 (fun r11 => (if ¬ (r11 = true) then K [] 2 else f_spec_l01Monomials a0 a1 (fun r17 => (if (r17.length : Int) > 400 then K [] 3 else K r17 0))))))
theorem c_spec_MonomialsOf (a0 : List Int) (a1 : Int) {u0_0 : Value} {fp0 : List Nat} {K : List A8 → Int → Prop} (h : f_spec_MonomialsOf a0 a1 K) (w0 : World) (q0 : ((EI .i64).ty.sl).rep a0 [u0_0] fp0 w0) :
  Calls Try.prog 35 #[u0_0, .int .i64 a1] w0 fun e w' => ∃ (r0 : List A8) (z0_0 : Value) (fz0 : List Nat) (r1 : Int), 
   e = .returned (.tuple #[z0_0, .int .i64 r1]) ∧ K r0 r1 ∧ (Tr.item (Tr.sl 49 ((EA .u8).tr)) r0 [z0_0] fz0).holds w' ∧ (∀ b, b ∈ fz0 → w0.heap.size ≤ b) ∧ Bel w0 w' := by
 unfold f_spec_MonomialsOf at h
 refine calls_of (args := [u0_0, .int .i64 a1]) Try.func35 rfl 22 Try.ntmps35 (Nat.le_of_ble_eq_true rfl) ?_
 have hC := Ctx.start (X := Nox) w0 [Ty.item ((EI .i64).ty.sl) a0 [u0_0] fp0] (by simp only [List.mem_cons, List.not_mem_nil, or_false, forall_eq_or_imp, forall_eq]; exact q0)
 refine sr ?_
 refine s_as (v := .slice none 0 0) rfl ?_
 refine s_as (v := .int .i64 0) rfl ?_
 refine dn ?_
 refine wp_seq ?_
 refine wp_block ?_
 refine sr ?_
 refine s_mv (v := u0_0) rfl ?_
 refine s_call [u0_0] _ Try.func81 rfl rfl rfl (c_spec_l01Degrees a0 h _ (hC.getP 0 rfl)) (fun ret2 w4 hR3 => ?_)
 obtain ⟨r5, rfl, h, hB6⟩ := hR3
 refine ⟨_, rfl, ?_⟩
 replace hC := hC.grow hB6
 refine s_not rfl ?_
 refine s_as (v := .bool (!r5)) rfl ?_
 refine dn ?_
 refine cw_cond rfl (fun hb7 => ?_) (fun hb7 => ?_)
 ·replace h := ift h (ne_t (not_t hb7))
  refine sr ?_
  refine s_as (v := .slice none 0 0) rfl ?_
  refine s_as (v := .int .i64 1) rfl ?_
  refine dn ?_
  refine wp_ret (blk_ret (then_ret ?_))
  refine ret2 (fn := Try.f35) rfl ?_ ?_ ⟨[], .slice none 0 0, [], 1, rfl, h, (nil_item _ _ _), (fun b hb => absurd hb (by simp)), hC.below⟩ (.inl rfl)
  ·exact res_tmp rfl
  ·exact res_tmp rfl
 ·replace h := iff_ h (not_not_intro ((not_f hb7)))
  refine sr ?_
  refine s_mv (v := .int .i64 a1) rfl ?_
  refine s_call [.int .i64 a1, .int .i64 0, .int .i64 40] _ Try.func60 rfl rfl rfl (c_spec_l01In a1 0 40 h _) (fun ret8 w10 hR9 => ?_)
  obtain ⟨r11, rfl, h, hB12⟩ := hR9
  refine ⟨_, rfl, ?_⟩
  replace hC := hC.grow hB12
  refine s_not rfl ?_
  refine s_as (v := .bool (!r11)) rfl ?_
  refine dn ?_
  refine cw_cond rfl (fun hb13 => ?_) (fun hb13 => ?_)
  ·replace h := ift h (ne_t (not_t hb13))
   refine sr ?_
   refine s_as (v := .slice none 0 0) rfl ?_
   refine s_as (v := .int .i64 2) rfl ?_
   refine dn ?_
   refine wp_ret (blk_ret (then_ret ?_))
   refine ret2 (fn := Try.f35) rfl ?_ ?_ ⟨[], .slice none 0 0, [], 2, rfl, h, (nil_item _ _ _), (fun b hb => absurd hb (by simp)), hC.below⟩ (.inl rfl)
   ·exact res_tmp rfl
   ·exact res_tmp rfl
  ·replace h := iff_ h (not_not_intro ((not_f hb13)))
   refine wp_skip ?_
   refine blk_norm ?_
   refine then_norm ?_
   refine sr ?_
   refine s_mv (v := u0_0) rfl ?_
   refine s_mv (v := .int .i64 a1) rfl ?_
   refine s_call [u0_0, .int .i64 a1] _ Try.func92 rfl rfl rfl (c_spec_l01Monomials a0 a1 h _ (hC.getP 0 rfl)) (fun ret14 w16 hR15 => ?_)
   obtain ⟨r17, u18, f19, rfl, h, hr20, hf21, hB22⟩ := hR15
   refine ⟨_, rfl, ?_⟩
   replace hC := hC.push hB22 (Tr.item (Tr.sl 49 ((EA .u8).tr)) r17 [u18] f19) hr20 hf21
   obtain ⟨ho24, hf25⟩ := flat_tr (hC.getM 0 rfl).1
   subst hf25
   replace hC := hC.recast (c := own 49 8 u18 r17.length ((EA .u8).encs r17)) (fun _ h_ => h_) (fun _ => ho24)
   refine s_as (v := u18) rfl ?_
   refine dn ?_
   refine wp_seq ?_
   refine sr ?_
   refine s_mv (v := u18) rfl ?_
   obtain ⟨Ad27, c28, hv29⟩ := own_form (hC.getM 0 rfl)
   refine s_len Try.underlying59 (tr rfl hv29) ?_
   refine s_gtr rfl rfl ?_
   refine dn ?_
   refine cw_cond rfl (fun hb30 => ?_) (fun hb30 => ?_)
   ·replace h := ift h (ct hb30)
    refine sr ?_
    refine s_as (v := .slice none 0 0) rfl ?_
    refine s_as (v := .int .i64 3) rfl ?_
    refine dn ?_
    refine wp_ret (then_ret ?_)
    refine ret2 (fn := Try.f35) rfl ?_ ?_ ⟨[], .slice none 0 0, [], 3, rfl, h, (nil_item _ _ _), (fun b hb => absurd hb (by simp)), hC.below⟩ (.inl rfl)
    ·exact res_tmp rfl
    ·exact res_tmp rfl
   ·replace h := iff_ h (cf hb30)
    refine wp_skip ?_
    refine then_norm ?_
    refine sr ?_
    refine s_mv (v := u18) rfl ?_
    refine s_as (v := u18) rfl ?_
    refine s_as (v := .int .i64 0) rfl ?_
    refine dn ?_
    refine wp_ret ?_
    refine ret2 (fn := Try.f35) rfl ?_ ?_ ⟨r17, u18, (Option.toList (Value.ownBlock u18)), 0, rfl, h, (own_item (hC.getM 0 rfl)), (own_fresh hC 0 rfl), hC.below⟩ (.inl rfl)
    ·exact res_tmp rfl
    ·exact res_tmp rfl
def f_spec_DrawInverseNumber (a0 : List Int) (K : Int → Prop) : Prop :=
 whileP (fun (s138 : Int × Int) next139 => (if s138.2 < (a0.length : Int) then (if s138.2 < 4096 then ((0 ≤ s138.2 ∧ s138.2 < (a0.length : Int)) ∧ next139 (IntKind.u64.wrap ((IntKind.u64.wrap ((IntKind.u64.wrap (s138.1 * 1099511628211)) + (IntKind.u64.wrap (a0.getD s138.2.toNat default)))) + 37), IntKind.i64.wrap (s138.2 + 1))) else f_spec_l01Next (a0, 0, s138.1) 14 (fun r160 m162 => (if r160 = 0 then f_spec_l01Pick (a0, m162.1, m162.2) [(-1), IntKind.i64.wrap (10006 + 1), 1099511627776, (-4611686018427387904)] (fun r171 m173 => K r171) else f_spec_l01Next (a0, m162.1, m162.2) (IntKind.i64.wrap (10006 + 1)) (fun r178 m180 => K r178)))) else f_spec_l01Next (a0, 0, s138.1) 14 (fun r185 m187 => (if r185 = 0 then f_spec_l01Pick (a0, m187.1, m187.2) [(-1), IntKind.i64.wrap (10006 + 1), 1099511627776, (-4611686018427387904)] (fun r196 m198 => K r196) else f_spec_l01Next (a0, m187.1, m187.2) (IntKind.i64.wrap (10006 + 1)) (fun r203 m205 => K r203))))) (IntKind.u64.wrap (10193 + (IntKind.u64.wrap (a0.length : Int))), 0)
theorem c_spec_DrawInverseNumber (a0 : List Int) {u0_0 : Value} {fp0 : List Nat} {K : Int → Prop} (h : f_spec_DrawInverseNumber a0 K) (w0 : World) (q0 : ((EI .u8).ty.sl).rep a0 [u0_0] fp0 w0) :
  Calls Try.prog 36 #[u0_0] w0 fun e w' => ∃ (r0 : Int), 
   e = .returned (.int .i64 r0) ∧ K r0 ∧ Bel w0 w' := by
 unfold f_spec_DrawInverseNumber at h
 refine calls_of (args := [u0_0]) Try.func36 rfl 6 Try.ntmps36 (Nat.le_of_ble_eq_true rfl) ?_
 have hC := Ctx.start (X := Nox) w0 [Ty.item ((EI .u8).ty.sl) a0 [u0_0] fp0] (by simp only [List.mem_cons, List.not_mem_nil, or_false, forall_eq_or_imp, forall_eq]; exact q0)
 refine sr ?_
 refine s_as (v := .int .i64 0) rfl ?_
 refine dn ?_
 refine sr ?_
 refine s_mv (v := u0_0) rfl ?_
 refine s_inline [u0_0] Try.func75 rfl rfl 38 Try.ntmps75 (Nat.le_of_ble_eq_true rfl) rfl ?_
 refine sr ?_
 refine s_as (v := .pointer none) rfl ?_
 refine dn ?_
 refine sr ?_
 refine s_mv (v := u0_0) rfl ?_
 refine s_mv (v := u0_0) rfl ?_
 obtain ⟨Ad2, c3, hv4⟩ := sl_len (hC.getP 0 rfl)
 refine s_len Try.underlying46 (tr rfl hv4) ?_
 refine s_conv Try.underlying3 Try.underlying168 rfl ?_
 refine s_add rfl rfl ?_
 refine s_build [(0, u0_0), (2, .int .u64 (IntKind.u64.wrap (10193 + (IntKind.u64.wrap (a0.length : Int)))))] rfl (bl170_0sl_2int u0_0 (IntKind.u64.wrap (10193 + (IntKind.u64.wrap (a0.length : Int)))) (rep_isSl (hC.getP 0 rfl)) _) ?_
 refine s_box (v := .agg #[u0_0, .int .i64 0, .int .u64 (IntKind.u64.wrap (10193 + (IntKind.u64.wrap (a0.length : Int))))]) hC [u0_0, .int .i64 0, .int .u64 (IntKind.u64.wrap (10193 + (IntKind.u64.wrap (a0.length : Int))))] rfl rfl fun b5 w7 hB_ hC => ?_
 refine s_as (v := .pointer (some ⟨b5, 0, none⟩)) rfl ?_
 refine dn ?_
 refine wp_seq ?_
 refine sr ?_
 refine s_as (v := .int .i64 0) rfl ?_
 refine dn ?_
 refine wp_block ?_
 refine loopW (S := Int × Int) _ (fun s138 e_ w_ => Slots e_ [(0, u0_0), (3, .pointer (some ⟨b5, 0, none⟩)), (4, .int .i64 s138.2)] ∧ Ctx Nox w0 w_ [blk b5 170 [u0_0, .int .i64 0, .int .u64 s138.1]] [Ty.item ((EI .u8).ty.sl) a0 [u0_0] fp0]) ?_ (s0 := (IntKind.u64.wrap (10193 + (IntKind.u64.wrap (a0.length : Int))), 0)) ?_ h
 ·clear hC h
  rintro s138 e_ w142 next139 K140 ⟨hS_, hC⟩ h hK141
  refine wp_seq ?_
  refine sr ?_
  refine s_mv (v := .int .i64 s138.2) (sx hS_ 2 rfl) ?_
  refine s_mv (v := u0_0) (sx hS_ 0 rfl) ?_
  obtain ⟨Ad143, c144, hv145⟩ := sl_len (hC.getP 0 rfl)
  refine s_len Try.underlying46 (tr rfl hv145) ?_
  refine s_lss rfl rfl ?_
  refine s_mv (v := .bool (decide (s138.2 < (a0.length : Int)))) rfl ?_
  refine bsplit (decide (s138.2 < (a0.length : Int))) (fun hb146 => ?_) (fun hb146 => ?_)
  ·replace h := ift h (ct hb146)
   refine guardOn 4 16 rfl rfl hb146 ?_
   refine s_mv (v := .int .i64 s138.2) (sx hS_ 2 rfl) ?_
   refine guardOn 4 16 rfl rfl hb146 ?_
   refine s_lss rfl rfl ?_
   refine s_pick (v := .bool (decide (s138.2 < 4096))) (b := true) (tr rfl (congrArg _ hb146)) rfl ?_
   refine dn ?_
   refine cw_cond rfl (fun hb147 => ?_) (fun hb147 => ?_)
   ·replace h := ift h (ct hb147)
    refine wp_skip ?_
    refine then_norm ?_
    refine wp_seq ?_
    refine wp_block ?_
    refine cw_draw 13 mixed [0, 0, 2, 6, 14, 30, 0, 0, 192, 448, 960, 2046, 4094, 8191, 16383, 32767] [4, 8, 9] [0, 1, 2, 3, 5, 6, 7, 10, 11, 12] (by kernel_rfl) (by kernel_rfl) (by kernel_rfl) (fun hM149 hM150 w148 hB_ => ?_)
    replace hC := hC.grow hB_
    refine aF 0 (.pointer (some ⟨b5, 0, none⟩)) rfl rfl (hM150 0 rfl) (rfl) (fun _ => by exact r_mv (v := .pointer (some ⟨b5, 0, none⟩)) (sx hS_ 1 rfl)) (dbits 16 1) ?_
    refine aF 1 (.pointer (some ⟨b5, 0, none⟩)) rfl rfl (hM150 1 rfl) (rfl) (fun _ => by exact r_mv (v := .pointer (some ⟨b5, 0, none⟩)) (sx hS_ 1 rfl)) (dbits 16 3) ?_
    refine aF 2 (.pointer (some ⟨b5, 0, none⟩)) rfl rfl (hM150 2 rfl) (rfl) (fun _ => by exact r_nilchk rfl) (dbits 16 7) ?_
    refine aF 3 (.pointer (some ⟨b5, 2, none⟩)) rfl rfl (hM150 3 rfl) (rfl) (fun _ => by exact r_faddrB 2 Try.underlying170 rfl sc168.size rfl rfl) (dbits 16 15) ?_
    refine aL 4 (.int .u64 s138.1) rfl rfl (hM149 4 rfl) (rfl) (fun _ hB_ => by exact r_loadS (hC.grow hB_) 0 (.int .u64 s138.1) rfl sc168 rfl rfl) (dbits 16 31) ?_
    refine aF 5 (.int .u64 (IntKind.u64.wrap (s138.1 * 1099511628211))) rfl rfl (hM150 5 rfl) (rfl) (fun _ => by exact r_mul rfl rfl) (dbits 16 63) ?_
    refine aF 6 (u0_0) rfl rfl (hM150 6 rfl) (rfl) (fun _ => by exact r_mv (v := u0_0) (sx hS_ 0 rfl)) (dbits 16 127) ?_
    refine aF 7 (.int .i64 s138.2) rfl rfl (hM150 7 rfl) (rfl) (fun _ => by exact r_mv (v := .int .i64 s138.2) (sx hS_ 2 rfl)) (dbits 16 255) ?_
    obtain ⟨⟨h0_151, h1_152⟩, h⟩ := h
    obtain ⟨Ad153, c154, hv155⟩ := sl_form (hC.getP 0 rfl) s138.2.toNat (show s138.2.toNat < a0.length by omega)
    refine aL 8 (.pointer (some (Ad153.add (s138.2.toNat * 1)))) rfl rfl (hM149 8 rfl) (rfl) (fun _ hB_ => by exact r_iaddrS (len := a0.length) Try.underlying46 sc5.size (by exact tr rfl hv155) rfl h0_151 h1_152) (dbits 16 511) ?_
    refine aL 9 (.int .u8 (a0.getD s138.2.toNat default)) rfl rfl (hM149 9 rfl) (rfl) (fun _ hB_ => by exact r_loadCS (.int .u8 (a0.getD s138.2.toNat default)) (sl_cellsE ((hC.grow hB_).getP 0 rfl) hv155 s138.2.toNat (show s138.2.toNat < a0.length by omega)) sc5 rfl) (dbits 16 1023) ?_
    refine aF 10 (.int .u64 (IntKind.u64.wrap (a0.getD s138.2.toNat default))) rfl rfl (hM150 10 rfl) (rfl) (fun _ => by exact r_conv Try.underlying5 Try.underlying168 rfl) (dbits 16 2047) ?_
    refine aF 11 (.int .u64 (IntKind.u64.wrap ((IntKind.u64.wrap (s138.1 * 1099511628211)) + (IntKind.u64.wrap (a0.getD s138.2.toNat default))))) rfl rfl (hM150 11 rfl) (rfl) (fun _ => by exact r_add rfl rfl) (dbits 16 4095) ?_
    refine aF 12 (.int .u64 (IntKind.u64.wrap ((IntKind.u64.wrap ((IntKind.u64.wrap (s138.1 * 1099511628211)) + (IntKind.u64.wrap (a0.getD s138.2.toNat default)))) + 37))) rfl rfl (hM150 12 rfl) (rfl) (fun _ => by exact r_add rfl rfl) (dbits 16 8191) ?_
    refine ae_tail 13 (by decide) (by decide) (by kernel_rfl) (by kernel_rfl) rfl ?_
    refine s_nilchk rfl ?_
    refine s_faddrB 2 Try.underlying170 rfl sc168.size rfl rfl ?_
    refine s_store (v := .int .u64 (IntKind.u64.wrap ((IntKind.u64.wrap ((IntKind.u64.wrap (s138.1 * 1099511628211)) + (IntKind.u64.wrap (a0.getD s138.2.toNat default)))) + 37))) hC 0 [.int .u64 (IntKind.u64.wrap ((IntKind.u64.wrap ((IntKind.u64.wrap (s138.1 * 1099511628211)) + (IntKind.u64.wrap (a0.getD s138.2.toNat default)))) + 37))] [u0_0, .int .i64 0, .int .u64 (IntKind.u64.wrap ((IntKind.u64.wrap ((IntKind.u64.wrap (s138.1 * 1099511628211)) + (IntKind.u64.wrap (a0.getD s138.2.toNat default)))) + 37))] rfl sc168.size rfl rfl rfl rfl rfl (Nat.le_of_ble_eq_true rfl) rfl fun w156 hC => ?_
    refine done ?_
    refine qn_norm ?_
    refine blk_norm ?_
    refine then_norm ?_
    refine cw_region ?_
    refine s_mv (v := .int .i64 s138.2) (sx hS_ 2 rfl) ?_
    refine s_add rfl rfl ?_
    refine s_as (v := .int .i64 (IntKind.i64.wrap (s138.2 + 1))) rfl ?_
    refine done ?_
    exact hK141 (IntKind.u64.wrap ((IntKind.u64.wrap ((IntKind.u64.wrap (s138.1 * 1099511628211)) + (IntKind.u64.wrap (a0.getD s138.2.toNat default)))) + 37), IntKind.i64.wrap (s138.2 + 1)) _ _ ⟨(sk (sx hS_ 0 rfl) (sk (sx hS_ 1 rfl) (sk rfl sn))), hC⟩ h
   ·replace h := iff_ h (cf hb147)
    refine wp_exit (then_exit (then_exit (exit_in ?_)))
    refine then_norm ?_
    refine sr ?_
    refine s_mv (v := .pointer (some ⟨b5, 0, none⟩)) (sx hS_ 1 rfl) ?_
    refine s_as (v := .pointer (some ⟨b5, 0, none⟩)) rfl ?_
    refine dn ?_
    refine wp_ret ?_
    refine ret1 (fn := Try.f75) (v := .pointer (some ⟨b5, 0, none⟩)) rfl (res_tmp rfl) ⟨_, rfl, ?_⟩ (.inl rfl)
    refine s_inline [.pointer (some ⟨b5, 0, none⟩), .int .i64 10006] Try.func90 rfl rfl 17 Try.ntmps90 (Nat.le_of_ble_eq_true rfl) rfl ?_
    refine sr ?_
    refine s_as (v := .int .i64 0) rfl ?_
    refine dn ?_
    refine wp_seq ?_
    refine sr ?_
    refine s_mv (v := .pointer (some ⟨b5, 0, none⟩)) rfl ?_
    refine s_call [.pointer (some ⟨b5, 0, none⟩), .int .i64 14] _ Try.func88 rfl rfl rfl (c_spec_l01Next (a0, 0, s138.1) 14 h _ (hC.getP 0 rfl) (hC.getM 0 rfl) (fun b_ hb_ hb2_ => hC.pd _ (List.mem_of_getElem? (i := 0) rfl) b_ hb_ _ (List.mem_of_getElem? (i := 0) rfl) hb2_)) (fun ret157 w159 hR158 => ?_)
    obtain ⟨r160, m162, rfl, h, hm163, hB161⟩ := hR158
    refine ⟨_, rfl, ?_⟩
    replace hC := hC.turnF 0 rfl hB161 hm163
    refine s_eql rfl rfl ?_
    refine dn ?_
    refine cw_cond rfl (fun hb164 => ?_) (fun hb164 => ?_)
    ·replace h := ift h (ct hb164)
     refine sr ?_
     refine s_mv (v := .pointer (some ⟨b5, 0, none⟩)) rfl ?_
     refine s_mv (v := .int .i64 10006) rfl ?_
     refine s_add rfl rfl ?_
     refine s_bslice (sz := 1) hC [(0, .int .i64 (-1)), (1, .int .i64 (IntKind.i64.wrap (10006 + 1))), (2, .int .i64 1099511627776), (3, .int .i64 (-4611686018427387904))] ((EI .i64).encs [(-1), IntKind.i64.wrap (10006 + 1), 1099511627776, (-4611686018427387904)]) rfl (fun _ => bs22_4 (-1) (IntKind.i64.wrap (10006 + 1)) 1099511627776 (-4611686018427387904) _) rfl (by decide) fun b165 w166 hB_ hC => ?_
     refine s_call [.pointer (some ⟨b5, 0, none⟩), .slice (some ⟨b165, 0, none⟩) 4 4] _ Try.func89 rfl rfl rfl (c_spec_l01Pick (a0, m162.1, m162.2) [(-1), IntKind.i64.wrap (10006 + 1), 1099511627776, (-4611686018427387904)] h _ (own_repE (hC.getM 0 rfl)) (hC.getP 0 rfl) (hC.getM 1 rfl) (fun b_ hb_ hb2_ => hC.pd _ (List.mem_of_getElem? (i := 0) rfl) b_ hb_ _ (List.mem_of_getElem? (i := 1) rfl) hb2_) (fun b_ hb_ hb2_ => hC.mm 0 1 rfl rfl (by decide) b_ hb_ hb2_)) (fun ret168 w170 hR169 => ?_)
     obtain ⟨r171, m173, rfl, h, hm174, hB172⟩ := hR169
     refine ⟨_, rfl, ?_⟩
     replace hC := hC.turnF 1 rfl hB172 hm174
     refine s_as (v := .int .i64 r171) rfl ?_
     refine dn ?_
     refine wp_ret (then_ret ?_)
     refine ret1 (fn := Try.f90) (v := .int .i64 r171) rfl (res_tmp rfl) ⟨_, rfl, ?_⟩ (.inl rfl)
     refine s_as (v := .int .i64 r171) rfl ?_
     refine dn ?_
     refine wp_ret ?_
     refine ret1 (fn := Try.f36) rfl ?_ ⟨r171, rfl, h, hC.below⟩ (.inl rfl)
     exact res_tmp rfl
    ·replace h := iff_ h (cf hb164)
     refine wp_skip ?_
     refine then_norm ?_
     refine sr ?_
     refine s_mv (v := .pointer (some ⟨b5, 0, none⟩)) rfl ?_
     refine s_mv (v := .int .i64 10006) rfl ?_
     refine s_add rfl rfl ?_
     refine s_call [.pointer (some ⟨b5, 0, none⟩), .int .i64 (IntKind.i64.wrap (10006 + 1))] _ Try.func88 rfl rfl rfl (c_spec_l01Next (a0, m162.1, m162.2) (IntKind.i64.wrap (10006 + 1)) h _ (hC.getP 0 rfl) (hC.getM 0 rfl) (fun b_ hb_ hb2_ => hC.pd _ (List.mem_of_getElem? (i := 0) rfl) b_ hb_ _ (List.mem_of_getElem? (i := 0) rfl) hb2_)) (fun ret175 w177 hR176 => ?_)
     obtain ⟨r178, m180, rfl, h, hm181, hB179⟩ := hR176
     refine ⟨_, rfl, ?_⟩
     replace hC := hC.turnF 0 rfl hB179 hm181
     refine s_as (v := .int .i64 r178) rfl ?_
     refine dn ?_
     refine wp_ret ?_
     refine ret1 (fn := Try.f90) (v := .int .i64 r178) rfl (res_tmp rfl) ⟨_, rfl, ?_⟩ (.inl rfl)
     refine s_as (v := .int .i64 r178) rfl ?_
     refine dn ?_
     refine wp_ret ?_
     refine ret1 (fn := Try.f36) rfl ?_ ⟨r178, rfl, h, hC.below⟩ (.inl rfl)
     exact res_tmp rfl
  ·replace h := iff_ h (cf hb146)
   refine guardOff (b := false) 4 16 rfl (tr rfl (congrArg _ hb146)) (by decide) ?_
   refine guardOff (b := false) 4 16 rfl (tr rfl (congrArg _ hb146)) (by decide) ?_
   refine s_pick (v := .bool false) (b := false) (tr rfl (congrArg _ hb146)) rfl ?_
   refine dn ?_
   refine cw_false rfl rfl ?_
   refine wp_exit (then_exit (then_exit (exit_in ?_)))
   refine then_norm ?_
   refine sr ?_
   refine s_mv (v := .pointer (some ⟨b5, 0, none⟩)) (sx hS_ 1 rfl) ?_
   refine s_as (v := .pointer (some ⟨b5, 0, none⟩)) rfl ?_
   refine dn ?_
   refine wp_ret ?_
   refine ret1 (fn := Try.f75) (v := .pointer (some ⟨b5, 0, none⟩)) rfl (res_tmp rfl) ⟨_, rfl, ?_⟩ (.inl rfl)
   refine s_inline [.pointer (some ⟨b5, 0, none⟩), .int .i64 10006] Try.func90 rfl rfl 17 Try.ntmps90 (Nat.le_of_ble_eq_true rfl) rfl ?_
   refine sr ?_
   refine s_as (v := .int .i64 0) rfl ?_
   refine dn ?_
   refine wp_seq ?_
   refine sr ?_
   refine s_mv (v := .pointer (some ⟨b5, 0, none⟩)) rfl ?_
   refine s_call [.pointer (some ⟨b5, 0, none⟩), .int .i64 14] _ Try.func88 rfl rfl rfl (c_spec_l01Next (a0, 0, s138.1) 14 h _ (hC.getP 0 rfl) (hC.getM 0 rfl) (fun b_ hb_ hb2_ => hC.pd _ (List.mem_of_getElem? (i := 0) rfl) b_ hb_ _ (List.mem_of_getElem? (i := 0) rfl) hb2_)) (fun ret182 w184 hR183 => ?_)
   obtain ⟨r185, m187, rfl, h, hm188, hB186⟩ := hR183
   refine ⟨_, rfl, ?_⟩
   replace hC := hC.turnF 0 rfl hB186 hm188
   refine s_eql rfl rfl ?_
   refine dn ?_
   refine cw_cond rfl (fun hb189 => ?_) (fun hb189 => ?_)
   ·replace h := ift h (ct hb189)
    refine sr ?_
    refine s_mv (v := .pointer (some ⟨b5, 0, none⟩)) rfl ?_
    refine s_mv (v := .int .i64 10006) rfl ?_
    refine s_add rfl rfl ?_
    refine s_bslice (sz := 1) hC [(0, .int .i64 (-1)), (1, .int .i64 (IntKind.i64.wrap (10006 + 1))), (2, .int .i64 1099511627776), (3, .int .i64 (-4611686018427387904))] ((EI .i64).encs [(-1), IntKind.i64.wrap (10006 + 1), 1099511627776, (-4611686018427387904)]) rfl (fun _ => bs22_4 (-1) (IntKind.i64.wrap (10006 + 1)) 1099511627776 (-4611686018427387904) _) rfl (by decide) fun b190 w191 hB_ hC => ?_
    refine s_call [.pointer (some ⟨b5, 0, none⟩), .slice (some ⟨b190, 0, none⟩) 4 4] _ Try.func89 rfl rfl rfl (c_spec_l01Pick (a0, m187.1, m187.2) [(-1), IntKind.i64.wrap (10006 + 1), 1099511627776, (-4611686018427387904)] h _ (own_repE (hC.getM 0 rfl)) (hC.getP 0 rfl) (hC.getM 1 rfl) (fun b_ hb_ hb2_ => hC.pd _ (List.mem_of_getElem? (i := 0) rfl) b_ hb_ _ (List.mem_of_getElem? (i := 1) rfl) hb2_) (fun b_ hb_ hb2_ => hC.mm 0 1 rfl rfl (by decide) b_ hb_ hb2_)) (fun ret193 w195 hR194 => ?_)
    obtain ⟨r196, m198, rfl, h, hm199, hB197⟩ := hR194
    refine ⟨_, rfl, ?_⟩
    replace hC := hC.turnF 1 rfl hB197 hm199
    refine s_as (v := .int .i64 r196) rfl ?_
    refine dn ?_
    refine wp_ret (then_ret ?_)
    refine ret1 (fn := Try.f90) (v := .int .i64 r196) rfl (res_tmp rfl) ⟨_, rfl, ?_⟩ (.inl rfl)
    refine s_as (v := .int .i64 r196) rfl ?_
    refine dn ?_
    refine wp_ret ?_
    refine ret1 (fn := Try.f36) rfl ?_ ⟨r196, rfl, h, hC.below⟩ (.inl rfl)
    exact res_tmp rfl
   ·replace h := iff_ h (cf hb189)
    refine wp_skip ?_
    refine then_norm ?_
    refine sr ?_
    refine s_mv (v := .pointer (some ⟨b5, 0, none⟩)) rfl ?_
    refine s_mv (v := .int .i64 10006) rfl ?_
    refine s_add rfl rfl ?_
    refine s_call [.pointer (some ⟨b5, 0, none⟩), .int .i64 (IntKind.i64.wrap (10006 + 1))] _ Try.func88 rfl rfl rfl (c_spec_l01Next (a0, m187.1, m187.2) (IntKind.i64.wrap (10006 + 1)) h _ (hC.getP 0 rfl) (hC.getM 0 rfl) (fun b_ hb_ hb2_ => hC.pd _ (List.mem_of_getElem? (i := 0) rfl) b_ hb_ _ (List.mem_of_getElem? (i := 0) rfl) hb2_)) (fun ret200 w202 hR201 => ?_)
    obtain ⟨r203, m205, rfl, h, hm206, hB204⟩ := hR201
    refine ⟨_, rfl, ?_⟩
    replace hC := hC.turnF 0 rfl hB204 hm206
    refine s_as (v := .int .i64 r203) rfl ?_
    refine dn ?_
    refine wp_ret ?_
    refine ret1 (fn := Try.f90) (v := .int .i64 r203) rfl (res_tmp rfl) ⟨_, rfl, ?_⟩ (.inl rfl)
    refine s_as (v := .int .i64 r203) rfl ?_
    refine dn ?_
    refine wp_ret ?_
    refine ret1 (fn := Try.f36) rfl ?_ ⟨r203, rfl, h, hC.below⟩ (.inl rfl)
    exact res_tmp rfl
 ·skip
  exact ⟨(sk rfl (sk rfl (sk rfl sn))), hC⟩
def f_impl_inverse (a0 : Int) (K : Int → Prop) : Prop :=
 whileP (fun (s7 : Int × Int × Int) next8 => (if s7.2.2 > 0 then (if Int.tmod s7.2.2 2 = 1 then next8 (Int.tmod (IntKind.i64.wrap (s7.1 * s7.1)) 10007, Int.tmod (IntKind.i64.wrap (s7.2.1 * s7.1)) 10007, IntKind.i64.wrap (Int.tdiv s7.2.2 2)) else next8 (Int.tmod (IntKind.i64.wrap (s7.1 * s7.1)) 10007, s7.2.1, IntKind.i64.wrap (Int.tdiv s7.2.2 2))) else K s7.2.1)) (a0, 1, 10005)
theorem c_impl_inverse (a0 : Int)  {K : Int → Prop} (h : f_impl_inverse a0 K) (w0 : World)  :
  Calls Try.prog 94 #[.int .i64 a0] w0 fun e w' => ∃ (r0 : Int), 
   e = .returned (.int .i64 r0) ∧ K r0 ∧ Bel w0 w' := by
 unfold f_impl_inverse at h
 refine calls_of (args := [.int .i64 a0]) Try.func94 rfl 21 Try.ntmps94 (Nat.le_of_ble_eq_true rfl) ?_
 have hC := Ctx.start (X := Nox) w0 [] (by simp)
 refine sr ?_
 refine s_as (v := .int .i64 0) rfl ?_
 refine dn ?_
 refine sr ?_
 refine s_as (v := .int .i64 1) rfl ?_
 refine dn ?_
 refine wp_seq ?_
 refine sr ?_
 refine s_as (v := .int .i64 10005) rfl ?_
 refine dn ?_
 refine wp_block ?_
 refine loopW (S := Int × Int × Int) _ (fun s7 e_ w_ => Slots e_ [(0, .int .i64 s7.1), (2, .int .i64 0), (3, .int .i64 s7.2.1), (4, .int .i64 s7.2.2)] ∧ Ctx Nox w0 w_ [] []) ?_ (s0 := (a0, 1, 10005)) ?_ h
 ·clear hC h
  rintro s7 e_ w11 next8 K9 ⟨hS_, hC⟩ h hK10
  refine wp_seq ?_
  refine sr ?_
  refine s_mv (v := .int .i64 s7.2.2) (sx hS_ 3 rfl) ?_
  refine s_gtr rfl rfl ?_
  refine dn ?_
  refine cw_cond rfl (fun hb12 => ?_) (fun hb12 => ?_)
  ·replace h := ift h (ct hb12)
   refine wp_skip ?_
   refine then_norm ?_
   refine wp_seq ?_
   refine wp_block ?_
   refine wp_seq ?_
   refine sr ?_
   refine s_mv (v := .int .i64 s7.2.2) (sx hS_ 3 rfl) ?_
   refine s_rem rfl rfl (by decide) ?_
   refine s_eql rfl rfl ?_
   refine dn ?_
   refine cw_cond rfl (fun hb13 => ?_) (fun hb13 => ?_)
   ·replace h := ift h (ct hb13)
    refine cw_region ?_
    refine s_mv (v := .int .i64 s7.2.1) (sx hS_ 2 rfl) ?_
    refine s_mv (v := .int .i64 s7.1) (sx hS_ 0 rfl) ?_
    refine s_mul rfl rfl ?_
    refine s_rem rfl rfl (by decide) ?_
    refine s_as (v := .int .i64 (Int.tmod (IntKind.i64.wrap (s7.2.1 * s7.1)) 10007)) rfl ?_
    refine dn ?_
    refine cw_region ?_
    refine s_mv (v := .int .i64 s7.1) (sx hS_ 0 rfl) ?_
    refine s_mv (v := .int .i64 s7.1) (sx hS_ 0 rfl) ?_
    refine s_mul rfl rfl ?_
    refine s_rem rfl rfl (by decide) ?_
    refine s_as (v := .int .i64 (Int.tmod (IntKind.i64.wrap (s7.1 * s7.1)) 10007)) rfl ?_
    refine done ?_
    refine blk_norm ?_
    refine then_norm ?_
    refine cw_region ?_
    refine s_mv (v := .int .i64 s7.2.2) (sx hS_ 3 rfl) ?_
    refine s_quo rfl rfl (by decide) ?_
    refine s_as (v := .int .i64 (IntKind.i64.wrap (Int.tdiv s7.2.2 2))) rfl ?_
    refine done ?_
    exact hK10 (Int.tmod (IntKind.i64.wrap (s7.1 * s7.1)) 10007, Int.tmod (IntKind.i64.wrap (s7.2.1 * s7.1)) 10007, IntKind.i64.wrap (Int.tdiv s7.2.2 2)) _ _ ⟨(sk rfl (sk (sx hS_ 1 rfl) (sk rfl (sk rfl sn)))), hC⟩ h
   ·replace h := iff_ h (cf hb13)
    refine wp_skip ?_
    refine then_norm ?_
    refine cw_region ?_
    refine s_mv (v := .int .i64 s7.1) (sx hS_ 0 rfl) ?_
    refine s_mv (v := .int .i64 s7.1) (sx hS_ 0 rfl) ?_
    refine s_mul rfl rfl ?_
    refine s_rem rfl rfl (by decide) ?_
    refine s_as (v := .int .i64 (Int.tmod (IntKind.i64.wrap (s7.1 * s7.1)) 10007)) rfl ?_
    refine done ?_
    refine blk_norm ?_
    refine then_norm ?_
    refine cw_region ?_
    refine s_mv (v := .int .i64 s7.2.2) (sx hS_ 3 rfl) ?_
    refine s_quo rfl rfl (by decide) ?_
    refine s_as (v := .int .i64 (IntKind.i64.wrap (Int.tdiv s7.2.2 2))) rfl ?_
    refine done ?_
    exact hK10 (Int.tmod (IntKind.i64.wrap (s7.1 * s7.1)) 10007, s7.2.1, IntKind.i64.wrap (Int.tdiv s7.2.2 2)) _ _ ⟨(sk rfl (sk (sx hS_ 1 rfl) (sk (sx hS_ 2 rfl) (sk rfl sn)))), hC⟩ h
  ·replace h := iff_ h (cf hb12)
   refine wp_exit (then_exit (then_exit (exit_in ?_)))
   refine then_norm ?_
   refine sr ?_
   refine s_mv (v := .int .i64 s7.2.1) (sx hS_ 2 rfl) ?_
   refine s_as (v := .int .i64 s7.2.1) rfl ?_
   refine dn ?_
   refine wp_ret ?_
   refine ret1 (fn := Try.f94) rfl ?_ ⟨s7.2.1, rfl, h, hC.below⟩ (.inl rfl)
   exact res_tmp rfl
 ·skip
  exact ⟨(sk rfl (sk rfl (sk rfl (sk rfl sn)))), hC⟩
def f_impl_InverseNumber (a0 : Int) (K : Int → Int → Prop) : Prop :=
 f_impl_isFactor a0 (fun r4 => (if ¬ (r4 = true) then K 0 2 else f_impl_inverse a0 (fun r10 => K r10 0)))
theorem c_impl_InverseNumber (a0 : Int)  {K : Int → Int → Prop} (h : f_impl_InverseNumber a0 K) (w0 : World)  :
  Calls Try.prog 37 #[.int .i64 a0] w0 fun e w' => ∃ (r0 : Int) (r1 : Int), 
   e = .returned (.tuple #[.int .i64 r0, .int .i64 r1]) ∧ K r0 r1 ∧ Bel w0 w' := by
 unfold f_impl_InverseNumber at h
 refine calls_of (args := [.int .i64 a0]) Try.func37 rfl 9 Try.ntmps37 (Nat.le_of_ble_eq_true rfl) ?_
 have hC := Ctx.start (X := Nox) w0 [] (by simp)
 refine sr ?_
 refine s_as (v := .int .i64 0) rfl ?_
 refine s_as (v := .int .i64 0) rfl ?_
 refine dn ?_
 refine wp_seq ?_
 refine sr ?_
 refine s_mv (v := .int .i64 a0) rfl ?_
 refine s_call [.int .i64 a0] _ Try.func93 rfl rfl rfl (c_impl_isFactor a0 h _) (fun ret1 w3 hR2 => ?_)
 obtain ⟨r4, rfl, h, hB5⟩ := hR2
 refine ⟨_, rfl, ?_⟩
 replace hC := hC.grow hB5
 refine s_not rfl ?_
 refine dn ?_
 refine cw_cond rfl (fun hb6 => ?_) (fun hb6 => ?_)
 ·replace h := ift h (ne_t (not_t hb6))
  refine sr ?_
  refine s_as (v := .int .i64 0) rfl ?_
  refine s_as (v := .int .i64 2) rfl ?_
  refine dn ?_
  refine wp_ret (then_ret ?_)
  refine ret2 (fn := Try.f37) rfl ?_ ?_ ⟨0, 2, rfl, h, hC.below⟩ (.inl rfl)
  ·exact res_tmp rfl
  ·exact res_tmp rfl
 ·replace h := iff_ h (not_not_intro ((not_f hb6)))
  refine wp_skip ?_
  refine then_norm ?_
  refine sr ?_
  refine s_mv (v := .int .i64 a0) rfl ?_
  refine s_call [.int .i64 a0] _ Try.func94 rfl rfl rfl (c_impl_inverse a0 h _) (fun ret7 w9 hR8 => ?_)
  obtain ⟨r10, rfl, h, hB11⟩ := hR8
  refine ⟨_, rfl, ?_⟩
  replace hC := hC.grow hB11
  refine s_as (v := .int .i64 r10) rfl ?_
  refine s_as (v := .int .i64 0) rfl ?_
  refine dn ?_
  refine wp_ret ?_
  refine ret2 (fn := Try.f37) rfl ?_ ?_ ⟨r10, 0, rfl, h, hC.below⟩ (.inl rfl)
  ·exact res_tmp rfl
  ·exact res_tmp rfl
def f_spec_l01Inverse (a0 : Int) (K : Int → Prop) : Prop :=
 whileP (fun (s7 : Int × Int × Int) next8 => (if s7.2.2 > 0 then (if Int.tmod s7.2.2 2 = 1 then next8 (Int.tmod (IntKind.i64.wrap (s7.1 * s7.2.1)) 10007, Int.tmod (IntKind.i64.wrap (s7.2.1 * s7.2.1)) 10007, IntKind.i64.wrap (Int.tdiv s7.2.2 2)) else next8 (s7.1, Int.tmod (IntKind.i64.wrap (s7.2.1 * s7.2.1)) 10007, IntKind.i64.wrap (Int.tdiv s7.2.2 2))) else K s7.1)) (1, a0, 10005)
theorem c_spec_l01Inverse (a0 : Int)  {K : Int → Prop} (h : f_spec_l01Inverse a0 K) (w0 : World)  :
  Calls Try.prog 95 #[.int .i64 a0] w0 fun e w' => ∃ (r0 : Int), 
   e = .returned (.int .i64 r0) ∧ K r0 ∧ Bel w0 w' := by
 unfold f_spec_l01Inverse at h
 refine calls_of (args := [.int .i64 a0]) Try.func95 rfl 23 Try.ntmps95 (Nat.le_of_ble_eq_true rfl) ?_
 have hC := Ctx.start (X := Nox) w0 [] (by simp)
 refine sr ?_
 refine s_as (v := .int .i64 0) rfl ?_
 refine dn ?_
 refine sr ?_
 refine s_mv (v := .int .i64 a0) rfl ?_
 refine s_as (v := .int .i64 1) rfl ?_
 refine s_as (v := .int .i64 a0) rfl ?_
 refine dn ?_
 refine wp_seq ?_
 refine sr ?_
 refine s_as (v := .int .i64 10005) rfl ?_
 refine dn ?_
 refine wp_block ?_
 refine loopW (S := Int × Int × Int) _ (fun s7 e_ w_ => Slots e_ [(2, .int .i64 0), (3, .int .i64 s7.1), (4, .int .i64 s7.2.1), (5, .int .i64 s7.2.2)] ∧ Ctx Nox w0 w_ [] []) ?_ (s0 := (1, a0, 10005)) ?_ h
 ·clear hC h
  rintro s7 e_ w11 next8 K9 ⟨hS_, hC⟩ h hK10
  refine wp_seq ?_
  refine sr ?_
  refine s_mv (v := .int .i64 s7.2.2) (sx hS_ 3 rfl) ?_
  refine s_gtr rfl rfl ?_
  refine dn ?_
  refine cw_cond rfl (fun hb12 => ?_) (fun hb12 => ?_)
  ·replace h := ift h (ct hb12)
   refine wp_skip ?_
   refine then_norm ?_
   refine wp_seq ?_
   refine wp_block ?_
   refine wp_seq ?_
   refine sr ?_
   refine s_mv (v := .int .i64 s7.2.2) (sx hS_ 3 rfl) ?_
   refine s_rem rfl rfl (by decide) ?_
   refine s_eql rfl rfl ?_
   refine dn ?_
   refine cw_cond rfl (fun hb13 => ?_) (fun hb13 => ?_)
   ·replace h := ift h (ct hb13)
    refine cw_region ?_
    refine s_mv (v := .int .i64 s7.1) (sx hS_ 1 rfl) ?_
    refine s_mv (v := .int .i64 s7.2.1) (sx hS_ 2 rfl) ?_
    refine s_mul rfl rfl ?_
    refine s_rem rfl rfl (by decide) ?_
    refine s_as (v := .int .i64 (Int.tmod (IntKind.i64.wrap (s7.1 * s7.2.1)) 10007)) rfl ?_
    refine dn ?_
    refine cw_region ?_
    refine s_mv (v := .int .i64 s7.2.1) (sx hS_ 2 rfl) ?_
    refine s_mv (v := .int .i64 s7.2.1) (sx hS_ 2 rfl) ?_
    refine s_mul rfl rfl ?_
    refine s_rem rfl rfl (by decide) ?_
    refine s_as (v := .int .i64 (Int.tmod (IntKind.i64.wrap (s7.2.1 * s7.2.1)) 10007)) rfl ?_
    refine done ?_
    refine blk_norm ?_
    refine then_norm ?_
    refine cw_region ?_
    refine s_mv (v := .int .i64 s7.2.2) (sx hS_ 3 rfl) ?_
    refine s_quo rfl rfl (by decide) ?_
    refine s_as (v := .int .i64 (IntKind.i64.wrap (Int.tdiv s7.2.2 2))) rfl ?_
    refine done ?_
    exact hK10 (Int.tmod (IntKind.i64.wrap (s7.1 * s7.2.1)) 10007, Int.tmod (IntKind.i64.wrap (s7.2.1 * s7.2.1)) 10007, IntKind.i64.wrap (Int.tdiv s7.2.2 2)) _ _ ⟨(sk (sx hS_ 0 rfl) (sk rfl (sk rfl (sk rfl sn)))), hC⟩ h
   ·replace h := iff_ h (cf hb13)
    refine wp_skip ?_
    refine then_norm ?_
    refine cw_region ?_
    refine s_mv (v := .int .i64 s7.2.1) (sx hS_ 2 rfl) ?_
    refine s_mv (v := .int .i64 s7.2.1) (sx hS_ 2 rfl) ?_
    refine s_mul rfl rfl ?_
    refine s_rem rfl rfl (by decide) ?_
    refine s_as (v := .int .i64 (Int.tmod (IntKind.i64.wrap (s7.2.1 * s7.2.1)) 10007)) rfl ?_
    refine done ?_
    refine blk_norm ?_
    refine then_norm ?_
    refine cw_region ?_
    refine s_mv (v := .int .i64 s7.2.2) (sx hS_ 3 rfl) ?_
    refine s_quo rfl rfl (by decide) ?_
    refine s_as (v := .int .i64 (IntKind.i64.wrap (Int.tdiv s7.2.2 2))) rfl ?_
    refine done ?_
    exact hK10 (s7.1, Int.tmod (IntKind.i64.wrap (s7.2.1 * s7.2.1)) 10007, IntKind.i64.wrap (Int.tdiv s7.2.2 2)) _ _ ⟨(sk (sx hS_ 0 rfl) (sk (sx hS_ 1 rfl) (sk rfl (sk rfl sn)))), hC⟩ h
  ·replace h := iff_ h (cf hb12)
   refine wp_exit (then_exit (then_exit (exit_in ?_)))
   refine then_norm ?_
   refine sr ?_
   refine s_mv (v := .int .i64 s7.1) (sx hS_ 1 rfl) ?_
   refine s_as (v := .int .i64 s7.1) rfl ?_
   refine dn ?_
   refine wp_ret ?_
   refine ret1 (fn := Try.f95) rfl ?_ ⟨s7.1, rfl, h, hC.below⟩ (.inl rfl)
   exact res_tmp rfl
 ·skip
  exact ⟨(sk rfl (sk rfl (sk rfl (sk rfl sn)))), hC⟩
def f_spec_InverseNumber (a0 : Int) (K : Int → Int → Prop) : Prop :=
 f_spec_l01In a0 1 10006 (fun r4 => (if ¬ (r4 = true) then K 0 2 else f_spec_l01Inverse a0 (fun r10 => K r10 0)))
theorem c_spec_InverseNumber (a0 : Int)  {K : Int → Int → Prop} (h : f_spec_InverseNumber a0 K) (w0 : World)  :
  Calls Try.prog 38 #[.int .i64 a0] w0 fun e w' => ∃ (r0 : Int) (r1 : Int), 
   e = .returned (.tuple #[.int .i64 r0, .int .i64 r1]) ∧ K r0 r1 ∧ Bel w0 w' := by
 unfold f_spec_InverseNumber at h
 refine calls_of (args := [.int .i64 a0]) Try.func38 rfl 9 Try.ntmps38 (Nat.le_of_ble_eq_true rfl) ?_
 have hC := Ctx.start (X := Nox) w0 [] (by simp)
 refine sr ?_
 refine s_as (v := .int .i64 0) rfl ?_
 refine s_as (v := .int .i64 0) rfl ?_
 refine dn ?_
 refine wp_seq ?_
 refine sr ?_
 refine s_mv (v := .int .i64 a0) rfl ?_
 refine s_call [.int .i64 a0, .int .i64 1, .int .i64 10006] _ Try.func60 rfl rfl rfl (c_spec_l01In a0 1 10006 h _) (fun ret1 w3 hR2 => ?_)
 obtain ⟨r4, rfl, h, hB5⟩ := hR2
 refine ⟨_, rfl, ?_⟩
 replace hC := hC.grow hB5
 refine s_not rfl ?_
 refine dn ?_
 refine cw_cond rfl (fun hb6 => ?_) (fun hb6 => ?_)
 ·replace h := ift h (ne_t (not_t hb6))
  refine sr ?_
  refine s_as (v := .int .i64 0) rfl ?_
  refine s_as (v := .int .i64 2) rfl ?_
  refine dn ?_
  refine wp_ret (then_ret ?_)
  refine ret2 (fn := Try.f38) rfl ?_ ?_ ⟨0, 2, rfl, h, hC.below⟩ (.inl rfl)
  ·exact res_tmp rfl
  ·exact res_tmp rfl
 ·replace h := iff_ h (not_not_intro ((not_f hb6)))
  refine wp_skip ?_
  refine then_norm ?_
  refine sr ?_
  refine s_mv (v := .int .i64 a0) rfl ?_
  refine s_call [.int .i64 a0] _ Try.func95 rfl rfl rfl (c_spec_l01Inverse a0 h _) (fun ret7 w9 hR8 => ?_)
  obtain ⟨r10, rfl, h, hB11⟩ := hR8
  refine ⟨_, rfl, ?_⟩
  replace hC := hC.grow hB11
  refine s_as (v := .int .i64 r10) rfl ?_
  refine s_as (v := .int .i64 0) rfl ?_
  refine dn ?_
  refine wp_ret ?_
  refine ret2 (fn := Try.f38) rfl ?_ ?_ ⟨r10, 0, rfl, h, hC.below⟩ (.inl rfl)
  ·exact res_tmp rfl
  ·exact res_tmp rfl
def f_laws_FnMonomials (a0 : List Int) (K : Bool → Prop) : Prop :=
 f_laws_big a0 (fun r5 => (if r5 = true then K true else f_spec_DrawMultiplyMonomials a0 (fun r11 r16 r17 => f_impl_MultiplyMonomials r11 r16 r17 (fun r34 r35 r36 => f_spec_MultiplyMonomials r11 r16 r17 (fun r45 r46 r47 => (if r36 ≠ r47 then K false else (if r34 ≠ r45 then K false else (if r35 ≠ r46 then K false else f_impl_IsMonomial r11 r16 (fun r62 => f_spec_IsMonomial r11 r16 (fun r67 => (if r62 ≠ r67 then K false else f_impl_AreDegrees r11 (fun r73 => f_spec_AreDegrees r11 (fun r78 => (if r73 ≠ r78 then K false else (if r36 = 0 then f_impl_MultiplyMonomials r11 r17 r16 (fun r85 r86 r87 => f_impl_DegreeOfMonomial r11 r16 (fun r96 r97 => f_impl_DegreeOfMonomial r11 r17 (fun r102 r103 => f_impl_DegreeOfMonomial r11 r34 (fun r108 r109 => (if r87 ≠ 0 then K false else (if r97 ≠ 0 then K false else (if r103 ≠ 0 then K false else (if r109 ≠ 0 then K false else (if r85 ≠ r34 then K false else (if (decide (r35 = 0)) ≠ (decide (r86 = 0)) then K false else (if r35 ≠ 0 then (if r108 ≠ IntKind.i64.wrap (r96 + r102) then K false else (if (decide (r35 = r86)) = (decide (Int.tmod (IntKind.i64.wrap (r96 * r102)) 2 ≠ 0)) then K false else f_spec_DrawMonomialsOf a0 (fun r123 r128 => f_impl_MonomialsOf r123 r128 (fun r137 r142 => f_spec_MonomialsOf r123 r128 (fun r151 r156 => (if r142 ≠ r156 then K false else (if (r137.length : Int) ≠ (r151.length : Int) then K false else forN (fun i211 (s212 : Unit) next214 => ((0 ≤ (i211 : Int) ∧ (i211 : Int) < (r151.length : Int)) ∧ (if r137.getD i211 default ≠ r151.getD i211 default then K false else next214 ()))) (fun (s212 : Unit) => f_spec_DrawInverseNumber a0 (fun r241 => f_impl_InverseNumber r241 (fun r246 r247 => f_spec_InverseNumber r241 (fun r252 r253 => (if r247 ≠ r253 then K false else (if r246 ≠ r252 then K false else (if r247 ≠ 0 then K true else K (decide (Int.tmod (IntKind.i64.wrap (r241 * r246)) 10007 = 1))))))))) r137.length 0 ()))))))) else f_spec_DrawMonomialsOf a0 (fun r261 r266 => f_impl_MonomialsOf r261 r266 (fun r275 r280 => f_spec_MonomialsOf r261 r266 (fun r289 r294 => (if r280 ≠ r294 then K false else (if (r275.length : Int) ≠ (r289.length : Int) then K false else forN (fun i349 (s350 : Unit) next352 => ((0 ≤ (i349 : Int) ∧ (i349 : Int) < (r289.length : Int)) ∧ (if r275.getD i349 default ≠ r289.getD i349 default then K false else next352 ()))) (fun (s350 : Unit) => f_spec_DrawInverseNumber a0 (fun r379 => f_impl_InverseNumber r379 (fun r384 r385 => f_spec_InverseNumber r379 (fun r390 r391 => (if r385 ≠ r391 then K false else (if r384 ≠ r390 then K false else (if r385 ≠ 0 then K true else K (decide (Int.tmod (IntKind.i64.wrap (r379 * r384)) 10007 = 1))))))))) r275.length 0 ())))))))))))))))) else f_spec_DrawMonomialsOf a0 (fun r399 r404 => f_impl_MonomialsOf r399 r404 (fun r413 r418 => f_spec_MonomialsOf r399 r404 (fun r427 r432 => (if r418 ≠ r432 then K false else (if (r413.length : Int) ≠ (r427.length : Int) then K false else forN (fun i487 (s488 : Unit) next490 => ((0 ≤ (i487 : Int) ∧ (i487 : Int) < (r427.length : Int)) ∧ (if r413.getD i487 default ≠ r427.getD i487 default then K false else next490 ()))) (fun (s488 : Unit) => f_spec_DrawInverseNumber a0 (fun r517 => f_impl_InverseNumber r517 (fun r522 r523 => f_spec_InverseNumber r517 (fun r528 r529 => (if r523 ≠ r529 then K false else (if r522 ≠ r528 then K false else (if r523 ≠ 0 then K true else K (decide (Int.tmod (IntKind.i64.wrap (r517 * r522)) 10007 = 1))))))))) r413.length 0 ()))))))))))))))))))))
theorem c_laws_FnMonomials (a0 : List Int) {u0_0 : Value} {fp0 : List Nat} {K : Bool → Prop} (h : f_laws_FnMonomials a0 K) (w0 : World) (q0 : ((EI .u8).ty.sl).rep a0 [u0_0] fp0 w0) :
  Calls Try.prog 7 #[u0_0] w0 fun e w' => ∃ (r0 : Bool), 
   e = .returned (.bool r0) ∧ K r0 ∧ Bel w0 w' := by
 unfold f_laws_FnMonomials at h
 refine calls_of (args := [u0_0]) Try.func7 rfl 233 Try.ntmps7 (Nat.le_of_ble_eq_true rfl) ?_
 have hC := Ctx.start (X := Nox) w0 [Ty.item ((EI .u8).ty.sl) a0 [u0_0] fp0] (by simp only [List.mem_cons, List.not_mem_nil, or_false, forall_eq_or_imp, forall_eq]; exact q0)
 refine sr ?_
 refine s_as (v := .bool false) rfl ?_
 refine dn ?_
 refine wp_seq ?_
 refine sr ?_
 refine s_mv (v := u0_0) rfl ?_
 refine s_call [u0_0] _ Try.func24 rfl rfl rfl (c_laws_big a0 h _ (hC.getP 0 rfl)) (fun ret2 w4 hR3 => ?_)
 obtain ⟨r5, rfl, h, hB6⟩ := hR3
 refine ⟨_, rfl, ?_⟩
 replace hC := hC.grow hB6
 refine dn ?_
 refine cw_cond rfl (fun hb7 => ?_) (fun hb7 => ?_)
 ·replace h := ift h (hb7)
  refine sr ?_
  refine s_as (v := .bool true) rfl ?_
  refine dn ?_
  refine wp_ret (then_ret ?_)
  refine ret1 (fn := Try.f7) rfl ?_ ⟨true, rfl, h, hC.below⟩ (.inl rfl)
  exact res_tmp rfl
 ·replace h := iff_ h (ne_t hb7)
  refine wp_skip ?_
  refine then_norm ?_
  refine sr ?_
  refine s_mv (v := u0_0) rfl ?_
  refine s_call [u0_0] _ Try.func25 rfl rfl rfl (c_spec_DrawMultiplyMonomials a0 h _ (hC.getP 0 rfl)) (fun ret8 w10 hR9 => ?_)
  obtain ⟨r11, u12, f13, r16, r17, rfl, h, hr14, hf15, hB18⟩ := hR9
  refine ⟨_, rfl, ?_⟩
  replace hC := hC.push hB18 (Tr.item (Tr.sl 2 ((EI .i64).tr)) r11 [u12] f13) hr14 hf15
  obtain ⟨ho20, hf21⟩ := flat_tr (hC.getM 0 rfl).1
  subst hf21
  replace hC := hC.recast (c := own 2 1 u12 r11.length ((EI .i64).encs r11)) (fun _ h_ => h_) (fun _ => ho20)
  refine s_mv (v := .tuple #[u12, .agg (List.toArray (A8.enc .u8 r16)), .agg (List.toArray (A8.enc .u8 r17))]) rfl ?_
  refine s_ext (v := u12) rfl rfl ?_
  refine s_ext (v := .agg (List.toArray (A8.enc .u8 r16))) rfl rfl ?_
  refine s_ext (v := .agg (List.toArray (A8.enc .u8 r17))) rfl rfl ?_
  refine s_alloc hC (A8.enc .u8 A8.zero) z49 rfl fun b23 w25 hB_ hC => ?_
  refine s_alloc hC (A8.enc .u8 A8.zero) z49 rfl fun b26 w28 hB_ hC => ?_
  refine s_as (v := u12) rfl ?_
  refine s_store (v := .agg (List.toArray (A8.enc .u8 r16))) hC 1 (A8.enc .u8 r16) (A8.enc .u8 r16) rfl ag49.size rfl rfl rfl rfl rfl (Nat.le_of_ble_eq_true rfl) rfl fun w29 hC => ?_
  refine s_store (v := .agg (List.toArray (A8.enc .u8 r17))) hC 0 (A8.enc .u8 r17) (A8.enc .u8 r17) rfl ag49.size rfl rfl rfl rfl rfl (Nat.le_of_ble_eq_true rfl) rfl fun w30 hC => ?_
  refine dn ?_
  refine sr ?_
  refine s_mv (v := u12) rfl ?_
  refine s_loadA hC 1 (A8.enc .u8 r16) rfl ag49 rfl rfl rfl ?_
  refine s_loadA hC 0 (A8.enc .u8 r17) rfl ag49 rfl rfl rfl ?_
  refine s_call [u12, .agg (List.toArray (A8.enc .u8 r16)), .agg (List.toArray (A8.enc .u8 r17))] _ Try.func26 rfl rfl rfl (c_impl_MultiplyMonomials r11 r16 r17 h _ (own_repE (hC.getM 2 rfl))) (fun ret31 w33 hR32 => ?_)
  obtain ⟨r34, r35, r36, rfl, h, hB37⟩ := hR32
  refine ⟨_, rfl, ?_⟩
  replace hC := hC.grow hB37
  refine s_mv (v := .tuple #[.agg (List.toArray (A8.enc .u8 r34)), .int .i64 r35, .int .i64 r36]) rfl ?_
  refine s_ext (v := .agg (List.toArray (A8.enc .u8 r34))) rfl rfl ?_
  refine s_ext (v := .int .i64 r35) rfl rfl ?_
  refine s_ext (v := .int .i64 r36) rfl rfl ?_
  refine s_alloc hC (A8.enc .u8 A8.zero) z49 rfl fun b38 w40 hB_ hC => ?_
  refine s_store (v := .agg (List.toArray (A8.enc .u8 r34))) hC 0 (A8.enc .u8 r34) (A8.enc .u8 r34) rfl ag49.size rfl rfl rfl rfl rfl (Nat.le_of_ble_eq_true rfl) rfl fun w41 hC => ?_
  refine s_as (v := .int .i64 r35) rfl ?_
  refine s_as (v := .int .i64 r36) rfl ?_
  refine dn ?_
  refine sr ?_
  refine s_mv (v := u12) rfl ?_
  refine s_loadA hC 2 (A8.enc .u8 r16) rfl ag49 rfl rfl rfl ?_
  refine s_loadA hC 1 (A8.enc .u8 r17) rfl ag49 rfl rfl rfl ?_
  refine s_call [u12, .agg (List.toArray (A8.enc .u8 r16)), .agg (List.toArray (A8.enc .u8 r17))] _ Try.func27 rfl rfl rfl (c_spec_MultiplyMonomials r11 r16 r17 h _ (own_repE (hC.getM 3 rfl))) (fun ret42 w44 hR43 => ?_)
  obtain ⟨r45, r46, r47, rfl, h, hB48⟩ := hR43
  refine ⟨_, rfl, ?_⟩
  replace hC := hC.grow hB48
  refine s_mv (v := .tuple #[.agg (List.toArray (A8.enc .u8 r45)), .int .i64 r46, .int .i64 r47]) rfl ?_
  refine s_ext (v := .agg (List.toArray (A8.enc .u8 r45))) rfl rfl ?_
  refine s_ext (v := .int .i64 r46) rfl rfl ?_
  refine s_ext (v := .int .i64 r47) rfl rfl ?_
  refine s_alloc hC (A8.enc .u8 A8.zero) z49 rfl fun b49 w51 hB_ hC => ?_
  refine s_store (v := .agg (List.toArray (A8.enc .u8 r45))) hC 0 (A8.enc .u8 r45) (A8.enc .u8 r45) rfl ag49.size rfl rfl rfl rfl rfl (Nat.le_of_ble_eq_true rfl) rfl fun w52 hC => ?_
  refine s_as (v := .int .i64 r46) rfl ?_
  refine s_as (v := .int .i64 r47) rfl ?_
  refine dn ?_
  refine wp_seq ?_
  refine wp_seq ?_
  refine cw_draw 26 mixed [0, 0, 3, 7, 15, 15, 63, 127, 255, 511, 511, 2047, 4095, 8191, 16383, 16383, 65535, 16383, 16383, 524287, 1048575, 2097151, 4194303, 8388607, 16777215, 8388607, 67108863, 134217727, 268435455] [4, 5, 6, 15, 18, 20] [0, 1, 2, 3, 4, 5, 6, 7, 8, 9, 10, 11, 12, 13, 14, 15, 16, 17, 18, 19, 20, 21, 22, 23, 24, 25] (by kernel_rfl) (by kernel_rfl) (by kernel_rfl) (fun hM54 hM55 w53 hB_ => ?_)
  replace hC := hC.grow hB_
  refine aF 0 (.int .i64 r36) rfl rfl (hM55 0 rfl) (rfl) (fun _ => by exact r_mv (v := .int .i64 r36) rfl) (dbits 29 1) ?_
  refine aF 1 (.int .i64 r47) rfl rfl (hM55 1 rfl) (rfl) (fun _ => by exact r_mv (v := .int .i64 r47) rfl) (dbits 29 3) ?_
  refine aF 2 (.bool (decide (r36 ≠ r47))) rfl rfl (hM55 2 rfl) (rfl) (fun _ => by exact r_neq rfl rfl) (dbits 29 7) ?_
  refine aF 3 (.bool (decide (r36 ≠ r47))) rfl rfl (hM55 3 rfl) (rfl) (fun _ => by exact r_mv (v := .bool (decide (r36 ≠ r47))) rfl) (dbits 29 15) ?_
  refine bsplit (decide (r36 ≠ r47)) (fun hb56 => ?_) (fun hb56 => ?_)
  ·replace h := ift h (ct hb56)
   refine ae_lookF belPre 4 undef rfl rfl (by kernel_rfl) (hM55 4 rfl) (fun w_ => .inr ⟨wanted_off (b := true) 3 60 rfl (tr rfl (congrArg _ hb56)) (by decide), rfl⟩) (l9 := (dbits 29 31)) (by kernel_rfl) ?_
   refine ae_lookF belPre 5 undef rfl rfl (by kernel_rfl) (hM55 5 rfl) (fun w_ => .inr ⟨wanted_off (b := true) 3 60 rfl (tr rfl (congrArg _ hb56)) (by decide), rfl⟩) (l9 := (dbits 29 63)) (by kernel_rfl) ?_
   refine ae_lookF belPre 6 undef rfl rfl (by kernel_rfl) (hM55 6 rfl) (fun w_ => .inr ⟨wanted_off (b := true) 3 60 rfl (tr rfl (congrArg _ hb56)) (by decide), rfl⟩) (l9 := (dbits 29 127)) (by kernel_rfl) ?_
   refine aF 7 (.bool true) rfl rfl (hM55 7 rfl) (rfl) (fun _ => by exact r_pick (v := .bool true) (b := true) (by exact tr rfl (congrArg _ hb56)) rfl) (dbits 29 255) ?_
   refine aF 8 (.bool true) rfl rfl (hM55 8 rfl) (rfl) (fun _ => by exact r_mv (v := .bool true) rfl) (dbits 29 511) ?_
   refine ae_lookF belPre 9 undef rfl rfl (by kernel_rfl) (hM55 9 rfl) (fun w_ => .inr ⟨wanted_off (b := true) 8 65 rfl (tr rfl (congrArg _ rfl)) (by decide), rfl⟩) (l9 := (dbits 29 1023)) (by kernel_rfl) ?_
   refine ae_lookF belPre 10 undef rfl rfl (by kernel_rfl) (hM55 10 rfl) (fun w_ => .inr ⟨wanted_off (b := true) 8 65 rfl (tr rfl (congrArg _ rfl)) (by decide), rfl⟩) (l9 := (dbits 29 2047)) (by kernel_rfl) ?_
   refine ae_lookF belPre 11 undef rfl rfl (by kernel_rfl) (hM55 11 rfl) (fun w_ => .inr ⟨wanted_off (b := true) 8 65 rfl (tr rfl (congrArg _ rfl)) (by decide), rfl⟩) (l9 := (dbits 29 4095)) (by kernel_rfl) ?_
   refine aF 12 (.bool true) rfl rfl (hM55 12 rfl) (rfl) (fun _ => by exact r_pick (v := .bool true) (b := true) rfl rfl) (dbits 29 8191) ?_
   refine aF 13 (.bool true) rfl rfl (hM55 13 rfl) (rfl) (fun _ => by exact r_mv (v := .bool true) rfl) (dbits 29 16383) ?_
   refine ae_lookF belPre 14 undef rfl rfl (by kernel_rfl) (hM55 14 rfl) (fun w_ => .inr ⟨wanted_off (b := true) 13 70 rfl (tr rfl (congrArg _ rfl)) (by decide), rfl⟩) (l9 := (dbits 29 32767)) (by kernel_rfl) ?_
   refine ae_lookF belPre 15 undef rfl rfl (by kernel_rfl) (hM55 15 rfl) (fun w_ => .inr ⟨wanted_off (b := true) 13 70 rfl (tr rfl (congrArg _ rfl)) (by decide), rfl⟩) (l9 := (dbits 29 65535)) (by kernel_rfl) ?_
   refine ae_lookF belPre 16 undef rfl rfl (by kernel_rfl) (hM55 16 rfl) (fun w_ => .inr ⟨wanted_off (b := true) 13 70 rfl (tr rfl (congrArg _ rfl)) (by decide), rfl⟩) (l9 := (dbits 29 131071)) (by kernel_rfl) ?_
   refine ae_lookF belPre 17 undef rfl rfl (by kernel_rfl) (hM55 17 rfl) (fun w_ => .inr ⟨wanted_off (b := true) 13 70 rfl (tr rfl (congrArg _ rfl)) (by decide), rfl⟩) (l9 := (dbits 29 262143)) (by kernel_rfl) ?_
   refine ae_lookF belPre 18 undef rfl rfl (by kernel_rfl) (hM55 18 rfl) (fun w_ => .inr ⟨wanted_off (b := true) 13 70 rfl (tr rfl (congrArg _ rfl)) (by decide), rfl⟩) (l9 := (dbits 29 524287)) (by kernel_rfl) ?_
   refine ae_lookF belPre 19 undef rfl rfl (by kernel_rfl) (hM55 19 rfl) (fun w_ => .inr ⟨wanted_off (b := true) 13 70 rfl (tr rfl (congrArg _ rfl)) (by decide), rfl⟩) (l9 := (dbits 29 1048575)) (by kernel_rfl) ?_
   refine ae_lookF belPre 20 undef rfl rfl (by kernel_rfl) (hM55 20 rfl) (fun w_ => .inr ⟨wanted_off (b := true) 13 70 rfl (tr rfl (congrArg _ rfl)) (by decide), rfl⟩) (l9 := (dbits 29 2097151)) (by kernel_rfl) ?_
   refine aF 21 (.bool true) rfl rfl (hM55 21 rfl) (rfl) (fun _ => by exact r_pick (v := .bool true) (b := true) rfl rfl) (dbits 29 4194303) ?_
   refine aF 22 (.bool true) rfl rfl (hM55 22 rfl) (rfl) (fun _ => by exact r_mv (v := .bool true) rfl) (dbits 29 8388607) ?_
   refine ae_lookF belPre 23 undef rfl rfl (by kernel_rfl) (hM55 23 rfl) (fun w_ => .inr ⟨wanted_off (b := true) 22 79 rfl (tr rfl (congrArg _ rfl)) (by decide), rfl⟩) (l9 := (dbits 29 16777215)) (by kernel_rfl) ?_
   refine ae_lookF belPre 24 undef rfl rfl (by kernel_rfl) (hM55 24 rfl) (fun w_ => .inr ⟨wanted_off (b := true) 22 79 rfl (tr rfl (congrArg _ rfl)) (by decide), rfl⟩) (l9 := (dbits 29 33554431)) (by kernel_rfl) ?_
   refine ae_lookF belPre 25 undef rfl rfl (by kernel_rfl) (hM55 25 rfl) (fun w_ => .inr ⟨wanted_off (b := true) 22 79 rfl (tr rfl (congrArg _ rfl)) (by decide), rfl⟩) (l9 := (dbits 29 67108863)) (by kernel_rfl) ?_
   refine ae_tail 26 (by decide) (by decide) (by kernel_rfl) (by kernel_rfl) rfl ?_
   refine guardOff (b := true) 22 79 rfl (tr rfl (congrArg _ rfl)) (by decide) ?_
   refine guardOff (b := true) 22 79 rfl (tr rfl (congrArg _ rfl)) (by decide) ?_
   refine s_pick (v := .bool true) (b := true) rfl rfl ?_
   refine done ?_
   refine qn_norm ?_
   refine then_norm ?_
   refine cw_true rfl rfl ?_
   refine sr ?_
   refine s_as (v := .bool false) rfl ?_
   refine dn ?_
   refine wp_ret (then_ret ?_)
   refine ret1 (fn := Try.f7) rfl ?_ ⟨false, rfl, h, hC.below⟩ (.inl rfl)
   exact res_tmp rfl
  ·replace h := iff_ h (cf hb56)
   refine aL 4 (.agg (List.toArray (A8.enc .u8 r34))) rfl rfl (hM54 4 rfl) (wanted_on 3 60 rfl rfl hb56) (fun _ hB_ => by exact r_loadA (hC.grow hB_) 1 (A8.enc .u8 r34) rfl ag49 rfl rfl rfl) (dbits 29 31) ?_
   refine aL 5 (.agg (List.toArray (A8.enc .u8 r45))) rfl rfl (hM54 5 rfl) (wanted_on 3 60 rfl rfl hb56) (fun _ hB_ => by exact r_loadA (hC.grow hB_) 0 (A8.enc .u8 r45) rfl ag49 rfl rfl rfl) (dbits 29 63) ?_
   refine aL 6 (.bool (decide (r34 ≠ r45))) rfl rfl (hM54 6 rfl) (wanted_on 3 60 rfl rfl hb56) (fun _ hB_ => by exact r_neqA kt49 eg49 rfl rfl) (dbits 29 127) ?_
   refine aF 7 (.bool (decide (r34 ≠ r45))) rfl rfl (hM55 7 rfl) (rfl) (fun _ => by exact r_pick (v := .bool (decide (r34 ≠ r45))) (b := false) (by exact tr rfl (congrArg _ hb56)) rfl) (dbits 29 255) ?_
   refine aF 8 (.bool (decide (r34 ≠ r45))) rfl rfl (hM55 8 rfl) (rfl) (fun _ => by exact r_mv (v := .bool (decide (r34 ≠ r45))) rfl) (dbits 29 511) ?_
   refine bsplit (decide (r34 ≠ r45)) (fun hb57 => ?_) (fun hb57 => ?_)
   ·replace h := ift h (ct hb57)
    refine ae_lookF belPre 9 undef rfl rfl (by kernel_rfl) (hM55 9 rfl) (fun w_ => .inr ⟨wanted_off (b := true) 8 65 rfl (tr rfl (congrArg _ hb57)) (by decide), rfl⟩) (l9 := (dbits 29 1023)) (by kernel_rfl) ?_
    refine ae_lookF belPre 10 undef rfl rfl (by kernel_rfl) (hM55 10 rfl) (fun w_ => .inr ⟨wanted_off (b := true) 8 65 rfl (tr rfl (congrArg _ hb57)) (by decide), rfl⟩) (l9 := (dbits 29 2047)) (by kernel_rfl) ?_
    refine ae_lookF belPre 11 undef rfl rfl (by kernel_rfl) (hM55 11 rfl) (fun w_ => .inr ⟨wanted_off (b := true) 8 65 rfl (tr rfl (congrArg _ hb57)) (by decide), rfl⟩) (l9 := (dbits 29 4095)) (by kernel_rfl) ?_
    refine aF 12 (.bool true) rfl rfl (hM55 12 rfl) (rfl) (fun _ => by exact r_pick (v := .bool true) (b := true) (by exact tr rfl (congrArg _ hb57)) rfl) (dbits 29 8191) ?_
    refine aF 13 (.bool true) rfl rfl (hM55 13 rfl) (rfl) (fun _ => by exact r_mv (v := .bool true) rfl) (dbits 29 16383) ?_
    refine ae_lookF belPre 14 undef rfl rfl (by kernel_rfl) (hM55 14 rfl) (fun w_ => .inr ⟨wanted_off (b := true) 13 70 rfl (tr rfl (congrArg _ rfl)) (by decide), rfl⟩) (l9 := (dbits 29 32767)) (by kernel_rfl) ?_
    refine ae_lookF belPre 15 undef rfl rfl (by kernel_rfl) (hM55 15 rfl) (fun w_ => .inr ⟨wanted_off (b := true) 13 70 rfl (tr rfl (congrArg _ rfl)) (by decide), rfl⟩) (l9 := (dbits 29 65535)) (by kernel_rfl) ?_
    refine ae_lookF belPre 16 undef rfl rfl (by kernel_rfl) (hM55 16 rfl) (fun w_ => .inr ⟨wanted_off (b := true) 13 70 rfl (tr rfl (congrArg _ rfl)) (by decide), rfl⟩) (l9 := (dbits 29 131071)) (by kernel_rfl) ?_
    refine ae_lookF belPre 17 undef rfl rfl (by kernel_rfl) (hM55 17 rfl) (fun w_ => .inr ⟨wanted_off (b := true) 13 70 rfl (tr rfl (congrArg _ rfl)) (by decide), rfl⟩) (l9 := (dbits 29 262143)) (by kernel_rfl) ?_
    refine ae_lookF belPre 18 undef rfl rfl (by kernel_rfl) (hM55 18 rfl) (fun w_ => .inr ⟨wanted_off (b := true) 13 70 rfl (tr rfl (congrArg _ rfl)) (by decide), rfl⟩) (l9 := (dbits 29 524287)) (by kernel_rfl) ?_
    refine ae_lookF belPre 19 undef rfl rfl (by kernel_rfl) (hM55 19 rfl) (fun w_ => .inr ⟨wanted_off (b := true) 13 70 rfl (tr rfl (congrArg _ rfl)) (by decide), rfl⟩) (l9 := (dbits 29 1048575)) (by kernel_rfl) ?_
    refine ae_lookF belPre 20 undef rfl rfl (by kernel_rfl) (hM55 20 rfl) (fun w_ => .inr ⟨wanted_off (b := true) 13 70 rfl (tr rfl (congrArg _ rfl)) (by decide), rfl⟩) (l9 := (dbits 29 2097151)) (by kernel_rfl) ?_
    refine aF 21 (.bool true) rfl rfl (hM55 21 rfl) (rfl) (fun _ => by exact r_pick (v := .bool true) (b := true) rfl rfl) (dbits 29 4194303) ?_
    refine aF 22 (.bool true) rfl rfl (hM55 22 rfl) (rfl) (fun _ => by exact r_mv (v := .bool true) rfl) (dbits 29 8388607) ?_
    refine ae_lookF belPre 23 undef rfl rfl (by kernel_rfl) (hM55 23 rfl) (fun w_ => .inr ⟨wanted_off (b := true) 22 79 rfl (tr rfl (congrArg _ rfl)) (by decide), rfl⟩) (l9 := (dbits 29 16777215)) (by kernel_rfl) ?_
    refine ae_lookF belPre 24 undef rfl rfl (by kernel_rfl) (hM55 24 rfl) (fun w_ => .inr ⟨wanted_off (b := true) 22 79 rfl (tr rfl (congrArg _ rfl)) (by decide), rfl⟩) (l9 := (dbits 29 33554431)) (by kernel_rfl) ?_
    refine ae_lookF belPre 25 undef rfl rfl (by kernel_rfl) (hM55 25 rfl) (fun w_ => .inr ⟨wanted_off (b := true) 22 79 rfl (tr rfl (congrArg _ rfl)) (by decide), rfl⟩) (l9 := (dbits 29 67108863)) (by kernel_rfl) ?_
    refine ae_tail 26 (by decide) (by decide) (by kernel_rfl) (by kernel_rfl) rfl ?_
    refine guardOff (b := true) 22 79 rfl (tr rfl (congrArg _ rfl)) (by decide) ?_
    refine guardOff (b := true) 22 79 rfl (tr rfl (congrArg _ rfl)) (by decide) ?_
    refine s_pick (v := .bool true) (b := true) rfl rfl ?_
    refine done ?_
    refine qn_norm ?_
    refine then_norm ?_
    refine cw_true rfl rfl ?_
    refine sr ?_
    refine s_as (v := .bool false) rfl ?_
    refine dn ?_
    refine wp_ret (then_ret ?_)
    refine ret1 (fn := Try.f7) rfl ?_ ⟨false, rfl, h, hC.below⟩ (.inl rfl)
    exact res_tmp rfl
   ·replace h := iff_ h (cf hb57)
    refine aF 9 (.int .i64 r35) rfl rfl (hM55 9 rfl) (wanted_on 8 65 rfl rfl hb57) (fun _ => by exact r_mv (v := .int .i64 r35) rfl) (dbits 29 1023) ?_
    refine aF 10 (.int .i64 r46) rfl rfl (hM55 10 rfl) (wanted_on 8 65 rfl rfl hb57) (fun _ => by exact r_mv (v := .int .i64 r46) rfl) (dbits 29 2047) ?_
    refine aF 11 (.bool (decide (r35 ≠ r46))) rfl rfl (hM55 11 rfl) (wanted_on 8 65 rfl rfl hb57) (fun _ => by exact r_neq rfl rfl) (dbits 29 4095) ?_
    refine aF 12 (.bool (decide (r35 ≠ r46))) rfl rfl (hM55 12 rfl) (rfl) (fun _ => by exact r_pick (v := .bool (decide (r35 ≠ r46))) (b := false) (by exact tr rfl (congrArg _ hb57)) rfl) (dbits 29 8191) ?_
    refine aF 13 (.bool (decide (r35 ≠ r46))) rfl rfl (hM55 13 rfl) (rfl) (fun _ => by exact r_mv (v := .bool (decide (r35 ≠ r46))) rfl) (dbits 29 16383) ?_
    refine bsplit (decide (r35 ≠ r46)) (fun hb58 => ?_) (fun hb58 => ?_)
    ·replace h := ift h (ct hb58)
     refine ae_lookF belPre 14 undef rfl rfl (by kernel_rfl) (hM55 14 rfl) (fun w_ => .inr ⟨wanted_off (b := true) 13 70 rfl (tr rfl (congrArg _ hb58)) (by decide), rfl⟩) (l9 := (dbits 29 32767)) (by kernel_rfl) ?_
     refine ae_lookF belPre 15 undef rfl rfl (by kernel_rfl) (hM55 15 rfl) (fun w_ => .inr ⟨wanted_off (b := true) 13 70 rfl (tr rfl (congrArg _ hb58)) (by decide), rfl⟩) (l9 := (dbits 29 65535)) (by kernel_rfl) ?_
     refine ae_lookF belPre 16 undef rfl rfl (by kernel_rfl) (hM55 16 rfl) (fun w_ => .inr ⟨wanted_off (b := true) 13 70 rfl (tr rfl (congrArg _ hb58)) (by decide), rfl⟩) (l9 := (dbits 29 131071)) (by kernel_rfl) ?_
     refine ae_lookF belPre 17 undef rfl rfl (by kernel_rfl) (hM55 17 rfl) (fun w_ => .inr ⟨wanted_off (b := true) 13 70 rfl (tr rfl (congrArg _ hb58)) (by decide), rfl⟩) (l9 := (dbits 29 262143)) (by kernel_rfl) ?_
     refine ae_lookF belPre 18 undef rfl rfl (by kernel_rfl) (hM55 18 rfl) (fun w_ => .inr ⟨wanted_off (b := true) 13 70 rfl (tr rfl (congrArg _ hb58)) (by decide), rfl⟩) (l9 := (dbits 29 524287)) (by kernel_rfl) ?_
     refine ae_lookF belPre 19 undef rfl rfl (by kernel_rfl) (hM55 19 rfl) (fun w_ => .inr ⟨wanted_off (b := true) 13 70 rfl (tr rfl (congrArg _ hb58)) (by decide), rfl⟩) (l9 := (dbits 29 1048575)) (by kernel_rfl) ?_
     refine ae_lookF belPre 20 undef rfl rfl (by kernel_rfl) (hM55 20 rfl) (fun w_ => .inr ⟨wanted_off (b := true) 13 70 rfl (tr rfl (congrArg _ hb58)) (by decide), rfl⟩) (l9 := (dbits 29 2097151)) (by kernel_rfl) ?_
     refine aF 21 (.bool true) rfl rfl (hM55 21 rfl) (rfl) (fun _ => by exact r_pick (v := .bool true) (b := true) (by exact tr rfl (congrArg _ hb58)) rfl) (dbits 29 4194303) ?_
     refine aF 22 (.bool true) rfl rfl (hM55 22 rfl) (rfl) (fun _ => by exact r_mv (v := .bool true) rfl) (dbits 29 8388607) ?_
     refine ae_lookF belPre 23 undef rfl rfl (by kernel_rfl) (hM55 23 rfl) (fun w_ => .inr ⟨wanted_off (b := true) 22 79 rfl (tr rfl (congrArg _ rfl)) (by decide), rfl⟩) (l9 := (dbits 29 16777215)) (by kernel_rfl) ?_
     refine ae_lookF belPre 24 undef rfl rfl (by kernel_rfl) (hM55 24 rfl) (fun w_ => .inr ⟨wanted_off (b := true) 22 79 rfl (tr rfl (congrArg _ rfl)) (by decide), rfl⟩) (l9 := (dbits 29 33554431)) (by kernel_rfl) ?_
     refine ae_lookF belPre 25 undef rfl rfl (by kernel_rfl) (hM55 25 rfl) (fun w_ => .inr ⟨wanted_off (b := true) 22 79 rfl (tr rfl (congrArg _ rfl)) (by decide), rfl⟩) (l9 := (dbits 29 67108863)) (by kernel_rfl) ?_
     refine ae_tail 26 (by decide) (by decide) (by kernel_rfl) (by kernel_rfl) rfl ?_
     refine guardOff (b := true) 22 79 rfl (tr rfl (congrArg _ rfl)) (by decide) ?_
     refine guardOff (b := true) 22 79 rfl (tr rfl (congrArg _ rfl)) (by decide) ?_
     refine s_pick (v := .bool true) (b := true) rfl rfl ?_
     refine done ?_
     refine qn_norm ?_
     refine then_norm ?_
     refine cw_true rfl rfl ?_
     refine sr ?_
     refine s_as (v := .bool false) rfl ?_
     refine dn ?_
     refine wp_ret (then_ret ?_)
     refine ret1 (fn := Try.f7) rfl ?_ ⟨false, rfl, h, hC.below⟩ (.inl rfl)
     exact res_tmp rfl
    ·replace h := iff_ h (cf hb58)
     refine aF 14 (u12) rfl rfl (hM55 14 rfl) (wanted_on 13 70 rfl rfl hb58) (fun _ => by exact r_mv (v := u12) rfl) (dbits 29 32767) ?_
     refine aL 15 (.agg (List.toArray (A8.enc .u8 r16))) rfl rfl (hM54 15 rfl) (wanted_on 13 70 rfl rfl hb58) (fun _ hB_ => by exact r_loadA (hC.grow hB_) 3 (A8.enc .u8 r16) rfl ag49 rfl rfl rfl) (dbits 29 65535) ?_
     refine aF 17 (u12) rfl rfl (hM55 17 rfl) (wanted_on 13 70 rfl rfl hb58) (fun _ => by exact r_mv (v := u12) rfl) (dbits 29 196607) ?_
     refine aL 18 (.agg (List.toArray (A8.enc .u8 r16))) rfl rfl (hM54 18 rfl) (wanted_on 13 70 rfl rfl hb58) (fun _ hB_ => by exact r_loadA (hC.grow hB_) 3 (A8.enc .u8 r16) rfl ag49 rfl rfl rfl) (dbits 29 458751) ?_
     refine aO 16 rfl ?_
     refine guardOn 13 70 rfl rfl hb58 ?_
     refine s_call [u12, .agg (List.toArray (A8.enc .u8 r16))] _ Try.func28 rfl rfl rfl (c_impl_IsMonomial r11 r16 h _ (own_repE (hC.getM 4 rfl))) (fun ret59 w61 hR60 => ?_)
     obtain ⟨r62, rfl, h, hB63⟩ := hR60
     refine ⟨_, rfl, ?_⟩
     replace hC := hC.grow hB63
     refine done ?_
     refine aK (by assumption) (dbits 29 524287) ?_
     refine aO 19 rfl ?_
     refine guardOn 13 70 rfl rfl hb58 ?_
     refine s_call [u12, .agg (List.toArray (A8.enc .u8 r16))] _ Try.func29 rfl rfl rfl (c_spec_IsMonomial r11 r16 h _ (own_repE (hC.getM 4 rfl))) (fun ret64 w66 hR65 => ?_)
     obtain ⟨r67, rfl, h, hB68⟩ := hR65
     refine ⟨_, rfl, ?_⟩
     replace hC := hC.grow hB68
     refine done ?_
     refine aK (by assumption) (dbits 29 1048575) ?_
     refine aL 20 (.bool (!(r62 == r67))) rfl rfl (hM54 20 rfl) (wanted_on 13 70 rfl rfl hb58) (fun _ hB_ => by exact r_neqB Try.underlying4 rfl rfl) (dbits 29 2097151) ?_
     refine aF 21 (.bool (!(r62 == r67))) rfl rfl (hM55 21 rfl) (rfl) (fun _ => by exact r_pick (v := .bool (!(r62 == r67))) (b := false) (by exact tr rfl (congrArg _ hb58)) rfl) (dbits 29 4194303) ?_
     refine aF 22 (.bool (!(r62 == r67))) rfl rfl (hM55 22 rfl) (rfl) (fun _ => by exact r_mv (v := .bool (!(r62 == r67))) rfl) (dbits 29 8388607) ?_
     refine bsplit (!(r62 == r67)) (fun hb69 => ?_) (fun hb69 => ?_)
     ·replace h := ift h (bne_t hb69)
      refine ae_lookF belPre 23 undef rfl rfl (by kernel_rfl) (hM55 23 rfl) (fun w_ => .inr ⟨wanted_off (b := true) 22 79 rfl (tr rfl (congrArg _ hb69)) (by decide), rfl⟩) (l9 := (dbits 29 16777215)) (by kernel_rfl) ?_
      refine ae_lookF belPre 24 undef rfl rfl (by kernel_rfl) (hM55 24 rfl) (fun w_ => .inr ⟨wanted_off (b := true) 22 79 rfl (tr rfl (congrArg _ hb69)) (by decide), rfl⟩) (l9 := (dbits 29 33554431)) (by kernel_rfl) ?_
      refine ae_lookF belPre 25 undef rfl rfl (by kernel_rfl) (hM55 25 rfl) (fun w_ => .inr ⟨wanted_off (b := true) 22 79 rfl (tr rfl (congrArg _ hb69)) (by decide), rfl⟩) (l9 := (dbits 29 67108863)) (by kernel_rfl) ?_
      refine ae_tail 26 (by decide) (by decide) (by kernel_rfl) (by kernel_rfl) rfl ?_
      refine guardOff (b := true) 22 79 rfl (tr rfl (congrArg _ hb69)) (by decide) ?_
      refine guardOff (b := true) 22 79 rfl (tr rfl (congrArg _ hb69)) (by decide) ?_
      refine s_pick (v := .bool true) (b := true) (tr rfl (congrArg _ hb69)) rfl ?_
      refine done ?_
      refine qn_norm ?_
      refine then_norm ?_
      refine cw_true rfl rfl ?_
      refine sr ?_
      refine s_as (v := .bool false) rfl ?_
      refine dn ?_
      refine wp_ret (then_ret ?_)
      refine ret1 (fn := Try.f7) rfl ?_ ⟨false, rfl, h, hC.below⟩ (.inl rfl)
      exact res_tmp rfl
     ·replace h := iff_ h (bne_f hb69)
      refine aF 23 (u12) rfl rfl (hM55 23 rfl) (wanted_on 22 79 rfl rfl hb69) (fun _ => by exact r_mv (v := u12) rfl) (dbits 29 16777215) ?_
      refine aF 25 (u12) rfl rfl (hM55 25 rfl) (wanted_on 22 79 rfl rfl hb69) (fun _ => by exact r_mv (v := u12) rfl) (dbits 29 50331647) ?_
      refine aO 24 rfl ?_
      refine guardOn 22 79 rfl rfl hb69 ?_
      refine s_call [u12] _ Try.func30 rfl rfl rfl (c_impl_AreDegrees r11 h _ (own_repE (hC.getM 4 rfl))) (fun ret70 w72 hR71 => ?_)
      obtain ⟨r73, rfl, h, hB74⟩ := hR71
      refine ⟨_, rfl, ?_⟩
      replace hC := hC.grow hB74
      refine done ?_
      refine aK (by assumption) (dbits 29 67108863) ?_
      refine ae_tail 26 (by decide) (by decide) (by kernel_rfl) (by kernel_rfl) rfl ?_
      refine guardOn 22 79 rfl rfl hb69 ?_
      refine s_call [u12] _ Try.func31 rfl rfl rfl (c_spec_AreDegrees r11 h _ (own_repE (hC.getM 4 rfl))) (fun ret75 w77 hR76 => ?_)
      obtain ⟨r78, rfl, h, hB79⟩ := hR76
      refine ⟨_, rfl, ?_⟩
      replace hC := hC.grow hB79
      refine guardOn 22 79 rfl rfl hb69 ?_
      refine s_neqB Try.underlying4 rfl rfl ?_
      refine s_pick (v := .bool (!(r73 == r78))) (b := false) (tr rfl (congrArg _ hb69)) rfl ?_
      refine done ?_
      refine qn_norm ?_
      refine then_norm ?_
      refine cw_cond rfl (fun hb80 => ?_) (fun hb80 => ?_)
      ·replace h := ift h (bne_t hb80)
       refine sr ?_
       refine s_as (v := .bool false) rfl ?_
       refine dn ?_
       refine wp_ret (then_ret ?_)
       refine ret1 (fn := Try.f7) rfl ?_ ⟨false, rfl, h, hC.below⟩ (.inl rfl)
       exact res_tmp rfl
      ·replace h := iff_ h (bne_f hb80)
       refine wp_skip ?_
       refine then_norm ?_
       refine wp_seq ?_
       refine sr ?_
       refine s_mv (v := .int .i64 r36) rfl ?_
       refine s_eql rfl rfl ?_
       refine dn ?_
       refine cw_cond rfl (fun hb81 => ?_) (fun hb81 => ?_)
       ·replace h := ift h (ct hb81)
        refine sr ?_
        refine s_mv (v := u12) rfl ?_
        refine s_loadA hC 2 (A8.enc .u8 r17) rfl ag49 rfl rfl rfl ?_
        refine s_loadA hC 3 (A8.enc .u8 r16) rfl ag49 rfl rfl rfl ?_
        refine s_call [u12, .agg (List.toArray (A8.enc .u8 r17)), .agg (List.toArray (A8.enc .u8 r16))] _ Try.func26 rfl rfl rfl (c_impl_MultiplyMonomials r11 r17 r16 h _ (own_repE (hC.getM 4 rfl))) (fun ret82 w84 hR83 => ?_)
        obtain ⟨r85, r86, r87, rfl, h, hB88⟩ := hR83
        refine ⟨_, rfl, ?_⟩
        replace hC := hC.grow hB88
        refine s_mv (v := .tuple #[.agg (List.toArray (A8.enc .u8 r85)), .int .i64 r86, .int .i64 r87]) rfl ?_
        refine s_ext (v := .agg (List.toArray (A8.enc .u8 r85))) rfl rfl ?_
        refine s_ext (v := .int .i64 r86) rfl rfl ?_
        refine s_ext (v := .int .i64 r87) rfl rfl ?_
        refine s_alloc hC (A8.enc .u8 A8.zero) z49 rfl fun b89 w91 hB_ hC => ?_
        refine s_store (v := .agg (List.toArray (A8.enc .u8 r85))) hC 0 (A8.enc .u8 r85) (A8.enc .u8 r85) rfl ag49.size rfl rfl rfl rfl rfl (Nat.le_of_ble_eq_true rfl) rfl fun w92 hC => ?_
        refine s_as (v := .int .i64 r86) rfl ?_
        refine s_as (v := .int .i64 r87) rfl ?_
        refine dn ?_
        refine sr ?_
        refine s_mv (v := u12) rfl ?_
        refine s_loadA hC 4 (A8.enc .u8 r16) rfl ag49 rfl rfl rfl ?_
        refine s_call [u12, .agg (List.toArray (A8.enc .u8 r16))] _ Try.func32 rfl rfl rfl (c_impl_DegreeOfMonomial r11 r16 h _ (own_repE (hC.getM 5 rfl))) (fun ret93 w95 hR94 => ?_)
        obtain ⟨r96, r97, rfl, h, hB98⟩ := hR94
        refine ⟨_, rfl, ?_⟩
        replace hC := hC.grow hB98
        refine s_mv (v := .tuple #[.int .i64 r96, .int .i64 r97]) rfl ?_
        refine s_ext (v := .int .i64 r96) rfl rfl ?_
        refine s_ext (v := .int .i64 r97) rfl rfl ?_
        refine s_as (v := .int .i64 r96) rfl ?_
        refine s_as (v := .int .i64 r97) rfl ?_
        refine dn ?_
        refine sr ?_
        refine s_mv (v := u12) rfl ?_
        refine s_loadA hC 3 (A8.enc .u8 r17) rfl ag49 rfl rfl rfl ?_
        refine s_call [u12, .agg (List.toArray (A8.enc .u8 r17))] _ Try.func32 rfl rfl rfl (c_impl_DegreeOfMonomial r11 r17 h _ (own_repE (hC.getM 5 rfl))) (fun ret99 w101 hR100 => ?_)
        obtain ⟨r102, r103, rfl, h, hB104⟩ := hR100
        refine ⟨_, rfl, ?_⟩
        replace hC := hC.grow hB104
        refine s_mv (v := .tuple #[.int .i64 r102, .int .i64 r103]) rfl ?_
        refine s_ext (v := .int .i64 r102) rfl rfl ?_
        refine s_ext (v := .int .i64 r103) rfl rfl ?_
        refine s_as (v := .int .i64 r102) rfl ?_
        refine s_as (v := .int .i64 r103) rfl ?_
        refine dn ?_
        refine sr ?_
        refine s_mv (v := u12) rfl ?_
        refine s_loadA hC 2 (A8.enc .u8 r34) rfl ag49 rfl rfl rfl ?_
        refine s_call [u12, .agg (List.toArray (A8.enc .u8 r34))] _ Try.func32 rfl rfl rfl (c_impl_DegreeOfMonomial r11 r34 h _ (own_repE (hC.getM 5 rfl))) (fun ret105 w107 hR106 => ?_)
        obtain ⟨r108, r109, rfl, h, hB110⟩ := hR106
        refine ⟨_, rfl, ?_⟩
        replace hC := hC.grow hB110
        refine s_mv (v := .tuple #[.int .i64 r108, .int .i64 r109]) rfl ?_
        refine s_ext (v := .int .i64 r108) rfl rfl ?_
        refine s_ext (v := .int .i64 r109) rfl rfl ?_
        refine s_as (v := .int .i64 r108) rfl ?_
        refine s_as (v := .int .i64 r109) rfl ?_
        refine dn ?_
        refine wp_seq ?_
        refine sr ?_
        refine s_mv (v := .int .i64 r87) rfl ?_
        refine s_neq rfl rfl ?_
        refine s_mv (v := .bool (decide (r87 ≠ 0))) rfl ?_
        refine bsplit (decide (r87 ≠ 0)) (fun hb111 => ?_) (fun hb111 => ?_)
        ·replace h := ift h (ct hb111)
         refine guardOff (b := true) 2 116 rfl (tr rfl (congrArg _ hb111)) (by decide) ?_
         refine guardOff (b := true) 2 116 rfl (tr rfl (congrArg _ hb111)) (by decide) ?_
         refine s_pick (v := .bool true) (b := true) (tr rfl (congrArg _ hb111)) rfl ?_
         refine s_mv (v := .bool true) rfl ?_
         refine guardOff (b := true) 6 120 rfl (tr rfl (congrArg _ rfl)) (by decide) ?_
         refine guardOff (b := true) 6 120 rfl (tr rfl (congrArg _ rfl)) (by decide) ?_
         refine s_pick (v := .bool true) (b := true) rfl rfl ?_
         refine s_mv (v := .bool true) rfl ?_
         refine guardOff (b := true) 10 124 rfl (tr rfl (congrArg _ rfl)) (by decide) ?_
         refine guardOff (b := true) 10 124 rfl (tr rfl (congrArg _ rfl)) (by decide) ?_
         refine s_pick (v := .bool true) (b := true) rfl rfl ?_
         refine s_mv (v := .bool true) rfl ?_
         refine guardOff (b := true) 14 128 rfl (tr rfl (congrArg _ rfl)) (by decide) ?_
         refine guardOff (b := true) 14 128 rfl (tr rfl (congrArg _ rfl)) (by decide) ?_
         refine guardOff (b := true) 14 128 rfl (tr rfl (congrArg _ rfl)) (by decide) ?_
         refine s_pick (v := .bool true) (b := true) rfl rfl ?_
         refine s_mv (v := .bool true) rfl ?_
         refine guardOff (b := true) 19 133 rfl (tr rfl (congrArg _ rfl)) (by decide) ?_
         refine guardOff (b := true) 19 133 rfl (tr rfl (congrArg _ rfl)) (by decide) ?_
         refine guardOff (b := true) 19 133 rfl (tr rfl (congrArg _ rfl)) (by decide) ?_
         refine guardOff (b := true) 19 133 rfl (tr rfl (congrArg _ rfl)) (by decide) ?_
         refine guardOff (b := true) 19 133 rfl (tr rfl (congrArg _ rfl)) (by decide) ?_
         refine s_pick (v := .bool true) (b := true) rfl rfl ?_
         refine dn ?_
         refine cw_true rfl rfl ?_
         refine sr ?_
         refine s_as (v := .bool false) rfl ?_
         refine dn ?_
         refine wp_ret (then_ret (then_ret ?_))
         refine ret1 (fn := Try.f7) rfl ?_ ⟨false, rfl, h, hC.below⟩ (.inl rfl)
         exact res_tmp rfl
        ·replace h := iff_ h (cf hb111)
         refine guardOn 2 116 rfl rfl hb111 ?_
         refine s_mv (v := .int .i64 r97) rfl ?_
         refine guardOn 2 116 rfl rfl hb111 ?_
         refine s_neq rfl rfl ?_
         refine s_pick (v := .bool (decide (r97 ≠ 0))) (b := false) (tr rfl (congrArg _ hb111)) rfl ?_
         refine s_mv (v := .bool (decide (r97 ≠ 0))) rfl ?_
         refine bsplit (decide (r97 ≠ 0)) (fun hb112 => ?_) (fun hb112 => ?_)
         ·replace h := ift h (ct hb112)
          refine guardOff (b := true) 6 120 rfl (tr rfl (congrArg _ hb112)) (by decide) ?_
          refine guardOff (b := true) 6 120 rfl (tr rfl (congrArg _ hb112)) (by decide) ?_
          refine s_pick (v := .bool true) (b := true) (tr rfl (congrArg _ hb112)) rfl ?_
          refine s_mv (v := .bool true) rfl ?_
          refine guardOff (b := true) 10 124 rfl (tr rfl (congrArg _ rfl)) (by decide) ?_
          refine guardOff (b := true) 10 124 rfl (tr rfl (congrArg _ rfl)) (by decide) ?_
          refine s_pick (v := .bool true) (b := true) rfl rfl ?_
          refine s_mv (v := .bool true) rfl ?_
          refine guardOff (b := true) 14 128 rfl (tr rfl (congrArg _ rfl)) (by decide) ?_
          refine guardOff (b := true) 14 128 rfl (tr rfl (congrArg _ rfl)) (by decide) ?_
          refine guardOff (b := true) 14 128 rfl (tr rfl (congrArg _ rfl)) (by decide) ?_
          refine s_pick (v := .bool true) (b := true) rfl rfl ?_
          refine s_mv (v := .bool true) rfl ?_
          refine guardOff (b := true) 19 133 rfl (tr rfl (congrArg _ rfl)) (by decide) ?_
          refine guardOff (b := true) 19 133 rfl (tr rfl (congrArg _ rfl)) (by decide) ?_
          refine guardOff (b := true) 19 133 rfl (tr rfl (congrArg _ rfl)) (by decide) ?_
          refine guardOff (b := true) 19 133 rfl (tr rfl (congrArg _ rfl)) (by decide) ?_
          refine guardOff (b := true) 19 133 rfl (tr rfl (congrArg _ rfl)) (by decide) ?_
          refine s_pick (v := .bool true) (b := true) rfl rfl ?_
          refine dn ?_
          refine cw_true rfl rfl ?_
          refine sr ?_
          refine s_as (v := .bool false) rfl ?_
          refine dn ?_
          refine wp_ret (then_ret (then_ret ?_))
          refine ret1 (fn := Try.f7) rfl ?_ ⟨false, rfl, h, hC.below⟩ (.inl rfl)
          exact res_tmp rfl
         ·replace h := iff_ h (cf hb112)
          refine guardOn 6 120 rfl rfl hb112 ?_
          refine s_mv (v := .int .i64 r103) rfl ?_
          refine guardOn 6 120 rfl rfl hb112 ?_
          refine s_neq rfl rfl ?_
          refine s_pick (v := .bool (decide (r103 ≠ 0))) (b := false) (tr rfl (congrArg _ hb112)) rfl ?_
          refine s_mv (v := .bool (decide (r103 ≠ 0))) rfl ?_
          refine bsplit (decide (r103 ≠ 0)) (fun hb113 => ?_) (fun hb113 => ?_)
          ·replace h := ift h (ct hb113)
           refine guardOff (b := true) 10 124 rfl (tr rfl (congrArg _ hb113)) (by decide) ?_
           refine guardOff (b := true) 10 124 rfl (tr rfl (congrArg _ hb113)) (by decide) ?_
           refine s_pick (v := .bool true) (b := true) (tr rfl (congrArg _ hb113)) rfl ?_
           refine s_mv (v := .bool true) rfl ?_
           refine guardOff (b := true) 14 128 rfl (tr rfl (congrArg _ rfl)) (by decide) ?_
           refine guardOff (b := true) 14 128 rfl (tr rfl (congrArg _ rfl)) (by decide) ?_
           refine guardOff (b := true) 14 128 rfl (tr rfl (congrArg _ rfl)) (by decide) ?_
           refine s_pick (v := .bool true) (b := true) rfl rfl ?_
           refine s_mv (v := .bool true) rfl ?_
           refine guardOff (b := true) 19 133 rfl (tr rfl (congrArg _ rfl)) (by decide) ?_
           refine guardOff (b := true) 19 133 rfl (tr rfl (congrArg _ rfl)) (by decide) ?_
           refine guardOff (b := true) 19 133 rfl (tr rfl (congrArg _ rfl)) (by decide) ?_
           refine guardOff (b := true) 19 133 rfl (tr rfl (congrArg _ rfl)) (by decide) ?_
           refine guardOff (b := true) 19 133 rfl (tr rfl (congrArg _ rfl)) (by decide) ?_
           refine s_pick (v := .bool true) (b := true) rfl rfl ?_
           refine dn ?_
           refine cw_true rfl rfl ?_
           refine sr ?_
           refine s_as (v := .bool false) rfl ?_
           refine dn ?_
           refine wp_ret (then_ret (then_ret ?_))
           refine ret1 (fn := Try.f7) rfl ?_ ⟨false, rfl, h, hC.below⟩ (.inl rfl)
           exact res_tmp rfl
          ·replace h := iff_ h (cf hb113)
           refine guardOn 10 124 rfl rfl hb113 ?_
           refine s_mv (v := .int .i64 r109) rfl ?_
           refine guardOn 10 124 rfl rfl hb113 ?_
           refine s_neq rfl rfl ?_
           refine s_pick (v := .bool (decide (r109 ≠ 0))) (b := false) (tr rfl (congrArg _ hb113)) rfl ?_
           refine s_mv (v := .bool (decide (r109 ≠ 0))) rfl ?_
           refine bsplit (decide (r109 ≠ 0)) (fun hb114 => ?_) (fun hb114 => ?_)
           ·replace h := ift h (ct hb114)
            refine guardOff (b := true) 14 128 rfl (tr rfl (congrArg _ hb114)) (by decide) ?_
            refine guardOff (b := true) 14 128 rfl (tr rfl (congrArg _ hb114)) (by decide) ?_
            refine guardOff (b := true) 14 128 rfl (tr rfl (congrArg _ hb114)) (by decide) ?_
            refine s_pick (v := .bool true) (b := true) (tr rfl (congrArg _ hb114)) rfl ?_
            refine s_mv (v := .bool true) rfl ?_
            refine guardOff (b := true) 19 133 rfl (tr rfl (congrArg _ rfl)) (by decide) ?_
            refine guardOff (b := true) 19 133 rfl (tr rfl (congrArg _ rfl)) (by decide) ?_
            refine guardOff (b := true) 19 133 rfl (tr rfl (congrArg _ rfl)) (by decide) ?_
            refine guardOff (b := true) 19 133 rfl (tr rfl (congrArg _ rfl)) (by decide) ?_
            refine guardOff (b := true) 19 133 rfl (tr rfl (congrArg _ rfl)) (by decide) ?_
            refine s_pick (v := .bool true) (b := true) rfl rfl ?_
            refine dn ?_
            refine cw_true rfl rfl ?_
            refine sr ?_
            refine s_as (v := .bool false) rfl ?_
            refine dn ?_
            refine wp_ret (then_ret (then_ret ?_))
            refine ret1 (fn := Try.f7) rfl ?_ ⟨false, rfl, h, hC.below⟩ (.inl rfl)
            exact res_tmp rfl
           ·replace h := iff_ h (cf hb114)
            refine guardOn 14 128 rfl rfl hb114 ?_
            refine s_loadA hC 0 (A8.enc .u8 r85) rfl ag49 rfl rfl rfl ?_
            refine guardOn 14 128 rfl rfl hb114 ?_
            refine s_loadA hC 2 (A8.enc .u8 r34) rfl ag49 rfl rfl rfl ?_
            refine guardOn 14 128 rfl rfl hb114 ?_
            refine s_neqA kt49 eg49 rfl rfl ?_
            refine s_pick (v := .bool (decide (r85 ≠ r34))) (b := false) (tr rfl (congrArg _ hb114)) rfl ?_
            refine s_mv (v := .bool (decide (r85 ≠ r34))) rfl ?_
            refine bsplit (decide (r85 ≠ r34)) (fun hb115 => ?_) (fun hb115 => ?_)
            ·replace h := ift h (ct hb115)
             refine guardOff (b := true) 19 133 rfl (tr rfl (congrArg _ hb115)) (by decide) ?_
             refine guardOff (b := true) 19 133 rfl (tr rfl (congrArg _ hb115)) (by decide) ?_
             refine guardOff (b := true) 19 133 rfl (tr rfl (congrArg _ hb115)) (by decide) ?_
             refine guardOff (b := true) 19 133 rfl (tr rfl (congrArg _ hb115)) (by decide) ?_
             refine guardOff (b := true) 19 133 rfl (tr rfl (congrArg _ hb115)) (by decide) ?_
             refine s_pick (v := .bool true) (b := true) (tr rfl (congrArg _ hb115)) rfl ?_
             refine dn ?_
             refine cw_true rfl rfl ?_
             refine sr ?_
             refine s_as (v := .bool false) rfl ?_
             refine dn ?_
             refine wp_ret (then_ret (then_ret ?_))
             refine ret1 (fn := Try.f7) rfl ?_ ⟨false, rfl, h, hC.below⟩ (.inl rfl)
             exact res_tmp rfl
            ·replace h := iff_ h (cf hb115)
             refine guardOn 19 133 rfl rfl hb115 ?_
             refine s_mv (v := .int .i64 r35) rfl ?_
             refine guardOn 19 133 rfl rfl hb115 ?_
             refine s_eql rfl rfl ?_
             refine guardOn 19 133 rfl rfl hb115 ?_
             refine s_mv (v := .int .i64 r86) rfl ?_
             refine guardOn 19 133 rfl rfl hb115 ?_
             refine s_eql rfl rfl ?_
             refine guardOn 19 133 rfl rfl hb115 ?_
             refine s_neqB Try.underlying4 rfl rfl ?_
             refine s_pick (v := .bool (!((decide (r35 = 0)) == (decide (r86 = 0))))) (b := false) (tr rfl (congrArg _ hb115)) rfl ?_
             refine dn ?_
             refine cw_cond rfl (fun hb116 => ?_) (fun hb116 => ?_)
             ·replace h := ift h (bne_t hb116)
              refine sr ?_
              refine s_as (v := .bool false) rfl ?_
              refine dn ?_
              refine wp_ret (then_ret (then_ret ?_))
              refine ret1 (fn := Try.f7) rfl ?_ ⟨false, rfl, h, hC.below⟩ (.inl rfl)
              exact res_tmp rfl
             ·replace h := iff_ h (bne_f hb116)
              refine wp_skip ?_
              refine then_norm ?_
              refine wp_seq ?_
              refine sr ?_
              refine s_mv (v := .int .i64 r35) rfl ?_
              refine s_neq rfl rfl ?_
              refine s_mv (v := .bool (decide (r35 ≠ 0))) rfl ?_
              refine bsplit (decide (r35 ≠ 0)) (fun hb117 => ?_) (fun hb117 => ?_)
              ·replace h := ift h (ct hb117)
               refine guardOn 2 142 rfl rfl hb117 ?_
               refine s_mv (v := .int .i64 r108) rfl ?_
               refine guardOn 2 142 rfl rfl hb117 ?_
               refine s_mv (v := .int .i64 r96) rfl ?_
               refine guardOn 2 142 rfl rfl hb117 ?_
               refine s_mv (v := .int .i64 r102) rfl ?_
               refine guardOn 2 142 rfl rfl hb117 ?_
               refine s_add rfl rfl ?_
               refine guardOn 2 142 rfl rfl hb117 ?_
               refine s_neq rfl rfl ?_
               refine s_pick (v := .bool (decide (r108 ≠ IntKind.i64.wrap (r96 + r102)))) (b := true) (tr rfl (congrArg _ hb117)) rfl ?_
               refine dn ?_
               refine cw_cond rfl (fun hb118 => ?_) (fun hb118 => ?_)
               ·replace h := ift h (ct hb118)
                refine sr ?_
                refine s_as (v := .bool false) rfl ?_
                refine dn ?_
                refine wp_ret (then_ret (then_ret ?_))
                refine ret1 (fn := Try.f7) rfl ?_ ⟨false, rfl, h, hC.below⟩ (.inl rfl)
                exact res_tmp rfl
               ·replace h := iff_ h (cf hb118)
                refine wp_skip ?_
                refine then_norm ?_
                refine sr ?_
                refine s_mv (v := .int .i64 r35) rfl ?_
                refine s_neq rfl rfl ?_
                refine s_mv (v := .bool (decide (r35 ≠ 0))) rfl ?_
                refine guardOn 2 151 rfl rfl hb117 ?_
                refine s_mv (v := .int .i64 r35) rfl ?_
                refine guardOn 2 151 rfl rfl hb117 ?_
                refine s_mv (v := .int .i64 r86) rfl ?_
                refine guardOn 2 151 rfl rfl hb117 ?_
                refine s_eql rfl rfl ?_
                refine guardOn 2 151 rfl rfl hb117 ?_
                refine s_mv (v := .int .i64 r96) rfl ?_
                refine guardOn 2 151 rfl rfl hb117 ?_
                refine s_mv (v := .int .i64 r102) rfl ?_
                refine guardOn 2 151 rfl rfl hb117 ?_
                refine s_mul rfl rfl ?_
                refine guardOn 2 151 rfl rfl hb117 ?_
                refine s_rem rfl rfl (by decide) ?_
                refine guardOn 2 151 rfl rfl hb117 ?_
                refine s_neq rfl rfl ?_
                refine guardOn 2 151 rfl rfl hb117 ?_
                refine s_eqlB Try.underlying4 rfl rfl ?_
                refine s_pick (v := .bool ((decide (r35 = r86)) == (decide (Int.tmod (IntKind.i64.wrap (r96 * r102)) 2 ≠ 0)))) (b := true) (tr rfl (congrArg _ hb117)) rfl ?_
                refine dn ?_
                refine cw_cond rfl (fun hb119 => ?_) (fun hb119 => ?_)
                ·replace h := ift h (beq_t hb119)
                 refine sr ?_
                 refine s_as (v := .bool false) rfl ?_
                 refine dn ?_
                 refine wp_ret (then_ret ?_)
                 refine ret1 (fn := Try.f7) rfl ?_ ⟨false, rfl, h, hC.below⟩ (.inl rfl)
                 exact res_tmp rfl
                ·replace h := iff_ h (beq_f hb119)
                 refine wp_skip ?_
                 refine then_norm ?_
                 refine sr ?_
                 refine s_mv (v := u0_0) rfl ?_
                 refine s_call [u0_0] _ Try.func33 rfl rfl rfl (c_spec_DrawMonomialsOf a0 h _ (hC.getP 0 rfl)) (fun ret120 w122 hR121 => ?_)
                 obtain ⟨r123, u124, f125, r128, rfl, h, hr126, hf127, hB129⟩ := hR121
                 refine ⟨_, rfl, ?_⟩
                 replace hC := hC.push hB129 (Tr.item (Tr.sl 2 ((EI .i64).tr)) r123 [u124] f125) hr126 hf127
                 obtain ⟨ho131, hf132⟩ := flat_tr (hC.getM 0 rfl).1
                 subst hf132
                 replace hC := hC.recast (c := own 2 1 u124 r123.length ((EI .i64).encs r123)) (fun _ h_ => h_) (fun _ => ho131)
                 refine s_mv (v := .tuple #[u124, .int .i64 r128]) rfl ?_
                 refine s_ext (v := u124) rfl rfl ?_
                 refine s_ext (v := .int .i64 r128) rfl rfl ?_
                 refine s_as (v := u124) rfl ?_
                 refine s_as (v := .int .i64 r128) rfl ?_
                 refine dn ?_
                 refine sr ?_
                 refine s_mv (v := u124) rfl ?_
                 refine s_mv (v := .int .i64 r128) rfl ?_
                 refine s_call [u124, .int .i64 r128] _ Try.func34 rfl rfl rfl (c_impl_MonomialsOf r123 r128 h _ (own_repE (hC.getM 0 rfl))) (fun ret134 w136 hR135 => ?_)
                 obtain ⟨r137, u138, f139, r142, rfl, h, hr140, hf141, hB143⟩ := hR135
                 refine ⟨_, rfl, ?_⟩
                 replace hC := hC.push hB143 (Tr.item (Tr.sl 49 ((EA .u8).tr)) r137 [u138] f139) hr140 hf141
                 obtain ⟨ho145, hf146⟩ := flat_tr (hC.getM 0 rfl).1
                 subst hf146
                 replace hC := hC.recast (c := own 49 8 u138 r137.length ((EA .u8).encs r137)) (fun _ h_ => h_) (fun _ => ho145)
                 refine s_mv (v := .tuple #[u138, .int .i64 r142]) rfl ?_
                 refine s_ext (v := u138) rfl rfl ?_
                 refine s_ext (v := .int .i64 r142) rfl rfl ?_
                 refine s_as (v := u138) rfl ?_
                 refine s_as (v := .int .i64 r142) rfl ?_
                 refine dn ?_
                 refine sr ?_
                 refine s_mv (v := u124) rfl ?_
                 refine s_mv (v := .int .i64 r128) rfl ?_
                 refine s_call [u124, .int .i64 r128] _ Try.func35 rfl rfl rfl (c_spec_MonomialsOf r123 r128 h _ (own_repE (hC.getM 1 rfl))) (fun ret148 w150 hR149 => ?_)
                 obtain ⟨r151, u152, f153, r156, rfl, h, hr154, hf155, hB157⟩ := hR149
                 refine ⟨_, rfl, ?_⟩
                 replace hC := hC.push hB157 (Tr.item (Tr.sl 49 ((EA .u8).tr)) r151 [u152] f153) hr154 hf155
                 obtain ⟨ho159, hf160⟩ := flat_tr (hC.getM 0 rfl).1
                 subst hf160
                 replace hC := hC.recast (c := own 49 8 u152 r151.length ((EA .u8).encs r151)) (fun _ h_ => h_) (fun _ => ho159)
                 refine s_mv (v := .tuple #[u152, .int .i64 r156]) rfl ?_
                 refine s_ext (v := u152) rfl rfl ?_
                 refine s_ext (v := .int .i64 r156) rfl rfl ?_
                 refine s_as (v := u152) rfl ?_
                 refine s_as (v := .int .i64 r156) rfl ?_
                 refine dn ?_
                 refine wp_seq ?_
                 refine sr ?_
                 refine s_mv (v := .int .i64 r142) rfl ?_
                 refine s_mv (v := .int .i64 r156) rfl ?_
                 refine s_neq rfl rfl ?_
                 refine s_mv (v := .bool (decide (r142 ≠ r156))) rfl ?_
                 refine bsplit (decide (r142 ≠ r156)) (fun hb162 => ?_) (fun hb162 => ?_)
                 ·replace h := ift h (ct hb162)
                  refine guardOff (b := true) 3 182 rfl (tr rfl (congrArg _ hb162)) (by decide) ?_
                  refine guardOff (b := true) 3 182 rfl (tr rfl (congrArg _ hb162)) (by decide) ?_
                  refine guardOff (b := true) 3 182 rfl (tr rfl (congrArg _ hb162)) (by decide) ?_
                  refine guardOff (b := true) 3 182 rfl (tr rfl (congrArg _ hb162)) (by decide) ?_
                  refine guardOff (b := true) 3 182 rfl (tr rfl (congrArg _ hb162)) (by decide) ?_
                  refine s_pick (v := .bool true) (b := true) (tr rfl (congrArg _ hb162)) rfl ?_
                  refine dn ?_
                  refine cw_true rfl rfl ?_
                  refine sr ?_
                  refine s_as (v := .bool false) rfl ?_
                  refine dn ?_
                  refine wp_ret (then_ret ?_)
                  refine ret1 (fn := Try.f7) rfl ?_ ⟨false, rfl, h, hC.below⟩ (.inl rfl)
                  exact res_tmp rfl
                 ·replace h := iff_ h (cf hb162)
                  refine guardOn 3 182 rfl rfl hb162 ?_
                  refine s_mv (v := u138) rfl ?_
                  refine guardOn 3 182 rfl rfl hb162 ?_
                  obtain ⟨Ad163, c164, hv165⟩ := own_form (hC.getM 1 rfl)
                  refine s_len Try.underlying59 (tr rfl hv165) ?_
                  refine guardOn 3 182 rfl rfl hb162 ?_
                  refine s_mv (v := u152) rfl ?_
                  refine guardOn 3 182 rfl rfl hb162 ?_
                  obtain ⟨Ad166, c167, hv168⟩ := own_form (hC.getM 0 rfl)
                  refine s_len Try.underlying59 (tr rfl hv168) ?_
                  refine guardOn 3 182 rfl rfl hb162 ?_
                  refine s_neq rfl rfl ?_
                  refine s_pick (v := .bool (decide ((r137.length : Int) ≠ (r151.length : Int)))) (b := false) (tr rfl (congrArg _ hb162)) rfl ?_
                  refine dn ?_
                  refine cw_cond rfl (fun hb169 => ?_) (fun hb169 => ?_)
                  ·replace h := ift h (ct hb169)
                   refine sr ?_
                   refine s_as (v := .bool false) rfl ?_
                   refine dn ?_
                   refine wp_ret (then_ret ?_)
                   refine ret1 (fn := Try.f7) rfl ?_ ⟨false, rfl, h, hC.below⟩ (.inl rfl)
                   exact res_tmp rfl
                  ·replace h := iff_ h (cf hb169)
                   refine wp_skip ?_
                   refine then_norm ?_
                   refine wp_seq ?_
                   refine sr ?_
                   refine s_as (v := .int .i64 0) rfl ?_
                   refine dn ?_
                   refine wp_block ?_
                   have hN213 : r137.length ≤ 9223372036854775807 := own_max (hC.getM 1 rfl)
                   refine loopN (S := Unit) _ _ (fun i211 s212 e_ w_ => Slots e_ [(0, u0_0), (2, .bool false), (23, u138), (25, u152), (27, .int .i64 (i211 : Int))] ∧ Ctx Nox w0 w_ [own 49 8 u152 r151.length ((EA .u8).encs r151), own 49 8 u138 r137.length ((EA .u8).encs r137)] [Ty.item ((EI .u8).ty.sl) a0 [u0_0] fp0]) r137.length ?_ ?_ (s0 := ()) ?_ h
                   ·clear hC h
                    rintro i211 s212 e_ w218 next214 K215 hi217 ⟨hS_, hC⟩ h hK216
                    refine wp_seq ?_
                    refine sr ?_
                    refine s_mv (v := .int .i64 (i211 : Int)) (sx hS_ 4 rfl) ?_
                    refine s_mv (v := u138) (sx hS_ 2 rfl) ?_
                    obtain ⟨Ad219, c220, hv221⟩ := own_form (hC.getM 1 rfl)
                    refine s_len Try.underlying59 (tr rfl hv221) ?_
                    refine s_lss rfl rfl ?_
                    refine dn ?_
                    refine cw_true rfl (decide_eq_true (by omega)) ?_
                    refine wp_skip ?_
                    refine then_norm ?_
                    refine wp_seq ?_
                    refine wp_block ?_
                    refine wp_seq ?_
                    refine cw_draw 8 mixed [0, 0, 3, 7, 0, 0, 48, 112, 255] [2, 3, 6, 7] [0, 1, 4, 5] (by kernel_rfl) (by kernel_rfl) (by kernel_rfl) (fun hM223 hM224 w222 hB_ => ?_)
                    replace hC := hC.grow hB_
                    refine aF 0 (u138) rfl rfl (hM224 0 rfl) (rfl) (fun _ => by exact r_mv (v := u138) (sx hS_ 2 rfl)) (dbits 9 1) ?_
                    refine aF 1 (.int .i64 (i211 : Int)) rfl rfl (hM224 1 rfl) (rfl) (fun _ => by exact r_mv (v := .int .i64 (i211 : Int)) (sx hS_ 4 rfl)) (dbits 9 3) ?_
                    obtain ⟨Ad225, c226, hv227⟩ := own_formE (hC.getM 1 rfl) (Nat.lt_of_le_of_lt (Nat.zero_le _) hi217)
                    refine aL 2 (.pointer (some ⟨Ad225, i211 * 8, none⟩)) rfl rfl (hM223 2 rfl) (rfl) (fun _ hB_ => by exact r_iaddrO (i211 * 8) Try.underlying59 ag49.size (by exact tr rfl hv227) rfl (Int.natCast_nonneg _) (Int.ofNat_lt.2 hi217) rfl) (dbits 9 7) ?_
                    refine aL 3 (.agg (List.toArray (A8.enc .u8 (r137.getD i211 default)))) rfl rfl (hM223 3 rfl) (rfl) (fun _ hB_ => by exact r_loadCA (A8.enc .u8 (r137.getD i211 default)) (own_cellsE ((hC.grow hB_).getM 1 rfl) hv227 i211 hi217) ag49 rfl rfl) (dbits 9 15) ?_
                    refine aF 4 (u152) rfl rfl (hM224 4 rfl) (rfl) (fun _ => by exact r_mv (v := u152) (sx hS_ 3 rfl)) (dbits 9 31) ?_
                    refine aF 5 (.int .i64 (i211 : Int)) rfl rfl (hM224 5 rfl) (rfl) (fun _ => by exact r_mv (v := .int .i64 (i211 : Int)) (sx hS_ 4 rfl)) (dbits 9 63) ?_
                    obtain ⟨⟨h0_228, h1_229⟩, h⟩ := h
                    obtain ⟨Ad230, c231, hv232⟩ := own_formE (hC.getM 0 rfl) (Nat.lt_of_le_of_lt (Nat.zero_le _) (show i211 < r151.length by omega))
                    refine aL 6 (.pointer (some ⟨Ad230, i211 * 8, none⟩)) rfl rfl (hM223 6 rfl) (rfl) (fun _ hB_ => by exact r_iaddrO (i211 * 8) Try.underlying59 ag49.size (by exact tr rfl hv232) rfl h0_228 h1_229 rfl) (dbits 9 127) ?_
                    refine aL 7 (.agg (List.toArray (A8.enc .u8 (r151.getD i211 default)))) rfl rfl (hM223 7 rfl) (rfl) (fun _ hB_ => by exact r_loadCA (A8.enc .u8 (r151.getD i211 default)) (own_cellsE ((hC.grow hB_).getM 0 rfl) hv232 i211 (show i211 < r151.length by omega)) ag49 rfl rfl) (dbits 9 255) ?_
                    refine ae_tail 8 (by decide) (by decide) (by kernel_rfl) (by kernel_rfl) rfl ?_
                    refine s_neqA kt49 eg49 rfl rfl ?_
                    refine done ?_
                    refine qn_norm ?_
                    refine then_norm ?_
                    refine cw_cond rfl (fun hb233 => ?_) (fun hb233 => ?_)
                    ·replace h := ift h (ct hb233)
                     refine sr ?_
                     refine s_as (v := .bool false) rfl ?_
                     refine dn ?_
                     refine wp_ret (blk_ret (then_ret (then_ret (blk_ret (then_ret ?_)))))
                     refine ret1 (fn := Try.f7) rfl ?_ ⟨false, rfl, h, hC.below⟩ (.inl rfl)
                     exact res_tmp rfl
                    ·replace h := iff_ h (cf hb233)
                     refine wp_skip ?_
                     refine blk_norm ?_
                     refine then_norm ?_
                     refine cw_region ?_
                     refine s_mv (v := .int .i64 (i211 : Int)) (sx hS_ 4 rfl) ?_
                     refine s_add rfl rfl ?_
                     refine s_as (v := .int .i64 (IntKind.i64.wrap ((i211 : Int) + 1))) rfl ?_
                     refine done ?_
                     exact hK216 () _ _ ⟨(sk (sx hS_ 0 rfl) (sk (sx hS_ 1 rfl) (sk (sx hS_ 2 rfl) (sk (sx hS_ 3 rfl) (sk (tr rfl (congrArg _ (wrap64_nat hi217 hN213))) sn))))), hC⟩ h
                   ·clear hC h
                    rintro s212 e_ w234 K215 ⟨hS_, hC⟩ h
                    refine wp_seq ?_
                    refine sr ?_
                    refine s_mv (v := .int .i64 (r137.length : Int)) (sx hS_ 4 rfl) ?_
                    refine s_mv (v := u138) (sx hS_ 2 rfl) ?_
                    obtain ⟨Ad235, c236, hv237⟩ := own_form (hC.getM 1 rfl)
                    refine s_len Try.underlying59 (tr rfl hv237) ?_
                    refine s_lss rfl rfl ?_
                    refine dn ?_
                    refine cw_false rfl (decide_eq_false (by omega)) ?_
                    refine wp_exit (then_exit (then_exit (exit_in ?_)))
                    refine then_norm ?_
                    refine sr ?_
                    refine s_mv (v := u0_0) (sx hS_ 0 rfl) ?_
                    refine s_call [u0_0] _ Try.func36 rfl rfl rfl (c_spec_DrawInverseNumber a0 h _ (hC.getP 0 rfl)) (fun ret238 w240 hR239 => ?_)
                    obtain ⟨r241, rfl, h, hB242⟩ := hR239
                    refine ⟨_, rfl, ?_⟩
                    replace hC := hC.grow hB242
                    refine s_as (v := .int .i64 r241) rfl ?_
                    refine dn ?_
                    refine sr ?_
                    refine s_mv (v := .int .i64 r241) rfl ?_
                    refine s_call [.int .i64 r241] _ Try.func37 rfl rfl rfl (c_impl_InverseNumber r241 h _) (fun ret243 w245 hR244 => ?_)
                    obtain ⟨r246, r247, rfl, h, hB248⟩ := hR244
                    refine ⟨_, rfl, ?_⟩
                    replace hC := hC.grow hB248
                    refine s_mv (v := .tuple #[.int .i64 r246, .int .i64 r247]) rfl ?_
                    refine s_ext (v := .int .i64 r246) rfl rfl ?_
                    refine s_ext (v := .int .i64 r247) rfl rfl ?_
                    refine s_as (v := .int .i64 r246) rfl ?_
                    refine s_as (v := .int .i64 r247) rfl ?_
                    refine dn ?_
                    refine sr ?_
                    refine s_mv (v := .int .i64 r241) rfl ?_
                    refine s_call [.int .i64 r241] _ Try.func38 rfl rfl rfl (c_spec_InverseNumber r241 h _) (fun ret249 w251 hR250 => ?_)
                    obtain ⟨r252, r253, rfl, h, hB254⟩ := hR250
                    refine ⟨_, rfl, ?_⟩
                    replace hC := hC.grow hB254
                    refine s_mv (v := .tuple #[.int .i64 r252, .int .i64 r253]) rfl ?_
                    refine s_ext (v := .int .i64 r252) rfl rfl ?_
                    refine s_ext (v := .int .i64 r253) rfl rfl ?_
                    refine s_as (v := .int .i64 r252) rfl ?_
                    refine s_as (v := .int .i64 r253) rfl ?_
                    refine dn ?_
                    refine wp_seq ?_
                    refine sr ?_
                    refine s_mv (v := .int .i64 r247) rfl ?_
                    refine s_mv (v := .int .i64 r253) rfl ?_
                    refine s_neq rfl rfl ?_
                    refine s_mv (v := .bool (decide (r247 ≠ r253))) rfl ?_
                    refine bsplit (decide (r247 ≠ r253)) (fun hb255 => ?_) (fun hb255 => ?_)
                    ·replace h := ift h (ct hb255)
                     refine guardOff (b := true) 3 219 rfl (tr rfl (congrArg _ hb255)) (by decide) ?_
                     refine guardOff (b := true) 3 219 rfl (tr rfl (congrArg _ hb255)) (by decide) ?_
                     refine guardOff (b := true) 3 219 rfl (tr rfl (congrArg _ hb255)) (by decide) ?_
                     refine s_pick (v := .bool true) (b := true) (tr rfl (congrArg _ hb255)) rfl ?_
                     refine dn ?_
                     refine cw_true rfl rfl ?_
                     refine sr ?_
                     refine s_as (v := .bool false) rfl ?_
                     refine dn ?_
                     refine wp_ret (then_ret ?_)
                     refine ret1 (fn := Try.f7) rfl ?_ ⟨false, rfl, h, hC.below⟩ (.inl rfl)
                     exact res_tmp rfl
                    ·replace h := iff_ h (cf hb255)
                     refine guardOn 3 219 rfl rfl hb255 ?_
                     refine s_mv (v := .int .i64 r246) rfl ?_
                     refine guardOn 3 219 rfl rfl hb255 ?_
                     refine s_mv (v := .int .i64 r252) rfl ?_
                     refine guardOn 3 219 rfl rfl hb255 ?_
                     refine s_neq rfl rfl ?_
                     refine s_pick (v := .bool (decide (r246 ≠ r252))) (b := false) (tr rfl (congrArg _ hb255)) rfl ?_
                     refine dn ?_
                     refine cw_cond rfl (fun hb256 => ?_) (fun hb256 => ?_)
                     ·replace h := ift h (ct hb256)
                      refine sr ?_
                      refine s_as (v := .bool false) rfl ?_
                      refine dn ?_
                      refine wp_ret (then_ret ?_)
                      refine ret1 (fn := Try.f7) rfl ?_ ⟨false, rfl, h, hC.below⟩ (.inl rfl)
                      exact res_tmp rfl
                     ·replace h := iff_ h (cf hb256)
                      refine wp_skip ?_
                      refine then_norm ?_
                      refine sr ?_
                      refine s_mv (v := .int .i64 r247) rfl ?_
                      refine s_neq rfl rfl ?_
                      refine s_mv (v := .bool (decide (r247 ≠ 0))) rfl ?_
                      refine bsplit (decide (r247 ≠ 0)) (fun hb257 => ?_) (fun hb257 => ?_)
                      ·replace h := ift h (ct hb257)
                       refine guardOff (b := true) 2 226 rfl (tr rfl (congrArg _ hb257)) (by decide) ?_
                       refine guardOff (b := true) 2 226 rfl (tr rfl (congrArg _ hb257)) (by decide) ?_
                       refine guardOff (b := true) 2 226 rfl (tr rfl (congrArg _ hb257)) (by decide) ?_
                       refine guardOff (b := true) 2 226 rfl (tr rfl (congrArg _ hb257)) (by decide) ?_
                       refine guardOff (b := true) 2 226 rfl (tr rfl (congrArg _ hb257)) (by decide) ?_
                       refine s_pick (v := .bool true) (b := true) (tr rfl (congrArg _ hb257)) rfl ?_
                       refine s_as (v := .bool true) rfl ?_
                       refine dn ?_
                       refine wp_ret ?_
                       refine ret1 (fn := Try.f7) rfl ?_ ⟨true, rfl, h, hC.below⟩ (.inl rfl)
                       exact res_tmp rfl
                      ·replace h := iff_ h (cf hb257)
                       refine guardOn 2 226 rfl rfl hb257 ?_
                       refine s_mv (v := .int .i64 r241) rfl ?_
                       refine guardOn 2 226 rfl rfl hb257 ?_
                       refine s_mv (v := .int .i64 r246) rfl ?_
                       refine guardOn 2 226 rfl rfl hb257 ?_
                       refine s_mul rfl rfl ?_
                       refine guardOn 2 226 rfl rfl hb257 ?_
                       refine s_rem rfl rfl (by decide) ?_
                       refine guardOn 2 226 rfl rfl hb257 ?_
                       refine s_eql rfl rfl ?_
                       refine s_pick (v := .bool (decide (Int.tmod (IntKind.i64.wrap (r241 * r246)) 10007 = 1))) (b := false) (tr rfl (congrArg _ hb257)) rfl ?_
                       refine s_as (v := .bool (decide (Int.tmod (IntKind.i64.wrap (r241 * r246)) 10007 = 1))) rfl ?_
                       refine dn ?_
                       refine wp_ret ?_
                       refine ret1 (fn := Try.f7) rfl ?_ ⟨decide (Int.tmod (IntKind.i64.wrap (r241 * r246)) 10007 = 1), rfl, h, hC.below⟩ (.inl rfl)
                       exact res_tmp rfl
                   ·skip
                    replace hC := hC.sM [0, 1] (M' := [own 49 8 u152 r151.length ((EA .u8).encs r151), own 49 8 u138 r137.length ((EA .u8).encs r137)]) (by decide) rfl
                    exact ⟨(sk rfl (sk rfl (sk rfl (sk rfl (sk rfl sn))))), hC⟩
              ·replace h := iff_ h (cf hb117)
               refine guardOff (b := false) 2 142 rfl (tr rfl (congrArg _ hb117)) (by decide) ?_
               refine guardOff (b := false) 2 142 rfl (tr rfl (congrArg _ hb117)) (by decide) ?_
               refine guardOff (b := false) 2 142 rfl (tr rfl (congrArg _ hb117)) (by decide) ?_
               refine guardOff (b := false) 2 142 rfl (tr rfl (congrArg _ hb117)) (by decide) ?_
               refine guardOff (b := false) 2 142 rfl (tr rfl (congrArg _ hb117)) (by decide) ?_
               refine s_pick (v := .bool false) (b := false) (tr rfl (congrArg _ hb117)) rfl ?_
               refine dn ?_
               refine cw_false rfl rfl ?_
               refine wp_skip ?_
               refine then_norm ?_
               refine sr ?_
               refine s_mv (v := .int .i64 r35) rfl ?_
               refine s_neq rfl rfl ?_
               refine s_mv (v := .bool (decide (r35 ≠ 0))) rfl ?_
               refine guardOff (b := false) 2 151 rfl (tr rfl (congrArg _ hb117)) (by decide) ?_
               refine guardOff (b := false) 2 151 rfl (tr rfl (congrArg _ hb117)) (by decide) ?_
               refine guardOff (b := false) 2 151 rfl (tr rfl (congrArg _ hb117)) (by decide) ?_
               refine guardOff (b := false) 2 151 rfl (tr rfl (congrArg _ hb117)) (by decide) ?_
               refine guardOff (b := false) 2 151 rfl (tr rfl (congrArg _ hb117)) (by decide) ?_
               refine guardOff (b := false) 2 151 rfl (tr rfl (congrArg _ hb117)) (by decide) ?_
               refine guardOff (b := false) 2 151 rfl (tr rfl (congrArg _ hb117)) (by decide) ?_
               refine guardOff (b := false) 2 151 rfl (tr rfl (congrArg _ hb117)) (by decide) ?_
               refine guardOff (b := false) 2 151 rfl (tr rfl (congrArg _ hb117)) (by decide) ?_
               refine s_pick (v := .bool false) (b := false) (tr rfl (congrArg _ hb117)) rfl ?_
               refine dn ?_
               refine cw_false rfl rfl ?_
               refine wp_skip ?_
               refine then_norm ?_
               refine sr ?_
               refine s_mv (v := u0_0) rfl ?_
               refine s_call [u0_0] _ Try.func33 rfl rfl rfl (c_spec_DrawMonomialsOf a0 h _ (hC.getP 0 rfl)) (fun ret258 w260 hR259 => ?_)
               obtain ⟨r261, u262, f263, r266, rfl, h, hr264, hf265, hB267⟩ := hR259
               refine ⟨_, rfl, ?_⟩
               replace hC := hC.push hB267 (Tr.item (Tr.sl 2 ((EI .i64).tr)) r261 [u262] f263) hr264 hf265
               obtain ⟨ho269, hf270⟩ := flat_tr (hC.getM 0 rfl).1
               subst hf270
               replace hC := hC.recast (c := own 2 1 u262 r261.length ((EI .i64).encs r261)) (fun _ h_ => h_) (fun _ => ho269)
               refine s_mv (v := .tuple #[u262, .int .i64 r266]) rfl ?_
               refine s_ext (v := u262) rfl rfl ?_
               refine s_ext (v := .int .i64 r266) rfl rfl ?_
               refine s_as (v := u262) rfl ?_
               refine s_as (v := .int .i64 r266) rfl ?_
               refine dn ?_
               refine sr ?_
               refine s_mv (v := u262) rfl ?_
               refine s_mv (v := .int .i64 r266) rfl ?_
               refine s_call [u262, .int .i64 r266] _ Try.func34 rfl rfl rfl (c_impl_MonomialsOf r261 r266 h _ (own_repE (hC.getM 0 rfl))) (fun ret272 w274 hR273 => ?_)
               obtain ⟨r275, u276, f277, r280, rfl, h, hr278, hf279, hB281⟩ := hR273
               refine ⟨_, rfl, ?_⟩
               replace hC := hC.push hB281 (Tr.item (Tr.sl 49 ((EA .u8).tr)) r275 [u276] f277) hr278 hf279
               obtain ⟨ho283, hf284⟩ := flat_tr (hC.getM 0 rfl).1
               subst hf284
               replace hC := hC.recast (c := own 49 8 u276 r275.length ((EA .u8).encs r275)) (fun _ h_ => h_) (fun _ => ho283)
               refine s_mv (v := .tuple #[u276, .int .i64 r280]) rfl ?_
               refine s_ext (v := u276) rfl rfl ?_
               refine s_ext (v := .int .i64 r280) rfl rfl ?_
               refine s_as (v := u276) rfl ?_
               refine s_as (v := .int .i64 r280) rfl ?_
               refine dn ?_
               refine sr ?_
               refine s_mv (v := u262) rfl ?_
               refine s_mv (v := .int .i64 r266) rfl ?_
               refine s_call [u262, .int .i64 r266] _ Try.func35 rfl rfl rfl (c_spec_MonomialsOf r261 r266 h _ (own_repE (hC.getM 1 rfl))) (fun ret286 w288 hR287 => ?_)
               obtain ⟨r289, u290, f291, r294, rfl, h, hr292, hf293, hB295⟩ := hR287
               refine ⟨_, rfl, ?_⟩
               replace hC := hC.push hB295 (Tr.item (Tr.sl 49 ((EA .u8).tr)) r289 [u290] f291) hr292 hf293
               obtain ⟨ho297, hf298⟩ := flat_tr (hC.getM 0 rfl).1
               subst hf298
               replace hC := hC.recast (c := own 49 8 u290 r289.length ((EA .u8).encs r289)) (fun _ h_ => h_) (fun _ => ho297)
               refine s_mv (v := .tuple #[u290, .int .i64 r294]) rfl ?_
               refine s_ext (v := u290) rfl rfl ?_
               refine s_ext (v := .int .i64 r294) rfl rfl ?_
               refine s_as (v := u290) rfl ?_
               refine s_as (v := .int .i64 r294) rfl ?_
               refine dn ?_
               refine wp_seq ?_
               refine sr ?_
               refine s_mv (v := .int .i64 r280) rfl ?_
               refine s_mv (v := .int .i64 r294) rfl ?_
               refine s_neq rfl rfl ?_
               refine s_mv (v := .bool (decide (r280 ≠ r294))) rfl ?_
               refine bsplit (decide (r280 ≠ r294)) (fun hb300 => ?_) (fun hb300 => ?_)
               ·replace h := ift h (ct hb300)
                refine guardOff (b := true) 3 182 rfl (tr rfl (congrArg _ hb300)) (by decide) ?_
                refine guardOff (b := true) 3 182 rfl (tr rfl (congrArg _ hb300)) (by decide) ?_
                refine guardOff (b := true) 3 182 rfl (tr rfl (congrArg _ hb300)) (by decide) ?_
                refine guardOff (b := true) 3 182 rfl (tr rfl (congrArg _ hb300)) (by decide) ?_
                refine guardOff (b := true) 3 182 rfl (tr rfl (congrArg _ hb300)) (by decide) ?_
                refine s_pick (v := .bool true) (b := true) (tr rfl (congrArg _ hb300)) rfl ?_
                refine dn ?_
                refine cw_true rfl rfl ?_
                refine sr ?_
                refine s_as (v := .bool false) rfl ?_
                refine dn ?_
                refine wp_ret (then_ret ?_)
                refine ret1 (fn := Try.f7) rfl ?_ ⟨false, rfl, h, hC.below⟩ (.inl rfl)
                exact res_tmp rfl
               ·replace h := iff_ h (cf hb300)
                refine guardOn 3 182 rfl rfl hb300 ?_
                refine s_mv (v := u276) rfl ?_
                refine guardOn 3 182 rfl rfl hb300 ?_
                obtain ⟨Ad301, c302, hv303⟩ := own_form (hC.getM 1 rfl)
                refine s_len Try.underlying59 (tr rfl hv303) ?_
                refine guardOn 3 182 rfl rfl hb300 ?_
                refine s_mv (v := u290) rfl ?_
                refine guardOn 3 182 rfl rfl hb300 ?_
                obtain ⟨Ad304, c305, hv306⟩ := own_form (hC.getM 0 rfl)
                refine s_len Try.underlying59 (tr rfl hv306) ?_
                refine guardOn 3 182 rfl rfl hb300 ?_
                refine s_neq rfl rfl ?_
                refine s_pick (v := .bool (decide ((r275.length : Int) ≠ (r289.length : Int)))) (b := false) (tr rfl (congrArg _ hb300)) rfl ?_
                refine dn ?_
                refine cw_cond rfl (fun hb307 => ?_) (fun hb307 => ?_)
                ·replace h := ift h (ct hb307)
                 refine sr ?_
                 refine s_as (v := .bool false) rfl ?_
                 refine dn ?_
                 refine wp_ret (then_ret ?_)
                 refine ret1 (fn := Try.f7) rfl ?_ ⟨false, rfl, h, hC.below⟩ (.inl rfl)
                 exact res_tmp rfl
                ·replace h := iff_ h (cf hb307)
                 refine wp_skip ?_
                 refine then_norm ?_
                 refine wp_seq ?_
                 refine sr ?_
                 refine s_as (v := .int .i64 0) rfl ?_
                 refine dn ?_
                 refine wp_block ?_
                 have hN351 : r275.length ≤ 9223372036854775807 := own_max (hC.getM 1 rfl)
                 refine loopN (S := Unit) _ _ (fun i349 s350 e_ w_ => Slots e_ [(0, u0_0), (2, .bool false), (23, u276), (25, u290), (27, .int .i64 (i349 : Int))] ∧ Ctx Nox w0 w_ [own 49 8 u290 r289.length ((EA .u8).encs r289), own 49 8 u276 r275.length ((EA .u8).encs r275)] [Ty.item ((EI .u8).ty.sl) a0 [u0_0] fp0]) r275.length ?_ ?_ (s0 := ()) ?_ h
                 ·clear hC h
                  rintro i349 s350 e_ w356 next352 K353 hi355 ⟨hS_, hC⟩ h hK354
                  refine wp_seq ?_
                  refine sr ?_
                  refine s_mv (v := .int .i64 (i349 : Int)) (sx hS_ 4 rfl) ?_
                  refine s_mv (v := u276) (sx hS_ 2 rfl) ?_
                  obtain ⟨Ad357, c358, hv359⟩ := own_form (hC.getM 1 rfl)
                  refine s_len Try.underlying59 (tr rfl hv359) ?_
                  refine s_lss rfl rfl ?_
                  refine dn ?_
                  refine cw_true rfl (decide_eq_true (by omega)) ?_
                  refine wp_skip ?_
                  refine then_norm ?_
                  refine wp_seq ?_
                  refine wp_block ?_
                  refine wp_seq ?_
                  refine cw_draw 8 mixed [0, 0, 3, 7, 0, 0, 48, 112, 255] [2, 3, 6, 7] [0, 1, 4, 5] (by kernel_rfl) (by kernel_rfl) (by kernel_rfl) (fun hM361 hM362 w360 hB_ => ?_)
                  replace hC := hC.grow hB_
                  refine aF 0 (u276) rfl rfl (hM362 0 rfl) (rfl) (fun _ => by exact r_mv (v := u276) (sx hS_ 2 rfl)) (dbits 9 1) ?_
                  refine aF 1 (.int .i64 (i349 : Int)) rfl rfl (hM362 1 rfl) (rfl) (fun _ => by exact r_mv (v := .int .i64 (i349 : Int)) (sx hS_ 4 rfl)) (dbits 9 3) ?_
                  obtain ⟨Ad363, c364, hv365⟩ := own_formE (hC.getM 1 rfl) (Nat.lt_of_le_of_lt (Nat.zero_le _) hi355)
                  refine aL 2 (.pointer (some ⟨Ad363, i349 * 8, none⟩)) rfl rfl (hM361 2 rfl) (rfl) (fun _ hB_ => by exact r_iaddrO (i349 * 8) Try.underlying59 ag49.size (by exact tr rfl hv365) rfl (Int.natCast_nonneg _) (Int.ofNat_lt.2 hi355) rfl) (dbits 9 7) ?_
                  refine aL 3 (.agg (List.toArray (A8.enc .u8 (r275.getD i349 default)))) rfl rfl (hM361 3 rfl) (rfl) (fun _ hB_ => by exact r_loadCA (A8.enc .u8 (r275.getD i349 default)) (own_cellsE ((hC.grow hB_).getM 1 rfl) hv365 i349 hi355) ag49 rfl rfl) (dbits 9 15) ?_
                  refine aF 4 (u290) rfl rfl (hM362 4 rfl) (rfl) (fun _ => by exact r_mv (v := u290) (sx hS_ 3 rfl)) (dbits 9 31) ?_
                  refine aF 5 (.int .i64 (i349 : Int)) rfl rfl (hM362 5 rfl) (rfl) (fun _ => by exact r_mv (v := .int .i64 (i349 : Int)) (sx hS_ 4 rfl)) (dbits 9 63) ?_
                  obtain ⟨⟨h0_366, h1_367⟩, h⟩ := h
                  obtain ⟨Ad368, c369, hv370⟩ := own_formE (hC.getM 0 rfl) (Nat.lt_of_le_of_lt (Nat.zero_le _) (show i349 < r289.length by omega))
                  refine aL 6 (.pointer (some ⟨Ad368, i349 * 8, none⟩)) rfl rfl (hM361 6 rfl) (rfl) (fun _ hB_ => by exact r_iaddrO (i349 * 8) Try.underlying59 ag49.size (by exact tr rfl hv370) rfl h0_366 h1_367 rfl) (dbits 9 127) ?_
                  refine aL 7 (.agg (List.toArray (A8.enc .u8 (r289.getD i349 default)))) rfl rfl (hM361 7 rfl) (rfl) (fun _ hB_ => by exact r_loadCA (A8.enc .u8 (r289.getD i349 default)) (own_cellsE ((hC.grow hB_).getM 0 rfl) hv370 i349 (show i349 < r289.length by omega)) ag49 rfl rfl) (dbits 9 255) ?_
                  refine ae_tail 8 (by decide) (by decide) (by kernel_rfl) (by kernel_rfl) rfl ?_
                  refine s_neqA kt49 eg49 rfl rfl ?_
                  refine done ?_
                  refine qn_norm ?_
                  refine then_norm ?_
                  refine cw_cond rfl (fun hb371 => ?_) (fun hb371 => ?_)
                  ·replace h := ift h (ct hb371)
                   refine sr ?_
                   refine s_as (v := .bool false) rfl ?_
                   refine dn ?_
                   refine wp_ret (blk_ret (then_ret (then_ret (blk_ret (then_ret ?_)))))
                   refine ret1 (fn := Try.f7) rfl ?_ ⟨false, rfl, h, hC.below⟩ (.inl rfl)
                   exact res_tmp rfl
                  ·replace h := iff_ h (cf hb371)
                   refine wp_skip ?_
                   refine blk_norm ?_
                   refine then_norm ?_
                   refine cw_region ?_
                   refine s_mv (v := .int .i64 (i349 : Int)) (sx hS_ 4 rfl) ?_
                   refine s_add rfl rfl ?_
                   refine s_as (v := .int .i64 (IntKind.i64.wrap ((i349 : Int) + 1))) rfl ?_
                   refine done ?_
                   exact hK354 () _ _ ⟨(sk (sx hS_ 0 rfl) (sk (sx hS_ 1 rfl) (sk (sx hS_ 2 rfl) (sk (sx hS_ 3 rfl) (sk (tr rfl (congrArg _ (wrap64_nat hi355 hN351))) sn))))), hC⟩ h
                 ·clear hC h
                  rintro s350 e_ w372 K353 ⟨hS_, hC⟩ h
                  refine wp_seq ?_
                  refine sr ?_
                  refine s_mv (v := .int .i64 (r275.length : Int)) (sx hS_ 4 rfl) ?_
                  refine s_mv (v := u276) (sx hS_ 2 rfl) ?_
                  obtain ⟨Ad373, c374, hv375⟩ := own_form (hC.getM 1 rfl)
                  refine s_len Try.underlying59 (tr rfl hv375) ?_
                  refine s_lss rfl rfl ?_
                  refine dn ?_
                  refine cw_false rfl (decide_eq_false (by omega)) ?_
                  refine wp_exit (then_exit (then_exit (exit_in ?_)))
                  refine then_norm ?_
                  refine sr ?_
                  refine s_mv (v := u0_0) (sx hS_ 0 rfl) ?_
                  refine s_call [u0_0] _ Try.func36 rfl rfl rfl (c_spec_DrawInverseNumber a0 h _ (hC.getP 0 rfl)) (fun ret376 w378 hR377 => ?_)
                  obtain ⟨r379, rfl, h, hB380⟩ := hR377
                  refine ⟨_, rfl, ?_⟩
                  replace hC := hC.grow hB380
                  refine s_as (v := .int .i64 r379) rfl ?_
                  refine dn ?_
                  refine sr ?_
                  refine s_mv (v := .int .i64 r379) rfl ?_
                  refine s_call [.int .i64 r379] _ Try.func37 rfl rfl rfl (c_impl_InverseNumber r379 h _) (fun ret381 w383 hR382 => ?_)
                  obtain ⟨r384, r385, rfl, h, hB386⟩ := hR382
                  refine ⟨_, rfl, ?_⟩
                  replace hC := hC.grow hB386
                  refine s_mv (v := .tuple #[.int .i64 r384, .int .i64 r385]) rfl ?_
                  refine s_ext (v := .int .i64 r384) rfl rfl ?_
                  refine s_ext (v := .int .i64 r385) rfl rfl ?_
                  refine s_as (v := .int .i64 r384) rfl ?_
                  refine s_as (v := .int .i64 r385) rfl ?_
                  refine dn ?_
                  refine sr ?_
                  refine s_mv (v := .int .i64 r379) rfl ?_
                  refine s_call [.int .i64 r379] _ Try.func38 rfl rfl rfl (c_spec_InverseNumber r379 h _) (fun ret387 w389 hR388 => ?_)
                  obtain ⟨r390, r391, rfl, h, hB392⟩ := hR388
                  refine ⟨_, rfl, ?_⟩
                  replace hC := hC.grow hB392
                  refine s_mv (v := .tuple #[.int .i64 r390, .int .i64 r391]) rfl ?_
                  refine s_ext (v := .int .i64 r390) rfl rfl ?_
                  refine s_ext (v := .int .i64 r391) rfl rfl ?_
                  refine s_as (v := .int .i64 r390) rfl ?_
                  refine s_as (v := .int .i64 r391) rfl ?_
                  refine dn ?_
                  refine wp_seq ?_
                  refine sr ?_
                  refine s_mv (v := .int .i64 r385) rfl ?_
                  refine s_mv (v := .int .i64 r391) rfl ?_
                  refine s_neq rfl rfl ?_
                  refine s_mv (v := .bool (decide (r385 ≠ r391))) rfl ?_
                  refine bsplit (decide (r385 ≠ r391)) (fun hb393 => ?_) (fun hb393 => ?_)
                  ·replace h := ift h (ct hb393)
                   refine guardOff (b := true) 3 219 rfl (tr rfl (congrArg _ hb393)) (by decide) ?_
                   refine guardOff (b := true) 3 219 rfl (tr rfl (congrArg _ hb393)) (by decide) ?_
                   refine guardOff (b := true) 3 219 rfl (tr rfl (congrArg _ hb393)) (by decide) ?_
                   refine s_pick (v := .bool true) (b := true) (tr rfl (congrArg _ hb393)) rfl ?_
                   refine dn ?_
                   refine cw_true rfl rfl ?_
                   refine sr ?_
                   refine s_as (v := .bool false) rfl ?_
                   refine dn ?_
                   refine wp_ret (then_ret ?_)
                   refine ret1 (fn := Try.f7) rfl ?_ ⟨false, rfl, h, hC.below⟩ (.inl rfl)
                   exact res_tmp rfl
                  ·replace h := iff_ h (cf hb393)
                   refine guardOn 3 219 rfl rfl hb393 ?_
                   refine s_mv (v := .int .i64 r384) rfl ?_
                   refine guardOn 3 219 rfl rfl hb393 ?_
                   refine s_mv (v := .int .i64 r390) rfl ?_
                   refine guardOn 3 219 rfl rfl hb393 ?_
                   refine s_neq rfl rfl ?_
                   refine s_pick (v := .bool (decide (r384 ≠ r390))) (b := false) (tr rfl (congrArg _ hb393)) rfl ?_
                   refine dn ?_
                   refine cw_cond rfl (fun hb394 => ?_) (fun hb394 => ?_)
                   ·replace h := ift h (ct hb394)
                    refine sr ?_
                    refine s_as (v := .bool false) rfl ?_
                    refine dn ?_
                    refine wp_ret (then_ret ?_)
                    refine ret1 (fn := Try.f7) rfl ?_ ⟨false, rfl, h, hC.below⟩ (.inl rfl)
                    exact res_tmp rfl
                   ·replace h := iff_ h (cf hb394)
                    refine wp_skip ?_
                    refine then_norm ?_
                    refine sr ?_
                    refine s_mv (v := .int .i64 r385) rfl ?_
                    refine s_neq rfl rfl ?_
                    refine s_mv (v := .bool (decide (r385 ≠ 0))) rfl ?_
                    refine bsplit (decide (r385 ≠ 0)) (fun hb395 => ?_) (fun hb395 => ?_)
                    ·replace h := ift h (ct hb395)
                     refine guardOff (b := true) 2 226 rfl (tr rfl (congrArg _ hb395)) (by decide) ?_
                     refine guardOff (b := true) 2 226 rfl (tr rfl (congrArg _ hb395)) (by decide) ?_
                     refine guardOff (b := true) 2 226 rfl (tr rfl (congrArg _ hb395)) (by decide) ?_
                     refine guardOff (b := true) 2 226 rfl (tr rfl (congrArg _ hb395)) (by decide) ?_
                     refine guardOff (b := true) 2 226 rfl (tr rfl (congrArg _ hb395)) (by decide) ?_
                     refine s_pick (v := .bool true) (b := true) (tr rfl (congrArg _ hb395)) rfl ?_
                     refine s_as (v := .bool true) rfl ?_
                     refine dn ?_
                     refine wp_ret ?_
                     refine ret1 (fn := Try.f7) rfl ?_ ⟨true, rfl, h, hC.below⟩ (.inl rfl)
                     exact res_tmp rfl
                    ·replace h := iff_ h (cf hb395)
                     refine guardOn 2 226 rfl rfl hb395 ?_
                     refine s_mv (v := .int .i64 r379) rfl ?_
                     refine guardOn 2 226 rfl rfl hb395 ?_
                     refine s_mv (v := .int .i64 r384) rfl ?_
                     refine guardOn 2 226 rfl rfl hb395 ?_
                     refine s_mul rfl rfl ?_
                     refine guardOn 2 226 rfl rfl hb395 ?_
                     refine s_rem rfl rfl (by decide) ?_
                     refine guardOn 2 226 rfl rfl hb395 ?_
                     refine s_eql rfl rfl ?_
                     refine s_pick (v := .bool (decide (Int.tmod (IntKind.i64.wrap (r379 * r384)) 10007 = 1))) (b := false) (tr rfl (congrArg _ hb395)) rfl ?_
                     refine s_as (v := .bool (decide (Int.tmod (IntKind.i64.wrap (r379 * r384)) 10007 = 1))) rfl ?_
                     refine dn ?_
                     refine wp_ret ?_
                     refine ret1 (fn := Try.f7) rfl ?_ ⟨decide (Int.tmod (IntKind.i64.wrap (r379 * r384)) 10007 = 1), rfl, h, hC.below⟩ (.inl rfl)
                     exact res_tmp rfl
                 ·skip
                  replace hC := hC.sM [0, 1] (M' := [own 49 8 u290 r289.length ((EA .u8).encs r289), own 49 8 u276 r275.length ((EA .u8).encs r275)]) (by decide) rfl
                  exact ⟨(sk rfl (sk rfl (sk rfl (sk rfl (sk rfl sn))))), hC⟩
       ·replace h := iff_ h (cf hb81)
        refine wp_skip ?_
        refine then_norm ?_
        refine sr ?_
        refine s_mv (v := u0_0) rfl ?_
        refine s_call [u0_0] _ Try.func33 rfl rfl rfl (c_spec_DrawMonomialsOf a0 h _ (hC.getP 0 rfl)) (fun ret396 w398 hR397 => ?_)
        obtain ⟨r399, u400, f401, r404, rfl, h, hr402, hf403, hB405⟩ := hR397
        refine ⟨_, rfl, ?_⟩
        replace hC := hC.push hB405 (Tr.item (Tr.sl 2 ((EI .i64).tr)) r399 [u400] f401) hr402 hf403
        obtain ⟨ho407, hf408⟩ := flat_tr (hC.getM 0 rfl).1
        subst hf408
        replace hC := hC.recast (c := own 2 1 u400 r399.length ((EI .i64).encs r399)) (fun _ h_ => h_) (fun _ => ho407)
        refine s_mv (v := .tuple #[u400, .int .i64 r404]) rfl ?_
        refine s_ext (v := u400) rfl rfl ?_
        refine s_ext (v := .int .i64 r404) rfl rfl ?_
        refine s_as (v := u400) rfl ?_
        refine s_as (v := .int .i64 r404) rfl ?_
        refine dn ?_
        refine sr ?_
        refine s_mv (v := u400) rfl ?_
        refine s_mv (v := .int .i64 r404) rfl ?_
        refine s_call [u400, .int .i64 r404] _ Try.func34 rfl rfl rfl (c_impl_MonomialsOf r399 r404 h _ (own_repE (hC.getM 0 rfl))) (fun ret410 w412 hR411 => ?_)
        obtain ⟨r413, u414, f415, r418, rfl, h, hr416, hf417, hB419⟩ := hR411
        refine ⟨_, rfl, ?_⟩
        replace hC := hC.push hB419 (Tr.item (Tr.sl 49 ((EA .u8).tr)) r413 [u414] f415) hr416 hf417
        obtain ⟨ho421, hf422⟩ := flat_tr (hC.getM 0 rfl).1
        subst hf422
        replace hC := hC.recast (c := own 49 8 u414 r413.length ((EA .u8).encs r413)) (fun _ h_ => h_) (fun _ => ho421)
        refine s_mv (v := .tuple #[u414, .int .i64 r418]) rfl ?_
        refine s_ext (v := u414) rfl rfl ?_
        refine s_ext (v := .int .i64 r418) rfl rfl ?_
        refine s_as (v := u414) rfl ?_
        refine s_as (v := .int .i64 r418) rfl ?_
        refine dn ?_
        refine sr ?_
        refine s_mv (v := u400) rfl ?_
        refine s_mv (v := .int .i64 r404) rfl ?_
        refine s_call [u400, .int .i64 r404] _ Try.func35 rfl rfl rfl (c_spec_MonomialsOf r399 r404 h _ (own_repE (hC.getM 1 rfl))) (fun ret424 w426 hR425 => ?_)
        obtain ⟨r427, u428, f429, r432, rfl, h, hr430, hf431, hB433⟩ := hR425
        refine ⟨_, rfl, ?_⟩
        replace hC := hC.push hB433 (Tr.item (Tr.sl 49 ((EA .u8).tr)) r427 [u428] f429) hr430 hf431
        obtain ⟨ho435, hf436⟩ := flat_tr (hC.getM 0 rfl).1
        subst hf436
        replace hC := hC.recast (c := own 49 8 u428 r427.length ((EA .u8).encs r427)) (fun _ h_ => h_) (fun _ => ho435)
        refine s_mv (v := .tuple #[u428, .int .i64 r432]) rfl ?_
        refine s_ext (v := u428) rfl rfl ?_
        refine s_ext (v := .int .i64 r432) rfl rfl ?_
        refine s_as (v := u428) rfl ?_
        refine s_as (v := .int .i64 r432) rfl ?_
        refine dn ?_
        refine wp_seq ?_
        refine sr ?_
        refine s_mv (v := .int .i64 r418) rfl ?_
        refine s_mv (v := .int .i64 r432) rfl ?_
        refine s_neq rfl rfl ?_
        refine s_mv (v := .bool (decide (r418 ≠ r432))) rfl ?_
        refine bsplit (decide (r418 ≠ r432)) (fun hb438 => ?_) (fun hb438 => ?_)
        ·replace h := ift h (ct hb438)
         refine guardOff (b := true) 3 182 rfl (tr rfl (congrArg _ hb438)) (by decide) ?_
         refine guardOff (b := true) 3 182 rfl (tr rfl (congrArg _ hb438)) (by decide) ?_
         refine guardOff (b := true) 3 182 rfl (tr rfl (congrArg _ hb438)) (by decide) ?_
         refine guardOff (b := true) 3 182 rfl (tr rfl (congrArg _ hb438)) (by decide) ?_
         refine guardOff (b := true) 3 182 rfl (tr rfl (congrArg _ hb438)) (by decide) ?_
         refine s_pick (v := .bool true) (b := true) (tr rfl (congrArg _ hb438)) rfl ?_
         refine dn ?_
         refine cw_true rfl rfl ?_
         refine sr ?_
         refine s_as (v := .bool false) rfl ?_
         refine dn ?_
         refine wp_ret (then_ret ?_)
         refine ret1 (fn := Try.f7) rfl ?_ ⟨false, rfl, h, hC.below⟩ (.inl rfl)
         exact res_tmp rfl
        ·replace h := iff_ h (cf hb438)
         refine guardOn 3 182 rfl rfl hb438 ?_
         refine s_mv (v := u414) rfl ?_
         refine guardOn 3 182 rfl rfl hb438 ?_
         obtain ⟨Ad439, c440, hv441⟩ := own_form (hC.getM 1 rfl)
         refine s_len Try.underlying59 (tr rfl hv441) ?_
         refine guardOn 3 182 rfl rfl hb438 ?_
         refine s_mv (v := u428) rfl ?_
         refine guardOn 3 182 rfl rfl hb438 ?_
         obtain ⟨Ad442, c443, hv444⟩ := own_form (hC.getM 0 rfl)
         refine s_len Try.underlying59 (tr rfl hv444) ?_
         refine guardOn 3 182 rfl rfl hb438 ?_
         refine s_neq rfl rfl ?_
         refine s_pick (v := .bool (decide ((r413.length : Int) ≠ (r427.length : Int)))) (b := false) (tr rfl (congrArg _ hb438)) rfl ?_
         refine dn ?_
         refine cw_cond rfl (fun hb445 => ?_) (fun hb445 => ?_)
         ·replace h := ift h (ct hb445)
          refine sr ?_
          refine s_as (v := .bool false) rfl ?_
          refine dn ?_
          refine wp_ret (then_ret ?_)
          refine ret1 (fn := Try.f7) rfl ?_ ⟨false, rfl, h, hC.below⟩ (.inl rfl)
          exact res_tmp rfl
         ·replace h := iff_ h (cf hb445)
          refine wp_skip ?_
          refine then_norm ?_
          refine wp_seq ?_
          refine sr ?_
          refine s_as (v := .int .i64 0) rfl ?_
          refine dn ?_
          refine wp_block ?_
          have hN489 : r413.length ≤ 9223372036854775807 := own_max (hC.getM 1 rfl)
          refine loopN (S := Unit) _ _ (fun i487 s488 e_ w_ => Slots e_ [(0, u0_0), (2, .bool false), (23, u414), (25, u428), (27, .int .i64 (i487 : Int))] ∧ Ctx Nox w0 w_ [own 49 8 u428 r427.length ((EA .u8).encs r427), own 49 8 u414 r413.length ((EA .u8).encs r413)] [Ty.item ((EI .u8).ty.sl) a0 [u0_0] fp0]) r413.length ?_ ?_ (s0 := ()) ?_ h
          ·clear hC h
           rintro i487 s488 e_ w494 next490 K491 hi493 ⟨hS_, hC⟩ h hK492
           refine wp_seq ?_
           refine sr ?_
           refine s_mv (v := .int .i64 (i487 : Int)) (sx hS_ 4 rfl) ?_
           refine s_mv (v := u414) (sx hS_ 2 rfl) ?_
           obtain ⟨Ad495, c496, hv497⟩ := own_form (hC.getM 1 rfl)
           refine s_len Try.underlying59 (tr rfl hv497) ?_
           refine s_lss rfl rfl ?_
           refine dn ?_
           refine cw_true rfl (decide_eq_true (by omega)) ?_
           refine wp_skip ?_
           refine then_norm ?_
           refine wp_seq ?_
           refine wp_block ?_
           refine wp_seq ?_
           refine cw_draw 8 mixed [0, 0, 3, 7, 0, 0, 48, 112, 255] [2, 3, 6, 7] [0, 1, 4, 5] (by kernel_rfl) (by kernel_rfl) (by kernel_rfl) (fun hM499 hM500 w498 hB_ => ?_)
           replace hC := hC.grow hB_
           refine aF 0 (u414) rfl rfl (hM500 0 rfl) (rfl) (fun _ => by exact r_mv (v := u414) (sx hS_ 2 rfl)) (dbits 9 1) ?_
           refine aF 1 (.int .i64 (i487 : Int)) rfl rfl (hM500 1 rfl) (rfl) (fun _ => by exact r_mv (v := .int .i64 (i487 : Int)) (sx hS_ 4 rfl)) (dbits 9 3) ?_
           obtain ⟨Ad501, c502, hv503⟩ := own_formE (hC.getM 1 rfl) (Nat.lt_of_le_of_lt (Nat.zero_le _) hi493)
           refine aL 2 (.pointer (some ⟨Ad501, i487 * 8, none⟩)) rfl rfl (hM499 2 rfl) (rfl) (fun _ hB_ => by exact r_iaddrO (i487 * 8) Try.underlying59 ag49.size (by exact tr rfl hv503) rfl (Int.natCast_nonneg _) (Int.ofNat_lt.2 hi493) rfl) (dbits 9 7) ?_
           refine aL 3 (.agg (List.toArray (A8.enc .u8 (r413.getD i487 default)))) rfl rfl (hM499 3 rfl) (rfl) (fun _ hB_ => by exact r_loadCA (A8.enc .u8 (r413.getD i487 default)) (own_cellsE ((hC.grow hB_).getM 1 rfl) hv503 i487 hi493) ag49 rfl rfl) (dbits 9 15) ?_
           refine aF 4 (u428) rfl rfl (hM500 4 rfl) (rfl) (fun _ => by exact r_mv (v := u428) (sx hS_ 3 rfl)) (dbits 9 31) ?_
           refine aF 5 (.int .i64 (i487 : Int)) rfl rfl (hM500 5 rfl) (rfl) (fun _ => by exact r_mv (v := .int .i64 (i487 : Int)) (sx hS_ 4 rfl)) (dbits 9 63) ?_
           obtain ⟨⟨h0_504, h1_505⟩, h⟩ := h
           obtain ⟨Ad506, c507, hv508⟩ := own_formE (hC.getM 0 rfl) (Nat.lt_of_le_of_lt (Nat.zero_le _) (show i487 < r427.length by omega))
           refine aL 6 (.pointer (some ⟨Ad506, i487 * 8, none⟩)) rfl rfl (hM499 6 rfl) (rfl) (fun _ hB_ => by exact r_iaddrO (i487 * 8) Try.underlying59 ag49.size (by exact tr rfl hv508) rfl h0_504 h1_505 rfl) (dbits 9 127) ?_
           refine aL 7 (.agg (List.toArray (A8.enc .u8 (r427.getD i487 default)))) rfl rfl (hM499 7 rfl) (rfl) (fun _ hB_ => by exact r_loadCA (A8.enc .u8 (r427.getD i487 default)) (own_cellsE ((hC.grow hB_).getM 0 rfl) hv508 i487 (show i487 < r427.length by omega)) ag49 rfl rfl) (dbits 9 255) ?_
           refine ae_tail 8 (by decide) (by decide) (by kernel_rfl) (by kernel_rfl) rfl ?_
           refine s_neqA kt49 eg49 rfl rfl ?_
           refine done ?_
           refine qn_norm ?_
           refine then_norm ?_
           refine cw_cond rfl (fun hb509 => ?_) (fun hb509 => ?_)
           ·replace h := ift h (ct hb509)
            refine sr ?_
            refine s_as (v := .bool false) rfl ?_
            refine dn ?_
            refine wp_ret (blk_ret (then_ret (then_ret (blk_ret (then_ret ?_)))))
            refine ret1 (fn := Try.f7) rfl ?_ ⟨false, rfl, h, hC.below⟩ (.inl rfl)
            exact res_tmp rfl
           ·replace h := iff_ h (cf hb509)
            refine wp_skip ?_
            refine blk_norm ?_
            refine then_norm ?_
            refine cw_region ?_
            refine s_mv (v := .int .i64 (i487 : Int)) (sx hS_ 4 rfl) ?_
            refine s_add rfl rfl ?_
            refine s_as (v := .int .i64 (IntKind.i64.wrap ((i487 : Int) + 1))) rfl ?_
            refine done ?_
            exact hK492 () _ _ ⟨(sk (sx hS_ 0 rfl) (sk (sx hS_ 1 rfl) (sk (sx hS_ 2 rfl) (sk (sx hS_ 3 rfl) (sk (tr rfl (congrArg _ (wrap64_nat hi493 hN489))) sn))))), hC⟩ h
          ·clear hC h
           rintro s488 e_ w510 K491 ⟨hS_, hC⟩ h
           refine wp_seq ?_
           refine sr ?_
           refine s_mv (v := .int .i64 (r413.length : Int)) (sx hS_ 4 rfl) ?_
           refine s_mv (v := u414) (sx hS_ 2 rfl) ?_
           obtain ⟨Ad511, c512, hv513⟩ := own_form (hC.getM 1 rfl)
           refine s_len Try.underlying59 (tr rfl hv513) ?_
           refine s_lss rfl rfl ?_
           refine dn ?_
           refine cw_false rfl (decide_eq_false (by omega)) ?_
           refine wp_exit (then_exit (then_exit (exit_in ?_)))
           refine then_norm ?_
           refine sr ?_
           refine s_mv (v := u0_0) (sx hS_ 0 rfl) ?_
           refine s_call [u0_0] _ Try.func36 rfl rfl rfl (c_spec_DrawInverseNumber a0 h _ (hC.getP 0 rfl)) (fun ret514 w516 hR515 => ?_)
           obtain ⟨r517, rfl, h, hB518⟩ := hR515
           refine ⟨_, rfl, ?_⟩
           replace hC := hC.grow hB518
           refine s_as (v := .int .i64 r517) rfl ?_
           refine dn ?_
           refine sr ?_
           refine s_mv (v := .int .i64 r517) rfl ?_
           refine s_call [.int .i64 r517] _ Try.func37 rfl rfl rfl (c_impl_InverseNumber r517 h _) (fun ret519 w521 hR520 => ?_)
           obtain ⟨r522, r523, rfl, h, hB524⟩ := hR520
           refine ⟨_, rfl, ?_⟩
           replace hC := hC.grow hB524
           refine s_mv (v := .tuple #[.int .i64 r522, .int .i64 r523]) rfl ?_
           refine s_ext (v := .int .i64 r522) rfl rfl ?_
           refine s_ext (v := .int .i64 r523) rfl rfl ?_
           refine s_as (v := .int .i64 r522) rfl ?_
           refine s_as (v := .int .i64 r523) rfl ?_
           refine dn ?_
           refine sr ?_
           refine s_mv (v := .int .i64 r517) rfl ?_
           refine s_call [.int .i64 r517] _ Try.func38 rfl rfl rfl (c_spec_InverseNumber r517 h _) (fun ret525 w527 hR526 => ?_)
           obtain ⟨r528, r529, rfl, h, hB530⟩ := hR526
           refine ⟨_, rfl, ?_⟩
           replace hC := hC.grow hB530
           refine s_mv (v := .tuple #[.int .i64 r528, .int .i64 r529]) rfl ?_
           refine s_ext (v := .int .i64 r528) rfl rfl ?_
           refine s_ext (v := .int .i64 r529) rfl rfl ?_
           refine s_as (v := .int .i64 r528) rfl ?_
           refine s_as (v := .int .i64 r529) rfl ?_
           refine dn ?_
           refine wp_seq ?_
           refine sr ?_
           refine s_mv (v := .int .i64 r523) rfl ?_
           refine s_mv (v := .int .i64 r529) rfl ?_
           refine s_neq rfl rfl ?_
           refine s_mv (v := .bool (decide (r523 ≠ r529))) rfl ?_
           refine bsplit (decide (r523 ≠ r529)) (fun hb531 => ?_) (fun hb531 => ?_)
           ·replace h := ift h (ct hb531)
            refine guardOff (b := true) 3 219 rfl (tr rfl (congrArg _ hb531)) (by decide) ?_
            refine guardOff (b := true) 3 219 rfl (tr rfl (congrArg _ hb531)) (by decide) ?_
            refine guardOff (b := true) 3 219 rfl (tr rfl (congrArg _ hb531)) (by decide) ?_
            refine s_pick (v := .bool true) (b := true) (tr rfl (congrArg _ hb531)) rfl ?_
            refine dn ?_
            refine cw_true rfl rfl ?_
            refine sr ?_
            refine s_as (v := .bool false) rfl ?_
            refine dn ?_
            refine wp_ret (then_ret ?_)
            refine ret1 (fn := Try.f7) rfl ?_ ⟨false, rfl, h, hC.below⟩ (.inl rfl)
            exact res_tmp rfl
           ·replace h := iff_ h (cf hb531)
            refine guardOn 3 219 rfl rfl hb531 ?_
            refine s_mv (v := .int .i64 r522) rfl ?_
            refine guardOn 3 219 rfl rfl hb531 ?_
            refine s_mv (v := .int .i64 r528) rfl ?_
            refine guardOn 3 219 rfl rfl hb531 ?_
            refine s_neq rfl rfl ?_
            refine s_pick (v := .bool (decide (r522 ≠ r528))) (b := false) (tr rfl (congrArg _ hb531)) rfl ?_
            refine dn ?_
            refine cw_cond rfl (fun hb532 => ?_) (fun hb532 => ?_)
            ·replace h := ift h (ct hb532)
             refine sr ?_
             refine s_as (v := .bool false) rfl ?_
             refine dn ?_
             refine wp_ret (then_ret ?_)
             refine ret1 (fn := Try.f7) rfl ?_ ⟨false, rfl, h, hC.below⟩ (.inl rfl)
             exact res_tmp rfl
            ·replace h := iff_ h (cf hb532)
             refine wp_skip ?_
             refine then_norm ?_
             refine sr ?_
             refine s_mv (v := .int .i64 r523) rfl ?_
             refine s_neq rfl rfl ?_
             refine s_mv (v := .bool (decide (r523 ≠ 0))) rfl ?_
             refine bsplit (decide (r523 ≠ 0)) (fun hb533 => ?_) (fun hb533 => ?_)
             ·replace h := ift h (ct hb533)
              refine guardOff (b := true) 2 226 rfl (tr rfl (congrArg _ hb533)) (by decide) ?_
              refine guardOff (b := true) 2 226 rfl (tr rfl (congrArg _ hb533)) (by decide) ?_
              refine guardOff (b := true) 2 226 rfl (tr rfl (congrArg _ hb533)) (by decide) ?_
              refine guardOff (b := true) 2 226 rfl (tr rfl (congrArg _ hb533)) (by decide) ?_
              refine guardOff (b := true) 2 226 rfl (tr rfl (congrArg _ hb533)) (by decide) ?_
              refine s_pick (v := .bool true) (b := true) (tr rfl (congrArg _ hb533)) rfl ?_
              refine s_as (v := .bool true) rfl ?_
              refine dn ?_
              refine wp_ret ?_
              refine ret1 (fn := Try.f7) rfl ?_ ⟨true, rfl, h, hC.below⟩ (.inl rfl)
              exact res_tmp rfl
             ·replace h := iff_ h (cf hb533)
              refine guardOn 2 226 rfl rfl hb533 ?_
              refine s_mv (v := .int .i64 r517) rfl ?_
              refine guardOn 2 226 rfl rfl hb533 ?_
              refine s_mv (v := .int .i64 r522) rfl ?_
              refine guardOn 2 226 rfl rfl hb533 ?_
              refine s_mul rfl rfl ?_
              refine guardOn 2 226 rfl rfl hb533 ?_
              refine s_rem rfl rfl (by decide) ?_
              refine guardOn 2 226 rfl rfl hb533 ?_
              refine s_eql rfl rfl ?_
              refine s_pick (v := .bool (decide (Int.tmod (IntKind.i64.wrap (r517 * r522)) 10007 = 1))) (b := false) (tr rfl (congrArg _ hb533)) rfl ?_
              refine s_as (v := .bool (decide (Int.tmod (IntKind.i64.wrap (r517 * r522)) 10007 = 1))) rfl ?_
              refine dn ?_
              refine wp_ret ?_
              refine ret1 (fn := Try.f7) rfl ?_ ⟨decide (Int.tmod (IntKind.i64.wrap (r517 * r522)) 10007 = 1), rfl, h, hC.below⟩ (.inl rfl)
              exact res_tmp rfl
          ·skip
           replace hC := hC.sM [0, 1] (M' := [own 49 8 u428 r427.length ((EA .u8).encs r427), own 49 8 u414 r413.length ((EA .u8).encs r413)]) (by decide) rfl
           exact ⟨(sk rfl (sk rfl (sk rfl (sk rfl (sk rfl sn))))), hC⟩
end Go.Proofs.Ytaagfepgbofmlaa
