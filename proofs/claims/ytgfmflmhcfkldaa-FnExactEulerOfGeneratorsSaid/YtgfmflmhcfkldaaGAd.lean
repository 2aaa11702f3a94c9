/- Printed by vcgen.py: functions of the program as predicates, and that the machine's calls meet them. -/
import Derived.Test.YtgfmflmhcfkldaaGAc
set_option linter.unusedVariables false
set_option linter.unusedSimpArgs false
set_option maxRecDepth 4000
set_option maxHeartbeats 4000000
namespace Go.Proofs.Ytgfmflmhcfkldaa
open Go Go.RowKit Vc
def f_impl_sum_form (a0 : List (A8 × Int)) (K : Vc.Form → Int → Prop) : Prop :=
  (if (a0.length : Int) > 400 then K (⟨[]⟩ : Vc.Form) 3 else f_impl_sum_powers a0 (fun r14 => forN (fun i168 (s169 : (List Term)) next173 => forN (fun i221 (s222 : A8) next223 => (if (r14.getD i168 default).get i221 > 20 then K (⟨[]⟩ : Vc.Form) 3 else next223 (s222.set i221 (IntKind.u8.wrap ((r14.getD i168 default).get i221))))) (fun (s222 : A8) => (Room (s169.length + 1) 16 ∧ next173 (s169 ++ [(⟨s222, (mget a0 (r14.getD i168 default)).getD 0⟩ : Term)]))) 8 0 A8.zero) (fun (s169 : (List Term)) => K (⟨s169⟩ : Vc.Form) 0) r14.length 0 []))
theorem c_impl_sum_form (a0 : List (A8 × Int)) {b0 : Nat} {K : Vc.Form → Int → Prop} (h : f_impl_sum_form a0 K) (w0 : World) (q0 : (mapI (kvA .i64) (vvI .i64) b0 a0).holds w0) :
    Calls Try.prog 73 #[.map (some b0)] w0 fun e w' => ∃ (r0 : Vc.Form) (z0_0 : Value) (fz0 : List Nat) (r1 : Int), 
      e = .returned (.tuple #[.agg #[z0_0], .int .i64 r1]) ∧ K r0 r1 ∧ (Tr.item (TrForm 86) r0 [z0_0] fz0).holds w' ∧ (∀ b, b ∈ fz0 → w0.heap.size ≤ b) ∧ Bel w0 w' := by
  unfold f_impl_sum_form at h
  refine calls_of (args := [.map (some b0)]) Try.func73 rfl 48 Try.ntmps73 (Nat.le_of_ble_eq_true rfl) ?_
  have hC := Ctx.start (X := Nox) w0 [mapI (kvA .i64) (vvI .i64) b0 a0] (by simp only [List.mem_cons, List.not_mem_nil, or_false, forall_eq_or_imp, forall_eq]; exact q0)
  refine wp_seq ?_
  refine cw_region ?_
  refine s_alloc hC [.slice none 0 0] z46 rfl fun b2 w4 hB_ hC => ?_
  refine s_as (v := .int .i64 0) rfl ?_
  refine done ?_
  refine then_norm ?_
  refine wp_seq ?_
  refine wp_seq ?_
  refine cw_region ?_
  refine s_mv (v := .map (some b0)) rfl ?_
  refine s_maplen (hC.getP 0 rfl) Try.underlying104 rfl rfl ?_
  refine s_gtr rfl rfl ?_
  refine done ?_
  refine then_norm ?_
  refine cw_cond rfl (fun hb5 => ?_) (fun hb5 => ?_)
  · replace h := ift h (ct hb5)
    refine wp_seq ?_
    refine cw_region ?_
    refine s_build [] rfl (bl46   _) ?_
    refine s_store (v := .agg #[.slice none 0 0]) hC 0 [.slice none 0 0] [.slice none 0 0] rfl ag46.size rfl rfl rfl rfl rfl (Nat.le_of_ble_eq_true rfl) rfl fun w6 hC => ?_
    refine s_as (v := .int .i64 3) rfl ?_
    refine done ?_
    refine then_norm ?_
    refine wp_ret (then_ret ?_)
    refine ret2 (fn := Try.f73) rfl ?_ ?_ ⟨(⟨[]⟩ : Vc.Form), .slice none 0 0, [], 3, rfl, h, (form_join (nil_item _ _ _)), (fun b hb => absurd hb (by simp)), hC.below⟩ (.inl rfl)
    · exact res_cellA hC 0 rfl ag46 rfl rfl
    · exact res_tmp rfl
  · replace h := iff_ h (cf hb5)
    refine wp_skip ?_
    refine then_norm ?_
    refine wp_seq ?_
    refine cw_region ?_
    refine s_build [] rfl (bl46   _) ?_
    refine s_alloc hC [.slice none 0 0] z46 rfl fun b7 w9 hB_ hC => ?_
    refine s_store (v := .agg #[.slice none 0 0]) hC 0 [.slice none 0 0] [.slice none 0 0] rfl ag46.size rfl rfl rfl rfl rfl (Nat.le_of_ble_eq_true rfl) rfl fun w10 hC => ?_
    refine done ?_
    refine then_norm ?_
    refine wp_seq ?_
    refine wp_seq ?_
    refine cw_region ?_
    refine s_mv (v := .map (some b0)) rfl ?_
    refine s_call [.map (some b0)] _ Try.func110 rfl rfl rfl (c_impl_sum_powers a0 h _ (hC.getP 0 rfl)) (fun ret11 w13 hR12 => ?_)
    obtain ⟨r14, u15, f16, rfl, h, hr17, hf18, hB19⟩ := hR12
    refine ⟨_, rfl, ?_⟩
    replace hC := hC.push hB19 (Tr.item (Tr.sl 94 ((EA .i64).tr)) r14 [u15] f16) hr17 hf18
    obtain ⟨ho21, hf22⟩ := flat_tr (hC.getM 0 rfl).1
    subst hf22
    replace hC := hC.recast (c := own 94 8 u15 r14.length ((EA .i64).encs r14)) (fun _ h_ => h_) (fun _ => ho21)
    obtain ⟨Ad24, c25, hv26⟩ := own_form (hC.getM 0 rfl)
    refine s_len Try.underlying140 (tr rfl hv26) ?_
    refine s_mv (v := .int .i64 0) rfl ?_
    refine done ?_
    refine then_norm ?_
    refine wp_block ?_
    have hN172 : r14.length ≤ 9223372036854775807 := own_max (hC.getM 0 rfl)
    refine loopN (S := (List Term)) _ _ (fun i168 s169 e_ w_ => ∃ (v170 : Value), e_ 0 = .map (some b0) ∧ e_ 2 = .pointer (some ⟨b2, 0, none⟩) ∧ e_ 3 = .int .i64 0 ∧ e_ 4 = .pointer (some ⟨b7, 0, none⟩) ∧ e_ 16 = u15 ∧ e_ 17 = .int .i64 (r14.length : Int) ∧ e_ 18 = .int .i64 (i168 : Int) ∧ Ctx Nox w0 w_ [own 86 9 v170 s169.length (ETerm.encs s169), own 94 8 u15 r14.length ((EA .i64).encs r14), blk b7 46 [v170], blk b2 46 [.slice none 0 0]] [mapI (kvA .i64) (vvI .i64) b0 a0]) r14.length ?_ ?_ (s0 := []) ?_ h
    · clear hC h
      rintro i168 s169 e_ w177 next173 K174 hi176 ⟨v170, h0_, h2_, h3_, h4_, h16_, h17_, h18_, hC⟩ h hK175
      refine wp_seq ?_
      refine cw_region ?_
      refine s_lss h18_ h17_ ?_
      refine done ?_
      refine then_norm ?_
      refine wp_seq ?_
      refine cw_true rfl (decide_eq_true (by omega)) ?_
      refine wp_skip ?_
      refine then_norm ?_
      refine wp_seq ?_
      refine wp_block ?_
      refine wp_seq ?_
      refine cw_region ?_
      obtain ⟨Ad178, c179, hv180⟩ := own_formE (hC.getM 1 rfl) (Nat.lt_of_le_of_lt (Nat.zero_le _) hi176)
      refine s_iaddrO (i168 * 8) Try.underlying140 ag94.size (tr h16_ hv180) h18_ (Int.natCast_nonneg _) (Int.ofNat_lt.2 hi176) rfl ?_
      refine s_loadCA (A8.enc .i64 (r14.getD i168 default)) (own_cellsE (hC.getM 1 rfl) hv180 i168 hi176) ag94 rfl rfl ?_
      refine s_alloc hC (A8.enc .i64 A8.zero) z94 rfl fun b181 w183 hB_ hC => ?_
      refine s_store (v := .agg (List.toArray (A8.enc .i64 (r14.getD i168 default)))) hC 0 (A8.enc .i64 (r14.getD i168 default)) (A8.enc .i64 (r14.getD i168 default)) rfl ag94.size rfl rfl rfl rfl rfl (Nat.le_of_ble_eq_true rfl) rfl fun w184 hC => ?_
      refine done ?_
      refine then_norm ?_
      refine wp_seq ?_
      refine cw_region ?_
      refine s_build [] rfl (bl84   _) ?_
      refine s_alloc hC (A8.enc .u8 A8.zero) z84 rfl fun b185 w187 hB_ hC => ?_
      refine s_store (v := .agg (List.toArray (A8.enc .u8 A8.zero))) hC 0 (A8.enc .u8 A8.zero) (A8.enc .u8 A8.zero) rfl ag84.size rfl rfl rfl rfl rfl (Nat.le_of_ble_eq_true rfl) rfl fun w188 hC => ?_
      refine done ?_
      refine then_norm ?_
      refine wp_seq ?_
      refine wp_seq ?_
      refine cw_region ?_
      refine s_loadA hC 1 (A8.enc .i64 (r14.getD i168 default)) rfl ag94 rfl rfl rfl ?_
      refine s_mv (v := .int .i64 0) rfl ?_
      refine done ?_
      refine then_norm ?_
      refine wp_block ?_
      refine loopN (S := A8) _ _ (fun i221 s222 e_ w_ => e_ 0 = .map (some b0) ∧ e_ 2 = .pointer (some ⟨b2, 0, none⟩) ∧ e_ 3 = .int .i64 0 ∧ e_ 4 = .pointer (some ⟨b7, 0, none⟩) ∧ e_ 6 = .pointer (some ⟨b181, 0, none⟩) ∧ e_ 7 = .pointer (some ⟨b185, 0, none⟩) ∧ e_ 16 = u15 ∧ e_ 17 = .int .i64 (r14.length : Int) ∧ e_ 18 = .int .i64 (i168 : Int) ∧ e_ 19 = .bool (decide ((i168 : Int) < (r14.length : Int))) ∧ e_ 20 = .pointer (some ⟨Ad178, i168 * 8, none⟩) ∧ e_ 21 = .agg (List.toArray (A8.enc .i64 (r14.getD i168 default))) ∧ e_ 22 = .agg (List.toArray (A8.enc .u8 A8.zero)) ∧ e_ 23 = .agg (List.toArray (A8.enc .i64 (r14.getD i168 default))) ∧ e_ 24 = .int .i64 (i221 : Int) ∧ Ctx Nox w0 w_ [blk b185 84 (A8.enc .u8 s222), blk b181 94 (A8.enc .i64 (r14.getD i168 default)), own 86 9 v170 s169.length (ETerm.encs s169), own 94 8 u15 r14.length ((EA .i64).encs r14), blk b7 46 [v170], blk b2 46 [.slice none 0 0]] [mapI (kvA .i64) (vvI .i64) b0 a0]) 8 ?_ ?_ (s0 := A8.zero) ?_ h
      · clear hC h
        rintro i221 s222 e_ w227 next223 K224 hi226 ⟨h0_, h2_, h3_, h4_, h6_, h7_, h16_, h17_, h18_, h19_, h20_, h21_, h22_, h23_, h24_, hC⟩ h hK225
        refine wp_seq ?_
        refine cw_region ?_
        refine s_lss h24_ rfl ?_
        refine done ?_
        refine then_norm ?_
        refine wp_seq ?_
        refine cw_true rfl (decide_eq_true (by omega)) ?_
        refine wp_skip ?_
        refine then_norm ?_
        refine wp_seq ?_
        refine wp_block ?_
        refine wp_seq ?_
        refine cw_region ?_
        refine s_mv (v := .int .i64 (i221 : Int)) h24_ ?_
        refine s_index (.int .i64 ((r14.getD i168 default).get i221)) Try.underlying94 h23_ h24_ (Int.natCast_nonneg _) (by omega) sc3 (A8.enc_get _ _ hi226) ?_
        refine s_as (v := .int .i64 (i221 : Int)) rfl ?_
        refine s_as (v := .int .i64 ((r14.getD i168 default).get i221)) rfl ?_
        refine done ?_
        refine then_norm ?_
        refine wp_seq ?_
        refine wp_seq ?_
        refine cw_region ?_
        refine s_mv (v := .int .i64 ((r14.getD i168 default).get i221)) rfl ?_
        refine s_gtr rfl rfl ?_
        refine done ?_
        refine then_norm ?_
        refine cw_cond rfl (fun hb228 => ?_) (fun hb228 => ?_)
        · replace h := ift h (ct hb228)
          refine wp_seq ?_
          refine cw_region ?_
          refine s_build [] rfl (bl46   _) ?_
          refine s_store (v := .agg #[.slice none 0 0]) hC 5 [.slice none 0 0] [.slice none 0 0] rfl ag46.size h2_ rfl rfl rfl rfl (Nat.le_of_ble_eq_true rfl) rfl fun w229 hC => ?_
          refine s_as (v := .int .i64 3) rfl ?_
          refine done ?_
          refine then_norm ?_
          refine wp_ret (then_ret (blk_ret (then_ret (then_ret (blk_ret (then_ret (blk_ret (then_ret (then_ret (blk_ret (then_ret ?_)))))))))))
          refine ret2 (fn := Try.f73) rfl ?_ ?_ ⟨(⟨[]⟩ : Vc.Form), .slice none 0 0, [], 3, rfl, h, (form_join (nil_item _ _ _)), (fun b hb => absurd hb (by simp)), hC.below⟩ (.inl rfl)
          · exact res_cellA hC 5 rfl ag46 h2_ rfl
          · exact res_tmp rfl
        · replace h := iff_ h (cf hb228)
          refine wp_skip ?_
          refine then_norm ?_
          refine cw_region ?_
          refine s_mv (v := .int .i64 (i221 : Int)) rfl ?_
          refine s_mv (v := .int .i64 ((r14.getD i168 default).get i221)) rfl ?_
          refine s_conv Try.underlying3 Try.underlying5 rfl ?_
          refine s_iaddrB i221 Try.underlying84 sc5.size h7_ rfl (Int.natCast_nonneg _) (by omega) (by omega) ?_
          refine s_store (v := .int .u8 (IntKind.u8.wrap ((r14.getD i168 default).get i221))) hC 0 [.int .u8 (IntKind.u8.wrap ((r14.getD i168 default).get i221))] (A8.enc .u8 (s222.set i221 (IntKind.u8.wrap ((r14.getD i168 default).get i221)))) rfl sc5.size rfl rfl rfl rfl rfl hi226 (A8.enc_set _ _ _ hi226) fun w230 hC => ?_
          refine done ?_
          refine blk_norm ?_
          refine then_norm ?_
          refine cw_region ?_
          refine s_add h24_ rfl ?_
          refine s_mv (v := .int .i64 (IntKind.i64.wrap ((i221 : Int) + 1))) rfl ?_
          refine done ?_
          exact hK225 (s222.set i221 (IntKind.u8.wrap ((r14.getD i168 default).get i221))) _ _ ⟨h0_, h2_, h3_, h4_, h6_, h7_, h16_, h17_, h18_, h19_, h20_, h21_, h22_, h23_, (tr rfl (congrArg _ (wrap64_nat hi226 (by decide)))), hC⟩ h
      · clear hC h
        rintro s222 e_ w231 K224 ⟨h0_, h2_, h3_, h4_, h6_, h7_, h16_, h17_, h18_, h19_, h20_, h21_, h22_, h23_, h24_, hC⟩ h
        refine wp_seq ?_
        refine cw_region ?_
        refine s_lss h24_ rfl ?_
        refine done ?_
        refine then_norm ?_
        refine wp_seq ?_
        refine cw_false rfl (decide_eq_false (by omega)) ?_
        refine wp_exit (then_exit (then_exit (exit_in ?_)))
        refine then_norm ?_
        refine cw_draw 8 mixed [0, 1, 0, 0, 0, 24, 60, 124, 255, 511, 1023] [1, 2, 4, 5, 6] [0, 3] (by kernel_rfl) (by kernel_rfl) (by kernel_rfl) (fun hM233 hM234 w232 hB_ => ?_)
        replace hC := hC.grow hB_
        refine ae_lookF belPre 0 (.pointer (some ⟨b7, 0, none⟩)) rfl rfl (by kernel_rfl) (hM234 0 rfl) (fun w_ => .inl ⟨rfl, by exact r_faddrB 0 Try.underlying46 rfl sc44.size h4_ rfl⟩) (listed' := (List.toArray [true, false, false, false, false, false, false, false, false, false, false])) rfl ?_
        refine ae_look belPre 1 (v170) rfl rfl (by kernel_rfl) (hM233 1 rfl) (fun w_ hB_ => .inl ⟨rfl, by exact r_loadS (hC.grow hB_) 4 (v170) rfl sc44 rfl rfl⟩) (listed' := (List.toArray [true, true, false, false, false, false, false, false, false, false, false])) rfl ?_
        refine ae_look belPre 2 (.agg (List.toArray (A8.enc .u8 s222))) rfl rfl (by kernel_rfl) (hM233 2 rfl) (fun w_ hB_ => .inl ⟨rfl, by exact r_loadA (hC.grow hB_) 0 (A8.enc .u8 s222) rfl ag84 h7_ rfl rfl⟩) (listed' := (List.toArray [true, true, true, false, false, false, false, false, false, false, false])) rfl ?_
        refine ae_lookF belPre 3 (.map (some b0)) rfl rfl (by kernel_rfl) (hM234 3 rfl) (fun w_ => .inl ⟨rfl, by exact r_mv (v := .map (some b0)) h0_⟩) (listed' := (List.toArray [true, true, true, true, false, false, false, false, false, false, false])) rfl ?_
        refine ae_look belPre 4 (.agg (List.toArray (A8.enc .i64 (r14.getD i168 default)))) rfl rfl (by kernel_rfl) (hM233 4 rfl) (fun w_ hB_ => .inl ⟨rfl, by exact r_loadA (hC.grow hB_) 1 (A8.enc .i64 (r14.getD i168 default)) rfl ag94 h6_ rfl rfl⟩) (listed' := (List.toArray [true, true, true, true, true, false, false, false, false, false, false])) rfl ?_
        refine ae_look belPre 5 (.int .i64 ((mget a0 (r14.getD i168 default)).getD 0)) rfl rfl (by kernel_rfl) (hM233 5 rfl) (fun w_ hB_ => .inl ⟨rfl, by exact r_lookup (r14.getD i168 default) 0 ((hC.grow hB_).getP 0 rfl) kt94 Try.underlying104 z2 rfl rfl⟩) (listed' := (List.toArray [true, true, true, true, true, true, false, false, false, false, false])) rfl ?_
        refine ae_look belPre 6 (.agg (List.toArray (Term.enc (⟨s222, (mget a0 (r14.getD i168 default)).getD 0⟩ : Term)))) rfl rfl (by kernel_rfl) (hM233 6 rfl) (fun w_ hB_ => .inl ⟨rfl, by exact r_build [(0, .agg (List.toArray (A8.enc .u8 s222))), (1, .int .i64 ((mget a0 (r14.getD i168 default)).getD 0))] rfl (bl86_0flat_1int s222 ((mget a0 (r14.getD i168 default)).getD 0)  _)⟩) (listed' := (List.toArray [true, true, true, true, true, true, true, false, false, false, false])) rfl ?_
        refine ae_one 7 rfl (by kernel_rfl) ?_
        refine s_bslice (sz := 9) hC [(0, .agg (List.toArray (Term.enc (⟨s222, (mget a0 (r14.getD i168 default)).getD 0⟩ : Term))))] (ETerm.encs [(⟨s222, (mget a0 (r14.getD i168 default)).getD 0⟩ : Term)]) rfl (fun _ => bs44_1 (⟨s222, (mget a0 (r14.getD i168 default)).getD 0⟩ : Term) _) rfl (by decide) fun b235 w236 hB_ hC => ?_
        refine done ?_
        refine ak_intro (by assumption) (listed' := (List.toArray [true, true, true, true, true, true, true, true, false, false, false])) rfl ?_
        refine ae_tail 8 (by decide) (by decide) (by kernel_rfl) rfl rfl ?_
        obtain ⟨hm240, h⟩ := h
        refine s_app hC 3 Try.underlying44 el86 rfl (by decide) (by decide) rfl (own_rdr (hC.getM 0 rfl)) (fun q hq => Enc.encs_one' (E := ETerm) _ q hq) rfl rfl hm240 fun v238 w239 hC => ?_
        replace hC := own_re hC 3 ((s169 ++ [(⟨s222, (mget a0 (r14.getD i168 default)).getD 0⟩ : Term)]).length) (ETerm.encs (s169 ++ [(⟨s222, (mget a0 (r14.getD i168 default)).getD 0⟩ : Term)])) rfl (by simp) (by first | (simp [Enc.encs_append]; done) | simp [Enc.encs_append, Enc.encs])
        refine s_faddrB 0 Try.underlying46 rfl sc44.size h4_ rfl ?_
        refine s_store (v := v238) hC 5 [v238] [v238] rfl sc44.size rfl rfl (own_cellsV (hC.getM 3 rfl)) rfl (all_c (own_oneC (hC.getM 3 rfl)) rfl) (Nat.le_of_ble_eq_true rfl) rfl fun w241 hC => ?_
        refine done ?_
        refine qn_norm ?_
        refine blk_norm ?_
        refine then_norm ?_
        refine cw_region ?_
        refine s_add h18_ rfl ?_
        refine s_mv (v := .int .i64 (IntKind.i64.wrap ((i168 : Int) + 1))) rfl ?_
        refine done ?_
        replace hC := hC.sel [3, 4, 5, 6] [0] (M' := [own 86 9 v238 ((s169 ++ [(⟨s222, (mget a0 (r14.getD i168 default)).getD 0⟩ : Term)]).length) (ETerm.encs (s169 ++ [(⟨s222, (mget a0 (r14.getD i168 default)).getD 0⟩ : Term)])), own 94 8 u15 r14.length ((EA .i64).encs r14), blk b7 46 [v238], blk b2 46 [.slice none 0 0]]) (Ps' := [mapI (kvA .i64) (vvI .i64) b0 a0]) (by decide) rfl rfl
        exact hK175 (s169 ++ [(⟨s222, (mget a0 (r14.getD i168 default)).getD 0⟩ : Term)]) _ _ ⟨v238, h0_, h2_, h3_, h4_, h16_, h17_, (tr rfl (congrArg _ (wrap64_nat hi176 hN172))), hC⟩ h
      · skip
        exact ⟨h0_, h2_, h3_, h4_, rfl, rfl, h16_, h17_, h18_, rfl, rfl, rfl, rfl, rfl, rfl, hC⟩
    · clear hC h
      rintro s169 e_ w242 K174 ⟨v170, h0_, h2_, h3_, h4_, h16_, h17_, h18_, hC⟩ h
      refine wp_seq ?_
      refine cw_region ?_
      refine s_lss h18_ h17_ ?_
      refine done ?_
      refine then_norm ?_
      refine wp_seq ?_
      refine cw_false rfl (decide_eq_false (by omega)) ?_
      refine wp_exit (then_exit (then_exit (exit_in ?_)))
      refine then_norm ?_
      refine wp_seq ?_
      refine cw_region ?_
      refine s_loadA hC 2 [v170] rfl ag46 h4_ rfl rfl ?_
      refine s_store (v := .agg #[v170]) hC 3 [v170] [v170] rfl ag46.size h2_ rfl rfl rfl (all_c (own_oneC (hC.getM 0 rfl)) rfl) (Nat.le_of_ble_eq_true rfl) rfl fun w243 hC => ?_
      refine s_as (v := .int .i64 0) rfl ?_
      refine done ?_
      refine then_norm ?_
      refine wp_ret ?_
      refine ret2 (fn := Try.f73) rfl ?_ ?_ ⟨(⟨s169⟩ : Vc.Form), v170, (Option.toList (Value.ownBlock v170)), 0, rfl, h, (form_join (own_item (hC.getM 0 rfl))), (own_fresh hC 0 rfl), hC.below⟩ (.inl rfl)
      · exact res_cellA hC 3 rfl ag46 h2_ rfl
      · exact res_tmp rfl
    · skip
      replace hC := hC.pushNil 86 9
      exact ⟨.slice none 0 0, rfl, rfl, rfl, rfl, rfl, rfl, rfl, hC⟩
def f_impl_sum_addAll (a0 : List (A8 × Int)) (a1 : List (A8 × Int)) (a2 : Int) (K : List (A8 × Int) → Prop) : Prop :=
  mapP (fun (q11 : A8 × Int) (s48 : (List (A8 × Int))) next49 => f_impl_sum_add s48 q11.1 (Int.tmod (IntKind.i64.wrap (q11.2 * a2)) 10007) (fun m66 => next49 m66)) (fun (s48 : (List (A8 × Int))) => K s48) a1.length a1 a0
theorem c_impl_sum_addAll (a0 : List (A8 × Int)) (a1 : List (A8 × Int)) (a2 : Int) {b0 : Nat} {b1 : Nat} {K : List (A8 × Int) → Prop} (h : f_impl_sum_addAll a0 a1 a2 K) (w0 : World) (q0 : (mapI (kvA .i64) (vvI .i64) b0 a0).holds w0) (d1 : ∀ c, c ∈ [b1] → c ≠ b0) (q1 : (mapI (kvA .i64) (vvI .i64) b1 a1).holds w0) :
    Calls Try.prog 108 #[.map (some b0), .map (some b1), .int .i64 a2] w0 fun e w' => ∃ (m0 : List (A8 × Int)), 
      e = .returned (.tuple #[]) ∧ K m0 ∧ (mapI (kvA .i64) (vvI .i64) b0 m0).holds w' ∧ BelB b0 w0 w' := by
  unfold f_impl_sum_addAll at h
  refine calls_of (args := [.map (some b0), .map (some b1), .int .i64 a2]) Try.func108 rfl 22 Try.ntmps108 (Nat.le_of_ble_eq_true rfl) ?_
  have hC := Ctx.start1 w0 b0 (it := mapI (kvA .i64) (vvI .i64) b0 a0) rfl [mapI (kvA .i64) (vvI .i64) b1 a1] q0 (by simp only [List.mem_cons, List.not_mem_nil, or_false, forall_eq_or_imp, forall_eq]; exact q1) (by simp only [List.mem_cons, List.not_mem_nil, or_false, forall_eq_or_imp, forall_eq]; exact d1)
  refine wp_seq ?_
  refine cw_region ?_
  refine s_mv (v := .map (some b1)) rfl ?_
  refine s_range hC 0 rfl Try.underlying104 rfl fun r3 es4 ck5 w10 hB_ hn6 hbn7 hC => ?_
  refine done ?_
  refine then_norm ?_
  refine wp_block ?_
  refine loopM (S := (List (A8 × Int))) _ _ (fun l13 s48 e_ w_ => ∃ (la15 : Option MapEntry), e_ 0 = .map (some b0) ∧ e_ 2 = .int .i64 a2 ∧ e_ 9 = .pointer (some ⟨r3, 0, none⟩) ∧ Ctx (fun c_ => c_ = b0) w0 w_ [itI (kvA .i64) (vvI .i64) r3 b1 es4 ck5 la15 l13, mapI (kvA .i64) (vvI .i64) b0 s48] [mapE b1 es4 ck5, mapI (kvA .i64) (vvI .i64) b1 a1]) ?_ (l0 := a1) (s0 := a0) ?_ h
  · clear hC h
    rintro l13 s48 e_ w52 next49 K50 ⟨la15, h0_, h2_, h9_, hC⟩ h hK51
    refine wp_seq ?_
    refine cw_region ?_
    refine s_next hC 0 0 rfl rfl hn6 hbn7 h9_ (fun hr53 => ?_) (fun q11 l12 ent54 w57 hp14 hk55 hv56 hC => ?_)
    · replace h := h.1 hr53
      refine s_ext (v := .bool false) rfl rfl ?_
      refine done ?_
      refine then_norm ?_
      refine wp_seq ?_
      refine cw_false rfl rfl ?_
      refine wp_exit (then_exit (then_exit (exit_in ?_)))
      refine ret0 (fn := Try.f108) rfl  ⟨s48, rfl, h, (hC.getM 1 rfl), hC.belB⟩ (.inr rfl)
    · replace h := h.2 q11 l12 hp14
      refine s_ext (v := .bool true) rfl rfl ?_
      refine done ?_
      refine then_norm ?_
      refine wp_seq ?_
      refine cw_true rfl rfl ?_
      refine wp_skip ?_
      refine then_norm ?_
      refine wp_block ?_
      refine wp_seq ?_
      refine cw_region ?_
      refine s_entry hC 0 0 q11 rfl rfl hn6 h9_ hk55 hv56 ?_
      refine s_ext (v := .agg (List.toArray (A8.enc .i64 q11.1))) rfl rfl ?_
      refine s_ext (v := .int .i64 q11.2) rfl rfl ?_
      refine s_alloc hC (A8.enc .i64 A8.zero) z94 rfl fun b58 w60 hB_ hC => ?_
      refine s_store (v := .agg (List.toArray (A8.enc .i64 q11.1))) hC 0 (A8.enc .i64 q11.1) (A8.enc .i64 q11.1) rfl ag94.size rfl rfl rfl rfl rfl (Nat.le_of_ble_eq_true rfl) rfl fun w61 hC => ?_
      refine s_as (v := .int .i64 q11.2) rfl ?_
      refine done ?_
      refine then_norm ?_
      refine cw_region ?_
      refine s_mv (v := .map (some b0)) h0_ ?_
      refine s_loadA hC 0 (A8.enc .i64 q11.1) rfl ag94 rfl rfl rfl ?_
      refine s_mv (v := .int .i64 q11.2) rfl ?_
      refine s_mv (v := .int .i64 a2) h2_ ?_
      refine s_mul rfl rfl ?_
      refine s_rem rfl rfl (by decide) ?_
      refine s_call [.map (some b0), .agg (List.toArray (A8.enc .i64 q11.1)), .int .i64 (Int.tmod (IntKind.i64.wrap (q11.2 * a2)) 10007)] _ Try.func125 rfl rfl rfl (c_impl_sum_add s48 q11.1 (Int.tmod (IntKind.i64.wrap (q11.2 * a2)) 10007) h _ (hC.getM 2 rfl)) (fun ret62 w64 hR63 => ?_)
      obtain ⟨m66, rfl, h, hm67, hB65⟩ := hR63
      refine ⟨_, rfl, ?_⟩
      replace hC := hC.turnB 2 rfl hB65 rfl rfl hm67
      refine done ?_
      refine blk_norm ?_
      replace hC := hC.sel [1, 2] [0, 1] (M' := [itI (kvA .i64) (vvI .i64) r3 b1 es4 ck5 (some ent54) l12, mapI (kvA .i64) (vvI .i64) b0 m66]) (Ps' := [mapE b1 es4 ck5, mapI (kvA .i64) (vvI .i64) b1 a1]) (by decide) rfl rfl
      exact hK51 q11 l12 m66 _ _ hp14 ⟨(some ent54), h0_, h2_, h9_, hC⟩ h
  · skip
    exact ⟨none, rfl, rfl, rfl, hC⟩
def f_impl_sum_times (a0 : List (A8 × Int)) (a1 : List Int) (a2 : List (A8 × Int)) (K : List (A8 × Int) → Prop) : Prop :=
  mapP (fun (q15 : A8 × Int) (s236 : (List (A8 × Int))) next237 => mapP (fun (q258 : A8 × Int) (s317 : (List (A8 × Int))) next318 => f_impl_power_times q15.1 a1 q258.1 (fun r334 r335 => (if r335 ≠ 0 then f_impl_sum_add s317 r334 (Int.tmod (IntKind.i64.wrap ((IntKind.i64.wrap (r335 * q15.2)) * q258.2)) 10007) (fun m346 => next318 m346) else next318 s317))) (fun (s317 : (List (A8 × Int))) => next237 s317) a2.length a2 s236) (fun (s236 : (List (A8 × Int))) => K s236) a0.length a0 ([] : List (A8 × Int))
theorem c_impl_sum_times (a0 : List (A8 × Int)) (a1 : List Int) (a2 : List (A8 × Int)) {b0 : Nat} {b2 : Nat} {u1_0 : Value} {fp1 : List Nat} {K : List (A8 × Int) → Prop} (h : f_impl_sum_times a0 a1 a2 K) (w0 : World) (q0 : (mapI (kvA .i64) (vvI .i64) b0 a0).holds w0) (q1 : ((EI .i64).ty.sl).rep a1 [u1_0] fp1 w0) (q2 : (mapI (kvA .i64) (vvI .i64) b2 a2).holds w0) :
    Calls Try.prog 107 #[.map (some b0), u1_0, .map (some b2)] w0 fun e w' => ∃ (r0 : List (A8 × Int)) (zb0 : Nat), 
      e = .returned (.map (some zb0)) ∧ K r0 ∧ (mapI (kvA .i64) (vvI .i64) zb0 r0).holds w' ∧ w0.heap.size ≤ zb0 ∧ Bel w0 w' := by
  unfold f_impl_sum_times at h
  refine calls_of (args := [.map (some b0), u1_0, .map (some b2)]) Try.func107 rfl 48 Try.ntmps107 (Nat.le_of_ble_eq_true rfl) ?_
  have hC := Ctx.start (X := Nox) w0 [Ty.item ((EI .i64).ty.sl) a1 [u1_0] fp1, mapI (kvA .i64) (vvI .i64) b0 a0, mapI (kvA .i64) (vvI .i64) b2 a2] (by simp only [List.mem_cons, List.not_mem_nil, or_false, forall_eq_or_imp, forall_eq]; exact ⟨q1, q0, q2⟩)
  refine wp_seq ?_
  refine cw_region ?_
  refine s_as (v := .map none) rfl ?_
  refine done ?_
  refine then_norm ?_
  refine wp_seq ?_
  refine cw_region ?_
  refine s_makeMap hC (kvA .i64) (vvI .i64) fun b4 w6 hB_ hC => ?_
  refine s_as (v := .map (some b4)) rfl ?_
  refine done ?_
  refine then_norm ?_
  refine wp_seq ?_
  refine wp_seq ?_
  refine cw_region ?_
  refine s_mv (v := .map (some b0)) rfl ?_
  refine s_range hC 1 rfl Try.underlying104 rfl fun r7 es8 ck9 w14 hB_ hn10 hbn11 hC => ?_
  refine done ?_
  refine then_norm ?_
  refine wp_block ?_
  refine loopM (S := (List (A8 × Int))) _ _ (fun l17 s236 e_ w_ => ∃ (la19 : Option MapEntry), e_ 1 = u1_0 ∧ e_ 2 = .map (some b2) ∧ e_ 6 = .map none ∧ e_ 7 = .map (some b4) ∧ e_ 16 = .pointer (some ⟨r7, 0, none⟩) ∧ Ctx Nox w0 w_ [itI (kvA .i64) (vvI .i64) r7 b0 es8 ck9 la19 l17, mapI (kvA .i64) (vvI .i64) b4 s236] [mapE b0 es8 ck9, Ty.item ((EI .i64).ty.sl) a1 [u1_0] fp1, mapI (kvA .i64) (vvI .i64) b0 a0, mapI (kvA .i64) (vvI .i64) b2 a2]) ?_ (l0 := a0) (s0 := ([] : List (A8 × Int))) ?_ h
  · clear hC h
    rintro l17 s236 e_ w240 next237 K238 ⟨la19, h1_, h2_, h6_, h7_, h16_, hC⟩ h hK239
    refine wp_seq ?_
    refine cw_region ?_
    refine s_next hC 0 0 rfl rfl hn10 hbn11 h16_ (fun hr241 => ?_) (fun q15 l16 ent242 w245 hp18 hk243 hv244 hC => ?_)
    · replace h := h.1 hr241
      refine s_ext (v := .bool false) rfl rfl ?_
      refine done ?_
      refine then_norm ?_
      refine wp_seq ?_
      refine cw_false rfl rfl ?_
      refine wp_exit (then_exit (then_exit (exit_in ?_)))
      refine then_norm ?_
      refine wp_seq ?_
      refine cw_region ?_
      refine s_mv (v := .map (some b4)) h7_ ?_
      refine s_as (v := .map (some b4)) rfl ?_
      refine done ?_
      refine then_norm ?_
      refine wp_ret ?_
      refine ret1 (fn := Try.f107) rfl ?_ ⟨s236, b4, rfl, h, (hC.getM 1 rfl), (map_fresh hC 1 rfl), hC.below⟩ (.inl rfl)
      exact res_tmp rfl
    · replace h := h.2 q15 l16 hp18
      refine s_ext (v := .bool true) rfl rfl ?_
      refine done ?_
      refine then_norm ?_
      refine wp_seq ?_
      refine cw_true rfl rfl ?_
      refine wp_skip ?_
      refine then_norm ?_
      refine wp_block ?_
      refine wp_seq ?_
      refine cw_region ?_
      refine s_entry hC 0 0 q15 rfl rfl hn10 h16_ hk243 hv244 ?_
      refine s_ext (v := .agg (List.toArray (A8.enc .i64 q15.1))) rfl rfl ?_
      refine s_ext (v := .int .i64 q15.2) rfl rfl ?_
      refine s_alloc hC (A8.enc .i64 A8.zero) z94 rfl fun b246 w248 hB_ hC => ?_
      refine s_store (v := .agg (List.toArray (A8.enc .i64 q15.1))) hC 0 (A8.enc .i64 q15.1) (A8.enc .i64 q15.1) rfl ag94.size rfl rfl rfl rfl rfl (Nat.le_of_ble_eq_true rfl) rfl fun w249 hC => ?_
      refine s_as (v := .int .i64 q15.2) rfl ?_
      refine done ?_
      refine then_norm ?_
      refine wp_seq ?_
      refine cw_region ?_
      refine s_mv (v := .map (some b2)) h2_ ?_
      refine s_range hC 3 rfl Try.underlying104 rfl fun r250 es251 ck252 w257 hB_ hn253 hbn254 hC => ?_
      refine done ?_
      refine then_norm ?_
      refine wp_block ?_
      refine loopM (S := (List (A8 × Int))) _ _ (fun l260 s317 e_ w_ => ∃ (la262 : Option MapEntry), e_ 1 = u1_0 ∧ e_ 2 = .map (some b2) ∧ e_ 6 = .map none ∧ e_ 7 = .map (some b4) ∧ e_ 8 = .pointer (some ⟨b246, 0, none⟩) ∧ e_ 9 = .int .i64 q15.2 ∧ e_ 16 = .pointer (some ⟨r7, 0, none⟩) ∧ e_ 17 = .tuple #[.bool true, .agg (List.toArray (A8.enc .i64 q15.1)), .int .i64 q15.2] ∧ e_ 18 = .bool true ∧ e_ 19 = .tuple #[.agg (List.toArray (A8.enc .i64 q15.1)), .int .i64 q15.2] ∧ e_ 20 = .agg (List.toArray (A8.enc .i64 q15.1)) ∧ e_ 21 = .int .i64 q15.2 ∧ e_ 22 = .map (some b2) ∧ e_ 23 = .pointer (some ⟨r250, 0, none⟩) ∧ Ctx Nox w0 w_ [itI (kvA .i64) (vvI .i64) r250 b2 es251 ck252 la262 l260, blk b246 94 (A8.enc .i64 q15.1), itI (kvA .i64) (vvI .i64) r7 b0 es8 ck9 (some ent242) l16, mapI (kvA .i64) (vvI .i64) b4 s317] [mapE b2 es251 ck252, mapE b0 es8 ck9, Ty.item ((EI .i64).ty.sl) a1 [u1_0] fp1, mapI (kvA .i64) (vvI .i64) b0 a0, mapI (kvA .i64) (vvI .i64) b2 a2]) ?_ (l0 := a2) (s0 := s236) ?_ h
      · clear hC h
        rintro l260 s317 e_ w321 next318 K319 ⟨la262, h1_, h2_, h6_, h7_, h8_, h9_, h16_, h17_, h18_, h19_, h20_, h21_, h22_, h23_, hC⟩ h hK320
        refine wp_seq ?_
        refine cw_region ?_
        refine s_next hC 0 0 rfl rfl hn253 hbn254 h23_ (fun hr322 => ?_) (fun q258 l259 ent323 w326 hp261 hk324 hv325 hC => ?_)
        · replace h := h.1 hr322
          refine s_ext (v := .bool false) rfl rfl ?_
          refine done ?_
          refine then_norm ?_
          refine wp_seq ?_
          refine cw_false rfl rfl ?_
          refine wp_exit (then_exit (then_exit (exit_in ?_)))
          refine blk_norm ?_
          replace hC := hC.sel [2, 3] [1, 2, 3, 4] (M' := [itI (kvA .i64) (vvI .i64) r7 b0 es8 ck9 (some ent242) l16, mapI (kvA .i64) (vvI .i64) b4 s317]) (Ps' := [mapE b0 es8 ck9, Ty.item ((EI .i64).ty.sl) a1 [u1_0] fp1, mapI (kvA .i64) (vvI .i64) b0 a0, mapI (kvA .i64) (vvI .i64) b2 a2]) (by decide) rfl rfl
          exact hK239 q15 l16 s317 _ _ hp18 ⟨(some ent242), h1_, h2_, h6_, h7_, h16_, hC⟩ h
        · replace h := h.2 q258 l259 hp261
          refine s_ext (v := .bool true) rfl rfl ?_
          refine done ?_
          refine then_norm ?_
          refine wp_seq ?_
          refine cw_true rfl rfl ?_
          refine wp_skip ?_
          refine then_norm ?_
          refine wp_block ?_
          refine wp_seq ?_
          refine cw_region ?_
          refine s_entry hC 0 0 q258 rfl rfl hn253 h23_ hk324 hv325 ?_
          refine s_ext (v := .agg (List.toArray (A8.enc .i64 q258.1))) rfl rfl ?_
          refine s_ext (v := .int .i64 q258.2) rfl rfl ?_
          refine s_alloc hC (A8.enc .i64 A8.zero) z94 rfl fun b327 w329 hB_ hC => ?_
          refine s_store (v := .agg (List.toArray (A8.enc .i64 q258.1))) hC 0 (A8.enc .i64 q258.1) (A8.enc .i64 q258.1) rfl ag94.size rfl rfl rfl rfl rfl (Nat.le_of_ble_eq_true rfl) rfl fun w330 hC => ?_
          refine s_as (v := .int .i64 q258.2) rfl ?_
          refine done ?_
          refine then_norm ?_
          refine wp_seq ?_
          refine cw_region ?_
          refine s_loadA hC 2 (A8.enc .i64 q15.1) rfl ag94 h8_ rfl rfl ?_
          refine s_mv (v := u1_0) h1_ ?_
          refine s_loadA hC 0 (A8.enc .i64 q258.1) rfl ag94 rfl rfl rfl ?_
          refine s_call [.agg (List.toArray (A8.enc .i64 q15.1)), u1_0, .agg (List.toArray (A8.enc .i64 q258.1))] _ Try.func124 rfl rfl rfl (c_impl_power_times q15.1 a1 q258.1 h _ (hC.getP 2 rfl)) (fun ret331 w333 hR332 => ?_)
          obtain ⟨r334, r335, rfl, h, hB336⟩ := hR332
          refine ⟨_, rfl, ?_⟩
          replace hC := hC.grow hB336
          refine s_mv (v := .tuple #[.agg (List.toArray (A8.enc .i64 r334)), .int .i64 r335]) rfl ?_
          refine s_ext (v := .agg (List.toArray (A8.enc .i64 r334))) rfl rfl ?_
          refine s_ext (v := .int .i64 r335) rfl rfl ?_
          refine s_alloc hC (A8.enc .i64 A8.zero) z94 rfl fun b337 w339 hB_ hC => ?_
          refine s_store (v := .agg (List.toArray (A8.enc .i64 r334))) hC 0 (A8.enc .i64 r334) (A8.enc .i64 r334) rfl ag94.size rfl rfl rfl rfl rfl (Nat.le_of_ble_eq_true rfl) rfl fun w340 hC => ?_
          refine s_as (v := .int .i64 r335) rfl ?_
          refine done ?_
          refine then_norm ?_
          refine wp_seq ?_
          refine cw_region ?_
          refine s_mv (v := .int .i64 r335) rfl ?_
          refine s_neq rfl rfl ?_
          refine done ?_
          refine then_norm ?_
          refine cw_cond rfl (fun hb341 => ?_) (fun hb341 => ?_)
          · replace h := ift h (ct hb341)
            refine cw_region ?_
            refine s_mv (v := .map (some b4)) h7_ ?_
            refine s_loadA hC 0 (A8.enc .i64 r334) rfl ag94 rfl rfl rfl ?_
            refine s_mv (v := .int .i64 r335) rfl ?_
            refine s_mv (v := .int .i64 q15.2) h9_ ?_
            refine s_mul rfl rfl ?_
            refine s_mv (v := .int .i64 q258.2) rfl ?_
            refine s_mul rfl rfl ?_
            refine s_rem rfl rfl (by decide) ?_
            refine s_call [.map (some b4), .agg (List.toArray (A8.enc .i64 r334)), .int .i64 (Int.tmod (IntKind.i64.wrap ((IntKind.i64.wrap (r335 * q15.2)) * q258.2)) 10007)] _ Try.func125 rfl rfl rfl (c_impl_sum_add s317 r334 (Int.tmod (IntKind.i64.wrap ((IntKind.i64.wrap (r335 * q15.2)) * q258.2)) 10007) h _ (hC.getM 5 rfl)) (fun ret342 w344 hR343 => ?_)
            obtain ⟨m346, rfl, h, hm347, hB345⟩ := hR343
            refine ⟨_, rfl, ?_⟩
            replace hC := hC.turnB 5 rfl hB345 rfl rfl hm347
            refine done ?_
            refine blk_norm ?_
            replace hC := hC.sel [2, 3, 4, 5] [0, 1, 2, 3, 4] (M' := [itI (kvA .i64) (vvI .i64) r250 b2 es251 ck252 (some ent323) l259, blk b246 94 (A8.enc .i64 q15.1), itI (kvA .i64) (vvI .i64) r7 b0 es8 ck9 (some ent242) l16, mapI (kvA .i64) (vvI .i64) b4 m346]) (Ps' := [mapE b2 es251 ck252, mapE b0 es8 ck9, Ty.item ((EI .i64).ty.sl) a1 [u1_0] fp1, mapI (kvA .i64) (vvI .i64) b0 a0, mapI (kvA .i64) (vvI .i64) b2 a2]) (by decide) rfl rfl
            exact hK320 q258 l259 m346 _ _ hp261 ⟨(some ent323), h1_, h2_, h6_, h7_, h8_, h9_, h16_, h17_, h18_, h19_, h20_, h21_, h22_, h23_, hC⟩ h
          · replace h := iff_ h (cf hb341)
            refine wp_skip ?_
            refine blk_norm ?_
            replace hC := hC.sel [2, 3, 4, 5] [0, 1, 2, 3, 4] (M' := [itI (kvA .i64) (vvI .i64) r250 b2 es251 ck252 (some ent323) l259, blk b246 94 (A8.enc .i64 q15.1), itI (kvA .i64) (vvI .i64) r7 b0 es8 ck9 (some ent242) l16, mapI (kvA .i64) (vvI .i64) b4 s317]) (Ps' := [mapE b2 es251 ck252, mapE b0 es8 ck9, Ty.item ((EI .i64).ty.sl) a1 [u1_0] fp1, mapI (kvA .i64) (vvI .i64) b0 a0, mapI (kvA .i64) (vvI .i64) b2 a2]) (by decide) rfl rfl
            exact hK320 q258 l259 s317 _ _ hp261 ⟨(some ent323), h1_, h2_, h6_, h7_, h8_, h9_, h16_, h17_, h18_, h19_, h20_, h21_, h22_, h23_, hC⟩ h
      · skip
        exact ⟨none, h1_, h2_, h6_, h7_, rfl, rfl, h16_, rfl, rfl, rfl, rfl, rfl, rfl, rfl, hC⟩
  · skip
    exact ⟨none, rfl, rfl, rfl, rfl, rfl, hC⟩
def f_impl_within (a0 : Int) (a1 : Int) (a2 : Int) (K : Bool → Prop) : Prop :=
  (if a0 ≥ a1 then K (decide (a0 ≤ a2)) else K false)
theorem c_impl_within (a0 : Int) (a1 : Int) (a2 : Int)  {K : Bool → Prop} (h : f_impl_within a0 a1 a2 K) (w0 : World)  :
    Calls Try.prog 94 #[.int .i64 a0, .int .i64 a1, .int .i64 a2] w0 fun e w' => ∃ (r0 : Bool), 
      e = .returned (.bool r0) ∧ K r0 ∧ Bel w0 w' := by
  unfold f_impl_within at h
  refine calls_of (args := [.int .i64 a0, .int .i64 a1, .int .i64 a2]) Try.func94 rfl 15 Try.ntmps94 (Nat.le_of_ble_eq_true rfl) ?_
  have hC := Ctx.start (X := Nox) w0 [] (by simp)
  refine wp_seq ?_
  refine cw_region ?_
  refine s_as (v := .bool false) rfl ?_
  refine done ?_
  refine then_norm ?_
  refine wp_seq ?_
  refine cw_region ?_
  refine s_mv (v := .int .i64 a0) rfl ?_
  refine s_mv (v := .int .i64 a1) rfl ?_
  refine s_geq rfl rfl ?_
  refine s_mv (v := .bool (decide (a0 ≥ a1))) rfl ?_
  refine bsplit (decide (a0 ≥ a1)) (fun hb1 => ?_) (fun hb1 => ?_)
  · replace h := ift h (ct hb1)
    refine guardOn 3 10 rfl rfl hb1 ?_
    refine s_mv (v := .int .i64 a0) rfl ?_
    refine guardOn 3 10 rfl rfl hb1 ?_
    refine s_mv (v := .int .i64 a2) rfl ?_
    refine guardOn 3 10 rfl rfl hb1 ?_
    refine s_leq rfl rfl ?_
    refine s_pick (v := .bool (decide (a0 ≤ a2))) (b := true) (tr rfl (congrArg _ hb1)) rfl ?_
    refine s_as (v := .bool (decide (a0 ≤ a2))) rfl ?_
    refine done ?_
    refine then_norm ?_
    refine wp_ret ?_
    refine ret1 (fn := Try.f94) rfl ?_ ⟨decide (a0 ≤ a2), rfl, h, hC.below⟩ (.inl rfl)
    exact res_tmp rfl
  · replace h := iff_ h (cf hb1)
    refine guardOff (b := false) 3 10 rfl (tr rfl (congrArg _ hb1)) (by decide) ?_
    refine guardOff (b := false) 3 10 rfl (tr rfl (congrArg _ hb1)) (by decide) ?_
    refine guardOff (b := false) 3 10 rfl (tr rfl (congrArg _ hb1)) (by decide) ?_
    refine s_pick (v := .bool false) (b := false) (tr rfl (congrArg _ hb1)) rfl ?_
    refine s_as (v := .bool false) rfl ?_
    refine done ?_
    refine then_norm ?_
    refine wp_ret ?_
    refine ret1 (fn := Try.f94) rfl ?_ ⟨false, rfl, h, hC.below⟩ (.inl rfl)
    exact res_tmp rfl
def f_slices_IndexFunc_int64_int64 (a0 : List Int) (p1 : Int → (Bool → Prop) → Prop) (K : Int → Prop) : Prop :=
  forN (fun i17 (s18 : Unit) next20 => p1 (a0.getD i17 default) (fun r32 => (if r32 = true then K (i17 : Int) else next20 ()))) (fun (s18 : Unit) => K (-1)) a0.length 0 ()
theorem c_slices_IndexFunc_int64_int64 (a0 : List Int) (p1 : Int → (Bool → Prop) → Prop) {u0_0 : Value} {fp0 : List Nat} {K : Int → Prop} (h : f_slices_IndexFunc_int64_int64 a0 p1 K) (w0 : World) (q0 : ((EI .i64).ty.sl).rep a0 [u0_0] fp0 w0) {g1 : Nat} {cp1 : List Value} {fn1 : Func} (hf1 : Try.prog.funcs[g1]? = some fn1) (hb1 : fn1.body.isNone = false) (hn1 : (fn1.name == "runtime.NumGoroutine") = false) (hp1 : ∀ (y0 : Int) (K_ : Bool → Prop) (w_ : World), Bel w0 w_ → p1 y0 K_ → Calls Try.prog g1 (List.toArray ([.int .i64 y0] ++ cp1)) w_ fun e w' => ∃ (z0 : Bool), e = .returned (.bool z0) ∧ K_ z0 ∧ Bel w_ w') :
    Calls Try.prog 129 #[u0_0, .func (.func g1) #[] (List.toArray cp1)] w0 fun e w' => ∃ (r0 : Int), 
      e = .returned (.int .i64 r0) ∧ K r0 ∧ Bel w0 w' := by
  unfold f_slices_IndexFunc_int64_int64 at h
  refine calls_of (args := [u0_0, .func (.func g1) #[] (List.toArray cp1)]) Try.func129 rfl 19 Try.ntmps129 (Nat.le_of_ble_eq_true rfl) ?_
  have hC := Ctx.start (X := Nox) w0 [Ty.item ((EI .i64).ty.sl) a0 [u0_0] fp0] (by simp only [List.mem_cons, List.not_mem_nil, or_false, forall_eq_or_imp, forall_eq]; exact q0)
  refine wp_seq ?_
  refine cw_region ?_
  refine s_as (v := .int .i64 0) rfl ?_
  refine done ?_
  refine then_norm ?_
  refine wp_seq ?_
  refine wp_seq ?_
  refine cw_region ?_
  refine s_mv (v := u0_0) rfl ?_
  obtain ⟨Ad2, c3, hv4⟩ := sl_len (hC.getP 0 rfl)
  refine s_len Try.underlying22 (tr rfl hv4) ?_
  refine s_mv (v := .int .i64 0) rfl ?_
  refine done ?_
  refine then_norm ?_
  refine wp_block ?_
  have hN19 : a0.length ≤ 9223372036854775807 := sl_max (hC.getP 0 rfl)
  refine loopN (S := Unit) _ _ (fun i17 s18 e_ w_ => e_ 0 = u0_0 ∧ e_ 1 = .func (.func g1) #[] (List.toArray cp1) ∧ e_ 4 = .int .i64 0 ∧ e_ 7 = .int .i64 (a0.length : Int) ∧ e_ 8 = .int .i64 (i17 : Int) ∧ Ctx Nox w0 w_ [] [Ty.item ((EI .i64).ty.sl) a0 [u0_0] fp0]) a0.length ?_ ?_ (s0 := ()) ?_ h
  · clear hC h
    rintro i17 s18 e_ w24 next20 K21 hi23 ⟨h0_, h1_, h4_, h7_, h8_, hC⟩ h hK22
    refine wp_seq ?_
    refine cw_region ?_
    refine s_lss h8_ h7_ ?_
    refine done ?_
    refine then_norm ?_
    refine wp_seq ?_
    refine cw_true rfl (decide_eq_true (by omega)) ?_
    refine wp_skip ?_
    refine then_norm ?_
    refine wp_seq ?_
    refine wp_block ?_
    refine wp_seq ?_
    refine cw_region ?_
    refine s_mv (v := .int .i64 (i17 : Int)) h8_ ?_
    refine s_as (v := .int .i64 (i17 : Int)) rfl ?_
    refine done ?_
    refine then_norm ?_
    refine wp_seq ?_
    refine cw_region ?_
    refine s_mv (v := .func (.func g1) #[] (List.toArray cp1)) h1_ ?_
    refine s_mv (v := u0_0) h0_ ?_
    refine s_mv (v := .int .i64 (i17 : Int)) rfl ?_
    obtain ⟨Ad25, c26, hv27⟩ := sl_form (hC.getP 0 rfl) i17 hi23
    refine s_iaddrS (len := a0.length) Try.underlying22 sc2.size (tr rfl hv27) rfl (Int.natCast_nonneg _) (Int.ofNat_lt.2 hi23) ?_
    refine s_loadCS (.int .i64 (a0.getD i17 default)) (sl_cellsE (hC.getP 0 rfl) hv27 i17 hi23) sc2 rfl ?_
    refine s_callv [.int .i64 (a0.getD i17 default)] _ rfl hf1 hb1 hn1 rfl (hp1 _ _ _ hC.below  h) (fun ret28 w30 hR29 => ?_)
    obtain ⟨r32, rfl, h, hB31⟩ := hR29
    refine ⟨_, rfl, ?_⟩
    replace hC := hC.grow hB31
    refine done ?_
    refine then_norm ?_
    refine cw_cond rfl (fun hb33 => ?_) (fun hb33 => ?_)
    · replace h := ift h (hb33)
      refine wp_seq ?_
      refine cw_region ?_
      refine s_mv (v := .int .i64 (i17 : Int)) rfl ?_
      refine s_as (v := .int .i64 (i17 : Int)) rfl ?_
      refine done ?_
      refine then_norm ?_
      refine wp_ret (blk_ret (then_ret (then_ret (blk_ret (then_ret ?_)))))
      refine ret1 (fn := Try.f129) rfl ?_ ⟨(i17 : Int), rfl, h, hC.below⟩ (.inl rfl)
      exact res_tmp rfl
    · replace h := iff_ h (ne_t hb33)
      refine wp_skip ?_
      refine blk_norm ?_
      refine then_norm ?_
      refine cw_region ?_
      refine s_add h8_ rfl ?_
      refine s_mv (v := .int .i64 (IntKind.i64.wrap ((i17 : Int) + 1))) rfl ?_
      refine done ?_
      exact hK22 () _ _ ⟨h0_, h1_, h4_, h7_, (tr rfl (congrArg _ (wrap64_nat hi23 hN19))), hC⟩ h
  · clear hC h
    rintro s18 e_ w34 K21 ⟨h0_, h1_, h4_, h7_, h8_, hC⟩ h
    refine wp_seq ?_
    refine cw_region ?_
    refine s_lss h8_ h7_ ?_
    refine done ?_
    refine then_norm ?_
    refine wp_seq ?_
    refine cw_false rfl (decide_eq_false (by omega)) ?_
    refine wp_exit (then_exit (then_exit (exit_in ?_)))
    refine then_norm ?_
    refine wp_seq ?_
    refine cw_region ?_
    refine s_as (v := .int .i64 (-1)) rfl ?_
    refine done ?_
    refine then_norm ?_
    refine wp_ret ?_
    refine ret1 (fn := Try.f129) rfl ?_ ⟨(-1), rfl, h, hC.below⟩ (.inl rfl)
    exact res_tmp rfl
  · skip
    exact ⟨rfl, rfl, rfl, rfl, rfl, hC⟩
def f_slices_ContainsFunc_int64_int64 (a0 : List Int) (p1 : Int → (Bool → Prop) → Prop) (K : Bool → Prop) : Prop :=
  f_slices_IndexFunc_int64_int64 a0 p1 (fun r5 => K (decide (r5 ≥ 0)))
theorem c_slices_ContainsFunc_int64_int64 (a0 : List Int) (p1 : Int → (Bool → Prop) → Prop) {u0_0 : Value} {fp0 : List Nat} {K : Bool → Prop} (h : f_slices_ContainsFunc_int64_int64 a0 p1 K) (w0 : World) (q0 : ((EI .i64).ty.sl).rep a0 [u0_0] fp0 w0) {g1 : Nat} {cp1 : List Value} {fn1 : Func} (hf1 : Try.prog.funcs[g1]? = some fn1) (hb1 : fn1.body.isNone = false) (hn1 : (fn1.name == "runtime.NumGoroutine") = false) (hp1 : ∀ (y0 : Int) (K_ : Bool → Prop) (w_ : World), Bel w0 w_ → p1 y0 K_ → Calls Try.prog g1 (List.toArray ([.int .i64 y0] ++ cp1)) w_ fun e w' => ∃ (z0 : Bool), e = .returned (.bool z0) ∧ K_ z0 ∧ Bel w_ w') :
    Calls Try.prog 114 #[u0_0, .func (.func g1) #[] (List.toArray cp1)] w0 fun e w' => ∃ (r0 : Bool), 
      e = .returned (.bool r0) ∧ K r0 ∧ Bel w0 w' := by
  unfold f_slices_ContainsFunc_int64_int64 at h
  refine calls_of (args := [u0_0, .func (.func g1) #[] (List.toArray cp1)]) Try.func114 rfl 9 Try.ntmps114 (Nat.le_of_ble_eq_true rfl) ?_
  have hC := Ctx.start (X := Nox) w0 [Ty.item ((EI .i64).ty.sl) a0 [u0_0] fp0] (by simp only [List.mem_cons, List.not_mem_nil, or_false, forall_eq_or_imp, forall_eq]; exact q0)
  refine wp_seq ?_
  refine cw_region ?_
  refine s_as (v := .bool false) rfl ?_
  refine done ?_
  refine then_norm ?_
  refine wp_seq ?_
  refine cw_region ?_
  refine s_mv (v := u0_0) rfl ?_
  refine s_mv (v := .func (.func g1) #[] (List.toArray cp1)) rfl ?_
  refine s_call [u0_0, .func (.func g1) #[] (List.toArray cp1)] _ Try.func129 rfl rfl rfl (c_slices_IndexFunc_int64_int64 a0 p1 h _ (hC.getP 0 rfl) hf1 hb1 hn1 (fun x0_ K_ w_ hb_ => hp1 x0_ K_ w_ (below_on hC.below hb_))) (fun ret2 w4 hR3 => ?_)
  obtain ⟨r5, rfl, h, hB6⟩ := hR3
  refine ⟨_, rfl, ?_⟩
  replace hC := hC.grow hB6
  refine s_geq rfl rfl ?_
  refine s_as (v := .bool (decide (r5 ≥ 0))) rfl ?_
  refine done ?_
  refine then_norm ?_
  refine wp_ret ?_
  refine ret1 (fn := Try.f114) rfl ?_ ⟨decide (r5 ≥ 0), rfl, h, hC.below⟩ (.inl rfl)
  exact res_tmp rfl
def f_impl_AreDegrees_1 (a0 : Int) (K : Bool → Prop) : Prop :=
  f_impl_within a0 1 12 (fun r4 => K (!r4))
theorem c_impl_AreDegrees_1 (a0 : Int)  {K : Bool → Prop} (h : f_impl_AreDegrees_1 a0 K) (w0 : World)  :
    Calls Try.prog 115 #[.int .i64 a0] w0 fun e w' => ∃ (r0 : Bool), 
      e = .returned (.bool r0) ∧ K r0 ∧ Bel w0 w' := by
  unfold f_impl_AreDegrees_1 at h
  refine calls_of (args := [.int .i64 a0]) Try.func115 rfl 6 Try.ntmps115 (Nat.le_of_ble_eq_true rfl) ?_
  have hC := Ctx.start (X := Nox) w0 [] (by simp)
  refine wp_seq ?_
  refine cw_region ?_
  refine s_as (v := .bool false) rfl ?_
  refine done ?_
  refine then_norm ?_
  refine wp_seq ?_
  refine cw_region ?_
  refine s_mv (v := .int .i64 a0) rfl ?_
  refine s_call [.int .i64 a0, .int .i64 1, .int .i64 12] _ Try.func94 rfl rfl rfl (c_impl_within a0 1 12 h _) (fun ret1 w3 hR2 => ?_)
  obtain ⟨r4, rfl, h, hB5⟩ := hR2
  refine ⟨_, rfl, ?_⟩
  replace hC := hC.grow hB5
  refine s_not rfl ?_
  refine s_as (v := .bool (!r4)) rfl ?_
  refine done ?_
  refine then_norm ?_
  refine wp_ret ?_
  refine ret1 (fn := Try.f115) rfl ?_ ⟨!r4, rfl, h, hC.below⟩ (.inl rfl)
  exact res_tmp rfl
def f_impl_AreDegrees (a0 : List Int) (K : Bool → Prop) : Prop :=
  (if (a0.length : Int) ≤ 8 then f_slices_ContainsFunc_int64_int64 a0 f_impl_AreDegrees_1 (fun r9 => K (!r9)) else K false)
theorem c_impl_AreDegrees (a0 : List Int) {u0_0 : Value} {fp0 : List Nat} {K : Bool → Prop} (h : f_impl_AreDegrees a0 K) (w0 : World) (q0 : ((EI .i64).ty.sl).rep a0 [u0_0] fp0 w0) :
    Calls Try.prog 88 #[u0_0] w0 fun e w' => ∃ (r0 : Bool), 
      e = .returned (.bool r0) ∧ K r0 ∧ Bel w0 w' := by
  unfold f_impl_AreDegrees at h
  refine calls_of (args := [u0_0]) Try.func88 rfl 11 Try.ntmps88 (Nat.le_of_ble_eq_true rfl) ?_
  have hC := Ctx.start (X := Nox) w0 [Ty.item ((EI .i64).ty.sl) a0 [u0_0] fp0] (by simp only [List.mem_cons, List.not_mem_nil, or_false, forall_eq_or_imp, forall_eq]; exact q0)
  refine wp_seq ?_
  refine cw_region ?_
  refine s_as (v := .bool false) rfl ?_
  refine done ?_
  refine then_norm ?_
  refine wp_seq ?_
  refine cw_region ?_
  refine s_mv (v := u0_0) rfl ?_
  obtain ⟨Ad2, c3, hv4⟩ := sl_len (hC.getP 0 rfl)
  refine s_len Try.underlying22 (tr rfl hv4) ?_
  refine s_leq rfl rfl ?_
  refine s_mv (v := .bool (decide ((a0.length : Int) ≤ 8))) rfl ?_
  refine bsplit (decide ((a0.length : Int) ≤ 8)) (fun hb5 => ?_) (fun hb5 => ?_)
  · replace h := ift h (ct hb5)
    refine guardOn 3 6 rfl rfl hb5 ?_
    refine s_mv (v := u0_0) rfl ?_
    refine guardOn 3 6 rfl rfl hb5 ?_
    refine s_call [u0_0, .func (.func 115) #[] (List.toArray [])] _ Try.func114 rfl rfl rfl (c_slices_ContainsFunc_int64_int64 a0 f_impl_AreDegrees_1 h _ (hC.getP 0 rfl) Try.func115 rfl rfl (fun x0_ K_ w_ _ hq_ => c_impl_AreDegrees_1 x0_ hq_ w_)) (fun ret6 w8 hR7 => ?_)
    obtain ⟨r9, rfl, h, hB10⟩ := hR7
    refine ⟨_, rfl, ?_⟩
    replace hC := hC.grow hB10
    refine guardOn 3 6 rfl rfl hb5 ?_
    refine s_not rfl ?_
    refine s_pick (v := .bool (!r9)) (b := true) (tr rfl (congrArg _ hb5)) rfl ?_
    refine s_as (v := .bool (!r9)) rfl ?_
    refine done ?_
    refine then_norm ?_
    refine wp_ret ?_
    refine ret1 (fn := Try.f88) rfl ?_ ⟨!r9, rfl, h, hC.below⟩ (.inl rfl)
    exact res_tmp rfl
  · replace h := iff_ h (cf hb5)
    refine guardOff (b := false) 3 6 rfl (tr rfl (congrArg _ hb5)) (by decide) ?_
    refine guardOff (b := false) 3 6 rfl (tr rfl (congrArg _ hb5)) (by decide) ?_
    refine guardOff (b := false) 3 6 rfl (tr rfl (congrArg _ hb5)) (by decide) ?_
    refine s_pick (v := .bool false) (b := false) (tr rfl (congrArg _ hb5)) rfl ?_
    refine s_as (v := .bool false) rfl ?_
    refine done ?_
    refine then_norm ?_
    refine wp_ret ?_
    refine ret1 (fn := Try.f88) rfl ?_ ⟨false, rfl, h, hC.below⟩ (.inl rfl)
    exact res_tmp rfl
def f_impl_isMonomial (a0 : List Int) (a1 : A8) (K : Bool → Prop) : Prop :=
  forN (fun i21 (s22 : Unit) next23 => (if (i21 : Int) < (a0.length : Int) then ((0 ≤ (i21 : Int) ∧ (i21 : Int) < (a0.length : Int)) ∧ (if Int.tmod (a0.getD i21 default) 2 = 1 then (if a1.get i21 > 1 then K false else next23 ()) else (if a1.get i21 > 20 then K false else next23 ()))) else (if a1.get i21 > 0 then K false else next23 ()))) (fun (s22 : Unit) => K true) 8 0 ()
theorem c_impl_isMonomial (a0 : List Int) (a1 : A8) {u0_0 : Value} {fp0 : List Nat} {K : Bool → Prop} (h : f_impl_isMonomial a0 a1 K) (w0 : World) (q0 : ((EI .i64).ty.sl).rep a0 [u0_0] fp0 w0) :
    Calls Try.prog 91 #[u0_0, .agg (List.toArray (A8.enc .u8 a1))] w0 fun e w' => ∃ (r0 : Bool), 
      e = .returned (.bool r0) ∧ K r0 ∧ Bel w0 w' := by
  unfold f_impl_isMonomial at h
  refine calls_of (args := [u0_0, .agg (List.toArray (A8.enc .u8 a1))]) Try.func91 rfl 27 Try.ntmps91 (Nat.le_of_ble_eq_true rfl) ?_
  have hC := Ctx.start (X := Nox) w0 [Ty.item ((EI .i64).ty.sl) a0 [u0_0] fp0] (by simp only [List.mem_cons, List.not_mem_nil, or_false, forall_eq_or_imp, forall_eq]; exact q0)
  refine wp_seq ?_
  refine cw_region ?_
  refine s_box (v := .agg (List.toArray (A8.enc .u8 a1))) hC (A8.enc .u8 a1) rfl rfl fun b2 w4 hB_ hC => ?_
  refine s_as (v := .bool false) rfl ?_
  refine done ?_
  refine then_norm ?_
  refine wp_seq ?_
  refine wp_seq ?_
  refine cw_region ?_
  refine s_loadA hC 0 (A8.enc .u8 a1) rfl ag84 rfl rfl rfl ?_
  refine s_mv (v := .int .i64 0) rfl ?_
  refine done ?_
  refine then_norm ?_
  refine wp_block ?_
  refine loopN (S := Unit) _ _ (fun i21 s22 e_ w_ => e_ 0 = u0_0 ∧ e_ 4 = .bool false ∧ e_ 8 = .agg (List.toArray (A8.enc .u8 a1)) ∧ e_ 9 = .int .i64 (i21 : Int) ∧ Ctx Nox w0 w_ [] [Ty.item ((EI .i64).ty.sl) a0 [u0_0] fp0]) 8 ?_ ?_ (s0 := ()) ?_ h
  · clear hC h
    rintro i21 s22 e_ w27 next23 K24 hi26 ⟨h0_, h4_, h8_, h9_, hC⟩ h hK25
    refine wp_seq ?_
    refine cw_region ?_
    refine s_lss h9_ rfl ?_
    refine done ?_
    refine then_norm ?_
    refine wp_seq ?_
    refine cw_true rfl (decide_eq_true (by omega)) ?_
    refine wp_skip ?_
    refine then_norm ?_
    refine wp_seq ?_
    refine wp_block ?_
    refine wp_seq ?_
    refine cw_region ?_
    refine s_mv (v := .int .i64 (i21 : Int)) h9_ ?_
    refine s_index (.int .u8 (a1.get i21)) Try.underlying84 h8_ h9_ (Int.natCast_nonneg _) (by omega) sc5 (A8.enc_get _ _ hi26) ?_
    refine s_as (v := .int .i64 (i21 : Int)) rfl ?_
    refine s_as (v := .int .u8 (a1.get i21)) rfl ?_
    refine done ?_
    refine then_norm ?_
    refine wp_seq ?_
    refine cw_region ?_
    refine s_as (v := .int .u8 0) rfl ?_
    refine done ?_
    refine then_norm ?_
    refine wp_seq ?_
    refine wp_seq ?_
    refine cw_region ?_
    refine s_mv (v := .int .i64 (i21 : Int)) rfl ?_
    refine s_mv (v := u0_0) h0_ ?_
    obtain ⟨Ad28, c29, hv30⟩ := sl_len (hC.getP 0 rfl)
    refine s_len Try.underlying22 (tr rfl hv30) ?_
    refine s_lss rfl rfl ?_
    refine done ?_
    refine then_norm ?_
    refine cw_cond rfl (fun hb31 => ?_) (fun hb31 => ?_)
    · replace h := ift h (ct hb31)
      refine wp_seq ?_
      refine cw_region ?_
      refine s_as (v := .int .u8 20) rfl ?_
      refine done ?_
      refine then_norm ?_
      refine wp_seq ?_
      refine cw_region ?_
      refine s_mv (v := u0_0) h0_ ?_
      refine s_mv (v := .int .i64 (i21 : Int)) rfl ?_
      obtain ⟨⟨h0_32, h1_33⟩, h⟩ := h
      obtain ⟨Ad34, c35, hv36⟩ := sl_form (hC.getP 0 rfl) i21 (show i21 < a0.length by omega)
      refine s_iaddrS (len := a0.length) Try.underlying22 sc2.size (tr rfl hv36) rfl h0_32 h1_33 ?_
      refine s_loadCS (.int .i64 (a0.getD i21 default)) (sl_cellsE (hC.getP 0 rfl) hv36 i21 (show i21 < a0.length by omega)) sc2 rfl ?_
      refine s_rem rfl rfl (by decide) ?_
      refine s_eql rfl rfl ?_
      refine done ?_
      refine then_norm ?_
      refine cw_cond rfl (fun hb37 => ?_) (fun hb37 => ?_)
      · replace h := ift h (ct hb37)
        refine cw_region ?_
        refine s_as (v := .int .u8 1) rfl ?_
        refine done ?_
        refine then_norm ?_
        refine wp_seq ?_
        refine cw_region ?_
        refine s_mv (v := .int .u8 (a1.get i21)) rfl ?_
        refine s_mv (v := .int .u8 1) rfl ?_
        refine s_gtr rfl rfl ?_
        refine done ?_
        refine then_norm ?_
        refine cw_cond rfl (fun hb38 => ?_) (fun hb38 => ?_)
        · replace h := ift h (ct hb38)
          refine wp_seq ?_
          refine cw_region ?_
          refine s_as (v := .bool false) rfl ?_
          refine done ?_
          refine then_norm ?_
          refine wp_ret (blk_ret (then_ret (then_ret (blk_ret (then_ret ?_)))))
          refine ret1 (fn := Try.f91) rfl ?_ ⟨false, rfl, h, hC.below⟩ (.inl rfl)
          exact res_tmp rfl
        · replace h := iff_ h (cf hb38)
          refine wp_skip ?_
          refine blk_norm ?_
          refine then_norm ?_
          refine cw_region ?_
          refine s_add h9_ rfl ?_
          refine s_mv (v := .int .i64 (IntKind.i64.wrap ((i21 : Int) + 1))) rfl ?_
          refine done ?_
          exact hK25 () _ _ ⟨h0_, h4_, h8_, (tr rfl (congrArg _ (wrap64_nat hi26 (by decide)))), hC⟩ h
      · replace h := iff_ h (cf hb37)
        refine wp_skip ?_
        refine then_norm ?_
        refine wp_seq ?_
        refine cw_region ?_
        refine s_mv (v := .int .u8 (a1.get i21)) rfl ?_
        refine s_mv (v := .int .u8 20) rfl ?_
        refine s_gtr rfl rfl ?_
        refine done ?_
        refine then_norm ?_
        refine cw_cond rfl (fun hb39 => ?_) (fun hb39 => ?_)
        · replace h := ift h (ct hb39)
          refine wp_seq ?_
          refine cw_region ?_
          refine s_as (v := .bool false) rfl ?_
          refine done ?_
          refine then_norm ?_
          refine wp_ret (blk_ret (then_ret (then_ret (blk_ret (then_ret ?_)))))
          refine ret1 (fn := Try.f91) rfl ?_ ⟨false, rfl, h, hC.below⟩ (.inl rfl)
          exact res_tmp rfl
        · replace h := iff_ h (cf hb39)
          refine wp_skip ?_
          refine blk_norm ?_
          refine then_norm ?_
          refine cw_region ?_
          refine s_add h9_ rfl ?_
          refine s_mv (v := .int .i64 (IntKind.i64.wrap ((i21 : Int) + 1))) rfl ?_
          refine done ?_
          exact hK25 () _ _ ⟨h0_, h4_, h8_, (tr rfl (congrArg _ (wrap64_nat hi26 (by decide)))), hC⟩ h
    · replace h := iff_ h (cf hb31)
      refine wp_skip ?_
      refine then_norm ?_
      refine wp_seq ?_
      refine cw_region ?_
      refine s_mv (v := .int .u8 (a1.get i21)) rfl ?_
      refine s_mv (v := .int .u8 0) rfl ?_
      refine s_gtr rfl rfl ?_
      refine done ?_
      refine then_norm ?_
      refine cw_cond rfl (fun hb40 => ?_) (fun hb40 => ?_)
      · replace h := ift h (ct hb40)
        refine wp_seq ?_
        refine cw_region ?_
        refine s_as (v := .bool false) rfl ?_
        refine done ?_
        refine then_norm ?_
        refine wp_ret (blk_ret (then_ret (then_ret (blk_ret (then_ret ?_)))))
        refine ret1 (fn := Try.f91) rfl ?_ ⟨false, rfl, h, hC.below⟩ (.inl rfl)
        exact res_tmp rfl
      · replace h := iff_ h (cf hb40)
        refine wp_skip ?_
        refine blk_norm ?_
        refine then_norm ?_
        refine cw_region ?_
        refine s_add h9_ rfl ?_
        refine s_mv (v := .int .i64 (IntKind.i64.wrap ((i21 : Int) + 1))) rfl ?_
        refine done ?_
        exact hK25 () _ _ ⟨h0_, h4_, h8_, (tr rfl (congrArg _ (wrap64_nat hi26 (by decide)))), hC⟩ h
  · clear hC h
    rintro s22 e_ w41 K24 ⟨h0_, h4_, h8_, h9_, hC⟩ h
    refine wp_seq ?_
    refine cw_region ?_
    refine s_lss h9_ rfl ?_
    refine done ?_
    refine then_norm ?_
    refine wp_seq ?_
    refine cw_false rfl (decide_eq_false (by omega)) ?_
    refine wp_exit (then_exit (then_exit (exit_in ?_)))
    refine then_norm ?_
    refine wp_seq ?_
    refine cw_region ?_
    refine s_as (v := .bool true) rfl ?_
    refine done ?_
    refine then_norm ?_
    refine wp_ret ?_
    refine ret1 (fn := Try.f91) rfl ?_ ⟨true, rfl, h, hC.below⟩ (.inl rfl)
    exact res_tmp rfl
  · skip
    replace hC := hC.sel [] [0] (M' := []) (Ps' := [Ty.item ((EI .i64).ty.sl) a0 [u0_0] fp0]) (by decide) rfl rfl
    exact ⟨rfl, rfl, rfl, rfl, hC⟩
def f_impl_isFactor (a0 : Int) (K : Bool → Prop) : Prop :=
  f_impl_within a0 1 10006 (fun r4 => K r4)
theorem c_impl_isFactor (a0 : Int)  {K : Bool → Prop} (h : f_impl_isFactor a0 K) (w0 : World)  :
    Calls Try.prog 92 #[.int .i64 a0] w0 fun e w' => ∃ (r0 : Bool), 
      e = .returned (.bool r0) ∧ K r0 ∧ Bel w0 w' := by
  unfold f_impl_isFactor at h
  refine calls_of (args := [.int .i64 a0]) Try.func92 rfl 5 Try.ntmps92 (Nat.le_of_ble_eq_true rfl) ?_
  have hC := Ctx.start (X := Nox) w0 [] (by simp)
  refine wp_seq ?_
  refine cw_region ?_
  refine s_as (v := .bool false) rfl ?_
  refine done ?_
  refine then_norm ?_
  refine wp_seq ?_
  refine cw_region ?_
  refine s_mv (v := .int .i64 a0) rfl ?_
  refine s_call [.int .i64 a0, .int .i64 1, .int .i64 10006] _ Try.func94 rfl rfl rfl (c_impl_within a0 1 10006 h _) (fun ret1 w3 hR2 => ?_)
  obtain ⟨r4, rfl, h, hB5⟩ := hR2
  refine ⟨_, rfl, ?_⟩
  replace hC := hC.grow hB5
  refine s_as (v := .bool r4) rfl ?_
  refine done ?_
  refine then_norm ?_
  refine wp_ret ?_
  refine ret1 (fn := Try.f92) rfl ?_ ⟨r4, rfl, h, hC.below⟩ (.inl rfl)
  exact res_tmp rfl
def f_impl_isForm (a0 : List Int) (a1 : Vc.Form) (K : Bool → Prop) : Prop :=
  (if (a1.terms.length : Int) > 400 then K false else forN (fun i62 (s63 : Unit) next65 => f_impl_isMonomial a0 ((a1.terms.getD i62 default).mono) (fun r80 => (if ¬ (r80 = true) then K false else f_impl_isFactor ((a1.terms.getD i62 default).factor) (fun r86 => (if ¬ (r86 = true) then K false else (if (i62 : Int) > 0 then ((0 ≤ IntKind.i64.wrap ((i62 : Int) - 1) ∧ IntKind.i64.wrap ((i62 : Int) - 1) < (a1.terms.length : Int)) ∧ f_impl_powerOf ((a1.terms.getD ((IntKind.i64.wrap ((i62 : Int) - 1)).toNat) default).mono) (fun r101 => f_impl_powerOf ((a1.terms.getD i62 default).mono) (fun r106 => f_impl_power_compare r101 r106 (fun r111 => (if r111 ≥ 0 then K false else next65 ()))))) else next65 ())))))) (fun (s63 : Unit) => K true) a1.terms.length 0 ())
theorem c_impl_isForm (a0 : List Int) (a1 : Vc.Form) {u0_0 : Value} {u1_0 : Value} {fp0 : List Nat} {fp1 : List Nat} {K : Bool → Prop} (h : f_impl_isForm a0 a1 K) (w0 : World) (q0 : ((EI .i64).ty.sl).rep a0 [u0_0] fp0 w0) (q1 : TForm.rep a1 [u1_0] fp1 w0) :
    Calls Try.prog 56 #[u0_0, .agg #[u1_0]] w0 fun e w' => ∃ (r0 : Bool), 
      e = .returned (.bool r0) ∧ K r0 ∧ Bel w0 w' := by
  unfold f_impl_isForm at h
  refine calls_of (args := [u0_0, .agg #[u1_0]]) Try.func56 rfl 48 Try.ntmps56 (Nat.le_of_ble_eq_true rfl) ?_
  have hC := Ctx.start (X := Nox) w0 [Ty.item ((EI .i64).ty.sl) a0 [u0_0] fp0, Ty.item TForm a1 [u1_0] fp1] (by simp only [List.mem_cons, List.not_mem_nil, or_false, forall_eq_or_imp, forall_eq]; exact ⟨q0, q1⟩)
  have hp3 := (hC.getP 1 rfl)
  replace hC := hC.derive 1 rfl (Ty.item ETerm.ty.sl a1.terms [u1_0] fp1) (fun _ => (form_parts hp3)) (fun _ hb_ => hb_)
  refine wp_seq ?_
  refine cw_region ?_
  refine s_box (v := .agg #[u1_0]) hC [u1_0] rfl rfl fun b5 w7 hB_ hC => ?_
  refine s_as (v := .bool false) rfl ?_
  refine done ?_
  refine then_norm ?_
  refine wp_seq ?_
  refine wp_seq ?_
  refine cw_region ?_
  refine s_faddrB 0 Try.underlying46 rfl sc44.size rfl rfl ?_
  refine s_loadS hC 0 (u1_0) rfl sc44 rfl rfl ?_
  obtain ⟨Ad8, c9, hv10⟩ := sl_len (hC.getP 0 rfl)
  refine s_len Try.underlying44 (tr rfl hv10) ?_
  refine s_gtr rfl rfl ?_
  refine done ?_
  refine then_norm ?_
  refine cw_cond rfl (fun hb11 => ?_) (fun hb11 => ?_)
  · replace h := ift h (ct hb11)
    refine wp_seq ?_
    refine cw_region ?_
    refine s_as (v := .bool false) rfl ?_
    refine done ?_
    refine then_norm ?_
    refine wp_ret (then_ret ?_)
    refine ret1 (fn := Try.f56) rfl ?_ ⟨false, rfl, h, hC.below⟩ (.inl rfl)
    exact res_tmp rfl
  · replace h := iff_ h (cf hb11)
    refine wp_skip ?_
    refine then_norm ?_
    refine wp_seq ?_
    refine wp_seq ?_
    refine cw_region ?_
    refine s_faddrB 0 Try.underlying46 rfl sc44.size rfl rfl ?_
    refine s_loadS hC 0 (u1_0) rfl sc44 rfl rfl ?_
    obtain ⟨Ad12, c13, hv14⟩ := sl_len (hC.getP 0 rfl)
    refine s_len Try.underlying44 (tr rfl hv14) ?_
    refine s_mv (v := .int .i64 0) rfl ?_
    refine done ?_
    refine then_norm ?_
    refine wp_block ?_
    have hN64 : a1.terms.length ≤ 9223372036854775807 := sl_max (hC.getP 0 rfl)
    refine loopN (S := Unit) _ _ (fun i62 s63 e_ w_ => e_ 0 = u0_0 ∧ e_ 3 = .pointer (some ⟨b5, 0, none⟩) ∧ e_ 4 = .bool false ∧ e_ 12 = u1_0 ∧ e_ 13 = .int .i64 (a1.terms.length : Int) ∧ e_ 14 = .int .i64 (i62 : Int) ∧ Ctx Nox w0 w_ [blk b5 46 [u1_0]] [Ty.item ETerm.ty.sl a1.terms [u1_0] fp1, Ty.item ((EI .i64).ty.sl) a0 [u0_0] fp0, Ty.item TForm a1 [u1_0] fp1]) a1.terms.length ?_ ?_ (s0 := ()) ?_ h
    · clear hC h
      rintro i62 s63 e_ w69 next65 K66 hi68 ⟨h0_, h3_, h4_, h12_, h13_, h14_, hC⟩ h hK67
      refine wp_seq ?_
      refine cw_region ?_
      refine s_lss h14_ h13_ ?_
      refine done ?_
      refine then_norm ?_
      refine wp_seq ?_
      refine cw_true rfl (decide_eq_true (by omega)) ?_
      refine wp_skip ?_
      refine then_norm ?_
      refine wp_seq ?_
      refine wp_block ?_
      refine wp_seq ?_
      refine cw_region ?_
      refine s_mv (v := .int .i64 (i62 : Int)) h14_ ?_
      obtain ⟨Ad70, c71, hv72⟩ := sl_form (hC.getP 0 rfl) i62 hi68
      refine s_iaddrS (len := a1.terms.length) Try.underlying44 ag86.size (tr h12_ hv72) h14_ (Int.natCast_nonneg _) (Int.ofNat_lt.2 hi68) ?_
      refine s_loadCA (Term.enc (a1.terms.getD i62 default)) (sl_cellsE (hC.getP 0 rfl) hv72 i62 hi68) ag86 rfl rfl ?_
      refine s_alloc hC (Term.enc (⟨A8.zero, 0⟩ : Term)) z86 rfl fun b73 w75 hB_ hC => ?_
      refine s_as (v := .int .i64 (i62 : Int)) rfl ?_
      refine s_store (v := .agg (List.toArray (Term.enc (a1.terms.getD i62 default)))) hC 0 (Term.enc (a1.terms.getD i62 default)) (Term.enc (a1.terms.getD i62 default)) rfl ag86.size rfl rfl rfl rfl rfl (Nat.le_of_ble_eq_true rfl) rfl fun w76 hC => ?_
      refine done ?_
      refine then_norm ?_
      refine wp_seq ?_
      refine wp_seq ?_
      refine cw_region ?_
      refine s_mv (v := u0_0) h0_ ?_
      refine s_faddrB 0 Try.underlying86 rfl ag84.size rfl rfl ?_
      refine s_loadA hC 0 (A8.enc .u8 ((a1.terms.getD i62 default).mono)) rfl ag84 rfl rfl rfl ?_
      refine s_call [u0_0, .agg (List.toArray (A8.enc .u8 ((a1.terms.getD i62 default).mono)))] _ Try.func91 rfl rfl rfl (c_impl_isMonomial a0 ((a1.terms.getD i62 default).mono) h _ (hC.getP 1 rfl)) (fun ret77 w79 hR78 => ?_)
      obtain ⟨r80, rfl, h, hB81⟩ := hR78
      refine ⟨_, rfl, ?_⟩
      replace hC := hC.grow hB81
      refine s_not rfl ?_
      refine s_mv (v := .bool (!r80)) rfl ?_
      refine bsplit (!r80) (fun hb82 => ?_) (fun hb82 => ?_)
      · replace h := ift h (ne_t (not_t hb82))
        refine guardOff (b := true) 5 24 rfl (tr rfl (congrArg _ hb82)) (by decide) ?_
        refine guardOff (b := true) 5 24 rfl (tr rfl (congrArg _ hb82)) (by decide) ?_
        refine guardOff (b := true) 5 24 rfl (tr rfl (congrArg _ hb82)) (by decide) ?_
        refine guardOff (b := true) 5 24 rfl (tr rfl (congrArg _ hb82)) (by decide) ?_
        refine s_pick (v := .bool true) (b := true) (tr rfl (congrArg _ hb82)) rfl ?_
        refine done ?_
        refine then_norm ?_
        refine cw_true rfl rfl ?_
        refine wp_seq ?_
        refine cw_region ?_
        refine s_as (v := .bool false) rfl ?_
        refine done ?_
        refine then_norm ?_
        refine wp_ret (then_ret (blk_ret (then_ret (then_ret (blk_ret (then_ret ?_))))))
        refine ret1 (fn := Try.f56) rfl ?_ ⟨false, rfl, h, hC.below⟩ (.inl rfl)
        exact res_tmp rfl
      · replace h := iff_ h (not_not_intro ((not_f hb82)))
        refine guardOn 5 24 rfl rfl hb82 ?_
        refine s_faddrB 8 Try.underlying86 rfl sc2.size rfl rfl ?_
        refine guardOn 5 24 rfl rfl hb82 ?_
        refine s_loadS hC 0 (.int .i64 ((a1.terms.getD i62 default).factor)) rfl sc2 rfl rfl ?_
        refine guardOn 5 24 rfl rfl hb82 ?_
        refine s_call [.int .i64 ((a1.terms.getD i62 default).factor)] _ Try.func92 rfl rfl rfl (c_impl_isFactor ((a1.terms.getD i62 default).factor) h _) (fun ret83 w85 hR84 => ?_)
        obtain ⟨r86, rfl, h, hB87⟩ := hR84
        refine ⟨_, rfl, ?_⟩
        replace hC := hC.grow hB87
        refine guardOn 5 24 rfl rfl hb82 ?_
        refine s_not rfl ?_
        refine s_pick (v := .bool (!r86)) (b := false) (tr rfl (congrArg _ hb82)) rfl ?_
        refine done ?_
        refine then_norm ?_
        refine cw_cond rfl (fun hb88 => ?_) (fun hb88 => ?_)
        · replace h := ift h (ne_t (not_t hb88))
          refine wp_seq ?_
          refine cw_region ?_
          refine s_as (v := .bool false) rfl ?_
          refine done ?_
          refine then_norm ?_
          refine wp_ret (then_ret (blk_ret (then_ret (then_ret (blk_ret (then_ret ?_))))))
          refine ret1 (fn := Try.f56) rfl ?_ ⟨false, rfl, h, hC.below⟩ (.inl rfl)
          exact res_tmp rfl
        · replace h := iff_ h (not_not_intro ((not_f hb88)))
          refine wp_skip ?_
          refine then_norm ?_
          refine wp_seq ?_
          refine cw_draw 13 mixed [0, 1, 3, 7, 15, 7, 39, 127, 255, 511, 1023, 7, 2055, 8191, 16383, 32767, 65535] [4, 7, 9, 12] [0, 1, 2, 3, 4, 5, 6, 7, 8, 9, 10, 11, 12] (by kernel_rfl) (by kernel_rfl) (by kernel_rfl) (fun hM90 hM91 w89 hB_ => ?_)
          replace hC := hC.grow hB_
          refine ae_lookF belPre 0 (.int .i64 (i62 : Int)) rfl rfl (by kernel_rfl) (hM91 0 rfl) (fun w_ => .inl ⟨rfl, by exact r_mv (v := .int .i64 (i62 : Int)) rfl⟩) (listed' := (List.toArray [true, false, false, false, false, false, false, false, false, false, false, false, false, false, false, false, false])) rfl ?_
          refine ae_lookF belPre 1 (.bool (decide ((i62 : Int) > 0))) rfl rfl (by kernel_rfl) (hM91 1 rfl) (fun w_ => .inl ⟨rfl, by exact r_gtr rfl rfl⟩) (listed' := (List.toArray [true, true, false, false, false, false, false, false, false, false, false, false, false, false, false, false, false])) rfl ?_
          refine ae_lookF belPre 2 (.bool (decide ((i62 : Int) > 0))) rfl rfl (by kernel_rfl) (hM91 2 rfl) (fun w_ => .inl ⟨rfl, by exact r_mv (v := .bool (decide ((i62 : Int) > 0))) rfl⟩) (listed' := (List.toArray [true, true, true, false, false, false, false, false, false, false, false, false, false, false, false, false, false])) rfl ?_
          refine bsplit (decide ((i62 : Int) > 0)) (fun hb92 => ?_) (fun hb92 => ?_)
          · replace h := ift h (ct hb92)
            refine ae_lookF belPre 3 (.pointer (some ⟨b5, 0, none⟩)) rfl rfl (by kernel_rfl) (hM91 3 rfl) (fun w_ => .inl ⟨wanted_on 2 32 rfl rfl hb92, by exact r_faddrB 0 Try.underlying46 rfl sc44.size h3_ rfl⟩) (listed' := (List.toArray [true, true, true, true, false, false, false, false, false, false, false, false, false, false, false, false, false])) rfl ?_
            refine ae_look belPre 4 (u1_0) rfl rfl (by kernel_rfl) (hM90 4 rfl) (fun w_ hB_ => .inl ⟨wanted_on 2 32 rfl rfl hb92, by exact r_loadS (hC.grow hB_) 1 (u1_0) rfl sc44 rfl rfl⟩) (listed' := (List.toArray [true, true, true, true, true, false, false, false, false, false, false, false, false, false, false, false, false])) rfl ?_
            refine ae_lookF belPre 5 (.int .i64 (i62 : Int)) rfl rfl (by kernel_rfl) (hM91 5 rfl) (fun w_ => .inl ⟨wanted_on 2 32 rfl rfl hb92, by exact r_mv (v := .int .i64 (i62 : Int)) rfl⟩) (listed' := (List.toArray [true, true, true, true, true, true, false, false, false, false, false, false, false, false, false, false, false])) rfl ?_
            refine ae_lookF belPre 6 (.int .i64 (IntKind.i64.wrap ((i62 : Int) - 1))) rfl rfl (by kernel_rfl) (hM91 6 rfl) (fun w_ => .inl ⟨wanted_on 2 32 rfl rfl hb92, by exact r_sub rfl rfl⟩) (listed' := (List.toArray [true, true, true, true, true, true, true, false, false, false, false, false, false, false, false, false, false])) rfl ?_
            obtain ⟨⟨h0_93, h1_94⟩, h⟩ := h
            obtain ⟨Ad95, c96, hv97⟩ := sl_form (hC.getP 0 rfl) ((IntKind.i64.wrap ((i62 : Int) - 1)).toNat) (show (IntKind.i64.wrap ((i62 : Int) - 1)).toNat < a1.terms.length by omega)
            refine ae_look belPre 7 (.pointer (some (Ad95.add ((IntKind.i64.wrap ((i62 : Int) - 1)).toNat * 9)))) rfl rfl (by kernel_rfl) (hM90 7 rfl) (fun w_ hB_ => .inl ⟨wanted_on 2 32 rfl rfl hb92, by exact r_iaddrS (len := a1.terms.length) Try.underlying44 ag86.size (by exact tr rfl hv97) rfl h0_93 h1_94⟩) (listed' := (List.toArray [true, true, true, true, true, true, true, true, false, false, false, false, false, false, false, false, false])) rfl ?_
            refine ae_lookF belPre 8 (.pointer (some (Ad95.add ((IntKind.i64.wrap ((i62 : Int) - 1)).toNat * 9 + 0)))) rfl rfl (by kernel_rfl) (hM91 8 rfl) (fun w_ => .inl ⟨wanted_on 2 32 rfl rfl hb92, by exact r_faddrS ((IntKind.i64.wrap ((i62 : Int) - 1)).toNat * 9 + 0) Try.underlying86 rfl ag84.size rfl rfl⟩) (listed' := (List.toArray [true, true, true, true, true, true, true, true, true, false, false, false, false, false, false, false, false])) rfl ?_
            refine ae_look belPre 9 (.agg (List.toArray (A8.enc .u8 ((a1.terms.getD ((IntKind.i64.wrap ((i62 : Int) - 1)).toNat) default).mono)))) rfl rfl (by kernel_rfl) (hM90 9 rfl) (fun w_ hB_ => .inl ⟨wanted_on 2 32 rfl rfl hb92, by exact r_loadCA (A8.enc .u8 ((a1.terms.getD ((IntKind.i64.wrap ((i62 : Int) - 1)).toNat) default).mono)) (cells_subS (o := 0) (k := 8) (sl_cellsE ((hC.grow hB_).getP 0 rfl) hv97 ((IntKind.i64.wrap ((i62 : Int) - 1)).toNat) (show (IntKind.i64.wrap ((i62 : Int) - 1)).toNat < a1.terms.length by omega)) rfl) ag84 rfl rfl⟩) (listed' := (List.toArray [true, true, true, true, true, true, true, true, true, true, false, false, false, false, false, false, false])) rfl ?_
            refine ae_lookF belPre 11 (.pointer (some ⟨b73, 0, none⟩)) rfl rfl (by kernel_rfl) (hM91 11 rfl) (fun w_ => .inl ⟨wanted_on 2 32 rfl rfl hb92, by exact r_faddrB 0 Try.underlying86 rfl ag84.size rfl rfl⟩) (listed' := (List.toArray [true, true, true, true, true, true, true, true, true, true, false, true, false, false, false, false, false])) rfl ?_
            refine ae_look belPre 12 (.agg (List.toArray (A8.enc .u8 ((a1.terms.getD i62 default).mono)))) rfl rfl (by kernel_rfl) (hM90 12 rfl) (fun w_ hB_ => .inl ⟨wanted_on 2 32 rfl rfl hb92, by exact r_loadA (hC.grow hB_) 0 (A8.enc .u8 ((a1.terms.getD i62 default).mono)) rfl ag84 rfl rfl rfl⟩) (listed' := (List.toArray [true, true, true, true, true, true, true, true, true, true, false, true, true, false, false, false, false])) rfl ?_
            refine ae_one 10 rfl (by kernel_rfl) ?_
            refine guardOn 2 32 rfl rfl hb92 ?_
            refine s_call [.agg (List.toArray (A8.enc .u8 ((a1.terms.getD ((IntKind.i64.wrap ((i62 : Int) - 1)).toNat) default).mono)))] _ Try.func64 rfl rfl rfl (c_impl_powerOf ((a1.terms.getD ((IntKind.i64.wrap ((i62 : Int) - 1)).toNat) default).mono) h _) (fun ret98 w100 hR99 => ?_)
            obtain ⟨r101, rfl, h, hB102⟩ := hR99
            refine ⟨_, rfl, ?_⟩
            replace hC := hC.grow hB102
            refine done ?_
            refine ak_intro (by assumption) (listed' := (List.toArray [true, true, true, true, true, true, true, true, true, true, true, true, true, false, false, false, false])) rfl ?_
            refine ae_tail 13 (by decide) (by decide) (by kernel_rfl) rfl rfl ?_
            refine guardOn 2 32 rfl rfl hb92 ?_
            refine s_call [.agg (List.toArray (A8.enc .u8 ((a1.terms.getD i62 default).mono)))] _ Try.func64 rfl rfl rfl (c_impl_powerOf ((a1.terms.getD i62 default).mono) h _) (fun ret103 w105 hR104 => ?_)
            obtain ⟨r106, rfl, h, hB107⟩ := hR104
            refine ⟨_, rfl, ?_⟩
            replace hC := hC.grow hB107
            refine guardOn 2 32 rfl rfl hb92 ?_
            refine s_call [.agg (List.toArray (A8.enc .i64 r101)), .agg (List.toArray (A8.enc .i64 r106))] _ Try.func93 rfl rfl rfl (c_impl_power_compare r101 r106 h _) (fun ret108 w110 hR109 => ?_)
            obtain ⟨r111, rfl, h, hB112⟩ := hR109
            refine ⟨_, rfl, ?_⟩
            replace hC := hC.grow hB112
            refine guardOn 2 32 rfl rfl hb92 ?_
            refine s_geq rfl rfl ?_
            refine s_pick (v := .bool (decide (r111 ≥ 0))) (b := true) (tr rfl (congrArg _ hb92)) rfl ?_
            refine done ?_
            refine qn_norm ?_
            refine then_norm ?_
            refine cw_cond rfl (fun hb113 => ?_) (fun hb113 => ?_)
            · replace h := ift h (ct hb113)
              refine wp_seq ?_
              refine cw_region ?_
              refine s_as (v := .bool false) rfl ?_
              refine done ?_
              refine then_norm ?_
              refine wp_ret (blk_ret (then_ret (then_ret (blk_ret (then_ret ?_)))))
              refine ret1 (fn := Try.f56) rfl ?_ ⟨false, rfl, h, hC.below⟩ (.inl rfl)
              exact res_tmp rfl
            · replace h := iff_ h (cf hb113)
              refine wp_skip ?_
              refine blk_norm ?_
              refine then_norm ?_
              refine cw_region ?_
              refine s_add h14_ rfl ?_
              refine s_mv (v := .int .i64 (IntKind.i64.wrap ((i62 : Int) + 1))) rfl ?_
              refine done ?_
              replace hC := hC.sel [1] [0, 1, 2] (M' := [blk b5 46 [u1_0]]) (Ps' := [Ty.item ETerm.ty.sl a1.terms [u1_0] fp1, Ty.item ((EI .i64).ty.sl) a0 [u0_0] fp0, Ty.item TForm a1 [u1_0] fp1]) (by decide) rfl rfl
              exact hK67 () _ _ ⟨h0_, h3_, h4_, h12_, h13_, (tr rfl (congrArg _ (wrap64_nat hi68 hN64))), hC⟩ h
          · replace h := iff_ h (cf hb92)
            refine ae_lookF belPre 3 undef rfl rfl (by kernel_rfl) (hM91 3 rfl) (fun w_ => .inr ⟨wanted_off (b := false) 2 32 rfl (tr rfl (congrArg _ hb92)) (by decide), rfl⟩) (listed' := (List.toArray [true, true, true, true, false, false, false, false, false, false, false, false, false, false, false, false, false])) rfl ?_
            refine ae_lookF belPre 4 undef rfl rfl (by kernel_rfl) (hM91 4 rfl) (fun w_ => .inr ⟨wanted_off (b := false) 2 32 rfl (tr rfl (congrArg _ hb92)) (by decide), rfl⟩) (listed' := (List.toArray [true, true, true, true, true, false, false, false, false, false, false, false, false, false, false, false, false])) rfl ?_
            refine ae_lookF belPre 5 undef rfl rfl (by kernel_rfl) (hM91 5 rfl) (fun w_ => .inr ⟨wanted_off (b := false) 2 32 rfl (tr rfl (congrArg _ hb92)) (by decide), rfl⟩) (listed' := (List.toArray [true, true, true, true, true, true, false, false, false, false, false, false, false, false, false, false, false])) rfl ?_
            refine ae_lookF belPre 6 undef rfl rfl (by kernel_rfl) (hM91 6 rfl) (fun w_ => .inr ⟨wanted_off (b := false) 2 32 rfl (tr rfl (congrArg _ hb92)) (by decide), rfl⟩) (listed' := (List.toArray [true, true, true, true, true, true, true, false, false, false, false, false, false, false, false, false, false])) rfl ?_
            refine ae_lookF belPre 7 undef rfl rfl (by kernel_rfl) (hM91 7 rfl) (fun w_ => .inr ⟨wanted_off (b := false) 2 32 rfl (tr rfl (congrArg _ hb92)) (by decide), rfl⟩) (listed' := (List.toArray [true, true, true, true, true, true, true, true, false, false, false, false, false, false, false, false, false])) rfl ?_
            refine ae_lookF belPre 8 undef rfl rfl (by kernel_rfl) (hM91 8 rfl) (fun w_ => .inr ⟨wanted_off (b := false) 2 32 rfl (tr rfl (congrArg _ hb92)) (by decide), rfl⟩) (listed' := (List.toArray [true, true, true, true, true, true, true, true, true, false, false, false, false, false, false, false, false])) rfl ?_
            refine ae_lookF belPre 9 undef rfl rfl (by kernel_rfl) (hM91 9 rfl) (fun w_ => .inr ⟨wanted_off (b := false) 2 32 rfl (tr rfl (congrArg _ hb92)) (by decide), rfl⟩) (listed' := (List.toArray [true, true, true, true, true, true, true, true, true, true, false, false, false, false, false, false, false])) rfl ?_
            refine ae_lookF belPre 10 undef rfl rfl (by kernel_rfl) (hM91 10 rfl) (fun w_ => .inr ⟨wanted_off (b := false) 2 32 rfl (tr rfl (congrArg _ hb92)) (by decide), rfl⟩) (listed' := (List.toArray [true, true, true, true, true, true, true, true, true, true, true, false, false, false, false, false, false])) rfl ?_
            refine ae_lookF belPre 11 undef rfl rfl (by kernel_rfl) (hM91 11 rfl) (fun w_ => .inr ⟨wanted_off (b := false) 2 32 rfl (tr rfl (congrArg _ hb92)) (by decide), rfl⟩) (listed' := (List.toArray [true, true, true, true, true, true, true, true, true, true, true, true, false, false, false, false, false])) rfl ?_
            refine ae_lookF belPre 12 undef rfl rfl (by kernel_rfl) (hM91 12 rfl) (fun w_ => .inr ⟨wanted_off (b := false) 2 32 rfl (tr rfl (congrArg _ hb92)) (by decide), rfl⟩) (listed' := (List.toArray [true, true, true, true, true, true, true, true, true, true, true, true, true, false, false, false, false])) rfl ?_
            refine ae_tail 13 (by decide) (by decide) (by kernel_rfl) rfl rfl ?_
            refine guardOff (b := false) 2 32 rfl (tr rfl (congrArg _ hb92)) (by decide) ?_
            refine guardOff (b := false) 2 32 rfl (tr rfl (congrArg _ hb92)) (by decide) ?_
            refine guardOff (b := false) 2 32 rfl (tr rfl (congrArg _ hb92)) (by decide) ?_
            refine s_pick (v := .bool false) (b := false) (tr rfl (congrArg _ hb92)) rfl ?_
            refine done ?_
            refine qn_norm ?_
            refine then_norm ?_
            refine cw_false rfl rfl ?_
            refine wp_skip ?_
            refine blk_norm ?_
            refine then_norm ?_
            refine cw_region ?_
            refine s_add h14_ rfl ?_
            refine s_mv (v := .int .i64 (IntKind.i64.wrap ((i62 : Int) + 1))) rfl ?_
            refine done ?_
            replace hC := hC.sel [1] [0, 1, 2] (M' := [blk b5 46 [u1_0]]) (Ps' := [Ty.item ETerm.ty.sl a1.terms [u1_0] fp1, Ty.item ((EI .i64).ty.sl) a0 [u0_0] fp0, Ty.item TForm a1 [u1_0] fp1]) (by decide) rfl rfl
            exact hK67 () _ _ ⟨h0_, h3_, h4_, h12_, h13_, (tr rfl (congrArg _ (wrap64_nat hi68 hN64))), hC⟩ h
    · clear hC h
      rintro s63 e_ w114 K66 ⟨h0_, h3_, h4_, h12_, h13_, h14_, hC⟩ h
      refine wp_seq ?_
      refine cw_region ?_
      refine s_lss h14_ h13_ ?_
      refine done ?_
      refine then_norm ?_
      refine wp_seq ?_
      refine cw_false rfl (decide_eq_false (by omega)) ?_
      refine wp_exit (then_exit (then_exit (exit_in ?_)))
      refine then_norm ?_
      refine wp_seq ?_
      refine cw_region ?_
      refine s_as (v := .bool true) rfl ?_
      refine done ?_
      refine then_norm ?_
      refine wp_ret ?_
      refine ret1 (fn := Try.f56) rfl ?_ ⟨true, rfl, h, hC.below⟩ (.inl rfl)
      exact res_tmp rfl
    · skip
      exact ⟨rfl, rfl, rfl, rfl, rfl, rfl, hC⟩
def f_impl_power_degree (a0 : A8) (a1 : List Int) (K : Int → Prop) : Prop :=
  forN (fun i24 (s25 : Int) next27 => ((0 ≤ (i24 : Int) ∧ (i24 : Int) < 8) ∧ next27 (IntKind.i64.wrap (s25 + (IntKind.i64.wrap ((a1.getD i24 default) * (a0.get i24))))))) (fun (s25 : Int) => K s25) a1.length 0 0
theorem c_impl_power_degree (a0 : A8) (a1 : List Int) {u1_0 : Value} {fp1 : List Nat} {K : Int → Prop} (h : f_impl_power_degree a0 a1 K) (w0 : World) (q1 : ((EI .i64).ty.sl).rep a1 [u1_0] fp1 w0) :
    Calls Try.prog 130 #[.agg (List.toArray (A8.enc .i64 a0)), u1_0] w0 fun e w' => ∃ (r0 : Int), 
      e = .returned (.int .i64 r0) ∧ K r0 ∧ Bel w0 w' := by
  unfold f_impl_power_degree at h
  refine calls_of (args := [.agg (List.toArray (A8.enc .i64 a0)), u1_0]) Try.func130 rfl 24 Try.ntmps130 (Nat.le_of_ble_eq_true rfl) ?_
  have hC := Ctx.start (X := Nox) w0 [Ty.item ((EI .i64).ty.sl) a1 [u1_0] fp1] (by simp only [List.mem_cons, List.not_mem_nil, or_false, forall_eq_or_imp, forall_eq]; exact q1)
  refine wp_seq ?_
  refine cw_region ?_
  refine s_box (v := .agg (List.toArray (A8.enc .i64 a0))) hC (A8.enc .i64 a0) rfl rfl fun b2 w4 hB_ hC => ?_
  refine s_as (v := .int .i64 0) rfl ?_
  refine done ?_
  refine then_norm ?_
  refine wp_seq ?_
  refine cw_region ?_
  refine s_as (v := .int .i64 0) rfl ?_
  refine done ?_
  refine then_norm ?_
  refine wp_seq ?_
  refine wp_seq ?_
  refine cw_region ?_
  refine s_mv (v := u1_0) rfl ?_
  obtain ⟨Ad5, c6, hv7⟩ := sl_len (hC.getP 0 rfl)
  refine s_len Try.underlying22 (tr rfl hv7) ?_
  refine s_mv (v := .int .i64 0) rfl ?_
  refine done ?_
  refine then_norm ?_
  refine wp_block ?_
  have hN26 : a1.length ≤ 9223372036854775807 := sl_max (hC.getP 0 rfl)
  refine loopN (S := Int) _ _ (fun i24 s25 e_ w_ => e_ 2 = .pointer (some ⟨b2, 0, none⟩) ∧ e_ 4 = .int .i64 0 ∧ e_ 5 = .int .i64 s25 ∧ e_ 8 = u1_0 ∧ e_ 9 = .int .i64 (a1.length : Int) ∧ e_ 10 = .int .i64 (i24 : Int) ∧ Ctx Nox w0 w_ [blk b2 94 (A8.enc .i64 a0)] [Ty.item ((EI .i64).ty.sl) a1 [u1_0] fp1]) a1.length ?_ ?_ (s0 := 0) ?_ h
  · clear hC h
    rintro i24 s25 e_ w31 next27 K28 hi30 ⟨h2_, h4_, h5_, h8_, h9_, h10_, hC⟩ h hK29
    refine wp_seq ?_
    refine cw_region ?_
    refine s_lss h10_ h9_ ?_
    refine done ?_
    refine then_norm ?_
    refine wp_seq ?_
    refine cw_true rfl (decide_eq_true (by omega)) ?_
    refine wp_skip ?_
    refine then_norm ?_
    refine wp_seq ?_
    refine wp_block ?_
    refine wp_seq ?_
    refine cw_region ?_
    refine s_mv (v := .int .i64 (i24 : Int)) h10_ ?_
    obtain ⟨Ad32, c33, hv34⟩ := sl_form (hC.getP 0 rfl) i24 hi30
    refine s_iaddrS (len := a1.length) Try.underlying22 sc2.size (tr h8_ hv34) h10_ (Int.natCast_nonneg _) (Int.ofNat_lt.2 hi30) ?_
    refine s_loadCS (.int .i64 (a1.getD i24 default)) (sl_cellsE (hC.getP 0 rfl) hv34 i24 hi30) sc2 rfl ?_
    refine s_as (v := .int .i64 (i24 : Int)) rfl ?_
    refine s_as (v := .int .i64 (a1.getD i24 default)) rfl ?_
    refine done ?_
    refine then_norm ?_
    refine cw_region ?_
    refine s_mv (v := .int .i64 s25) h5_ ?_
    refine s_mv (v := .int .i64 (a1.getD i24 default)) rfl ?_
    refine s_mv (v := .int .i64 (i24 : Int)) rfl ?_
    obtain ⟨⟨h0_35, h1_36⟩, h⟩ := h
    refine s_iaddrB i24 Try.underlying94 sc3.size h2_ rfl h0_35 h1_36 (by omega) ?_
    refine s_loadS hC 0 (.int .i64 (a0.get i24)) rfl sc3 rfl (A8.enc_get _ _ (show i24 < 8 by omega)) ?_
    refine s_mul rfl rfl ?_
    refine s_add rfl rfl ?_
    refine s_as (v := .int .i64 (IntKind.i64.wrap (s25 + (IntKind.i64.wrap ((a1.getD i24 default) * (a0.get i24)))))) rfl ?_
    refine done ?_
    refine blk_norm ?_
    refine then_norm ?_
    refine cw_region ?_
    refine s_add h10_ rfl ?_
    refine s_mv (v := .int .i64 (IntKind.i64.wrap ((i24 : Int) + 1))) rfl ?_
    refine done ?_
    exact hK29 (IntKind.i64.wrap (s25 + (IntKind.i64.wrap ((a1.getD i24 default) * (a0.get i24))))) _ _ ⟨h2_, h4_, rfl, h8_, h9_, (tr rfl (congrArg _ (wrap64_nat hi30 hN26))), hC⟩ h
  · clear hC h
    rintro s25 e_ w37 K28 ⟨h2_, h4_, h5_, h8_, h9_, h10_, hC⟩ h
    refine wp_seq ?_
    refine cw_region ?_
    refine s_lss h10_ h9_ ?_
    refine done ?_
    refine then_norm ?_
    refine wp_seq ?_
    refine cw_false rfl (decide_eq_false (by omega)) ?_
    refine wp_exit (then_exit (then_exit (exit_in ?_)))
    refine then_norm ?_
    refine wp_seq ?_
    refine cw_region ?_
    refine s_mv (v := .int .i64 s25) h5_ ?_
    refine s_as (v := .int .i64 s25) rfl ?_
    refine done ?_
    refine then_norm ?_
    refine wp_ret ?_
    refine ret1 (fn := Try.f130) rfl ?_ ⟨s25, rfl, h, hC.below⟩ (.inl rfl)
    exact res_tmp rfl
  · skip
    exact ⟨rfl, rfl, rfl, rfl, rfl, rfl, hC⟩
def f_impl_degreeOf (a0 : List Int) (a1 : Vc.Form) (K : Int → Bool → Prop) : Prop :=
  forN (fun i55 (s56 : Int) next58 => f_impl_powerOf ((a1.terms.getD i55 default).mono) (fun r73 => f_impl_power_degree r73 a0 (fun r78 => (if s56 ≥ 0 then (if r78 ≠ s56 then K 0 false else next58 r78) else next58 r78)))) (fun (s56 : Int) => K s56 true) a1.terms.length 0 (-1)
theorem c_impl_degreeOf (a0 : List Int) (a1 : Vc.Form) {u0_0 : Value} {u1_0 : Value} {fp0 : List Nat} {fp1 : List Nat} {K : Int → Bool → Prop} (h : f_impl_degreeOf a0 a1 K) (w0 : World) (q0 : ((EI .i64).ty.sl).rep a0 [u0_0] fp0 w0) (q1 : TForm.rep a1 [u1_0] fp1 w0) :
    Calls Try.prog 116 #[u0_0, .agg #[u1_0]] w0 fun e w' => ∃ (r0 : Int) (r1 : Bool), 
      e = .returned (.tuple #[.int .i64 r0, .bool r1]) ∧ K r0 r1 ∧ Bel w0 w' := by
  unfold f_impl_degreeOf at h
  refine calls_of (args := [u0_0, .agg #[u1_0]]) Try.func116 rfl 32 Try.ntmps116 (Nat.le_of_ble_eq_true rfl) ?_
  have hC := Ctx.start (X := Nox) w0 [Ty.item ((EI .i64).ty.sl) a0 [u0_0] fp0, Ty.item TForm a1 [u1_0] fp1] (by simp only [List.mem_cons, List.not_mem_nil, or_false, forall_eq_or_imp, forall_eq]; exact ⟨q0, q1⟩)
  have hp3 := (hC.getP 1 rfl)
  replace hC := hC.derive 1 rfl (Ty.item ETerm.ty.sl a1.terms [u1_0] fp1) (fun _ => (form_parts hp3)) (fun _ hb_ => hb_)
  refine wp_seq ?_
  refine cw_region ?_
  refine s_box (v := .agg #[u1_0]) hC [u1_0] rfl rfl fun b5 w7 hB_ hC => ?_
  refine s_as (v := .int .i64 0) rfl ?_
  refine s_as (v := .bool false) rfl ?_
  refine done ?_
  refine then_norm ?_
  refine wp_seq ?_
  refine cw_region ?_
  refine s_as (v := .int .i64 (-1)) rfl ?_
  refine done ?_
  refine then_norm ?_
  refine wp_seq ?_
  refine wp_seq ?_
  refine cw_region ?_
  refine s_faddrB 0 Try.underlying46 rfl sc44.size rfl rfl ?_
  refine s_loadS hC 0 (u1_0) rfl sc44 rfl rfl ?_
  obtain ⟨Ad8, c9, hv10⟩ := sl_len (hC.getP 0 rfl)
  refine s_len Try.underlying44 (tr rfl hv10) ?_
  refine s_mv (v := .int .i64 0) rfl ?_
  refine done ?_
  refine then_norm ?_
  refine wp_block ?_
  have hN57 : a1.terms.length ≤ 9223372036854775807 := sl_max (hC.getP 0 rfl)
  refine loopN (S := Int) _ _ (fun i55 s56 e_ w_ => e_ 0 = u0_0 ∧ e_ 4 = .int .i64 0 ∧ e_ 5 = .bool false ∧ e_ 6 = .int .i64 s56 ∧ e_ 11 = u1_0 ∧ e_ 12 = .int .i64 (a1.terms.length : Int) ∧ e_ 13 = .int .i64 (i55 : Int) ∧ Ctx Nox w0 w_ [] [Ty.item ETerm.ty.sl a1.terms [u1_0] fp1, Ty.item ((EI .i64).ty.sl) a0 [u0_0] fp0, Ty.item TForm a1 [u1_0] fp1]) a1.terms.length ?_ ?_ (s0 := (-1)) ?_ h
  · clear hC h
    rintro i55 s56 e_ w62 next58 K59 hi61 ⟨h0_, h4_, h5_, h6_, h11_, h12_, h13_, hC⟩ h hK60
    refine wp_seq ?_
    refine cw_region ?_
    refine s_lss h13_ h12_ ?_
    refine done ?_
    refine then_norm ?_
    refine wp_seq ?_
    refine cw_true rfl (decide_eq_true (by omega)) ?_
    refine wp_skip ?_
    refine then_norm ?_
    refine wp_seq ?_
    refine wp_block ?_
    refine wp_seq ?_
    refine cw_region ?_
    obtain ⟨Ad63, c64, hv65⟩ := sl_form (hC.getP 0 rfl) i55 hi61
    refine s_iaddrS (len := a1.terms.length) Try.underlying44 ag86.size (tr h11_ hv65) h13_ (Int.natCast_nonneg _) (Int.ofNat_lt.2 hi61) ?_
    refine s_loadCA (Term.enc (a1.terms.getD i55 default)) (sl_cellsE (hC.getP 0 rfl) hv65 i55 hi61) ag86 rfl rfl ?_
    refine s_alloc hC (Term.enc (⟨A8.zero, 0⟩ : Term)) z86 rfl fun b66 w68 hB_ hC => ?_
    refine s_store (v := .agg (List.toArray (Term.enc (a1.terms.getD i55 default)))) hC 0 (Term.enc (a1.terms.getD i55 default)) (Term.enc (a1.terms.getD i55 default)) rfl ag86.size rfl rfl rfl rfl rfl (Nat.le_of_ble_eq_true rfl) rfl fun w69 hC => ?_
    refine done ?_
    refine then_norm ?_
    refine wp_seq ?_
    refine cw_region ?_
    refine s_faddrB 0 Try.underlying86 rfl ag84.size rfl rfl ?_
    refine s_loadA hC 0 (A8.enc .u8 ((a1.terms.getD i55 default).mono)) rfl ag84 rfl rfl rfl ?_
    refine s_call [.agg (List.toArray (A8.enc .u8 ((a1.terms.getD i55 default).mono)))] _ Try.func64 rfl rfl rfl (c_impl_powerOf ((a1.terms.getD i55 default).mono) h _) (fun ret70 w72 hR71 => ?_)
    obtain ⟨r73, rfl, h, hB74⟩ := hR71
    refine ⟨_, rfl, ?_⟩
    replace hC := hC.grow hB74
    refine s_mv (v := u0_0) h0_ ?_
    refine s_call [.agg (List.toArray (A8.enc .i64 r73)), u0_0] _ Try.func130 rfl rfl rfl (c_impl_power_degree r73 a0 h _ (hC.getP 1 rfl)) (fun ret75 w77 hR76 => ?_)
    obtain ⟨r78, rfl, h, hB79⟩ := hR76
    refine ⟨_, rfl, ?_⟩
    replace hC := hC.grow hB79
    refine s_as (v := .int .i64 r78) rfl ?_
    refine done ?_
    refine then_norm ?_
    refine wp_seq ?_
    refine wp_seq ?_
    refine cw_region ?_
    refine s_mv (v := .int .i64 s56) h6_ ?_
    refine s_geq rfl rfl ?_
    refine s_mv (v := .bool (decide (s56 ≥ 0))) rfl ?_
    refine bsplit (decide (s56 ≥ 0)) (fun hb80 => ?_) (fun hb80 => ?_)
    · replace h := ift h (ct hb80)
      refine guardOn 2 24 rfl rfl hb80 ?_
      refine s_mv (v := .int .i64 r78) rfl ?_
      refine guardOn 2 24 rfl rfl hb80 ?_
      refine s_mv (v := .int .i64 s56) h6_ ?_
      refine guardOn 2 24 rfl rfl hb80 ?_
      refine s_neq rfl rfl ?_
      refine s_pick (v := .bool (decide (r78 ≠ s56))) (b := true) (tr rfl (congrArg _ hb80)) rfl ?_
      refine done ?_
      refine then_norm ?_
      refine cw_cond rfl (fun hb81 => ?_) (fun hb81 => ?_)
      · replace h := ift h (ct hb81)
        refine wp_seq ?_
        refine cw_region ?_
        refine s_as (v := .int .i64 0) rfl ?_
        refine s_as (v := .bool false) rfl ?_
        refine done ?_
        refine then_norm ?_
        refine wp_ret (then_ret (blk_ret (then_ret (then_ret (blk_ret (then_ret ?_))))))
        refine ret2 (fn := Try.f116) rfl ?_ ?_ ⟨0, false, rfl, h, hC.below⟩ (.inl rfl)
        · exact res_tmp rfl
        · exact res_tmp rfl
      · replace h := iff_ h (cf hb81)
        refine wp_skip ?_
        refine then_norm ?_
        refine cw_region ?_
        refine s_mv (v := .int .i64 r78) rfl ?_
        refine s_as (v := .int .i64 r78) rfl ?_
        refine done ?_
        refine blk_norm ?_
        refine then_norm ?_
        refine cw_region ?_
        refine s_add h13_ rfl ?_
        refine s_mv (v := .int .i64 (IntKind.i64.wrap ((i55 : Int) + 1))) rfl ?_
        refine done ?_
        replace hC := hC.sel [] [0, 1, 2] (M' := []) (Ps' := [Ty.item ETerm.ty.sl a1.terms [u1_0] fp1, Ty.item ((EI .i64).ty.sl) a0 [u0_0] fp0, Ty.item TForm a1 [u1_0] fp1]) (by decide) rfl rfl
        exact hK60 r78 _ _ ⟨h0_, h4_, h5_, rfl, h11_, h12_, (tr rfl (congrArg _ (wrap64_nat hi61 hN57))), hC⟩ h
    · replace h := iff_ h (cf hb80)
      refine guardOff (b := false) 2 24 rfl (tr rfl (congrArg _ hb80)) (by decide) ?_
      refine guardOff (b := false) 2 24 rfl (tr rfl (congrArg _ hb80)) (by decide) ?_
      refine guardOff (b := false) 2 24 rfl (tr rfl (congrArg _ hb80)) (by decide) ?_
      refine s_pick (v := .bool false) (b := false) (tr rfl (congrArg _ hb80)) rfl ?_
      refine done ?_
      refine then_norm ?_
      refine cw_false rfl rfl ?_
      refine wp_skip ?_
      refine then_norm ?_
      refine cw_region ?_
      refine s_mv (v := .int .i64 r78) rfl ?_
      refine s_as (v := .int .i64 r78) rfl ?_
      refine done ?_
      refine blk_norm ?_
      refine then_norm ?_
      refine cw_region ?_
      refine s_add h13_ rfl ?_
      refine s_mv (v := .int .i64 (IntKind.i64.wrap ((i55 : Int) + 1))) rfl ?_
      refine done ?_
      replace hC := hC.sel [] [0, 1, 2] (M' := []) (Ps' := [Ty.item ETerm.ty.sl a1.terms [u1_0] fp1, Ty.item ((EI .i64).ty.sl) a0 [u0_0] fp0, Ty.item TForm a1 [u1_0] fp1]) (by decide) rfl rfl
      exact hK60 r78 _ _ ⟨h0_, h4_, h5_, rfl, h11_, h12_, (tr rfl (congrArg _ (wrap64_nat hi61 hN57))), hC⟩ h
  · clear hC h
    rintro s56 e_ w82 K59 ⟨h0_, h4_, h5_, h6_, h11_, h12_, h13_, hC⟩ h
    refine wp_seq ?_
    refine cw_region ?_
    refine s_lss h13_ h12_ ?_
    refine done ?_
    refine then_norm ?_
    refine wp_seq ?_
    refine cw_false rfl (decide_eq_false (by omega)) ?_
    refine wp_exit (then_exit (then_exit (exit_in ?_)))
    refine then_norm ?_
    refine wp_seq ?_
    refine cw_region ?_
    refine s_mv (v := .int .i64 s56) h6_ ?_
    refine s_as (v := .int .i64 s56) rfl ?_
    refine s_as (v := .bool true) rfl ?_
    refine done ?_
    refine then_norm ?_
    refine wp_ret ?_
    refine ret2 (fn := Try.f116) rfl ?_ ?_ ⟨s56, true, rfl, h, hC.below⟩ (.inl rfl)
    · exact res_tmp rfl
    · exact res_tmp rfl
  · skip
    replace hC := hC.sel [] [0, 1, 2] (M' := []) (Ps' := [Ty.item ETerm.ty.sl a1.terms [u1_0] fp1, Ty.item ((EI .i64).ty.sl) a0 [u0_0] fp0, Ty.item TForm a1 [u1_0] fp1]) (by decide) rfl rfl
    exact ⟨rfl, rfl, rfl, rfl, rfl, rfl, rfl, hC⟩
def f_impl_isOfDegree (a0 : List Int) (a1 : Vc.Form) (a2 : Int) (K : Bool → Prop) : Prop :=
  f_impl_degreeOf a0 a1 (fun r11 r12 => (if r12 = true then (if r11 = (-1) then K true else K (decide (r11 = a2))) else K false))
theorem c_impl_isOfDegree (a0 : List Int) (a1 : Vc.Form) (a2 : Int) {u0_0 : Value} {u1_0 : Value} {fp0 : List Nat} {fp1 : List Nat} {K : Bool → Prop} (h : f_impl_isOfDegree a0 a1 a2 K) (w0 : World) (q0 : ((EI .i64).ty.sl).rep a0 [u0_0] fp0 w0) (q1 : TForm.rep a1 [u1_0] fp1 w0) :
    Calls Try.prog 89 #[u0_0, .agg #[u1_0], .int .i64 a2] w0 fun e w' => ∃ (r0 : Bool), 
      e = .returned (.bool r0) ∧ K r0 ∧ Bel w0 w' := by
  unfold f_impl_isOfDegree at h
  refine calls_of (args := [u0_0, .agg #[u1_0], .int .i64 a2]) Try.func89 rfl 25 Try.ntmps89 (Nat.le_of_ble_eq_true rfl) ?_
  have hC := Ctx.start (X := Nox) w0 [Ty.item ((EI .i64).ty.sl) a0 [u0_0] fp0, Ty.item TForm a1 [u1_0] fp1] (by simp only [List.mem_cons, List.not_mem_nil, or_false, forall_eq_or_imp, forall_eq]; exact ⟨q0, q1⟩)
  have hp3 := (hC.getP 1 rfl)
  replace hC := hC.derive 1 rfl (Ty.item ETerm.ty.sl a1.terms [u1_0] fp1) (fun _ => (form_parts hp3)) (fun _ hb_ => hb_)
  refine wp_seq ?_
  refine cw_region ?_
  refine s_box (v := .agg #[u1_0]) hC [u1_0] rfl rfl fun b5 w7 hB_ hC => ?_
  refine s_as (v := .bool false) rfl ?_
  refine done ?_
  refine then_norm ?_
  refine wp_seq ?_
  refine cw_region ?_
  refine s_mv (v := u0_0) rfl ?_
  refine s_loadA hC 0 [u1_0] rfl ag46 rfl rfl rfl ?_
  refine s_call [u0_0, .agg #[u1_0]] _ Try.func116 rfl rfl rfl (c_impl_degreeOf a0 a1 h _ (hC.getP 1 rfl) (form_mk (hC.getP 0 rfl))) (fun ret8 w10 hR9 => ?_)
  obtain ⟨r11, r12, rfl, h, hB13⟩ := hR9
  refine ⟨_, rfl, ?_⟩
  replace hC := hC.grow hB13
  refine s_mv (v := .tuple #[.int .i64 r11, .bool r12]) rfl ?_
  refine s_ext (v := .int .i64 r11) rfl rfl ?_
  refine s_ext (v := .bool r12) rfl rfl ?_
  refine s_as (v := .int .i64 r11) rfl ?_
  refine s_as (v := .bool r12) rfl ?_
  refine done ?_
  refine then_norm ?_
  refine wp_seq ?_
  refine cw_region ?_
  refine s_mv (v := .bool r12) rfl ?_
  refine s_mv (v := .bool r12) rfl ?_
  refine bsplit r12 (fun hb14 => ?_) (fun hb14 => ?_)
  · replace h := ift h (hb14)
    refine guardOn 1 16 rfl rfl hb14 ?_
    refine s_mv (v := .int .i64 r11) rfl ?_
    refine guardOn 1 16 rfl rfl hb14 ?_
    refine s_eql rfl rfl ?_
    refine guardOn 1 16 rfl rfl hb14 ?_
    refine s_mv (v := .bool (decide (r11 = (-1)))) rfl ?_
    refine bsplit (decide (r11 = (-1))) (fun hb15 => ?_) (fun hb15 => ?_)
    · replace h := ift h (ct hb15)
      refine guardOff (b := true) 4 19 rfl (tr rfl (congrArg _ hb15)) (by decide) ?_
      refine guardOff (b := true) 4 19 rfl (tr rfl (congrArg _ hb15)) (by decide) ?_
      refine guardOff (b := true) 4 19 rfl (tr rfl (congrArg _ hb15)) (by decide) ?_
      refine guardOn 1 16 rfl rfl hb14 ?_
      refine s_pick (v := .bool true) (b := true) (tr rfl (congrArg _ hb15)) rfl ?_
      refine s_pick (v := .bool true) (b := true) (tr rfl (congrArg _ hb14)) rfl ?_
      refine s_as (v := .bool true) rfl ?_
      refine done ?_
      refine then_norm ?_
      refine wp_ret ?_
      refine ret1 (fn := Try.f89) rfl ?_ ⟨true, rfl, h, hC.below⟩ (.inl rfl)
      exact res_tmp rfl
    · replace h := iff_ h (cf hb15)
      refine guardOn 4 19 rfl rfl hb15 ?_
      refine s_mv (v := .int .i64 r11) rfl ?_
      refine guardOn 4 19 rfl rfl hb15 ?_
      refine s_mv (v := .int .i64 a2) rfl ?_
      refine guardOn 4 19 rfl rfl hb15 ?_
      refine s_eql rfl rfl ?_
      refine guardOn 1 16 rfl rfl hb14 ?_
      refine s_pick (v := .bool (decide (r11 = a2))) (b := false) (tr rfl (congrArg _ hb15)) rfl ?_
      refine s_pick (v := .bool (decide (r11 = a2))) (b := true) (tr rfl (congrArg _ hb14)) rfl ?_
      refine s_as (v := .bool (decide (r11 = a2))) rfl ?_
      refine done ?_
      refine then_norm ?_
      refine wp_ret ?_
      refine ret1 (fn := Try.f89) rfl ?_ ⟨decide (r11 = a2), rfl, h, hC.below⟩ (.inl rfl)
      exact res_tmp rfl
  · replace h := iff_ h (ne_t hb14)
    refine guardOff (b := false) 1 16 rfl (tr rfl (congrArg _ hb14)) (by decide) ?_
    refine guardOff (b := false) 1 16 rfl (tr rfl (congrArg _ hb14)) (by decide) ?_
    refine guardOff (b := false) 1 16 rfl (tr rfl (congrArg _ hb14)) (by decide) ?_
    refine guardOffU 4 19 rfl rfl ?_
    refine guardOffU 4 19 rfl rfl ?_
    refine guardOffU 4 19 rfl rfl ?_
    refine guardOff (b := false) 1 16 rfl (tr rfl (congrArg _ hb14)) (by decide) ?_
    refine s_pick (v := .bool false) (b := false) (tr rfl (congrArg _ hb14)) rfl ?_
    refine s_as (v := .bool false) rfl ?_
    refine done ?_
    refine then_norm ?_
    refine wp_ret ?_
    refine ret1 (fn := Try.f89) rfl ?_ ⟨false, rfl, h, hC.below⟩ (.inl rfl)
    exact res_tmp rfl
def f_impl_Algebra_images (a0 : Alg) (K : List (Option (List (A8 × Int))) → Prop) : Prop :=
  forN (fun i100 (s101 : (List (Option (List (A8 × Int))))) next107 => f_impl_sumOf (a0.images.getD i100 default) (fun r128 => ((0 ≤ (i100 : Int) ∧ (i100 : Int) < 8) ∧ next107 (s101.set i100 (some r128))))) (fun (s101 : (List (Option (List (A8 × Int))))) => K s101) a0.images.length 0 (List.replicate 8 none : List (Option (List (A8 × Int))))
theorem c_impl_Algebra_images (a0 : Alg) {b0 : Nat} {u0_0 : Value} {u0_1 : Value} {fp0 : List Nat} {K : List (Option (List (A8 × Int))) → Prop} (h : f_impl_Algebra_images a0 K) (w0 : World) (q0 : TAlg.rep a0 [u0_0, u0_1] fp0 w0) (qb0 : (blk b0 31 [u0_0, u0_1]).holds w0) :
    Calls Try.prog 106 #[.pointer (some ⟨b0, 0, none⟩)] w0 fun e w' => ∃ (r0 : List (Option (List (A8 × Int)))) (zc0 : List Value) (fz0 : List Nat), 
      e = .returned (.agg (List.toArray zc0)) ∧ K r0 ∧ (TMaps (kvA .i64) (vvI .i64) 8).rep r0 zc0 fz0 w' ∧ (∀ b, b ∈ fz0 → w0.heap.size ≤ b) ∧ Bel w0 w' := by
  unfold f_impl_Algebra_images at h
  refine calls_of (args := [.pointer (some ⟨b0, 0, none⟩)]) Try.func106 rfl 23 Try.ntmps106 (Nat.le_of_ble_eq_true rfl) ?_
  have hC := Ctx.start (X := Nox) w0 [Ty.item TAlg a0 [u0_0, u0_1] fp0, blk b0 31 [u0_0, u0_1]] (by simp only [List.mem_cons, List.not_mem_nil, or_false, forall_eq_or_imp, forall_eq]; exact ⟨q0, qb0⟩)
  have hp3 := (hC.getP 0 rfl)
  replace hC := hC.derive 0 rfl (Ty.item ((EI .i64).ty.sl) a0.degrees [u0_0] fp0) (fun _ => (alg_parts hp3).1) (fun _ hb_ => hb_)
  replace hC := hC.derive 1 rfl (Ty.item TForm.sl a0.images [u0_1] fp0) (fun _ => (alg_parts hp3).2) (fun _ hb_ => hb_)
  refine wp_seq ?_
  refine cw_region ?_
  refine s_alloc hC (List.replicate 8 (Value.map none)) z136 rfl fun b6 w8 hB_ hC => ?_
  refine done ?_
  refine then_norm ?_
  refine wp_seq ?_
  refine cw_region ?_
  refine s_build (v := .agg (List.toArray (List.replicate 8 (Value.map none)))) [] rfl (bl136 _) ?_
  refine s_alloc hC (List.replicate 8 (Value.map none)) z136 rfl fun b9 w11 hB_ hC => ?_
  replace hC := hC.pushE (Ty.item (TMaps (kvA .i64) (vvI .i64) 8) (List.replicate 8 none : List (Option (List (A8 × Int)))) (List.replicate 8 (Value.map none)) []) (maps_zero (kvA .i64) (vvI .i64) 8 _) rfl
  replace hC := hC.pushE (Ty.item (TMaps (kvA .i64) (vvI .i64) 8) (List.replicate 8 none : List (Option (List (A8 × Int)))) (List.replicate 8 (Value.map none)) []) (maps_zero (kvA .i64) (vvI .i64) 8 _) rfl
  have hl13 := maps_len (hC.getP 1 rfl)
  have hl15 := maps_len (hC.getP 0 rfl)
  refine s_store (v := .agg (List.toArray (List.replicate 8 (Value.map none)))) hC 0 (List.replicate 8 (Value.map none)) (List.replicate 8 (Value.map none)) rfl ag136.size rfl rfl rfl hl15 (maps_all (hC.getP 0 rfl)) (by rw [hl13]; exact Nat.le_refl _) (splice_all (hl15.trans hl13.symm)) fun w16 hC => ?_
  refine done ?_
  refine then_norm ?_
  refine wp_seq ?_
  refine wp_seq ?_
  refine cw_region ?_
  refine s_mv (v := .pointer (some ⟨b0, 0, none⟩)) rfl ?_
  refine s_nilchk rfl ?_
  refine s_faddrB 1 Try.underlying31 rfl sc29.size rfl rfl ?_
  refine s_loadSh (u0_1) (hC.getP 5 rfl) sc29 rfl rfl ?_
  obtain ⟨Ad17, c18, hv19⟩ := sl_len (hC.getP 2 rfl)
  refine s_len Try.underlying29 (tr rfl hv19) ?_
  refine s_mv (v := .int .i64 0) rfl ?_
  refine done ?_
  refine then_norm ?_
  refine wp_block ?_
  have hN106 : a0.images.length ≤ 9223372036854775807 := sl_max (hC.getP 2 rfl)
  refine loopN (S := (List (Option (List (A8 × Int))))) _ _ (fun i100 s101 e_ w_ => ∃ (v102 : List Value), ∃ (f103 : List Nat), e_ 2 = .pointer (some ⟨b6, 0, none⟩) ∧ e_ 3 = .pointer (some ⟨b9, 0, none⟩) ∧ e_ 10 = u0_1 ∧ e_ 11 = .int .i64 (a0.images.length : Int) ∧ e_ 12 = .int .i64 (i100 : Int) ∧ (∀ b, b ∈ f103 → w0.heap.size ≤ b) ∧ Ctx Nox w0 w_ [blk b9 136 v102, blk b6 136 (List.replicate 8 (Value.map none))] [Ty.item (TMaps (kvA .i64) (vvI .i64) 8) s101 v102 f103, Ty.item TForm.sl a0.images [u0_1] fp0, Ty.item ((EI .i64).ty.sl) a0.degrees [u0_0] fp0, Ty.item TAlg a0 [u0_0, u0_1] fp0, blk b0 31 [u0_0, u0_1]]) a0.images.length ?_ ?_ (s0 := (List.replicate 8 none : List (Option (List (A8 × Int))))) ?_ h
  · clear hC h
    rintro i100 s101 e_ w111 next107 K108 hi110 ⟨v102, f103, h2_, h3_, h10_, h11_, h12_, hq104, hC⟩ h hK109
    refine wp_seq ?_
    refine cw_region ?_
    refine s_lss h12_ h11_ ?_
    refine done ?_
    refine then_norm ?_
    refine wp_seq ?_
    refine cw_true rfl (decide_eq_true (by omega)) ?_
    refine wp_skip ?_
    refine then_norm ?_
    refine wp_seq ?_
    refine wp_block ?_
    refine wp_seq ?_
    refine cw_region ?_
    refine s_mv (v := .int .i64 (i100 : Int)) h12_ ?_
    obtain ⟨Ad112, c113, hv114⟩ := sl_form (hC.getP 1 rfl) i100 hi110
    refine s_iaddrS (len := a0.images.length) Try.underlying29 ag46.size (tr h10_ hv114) h12_ (Int.natCast_nonneg _) (Int.ofNat_lt.2 hi110) ?_
    obtain ⟨cs_, hl116, hc117, hr118⟩ := sl_cells (hC.getP 1 rfl) hv114 i100 hi110
    obtain ⟨u115, rfl⟩ := List.length_eq_one_iff.1 hl116
    clear hl116
    rw [getD_eq _ _ hi110] at hr118
    have hp119 := hr118
    replace hC := hC.derive 1 rfl (Ty.item ETerm.ty.sl ((a0.images.getD i100 default).terms) [u115] fp0) (fun _ => (form_parts hp119)) (fun _ hb_ => hb_)
    refine s_loadCA [u115] hc117 ag46 rfl rfl ?_
    refine s_alloc hC [.slice none 0 0] z46 rfl fun b121 w123 hB_ hC => ?_
    refine s_as (v := .int .i64 (i100 : Int)) rfl ?_
    refine s_store (v := .agg #[u115]) hC 0 [u115] [u115] rfl ag46.size rfl rfl rfl rfl (all_c (rep_oneC (hC.getP 0 rfl)) rfl) (Nat.le_of_ble_eq_true rfl) rfl fun w124 hC => ?_
    refine done ?_
    refine then_norm ?_
    refine cw_region ?_
    refine s_mv (v := .int .i64 (i100 : Int)) rfl ?_
    refine s_loadA hC 0 [u115] rfl ag46 rfl rfl rfl ?_
    refine s_call [.agg #[u115]] _ Try.func72 rfl rfl rfl (c_impl_sumOf (a0.images.getD i100 default) h _ (form_mk (hC.getP 0 rfl))) (fun ret125 w127 hR126 => ?_)
    obtain ⟨r128, b129, rfl, h, hr130, hf131, hB132⟩ := hR126
    refine ⟨_, rfl, ?_⟩
    replace hC := hC.push hB132 (mapI (kvA .i64) (vvI .i64) b129 r128) hr130 (fun b_ hb_ => by obtain rfl := List.mem_singleton.1 hb_; exact hf131)
    obtain ⟨⟨h0_134, h1_135⟩, h⟩ := h
    refine s_iaddrB i100 Try.underlying136 sc104.size h3_ rfl h0_134 h1_135 (by omega) ?_
    have hf137 := map_fresh hC 0 rfl
    replace hC := hC.thaw 0 rfl (mapI (kvA .i64) (vvI .i64) b129 r128) id (fun _ hb_ => hb_)
    replace hC := hC.joinP 0 2 rfl rfl (Ty.item (TMaps (kvA .i64) (vvI .i64) 8) (s101.set i100 (some r128)) (v102.set i100 (Value.map (some b129))) (b129 :: f103)) (fun a_ b_ => maps_set b_ a_) (fun c_ hc_ => (List.mem_cons.1 hc_).elim (fun h_ => .inl (by rw [h_]; exact List.mem_singleton.2 rfl)) .inr)
    have hs138 : ∀ b, b ∈ (b129 :: f103) → w0.heap.size ≤ b := (fun b hb => (List.mem_cons.1 hb).elim (fun h_ => by rw [h_]; exact hf137) (fun hb => hq104 b hb))
    have hl136 := maps_len (hC.getP 3 rfl)
    refine s_store (v := .map (some b129)) hC 1 [.map (some b129)] (v102.set i100 (Value.map (some b129))) rfl sc104.size rfl rfl rfl rfl rfl (by rw [hl136]; omega) (splice1 (by rw [hl136]; omega) (by omega)) fun w141 hC => ?_
    refine done ?_
    refine blk_norm ?_
    refine then_norm ?_
    refine cw_region ?_
    refine s_add h12_ rfl ?_
    refine s_mv (v := .int .i64 (IntKind.i64.wrap ((i100 : Int) + 1))) rfl ?_
    refine done ?_
    replace hC := hC.sel [1, 2] [0, 4, 5, 6, 7] (M' := [blk b9 136 (v102.set i100 (Value.map (some b129))), blk b6 136 (List.replicate 8 (Value.map none))]) (Ps' := [Ty.item (TMaps (kvA .i64) (vvI .i64) 8) (s101.set i100 (some r128)) (v102.set i100 (Value.map (some b129))) (b129 :: f103), Ty.item TForm.sl a0.images [u0_1] fp0, Ty.item ((EI .i64).ty.sl) a0.degrees [u0_0] fp0, Ty.item TAlg a0 [u0_0, u0_1] fp0, blk b0 31 [u0_0, u0_1]]) (by decide) rfl rfl
    exact hK109 (s101.set i100 (some r128)) _ _ ⟨v102.set i100 (Value.map (some b129)), (b129 :: f103), h2_, h3_, h10_, h11_, (tr rfl (congrArg _ (wrap64_nat hi110 hN106))), hs138, hC⟩ h
  · clear hC h
    rintro s101 e_ w142 K108 ⟨v102, f103, h2_, h3_, h10_, h11_, h12_, hq104, hC⟩ h
    refine wp_seq ?_
    refine cw_region ?_
    refine s_lss h12_ h11_ ?_
    refine done ?_
    refine then_norm ?_
    refine wp_seq ?_
    refine cw_false rfl (decide_eq_false (by omega)) ?_
    refine wp_exit (then_exit (then_exit (exit_in ?_)))
    refine then_norm ?_
    refine wp_seq ?_
    refine cw_region ?_
    have hl143 := maps_len (hC.getP 0 rfl)
    refine s_loadA hC 0 v102 rfl ag136 h3_ (drop0_take hl143) hl143 ?_
    replace hC := hC.pushE (Ty.item (TMaps (kvA .i64) (vvI .i64) 8) (List.replicate 8 none : List (Option (List (A8 × Int)))) (List.replicate 8 (Value.map none)) []) (maps_zero (kvA .i64) (vvI .i64) 8 _) rfl
    have hl145 := maps_len (hC.getP 0 rfl)
    have hl146 := maps_len (hC.getP 1 rfl)
    refine s_store (v := .agg (List.toArray v102)) hC 1 v102 v102 rfl ag136.size h2_ rfl rfl hl146 (maps_all (hC.getP 1 rfl)) (by rw [hl145]; exact Nat.le_refl _) (splice_all (hl146.trans hl145.symm)) fun w147 hC => ?_
    refine done ?_
    refine then_norm ?_
    refine wp_ret ?_
    refine ret1 (fn := Try.f106) rfl ?_ ⟨s101, v102, f103, rfl, h, (hC.getP 1 rfl), (fun b hb => hq104 b hb), hC.below⟩ (.inl rfl)
    exact res_cellA hC 1 rfl ag136 h2_ (maps_len (hC.getP 1 rfl))
  · skip
    replace hC := hC.sel [0, 1] [0, 2, 3, 4, 5] (M' := [blk b9 136 (List.replicate 8 (Value.map none)), blk b6 136 (List.replicate 8 (Value.map none))]) (Ps' := [Ty.item (TMaps (kvA .i64) (vvI .i64) 8) (List.replicate 8 none : List (Option (List (A8 × Int)))) (List.replicate 8 (Value.map none)) [], Ty.item TForm.sl a0.images [u0_1] fp0, Ty.item ((EI .i64).ty.sl) a0.degrees [u0_0] fp0, Ty.item TAlg a0 [u0_0, u0_1] fp0, blk b0 31 [u0_0, u0_1]]) (by decide) rfl rfl
    exact ⟨List.replicate 8 (Value.map none), [], rfl, rfl, rfl, rfl, rfl, (fun b hb => absurd hb (by simp)), hC⟩
end Go.Proofs.Ytgfmflmhcfkldaa
