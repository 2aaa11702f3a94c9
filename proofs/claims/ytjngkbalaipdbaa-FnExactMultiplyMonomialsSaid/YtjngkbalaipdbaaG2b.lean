/- Printed by vcgen.py: functions of the program as predicates, and that the machine's calls meet them. -/
import Derived.Test.YtjngkbalaipdbaaG2a
set_option linter.unusedVariables false
set_option linter.unusedSimpArgs false
set_option maxRecDepth 4000
set_option maxHeartbeats 4000000
namespace Go.Proofs.Ytjngkbalaipdbaa
open Go Go.RowKit Vc
def f_laws_toInt64S (a0 : List Int) (K : List Int → Prop) : Prop :=
  ((0 ≤ (a0.length : Int) ∧ (a0.length : Int) * 8 ≤ 281474976710656) ∧ forN (fun i43 (s44 : (List Int)) next47 => ((0 ≤ (i43 : Int) ∧ (i43 : Int) < (s44.length : Int)) ∧ next47 (s44.set i43 (a0.getD i43 default)))) (fun (s44 : (List Int)) => K s44) a0.length 0 (List.replicate ((a0.length : Int).toNat) (0 : Int)))
theorem c_laws_toInt64S (a0 : List Int) {u0_0 : Value} {fp0 : List Nat} {K : List Int → Prop} (h : f_laws_toInt64S a0 K) (w0 : World) (q0 : ((EI .i64).ty.sl).rep a0 [u0_0] fp0 w0) :
    Calls Try.prog 14 #[u0_0] w0 fun e w' => ∃ (r0 : List Int) (z0_0 : Value) (fz0 : List Nat), 
      e = .returned (z0_0) ∧ K r0 ∧ ((EI .i64).ty.sl).rep r0 [z0_0] fz0 w' ∧ (∀ b, b ∈ fz0 → w0.heap.size ≤ b) ∧ Bel w0 w' := by
  unfold f_laws_toInt64S at h
  refine calls_of (args := [u0_0]) Try.func14 rfl 22 Try.ntmps14 (Nat.le_of_ble_eq_true rfl) ?_
  have hC := Ctx.start (X := Nox) w0 [Ty.item ((EI .i64).ty.sl) a0 [u0_0] fp0] (by simp only [List.mem_cons, List.not_mem_nil, or_false, forall_eq_or_imp, forall_eq]; exact q0)
  refine wp_seq ?_
  refine cw_region ?_
  refine s_as (v := .slice none 0 0) rfl ?_
  refine done ?_
  refine then_norm ?_
  refine wp_seq ?_
  refine cw_region ?_
  refine s_mv (v := u0_0) rfl ?_
  obtain ⟨Ad2, c3, hv4⟩ := sl_len (hC.getP 0 rfl)
  refine s_len Try.underlying22 (tr rfl hv4) ?_
  obtain ⟨hm7, h⟩ := h
  refine s_make (sz := 1) hC ((EI .i64).encs (List.replicate ((a0.length : Int).toNat) (0 : Int))) Try.underlying22 el2 (tr rfl (congrArg (Value.int .i64) (Int.toNat_of_nonneg hm7.1).symm)) (tr rfl (congrArg (Value.int .i64) (Int.toNat_of_nonneg hm7.1).symm)) (by omega) (by omega) (made_encs (E := (EI .i64)) _ _) fun v5 w6 hB_ hC => ?_
  replace hC := own_re hC 0 ((List.replicate ((a0.length : Int).toNat) (0 : Int)).length) ((EI .i64).encs (List.replicate ((a0.length : Int).toNat) (0 : Int))) rfl (by simp) rfl
  refine s_as (v := v5) rfl ?_
  refine done ?_
  refine then_norm ?_
  refine wp_seq ?_
  refine wp_seq ?_
  refine cw_region ?_
  refine s_as (v := .int .i64 0) rfl ?_
  refine done ?_
  refine then_norm ?_
  refine wp_block ?_
  have hN46 : a0.length ≤ 9223372036854775807 := sl_max (hC.getP 0 rfl)
  refine loopN (S := (List Int)) _ _ (fun i43 s44 e_ w_ => ∃ (v45 : Value), e_ 0 = u0_0 ∧ e_ 2 = .slice none 0 0 ∧ e_ 3 = v45 ∧ e_ 4 = .int .i64 (i43 : Int) ∧ Ctx Nox w0 w_ [own 2 1 v45 s44.length ((EI .i64).encs s44)] [Ty.item ((EI .i64).ty.sl) a0 [u0_0] fp0]) a0.length ?_ ?_ (s0 := (List.replicate ((a0.length : Int).toNat) (0 : Int))) ?_ h
  · clear hC h
    rintro i43 s44 e_ w51 next47 K48 hi50 ⟨v45, h0_, h2_, h3_, h4_, hC⟩ h hK49
    refine wp_seq ?_
    refine wp_seq ?_
    refine cw_region ?_
    refine s_mv (v := .int .i64 (i43 : Int)) h4_ ?_
    refine s_mv (v := u0_0) h0_ ?_
    obtain ⟨Ad52, c53, hv54⟩ := sl_len (hC.getP 0 rfl)
    refine s_len Try.underlying22 (tr rfl hv54) ?_
    refine s_lss rfl rfl ?_
    refine done ?_
    refine then_norm ?_
    refine cw_true rfl (decide_eq_true (by omega)) ?_
    refine wp_skip ?_
    refine then_norm ?_
    refine wp_seq ?_
    refine wp_block ?_
    refine cw_region ?_
    refine s_mv (v := v45) h3_ ?_
    refine s_mv (v := .int .i64 (i43 : Int)) h4_ ?_
    refine s_mv (v := u0_0) h0_ ?_
    refine s_mv (v := .int .i64 (i43 : Int)) h4_ ?_
    obtain ⟨Ad55, c56, hv57⟩ := sl_form (hC.getP 0 rfl) i43 hi50
    refine s_iaddrS (len := a0.length) Try.underlying22 sc2.size (tr rfl hv57) rfl (Int.natCast_nonneg _) (Int.ofNat_lt.2 hi50) ?_
    refine s_loadCS (.int .i64 (a0.getD i43 default)) (sl_cellsE (hC.getP 0 rfl) hv57 i43 hi50) sc2 rfl ?_
    obtain ⟨⟨h0_58, h1_59⟩, h⟩ := h
    obtain ⟨Ad60, c61, hv62⟩ := own_formE (hC.getM 0 rfl) (Nat.lt_of_le_of_lt (Nat.zero_le _) (show i43 < s44.length by omega))
    refine s_iaddrO (i43 * 1) Try.underlying22 sc2.size (tr rfl hv62) rfl h0_58 h1_59 rfl ?_
    refine s_storeO (v := .int .i64 (a0.getD i43 default)) hC 0 [.int .i64 (a0.getD i43 default)] ((EI .i64).encs (s44.set i43 (a0.getD i43 default))) rfl hv62 sc2.size rfl rfl rfl rfl rfl (by rw [Enc.encs_len]; exact seg_le (sz := 1) (show i43 < s44.length by omega)) (encs_set _ _ _ (show i43 < s44.length by omega)) fun w63 hC => ?_
    replace hC := own_re hC 0 ((s44.set i43 (a0.getD i43 default)).length) ((EI .i64).encs (s44.set i43 (a0.getD i43 default))) rfl (by simp) rfl
    refine done ?_
    refine blk_norm ?_
    refine then_norm ?_
    refine cw_region ?_
    refine s_mv (v := .int .i64 (i43 : Int)) h4_ ?_
    refine s_add rfl rfl ?_
    refine s_as (v := .int .i64 (IntKind.i64.wrap ((i43 : Int) + 1))) rfl ?_
    refine done ?_
    exact hK49 (s44.set i43 (a0.getD i43 default)) _ _ ⟨v45, h0_, h2_, h3_, (tr rfl (congrArg _ (wrap64_nat hi50 hN46))), hC⟩ h
  · clear hC h
    rintro s44 e_ w64 K48 ⟨v45, h0_, h2_, h3_, h4_, hC⟩ h
    refine wp_seq ?_
    refine wp_seq ?_
    refine cw_region ?_
    refine s_mv (v := .int .i64 (a0.length : Int)) h4_ ?_
    refine s_mv (v := u0_0) h0_ ?_
    obtain ⟨Ad65, c66, hv67⟩ := sl_len (hC.getP 0 rfl)
    refine s_len Try.underlying22 (tr rfl hv67) ?_
    refine s_lss rfl rfl ?_
    refine done ?_
    refine then_norm ?_
    refine cw_false rfl (decide_eq_false (by omega)) ?_
    refine wp_exit (then_exit (then_exit (exit_in ?_)))
    refine then_norm ?_
    refine wp_seq ?_
    refine cw_region ?_
    refine s_mv (v := v45) h3_ ?_
    refine s_as (v := v45) rfl ?_
    refine done ?_
    refine then_norm ?_
    refine wp_ret ?_
    refine ret1 (fn := Try.f14) rfl ?_ ⟨s44, v45, (Option.toList (Value.ownBlock v45)), rfl, h, (own_repE (hC.getM 0 rfl)), (fun b hb => (own_fresh hC 0 rfl) b hb), hC.below⟩ (.inl rfl)
    exact res_tmp rfl
  · skip
    exact ⟨v5, rfl, rfl, rfl, rfl, hC⟩
def f_laws_eqMonomial (a0 : A8) (a1 : A8) (K : Bool → Prop) : Prop :=
  forN (fun i12 (s13 : Unit) next14 => (if a0.get i12 ≠ a1.get i12 then K false else next14 ())) (fun (s13 : Unit) => K true) 8 0 ()
theorem c_laws_eqMonomial (a0 : A8) (a1 : A8)  {K : Bool → Prop} (h : f_laws_eqMonomial a0 a1 K) (w0 : World)  :
    Calls Try.prog 17 #[.agg (List.toArray (A8.enc .u8 a0)), .agg (List.toArray (A8.enc .u8 a1))] w0 fun e w' => ∃ (r0 : Bool), 
      e = .returned (.bool r0) ∧ K r0 ∧ Bel w0 w' := by
  unfold f_laws_eqMonomial at h
  refine calls_of (args := [.agg (List.toArray (A8.enc .u8 a0)), .agg (List.toArray (A8.enc .u8 a1))]) Try.func17 rfl 17 Try.ntmps17 (Nat.le_of_ble_eq_true rfl) ?_
  have hC := Ctx.start (X := Nox) w0 [] (by simp)
  refine wp_seq ?_
  refine cw_region ?_
  refine s_box (v := .agg (List.toArray (A8.enc .u8 a0))) hC (A8.enc .u8 a0) rfl rfl fun b1 w3 hB_ hC => ?_
  refine s_box (v := .agg (List.toArray (A8.enc .u8 a1))) hC (A8.enc .u8 a1) rfl rfl fun b4 w6 hB_ hC => ?_
  refine s_as (v := .bool false) rfl ?_
  refine done ?_
  refine then_norm ?_
  refine wp_seq ?_
  refine wp_seq ?_
  refine cw_region ?_
  refine s_as (v := .int .i64 0) rfl ?_
  refine done ?_
  refine then_norm ?_
  refine wp_block ?_
  refine loopN (S := Unit) _ _ (fun i12 s13 e_ w_ => e_ 2 = .pointer (some ⟨b1, 0, none⟩) ∧ e_ 3 = .pointer (some ⟨b4, 0, none⟩) ∧ e_ 4 = .bool false ∧ e_ 5 = .int .i64 (i12 : Int) ∧ Ctx Nox w0 w_ [blk b4 24 (A8.enc .u8 a1), blk b1 24 (A8.enc .u8 a0)] []) 8 ?_ ?_ (s0 := ()) ?_ h
  · clear hC h
    rintro i12 s13 e_ w18 next14 K15 hi17 ⟨h2_, h3_, h4_, h5_, hC⟩ h hK16
    refine wp_seq ?_
    refine wp_seq ?_
    refine cw_region ?_
    refine s_mv (v := .int .i64 (i12 : Int)) h5_ ?_
    refine s_lss rfl rfl ?_
    refine done ?_
    refine then_norm ?_
    refine cw_true rfl (decide_eq_true (by omega)) ?_
    refine wp_skip ?_
    refine then_norm ?_
    refine wp_seq ?_
    refine wp_block ?_
    refine wp_seq ?_
    refine cw_draw 6 mixed (fun w19 hB_ => ?_)
    replace hC := hC.grow hB_
    refine ae_lookF 0 (.int .i64 (i12 : Int)) rfl rfl (by kernel_rfl) (by kernel_rfl) (by kernel_rfl) (fun w_ => .inl ⟨rfl, by exact r_mv (v := .int .i64 (i12 : Int)) h5_⟩) (listed' := (List.toArray [true, false, false, false, false, false, false])) rfl ?_
    refine ae_look 1 (.pointer (some ⟨b1, i12, none⟩)) rfl rfl (by kernel_rfl) (by kernel_rfl) (by kernel_rfl) (fun w_ hB_ => .inl ⟨rfl, by exact r_iaddrB i12 Try.underlying24 sc5.size h2_ rfl (Int.natCast_nonneg _) (by omega) (by omega)⟩) (listed' := (List.toArray [true, true, false, false, false, false, false])) rfl ?_
    refine ae_look 2 (.int .u8 (a0.get i12)) rfl rfl (by kernel_rfl) (by kernel_rfl) (by kernel_rfl) (fun w_ hB_ => .inl ⟨rfl, by exact r_loadS (hC.grow hB_) 1 (.int .u8 (a0.get i12)) rfl sc5 rfl (A8.enc_get _ _ hi17)⟩) (listed' := (List.toArray [true, true, true, false, false, false, false])) rfl ?_
    refine ae_lookF 3 (.int .i64 (i12 : Int)) rfl rfl (by kernel_rfl) (by kernel_rfl) (by kernel_rfl) (fun w_ => .inl ⟨rfl, by exact r_mv (v := .int .i64 (i12 : Int)) h5_⟩) (listed' := (List.toArray [true, true, true, true, false, false, false])) rfl ?_
    refine ae_look 4 (.pointer (some ⟨b4, i12, none⟩)) rfl rfl (by kernel_rfl) (by kernel_rfl) (by kernel_rfl) (fun w_ hB_ => .inl ⟨rfl, by exact r_iaddrB i12 Try.underlying24 sc5.size h3_ rfl (Int.natCast_nonneg _) (by omega) (by omega)⟩) (listed' := (List.toArray [true, true, true, true, true, false, false])) rfl ?_
    refine ae_look 5 (.int .u8 (a1.get i12)) rfl rfl (by kernel_rfl) (by kernel_rfl) (by kernel_rfl) (fun w_ hB_ => .inl ⟨rfl, by exact r_loadS (hC.grow hB_) 0 (.int .u8 (a1.get i12)) rfl sc5 rfl (A8.enc_get _ _ hi17)⟩) (listed' := (List.toArray [true, true, true, true, true, true, false])) rfl ?_
    refine ae_tail 6 (by decide) (by decide) (by kernel_rfl) rfl rfl ?_
    refine s_neq rfl rfl ?_
    refine done ?_
    refine qn_norm ?_
    refine then_norm ?_
    refine cw_cond rfl (fun hb20 => ?_) (fun hb20 => ?_)
    · replace h := ift h (ct hb20)
      refine wp_seq ?_
      refine cw_region ?_
      refine s_as (v := .bool false) rfl ?_
      refine done ?_
      refine then_norm ?_
      refine wp_ret (blk_ret (then_ret (then_ret (blk_ret (then_ret ?_)))))
      refine ret1 (fn := Try.f17) rfl ?_ ⟨false, rfl, h, hC.below⟩ (.inl rfl)
      exact res_tmp rfl
    · replace h := iff_ h (cf hb20)
      refine wp_skip ?_
      refine blk_norm ?_
      refine then_norm ?_
      refine cw_region ?_
      refine s_mv (v := .int .i64 (i12 : Int)) h5_ ?_
      refine s_add rfl rfl ?_
      refine s_as (v := .int .i64 (IntKind.i64.wrap ((i12 : Int) + 1))) rfl ?_
      refine done ?_
      exact hK16 () _ _ ⟨h2_, h3_, h4_, (tr rfl (congrArg _ (wrap64_nat hi17 (by decide)))), hC⟩ h
  · clear hC h
    rintro s13 e_ w21 K15 ⟨h2_, h3_, h4_, h5_, hC⟩ h
    refine wp_seq ?_
    refine wp_seq ?_
    refine cw_region ?_
    refine s_mv (v := .int .i64 8) h5_ ?_
    refine s_lss rfl rfl ?_
    refine done ?_
    refine then_norm ?_
    refine cw_false rfl (decide_eq_false (by omega)) ?_
    refine wp_exit (then_exit (then_exit (exit_in ?_)))
    refine then_norm ?_
    refine wp_seq ?_
    refine cw_region ?_
    refine s_as (v := .bool true) rfl ?_
    refine done ?_
    refine then_norm ?_
    refine wp_ret ?_
    refine ret1 (fn := Try.f17) rfl ?_ ⟨true, rfl, h, hC.below⟩ (.inl rfl)
    exact res_tmp rfl
  · skip
    exact ⟨rfl, rfl, rfl, rfl, hC⟩
def f_laws_eqInt64S (a0 : List Int) (a1 : List Int) (K : Bool → Prop) : Prop :=
  (if (a0.length : Int) ≠ (a1.length : Int) then K false else forN (fun i29 (s30 : Unit) next32 => ((0 ≤ (i29 : Int) ∧ (i29 : Int) < (a1.length : Int)) ∧ (if a0.getD i29 default ≠ a1.getD i29 default then K false else next32 ()))) (fun (s30 : Unit) => K true) a0.length 0 ())
theorem c_laws_eqInt64S (a0 : List Int) (a1 : List Int) {u0_0 : Value} {u1_0 : Value} {fp0 : List Nat} {fp1 : List Nat} {K : Bool → Prop} (h : f_laws_eqInt64S a0 a1 K) (w0 : World) (q0 : ((EI .i64).ty.sl).rep a0 [u0_0] fp0 w0) (q1 : ((EI .i64).ty.sl).rep a1 [u1_0] fp1 w0) :
    Calls Try.prog 18 #[u0_0, u1_0] w0 fun e w' => ∃ (r0 : Bool), 
      e = .returned (.bool r0) ∧ K r0 ∧ Bel w0 w' := by
  unfold f_laws_eqInt64S at h
  refine calls_of (args := [u0_0, u1_0]) Try.func18 rfl 26 Try.ntmps18 (Nat.le_of_ble_eq_true rfl) ?_
  have hC := Ctx.start (X := Nox) w0 [Ty.item ((EI .i64).ty.sl) a0 [u0_0] fp0, Ty.item ((EI .i64).ty.sl) a1 [u1_0] fp1] (by simp only [List.mem_cons, List.not_mem_nil, or_false, forall_eq_or_imp, forall_eq]; exact ⟨q0, q1⟩)
  refine wp_seq ?_
  refine cw_region ?_
  refine s_as (v := .bool false) rfl ?_
  refine done ?_
  refine then_norm ?_
  refine wp_seq ?_
  refine wp_seq ?_
  refine cw_region ?_
  refine s_mv (v := u0_0) rfl ?_
  obtain ⟨Ad3, c4, hv5⟩ := sl_len (hC.getP 0 rfl)
  refine s_len Try.underlying22 (tr rfl hv5) ?_
  refine s_mv (v := u1_0) rfl ?_
  obtain ⟨Ad6, c7, hv8⟩ := sl_len (hC.getP 1 rfl)
  refine s_len Try.underlying22 (tr rfl hv8) ?_
  refine s_neq rfl rfl ?_
  refine done ?_
  refine then_norm ?_
  refine cw_cond rfl (fun hb9 => ?_) (fun hb9 => ?_)
  · replace h := ift h (ct hb9)
    refine wp_seq ?_
    refine cw_region ?_
    refine s_as (v := .bool false) rfl ?_
    refine done ?_
    refine then_norm ?_
    refine wp_ret (then_ret ?_)
    refine ret1 (fn := Try.f18) rfl ?_ ⟨false, rfl, h, hC.below⟩ (.inl rfl)
    exact res_tmp rfl
  · replace h := iff_ h (cf hb9)
    refine wp_skip ?_
    refine then_norm ?_
    refine wp_seq ?_
    refine wp_seq ?_
    refine cw_region ?_
    refine s_as (v := .int .i64 0) rfl ?_
    refine done ?_
    refine then_norm ?_
    refine wp_block ?_
    have hN31 : a0.length ≤ 9223372036854775807 := sl_max (hC.getP 0 rfl)
    refine loopN (S := Unit) _ _ (fun i29 s30 e_ w_ => e_ 0 = u0_0 ∧ e_ 1 = u1_0 ∧ e_ 4 = .bool false ∧ e_ 5 = .int .i64 (i29 : Int) ∧ Ctx Nox w0 w_ [] [Ty.item ((EI .i64).ty.sl) a0 [u0_0] fp0, Ty.item ((EI .i64).ty.sl) a1 [u1_0] fp1]) a0.length ?_ ?_ (s0 := ()) ?_ h
    · clear hC h
      rintro i29 s30 e_ w36 next32 K33 hi35 ⟨h0_, h1_, h4_, h5_, hC⟩ h hK34
      refine wp_seq ?_
      refine wp_seq ?_
      refine cw_region ?_
      refine s_mv (v := .int .i64 (i29 : Int)) h5_ ?_
      refine s_mv (v := u0_0) h0_ ?_
      obtain ⟨Ad37, c38, hv39⟩ := sl_len (hC.getP 0 rfl)
      refine s_len Try.underlying22 (tr rfl hv39) ?_
      refine s_lss rfl rfl ?_
      refine done ?_
      refine then_norm ?_
      refine cw_true rfl (decide_eq_true (by omega)) ?_
      refine wp_skip ?_
      refine then_norm ?_
      refine wp_seq ?_
      refine wp_block ?_
      refine wp_seq ?_
      refine cw_draw 8 mixed (fun w40 hB_ => ?_)
      replace hC := hC.grow hB_
      refine ae_lookF 0 (u0_0) rfl rfl (by kernel_rfl) (by kernel_rfl) (by kernel_rfl) (fun w_ => .inl ⟨rfl, by exact r_mv (v := u0_0) h0_⟩) (listed' := (List.toArray [true, false, false, false, false, false, false, false, false])) rfl ?_
      refine ae_lookF 1 (.int .i64 (i29 : Int)) rfl rfl (by kernel_rfl) (by kernel_rfl) (by kernel_rfl) (fun w_ => .inl ⟨rfl, by exact r_mv (v := .int .i64 (i29 : Int)) h5_⟩) (listed' := (List.toArray [true, true, false, false, false, false, false, false, false])) rfl ?_
      obtain ⟨Ad41, c42, hv43⟩ := sl_form (hC.getP 0 rfl) i29 hi35
      refine ae_look 2 (.pointer (some (Ad41.add (i29 * 1)))) rfl rfl (by kernel_rfl) (by kernel_rfl) (by kernel_rfl) (fun w_ hB_ => .inl ⟨rfl, by exact r_iaddrS (len := a0.length) Try.underlying22 sc2.size (by exact tr rfl hv43) rfl (Int.natCast_nonneg _) (Int.ofNat_lt.2 hi35)⟩) (listed' := (List.toArray [true, true, true, false, false, false, false, false, false])) rfl ?_
      refine ae_look 3 (.int .i64 (a0.getD i29 default)) rfl rfl (by kernel_rfl) (by kernel_rfl) (by kernel_rfl) (fun w_ hB_ => .inl ⟨rfl, by exact r_loadCS (.int .i64 (a0.getD i29 default)) (sl_cellsE ((hC.grow hB_).getP 0 rfl) hv43 i29 hi35) sc2 rfl⟩) (listed' := (List.toArray [true, true, true, true, false, false, false, false, false])) rfl ?_
      refine ae_lookF 4 (u1_0) rfl rfl (by kernel_rfl) (by kernel_rfl) (by kernel_rfl) (fun w_ => .inl ⟨rfl, by exact r_mv (v := u1_0) h1_⟩) (listed' := (List.toArray [true, true, true, true, true, false, false, false, false])) rfl ?_
      refine ae_lookF 5 (.int .i64 (i29 : Int)) rfl rfl (by kernel_rfl) (by kernel_rfl) (by kernel_rfl) (fun w_ => .inl ⟨rfl, by exact r_mv (v := .int .i64 (i29 : Int)) h5_⟩) (listed' := (List.toArray [true, true, true, true, true, true, false, false, false])) rfl ?_
      obtain ⟨⟨h0_44, h1_45⟩, h⟩ := h
      obtain ⟨Ad46, c47, hv48⟩ := sl_form (hC.getP 1 rfl) i29 (show i29 < a1.length by omega)
      refine ae_look 6 (.pointer (some (Ad46.add (i29 * 1)))) rfl rfl (by kernel_rfl) (by kernel_rfl) (by kernel_rfl) (fun w_ hB_ => .inl ⟨rfl, by exact r_iaddrS (len := a1.length) Try.underlying22 sc2.size (by exact tr rfl hv48) rfl h0_44 h1_45⟩) (listed' := (List.toArray [true, true, true, true, true, true, true, false, false])) rfl ?_
      refine ae_look 7 (.int .i64 (a1.getD i29 default)) rfl rfl (by kernel_rfl) (by kernel_rfl) (by kernel_rfl) (fun w_ hB_ => .inl ⟨rfl, by exact r_loadCS (.int .i64 (a1.getD i29 default)) (sl_cellsE ((hC.grow hB_).getP 1 rfl) hv48 i29 (show i29 < a1.length by omega)) sc2 rfl⟩) (listed' := (List.toArray [true, true, true, true, true, true, true, true, false])) rfl ?_
      refine ae_tail 8 (by decide) (by decide) (by kernel_rfl) rfl rfl ?_
      refine s_neq rfl rfl ?_
      refine done ?_
      refine qn_norm ?_
      refine then_norm ?_
      refine cw_cond rfl (fun hb49 => ?_) (fun hb49 => ?_)
      · replace h := ift h (ct hb49)
        refine wp_seq ?_
        refine cw_region ?_
        refine s_as (v := .bool false) rfl ?_
        refine done ?_
        refine then_norm ?_
        refine wp_ret (blk_ret (then_ret (then_ret (blk_ret (then_ret ?_)))))
        refine ret1 (fn := Try.f18) rfl ?_ ⟨false, rfl, h, hC.below⟩ (.inl rfl)
        exact res_tmp rfl
      · replace h := iff_ h (cf hb49)
        refine wp_skip ?_
        refine blk_norm ?_
        refine then_norm ?_
        refine cw_region ?_
        refine s_mv (v := .int .i64 (i29 : Int)) h5_ ?_
        refine s_add rfl rfl ?_
        refine s_as (v := .int .i64 (IntKind.i64.wrap ((i29 : Int) + 1))) rfl ?_
        refine done ?_
        exact hK34 () _ _ ⟨h0_, h1_, h4_, (tr rfl (congrArg _ (wrap64_nat hi35 hN31))), hC⟩ h
    · clear hC h
      rintro s30 e_ w50 K33 ⟨h0_, h1_, h4_, h5_, hC⟩ h
      refine wp_seq ?_
      refine wp_seq ?_
      refine cw_region ?_
      refine s_mv (v := .int .i64 (a0.length : Int)) h5_ ?_
      refine s_mv (v := u0_0) h0_ ?_
      obtain ⟨Ad51, c52, hv53⟩ := sl_len (hC.getP 0 rfl)
      refine s_len Try.underlying22 (tr rfl hv53) ?_
      refine s_lss rfl rfl ?_
      refine done ?_
      refine then_norm ?_
      refine cw_false rfl (decide_eq_false (by omega)) ?_
      refine wp_exit (then_exit (then_exit (exit_in ?_)))
      refine then_norm ?_
      refine wp_seq ?_
      refine cw_region ?_
      refine s_as (v := .bool true) rfl ?_
      refine done ?_
      refine then_norm ?_
      refine wp_ret ?_
      refine ret1 (fn := Try.f18) rfl ?_ ⟨true, rfl, h, hC.below⟩ (.inl rfl)
      exact res_tmp rfl
    · skip
      exact ⟨rfl, rfl, rfl, rfl, hC⟩
end Go.Proofs.Ytjngkbalaipdbaa
