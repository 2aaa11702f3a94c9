/- Printed by vcgen.py: functions of the program as predicates, and that the machine's calls meet them. -/
import Derived.Test.YtaagfepgbofmlaaGAb
set_option linter.unusedVariables false
set_option linter.unusedSimpArgs false
set_option maxRecDepth 4000
set_option maxHeartbeats 4000000
namespace Go.Proofs.Ytaagfepgbofmlaa
open Go Go.RowKit Vc
def f_laws_eqMonomial (a0 : A8) (a1 : A8) (K : Bool → Prop) : Prop :=
 forN (fun i14 (s15 : Unit) next16 => (if a0.get i14 ≠ a1.get i14 then K false else next16 ())) (fun (s15 : Unit) => K true) 8 0 ()
theorem c_laws_eqMonomial (a0 : A8) (a1 : A8)  {K : Bool → Prop} (h : f_laws_eqMonomial a0 a1 K) (w0 : World)  :
  Calls Try.prog 172 #[.agg (List.toArray (A8.enc .u8 a0)), .agg (List.toArray (A8.enc .u8 a1))] w0 fun e w' => ∃ (r0 : Bool), 
   e = .returned (.bool r0) ∧ K r0 ∧ Bel w0 w' := by
 unfold f_laws_eqMonomial at h
 refine calls_of (args := [.agg (List.toArray (A8.enc .u8 a0)), .agg (List.toArray (A8.enc .u8 a1))]) Try.func172 rfl 17 Try.ntmps172 (Nat.le_of_ble_eq_true rfl) ?_
 have hC := Ctx.start (X := Nox) w0 [] (by simp)
 refine sr ?_
 refine s_box (v := .agg (List.toArray (A8.enc .u8 a0))) hC (A8.enc .u8 a0) rfl rfl fun b1 w3 hB_ hC => ?_
 refine s_box (v := .agg (List.toArray (A8.enc .u8 a1))) hC (A8.enc .u8 a1) rfl rfl fun b4 w6 hB_ hC => ?_
 refine s_as (v := .bool false) rfl ?_
 refine dn ?_
 refine wp_seq ?_
 refine sr ?_
 refine s_as (v := .int .i64 0) rfl ?_
 refine dn ?_
 refine wp_block ?_
 refine loopN (S := Unit) _ _ (fun i14 s15 e_ w_ => Slots e_ [(2, .pointer (some ⟨b1, 0, none⟩)), (3, .pointer (some ⟨b4, 0, none⟩)), (4, .bool false), (5, .int .i64 (i14 : Int))] ∧ Ctx Nox w0 w_ [blk b4 49 (A8.enc .u8 a1), blk b1 49 (A8.enc .u8 a0)] []) 8 ?_ ?_ (s0 := ()) ?_ h
 ·clear hC h
  rintro i14 s15 e_ w20 next16 K17 hi19 ⟨hS_, hC⟩ h hK18
  refine wp_seq ?_
  refine sr ?_
  refine s_mv (v := .int .i64 (i14 : Int)) (sx hS_ 3 rfl) ?_
  refine s_lss rfl rfl ?_
  refine dn ?_
  refine cw_true rfl (decide_eq_true (by omega)) ?_
  refine wp_skip ?_
  refine then_norm ?_
  refine wp_seq ?_
  refine wp_block ?_
  refine wp_seq ?_
  refine cw_draw 6 mixed [0, 1, 3, 0, 8, 24, 63] [1, 2, 4, 5] [0, 3] (by kernel_rfl) (by kernel_rfl) (by kernel_rfl) (fun hM22 hM23 w21 hB_ => ?_)
  replace hC := hC.grow hB_
  refine aF 0 (.int .i64 (i14 : Int)) rfl rfl (hM23 0 rfl) (rfl) (fun _ => by exact r_mv (v := .int .i64 (i14 : Int)) (sx hS_ 3 rfl)) (dbits 7 1) ?_
  refine aL 1 (.pointer (some ⟨b1, i14, none⟩)) rfl rfl (hM22 1 rfl) (rfl) (fun _ hB_ => by exact r_iaddrB i14 Try.underlying49 sc5.size (sx hS_ 0 rfl) rfl (Int.natCast_nonneg _) (by omega) (by omega)) (dbits 7 3) ?_
  refine aL 2 (.int .u8 (a0.get i14)) rfl rfl (hM22 2 rfl) (rfl) (fun _ hB_ => by exact r_loadS (hC.grow hB_) 1 (.int .u8 (a0.get i14)) rfl sc5 rfl (A8.enc_get _ _ hi19)) (dbits 7 7) ?_
  refine aF 3 (.int .i64 (i14 : Int)) rfl rfl (hM23 3 rfl) (rfl) (fun _ => by exact r_mv (v := .int .i64 (i14 : Int)) (sx hS_ 3 rfl)) (dbits 7 15) ?_
  refine aL 4 (.pointer (some ⟨b4, i14, none⟩)) rfl rfl (hM22 4 rfl) (rfl) (fun _ hB_ => by exact r_iaddrB i14 Try.underlying49 sc5.size (sx hS_ 1 rfl) rfl (Int.natCast_nonneg _) (by omega) (by omega)) (dbits 7 31) ?_
  refine aL 5 (.int .u8 (a1.get i14)) rfl rfl (hM22 5 rfl) (rfl) (fun _ hB_ => by exact r_loadS (hC.grow hB_) 0 (.int .u8 (a1.get i14)) rfl sc5 rfl (A8.enc_get _ _ hi19)) (dbits 7 63) ?_
  refine ae_tail 6 (by decide) (by decide) (by kernel_rfl) (by kernel_rfl) rfl ?_
  refine s_neq rfl rfl ?_
  refine done ?_
  refine qn_norm ?_
  refine then_norm ?_
  refine cw_cond rfl (fun hb24 => ?_) (fun hb24 => ?_)
  ·replace h := ift h (ct hb24)
   refine sr ?_
   refine s_as (v := .bool false) rfl ?_
   refine dn ?_
   refine wp_ret (blk_ret (then_ret (then_ret (blk_ret (then_ret ?_)))))
   refine ret1 (fn := Try.f172) rfl ?_ ⟨false, rfl, h, hC.below⟩ (.inl rfl)
   exact res_tmp rfl
  ·replace h := iff_ h (cf hb24)
   refine wp_skip ?_
   refine blk_norm ?_
   refine then_norm ?_
   refine cw_region ?_
   refine s_mv (v := .int .i64 (i14 : Int)) (sx hS_ 3 rfl) ?_
   refine s_add rfl rfl ?_
   refine s_as (v := .int .i64 (IntKind.i64.wrap ((i14 : Int) + 1))) rfl ?_
   refine done ?_
   exact hK18 () _ _ ⟨(sk (sx hS_ 0 rfl) (sk (sx hS_ 1 rfl) (sk (sx hS_ 2 rfl) (sk (tr rfl (congrArg _ (wrap64_nat hi19 (by decide)))) sn)))), hC⟩ h
 ·clear hC h
  rintro s15 e_ w25 K17 ⟨hS_, hC⟩ h
  refine wp_seq ?_
  refine sr ?_
  refine s_mv (v := .int .i64 8) (sx hS_ 3 rfl) ?_
  refine s_lss rfl rfl ?_
  refine dn ?_
  refine cw_false rfl (decide_eq_false (by omega)) ?_
  refine wp_exit (then_exit (then_exit (exit_in ?_)))
  refine then_norm ?_
  refine sr ?_
  refine s_as (v := .bool true) rfl ?_
  refine dn ?_
  refine wp_ret ?_
  refine ret1 (fn := Try.f172) rfl ?_ ⟨true, rfl, h, hC.below⟩ (.inl rfl)
  exact res_tmp rfl
 ·skip
  exact ⟨(sk rfl (sk rfl (sk rfl (sk rfl sn)))), hC⟩
def f_laws_eqInt64S (a0 : List Int) (a1 : List Int) (K : Bool → Prop) : Prop :=
 (if (a0.length : Int) ≠ (a1.length : Int) then K false else forN (fun i31 (s32 : Unit) next34 => ((0 ≤ (i31 : Int) ∧ (i31 : Int) < (a1.length : Int)) ∧ (if a0.getD i31 default ≠ a1.getD i31 default then K false else next34 ()))) (fun (s32 : Unit) => K true) a0.length 0 ())
theorem c_laws_eqInt64S (a0 : List Int) (a1 : List Int) {u0_0 : Value} {u1_0 : Value} {fp0 : List Nat} {fp1 : List Nat} {K : Bool → Prop} (h : f_laws_eqInt64S a0 a1 K) (w0 : World) (q0 : ((EI .i64).ty.sl).rep a0 [u0_0] fp0 w0) (q1 : ((EI .i64).ty.sl).rep a1 [u1_0] fp1 w0) :
  Calls Try.prog 50 #[u0_0, u1_0] w0 fun e w' => ∃ (r0 : Bool), 
   e = .returned (.bool r0) ∧ K r0 ∧ Bel w0 w' := by
 unfold f_laws_eqInt64S at h
 refine calls_of (args := [u0_0, u1_0]) Try.func50 rfl 26 Try.ntmps50 (Nat.le_of_ble_eq_true rfl) ?_
 have hC := Ctx.start (X := Nox) w0 [Ty.item ((EI .i64).ty.sl) a0 [u0_0] fp0, Ty.item ((EI .i64).ty.sl) a1 [u1_0] fp1] (by simp only [List.mem_cons, List.not_mem_nil, or_false, forall_eq_or_imp, forall_eq]; exact ⟨q0, q1⟩)
 refine sr ?_
 refine s_as (v := .bool false) rfl ?_
 refine dn ?_
 refine wp_seq ?_
 refine sr ?_
 refine s_mv (v := u0_0) rfl ?_
 obtain ⟨Ad3, c4, hv5⟩ := sl_len (hC.getP 0 rfl)
 refine s_len Try.underlying22 (tr rfl hv5) ?_
 refine s_mv (v := u1_0) rfl ?_
 obtain ⟨Ad6, c7, hv8⟩ := sl_len (hC.getP 1 rfl)
 refine s_len Try.underlying22 (tr rfl hv8) ?_
 refine s_neq rfl rfl ?_
 refine dn ?_
 refine cw_cond rfl (fun hb9 => ?_) (fun hb9 => ?_)
 ·replace h := ift h (ct hb9)
  refine sr ?_
  refine s_as (v := .bool false) rfl ?_
  refine dn ?_
  refine wp_ret (then_ret ?_)
  refine ret1 (fn := Try.f50) rfl ?_ ⟨false, rfl, h, hC.below⟩ (.inl rfl)
  exact res_tmp rfl
 ·replace h := iff_ h (cf hb9)
  refine wp_skip ?_
  refine then_norm ?_
  refine wp_seq ?_
  refine sr ?_
  refine s_as (v := .int .i64 0) rfl ?_
  refine dn ?_
  refine wp_block ?_
  have hN33 : a0.length ≤ 9223372036854775807 := sl_max (hC.getP 0 rfl)
  refine loopN (S := Unit) _ _ (fun i31 s32 e_ w_ => Slots e_ [(0, u0_0), (1, u1_0), (4, .bool false), (5, .int .i64 (i31 : Int))] ∧ Ctx Nox w0 w_ [] [Ty.item ((EI .i64).ty.sl) a0 [u0_0] fp0, Ty.item ((EI .i64).ty.sl) a1 [u1_0] fp1]) a0.length ?_ ?_ (s0 := ()) ?_ h
  ·clear hC h
   rintro i31 s32 e_ w38 next34 K35 hi37 ⟨hS_, hC⟩ h hK36
   refine wp_seq ?_
   refine sr ?_
   refine s_mv (v := .int .i64 (i31 : Int)) (sx hS_ 3 rfl) ?_
   refine s_mv (v := u0_0) (sx hS_ 0 rfl) ?_
   obtain ⟨Ad39, c40, hv41⟩ := sl_len (hC.getP 0 rfl)
   refine s_len Try.underlying22 (tr rfl hv41) ?_
   refine s_lss rfl rfl ?_
   refine dn ?_
   refine cw_true rfl (decide_eq_true (by omega)) ?_
   refine wp_skip ?_
   refine then_norm ?_
   refine wp_seq ?_
   refine wp_block ?_
   refine wp_seq ?_
   refine cw_draw 8 mixed [0, 0, 3, 7, 0, 0, 48, 112, 255] [2, 3, 6, 7] [0, 1, 4, 5] (by kernel_rfl) (by kernel_rfl) (by kernel_rfl) (fun hM43 hM44 w42 hB_ => ?_)
   replace hC := hC.grow hB_
   refine aF 0 (u0_0) rfl rfl (hM44 0 rfl) (rfl) (fun _ => by exact r_mv (v := u0_0) (sx hS_ 0 rfl)) (dbits 9 1) ?_
   refine aF 1 (.int .i64 (i31 : Int)) rfl rfl (hM44 1 rfl) (rfl) (fun _ => by exact r_mv (v := .int .i64 (i31 : Int)) (sx hS_ 3 rfl)) (dbits 9 3) ?_
   obtain ⟨Ad45, c46, hv47⟩ := sl_form (hC.getP 0 rfl) i31 hi37
   refine aL 2 (.pointer (some (Ad45.add (i31 * 1)))) rfl rfl (hM43 2 rfl) (rfl) (fun _ hB_ => by exact r_iaddrS (len := a0.length) Try.underlying22 sc2.size (by exact tr rfl hv47) rfl (Int.natCast_nonneg _) (Int.ofNat_lt.2 hi37)) (dbits 9 7) ?_
   refine aL 3 (.int .i64 (a0.getD i31 default)) rfl rfl (hM43 3 rfl) (rfl) (fun _ hB_ => by exact r_loadCS (.int .i64 (a0.getD i31 default)) (sl_cellsE ((hC.grow hB_).getP 0 rfl) hv47 i31 hi37) sc2 rfl) (dbits 9 15) ?_
   refine aF 4 (u1_0) rfl rfl (hM44 4 rfl) (rfl) (fun _ => by exact r_mv (v := u1_0) (sx hS_ 1 rfl)) (dbits 9 31) ?_
   refine aF 5 (.int .i64 (i31 : Int)) rfl rfl (hM44 5 rfl) (rfl) (fun _ => by exact r_mv (v := .int .i64 (i31 : Int)) (sx hS_ 3 rfl)) (dbits 9 63) ?_
   obtain ⟨⟨h0_48, h1_49⟩, h⟩ := h
   obtain ⟨Ad50, c51, hv52⟩ := sl_form (hC.getP 1 rfl) i31 (show i31 < a1.length by omega)
   refine aL 6 (.pointer (some (Ad50.add (i31 * 1)))) rfl rfl (hM43 6 rfl) (rfl) (fun _ hB_ => by exact r_iaddrS (len := a1.length) Try.underlying22 sc2.size (by exact tr rfl hv52) rfl h0_48 h1_49) (dbits 9 127) ?_
   refine aL 7 (.int .i64 (a1.getD i31 default)) rfl rfl (hM43 7 rfl) (rfl) (fun _ hB_ => by exact r_loadCS (.int .i64 (a1.getD i31 default)) (sl_cellsE ((hC.grow hB_).getP 1 rfl) hv52 i31 (show i31 < a1.length by omega)) sc2 rfl) (dbits 9 255) ?_
   refine ae_tail 8 (by decide) (by decide) (by kernel_rfl) (by kernel_rfl) rfl ?_
   refine s_neq rfl rfl ?_
   refine done ?_
   refine qn_norm ?_
   refine then_norm ?_
   refine cw_cond rfl (fun hb53 => ?_) (fun hb53 => ?_)
   ·replace h := ift h (ct hb53)
    refine sr ?_
    refine s_as (v := .bool false) rfl ?_
    refine dn ?_
    refine wp_ret (blk_ret (then_ret (then_ret (blk_ret (then_ret ?_)))))
    refine ret1 (fn := Try.f50) rfl ?_ ⟨false, rfl, h, hC.below⟩ (.inl rfl)
    exact res_tmp rfl
   ·replace h := iff_ h (cf hb53)
    refine wp_skip ?_
    refine blk_norm ?_
    refine then_norm ?_
    refine cw_region ?_
    refine s_mv (v := .int .i64 (i31 : Int)) (sx hS_ 3 rfl) ?_
    refine s_add rfl rfl ?_
    refine s_as (v := .int .i64 (IntKind.i64.wrap ((i31 : Int) + 1))) rfl ?_
    refine done ?_
    exact hK36 () _ _ ⟨(sk (sx hS_ 0 rfl) (sk (sx hS_ 1 rfl) (sk (sx hS_ 2 rfl) (sk (tr rfl (congrArg _ (wrap64_nat hi37 hN33))) sn)))), hC⟩ h
  ·clear hC h
   rintro s32 e_ w54 K35 ⟨hS_, hC⟩ h
   refine wp_seq ?_
   refine sr ?_
   refine s_mv (v := .int .i64 (a0.length : Int)) (sx hS_ 3 rfl) ?_
   refine s_mv (v := u0_0) (sx hS_ 0 rfl) ?_
   obtain ⟨Ad55, c56, hv57⟩ := sl_len (hC.getP 0 rfl)
   refine s_len Try.underlying22 (tr rfl hv57) ?_
   refine s_lss rfl rfl ?_
   refine dn ?_
   refine cw_false rfl (decide_eq_false (by omega)) ?_
   refine wp_exit (then_exit (then_exit (exit_in ?_)))
   refine then_norm ?_
   refine sr ?_
   refine s_as (v := .bool true) rfl ?_
   refine dn ?_
   refine wp_ret ?_
   refine ret1 (fn := Try.f50) rfl ?_ ⟨true, rfl, h, hC.below⟩ (.inl rfl)
   exact res_tmp rfl
  ·skip
   exact ⟨(sk rfl (sk rfl (sk rfl (sk rfl sn)))), hC⟩
def f_laws_eqTerm (a0 : Term) (a1 : Term) (K : Bool → Prop) : Prop :=
 f_laws_eqMonomial a0.mono a1.mono (fun r10 => (if ¬ (r10 = true) then K false else (if a0.factor ≠ a1.factor then K false else K true)))
theorem c_laws_eqTerm (a0 : Term) (a1 : Term)  {K : Bool → Prop} (h : f_laws_eqTerm a0 a1 K) (w0 : World)  :
  Calls Try.prog 161 #[.agg (List.toArray (Term.enc a0)), .agg (List.toArray (Term.enc a1))] w0 fun e w' => ∃ (r0 : Bool), 
   e = .returned (.bool r0) ∧ K r0 ∧ Bel w0 w' := by
 unfold f_laws_eqTerm at h
 refine calls_of (args := [.agg (List.toArray (Term.enc a0)), .agg (List.toArray (Term.enc a1))]) Try.func161 rfl 16 Try.ntmps161 (Nat.le_of_ble_eq_true rfl) ?_
 have hC := Ctx.start (X := Nox) w0 [] (by simp)
 refine sr ?_
 refine s_box (v := .agg (List.toArray (Term.enc a0))) hC (Term.enc a0) rfl rfl fun b1 w3 hB_ hC => ?_
 refine s_box (v := .agg (List.toArray (Term.enc a1))) hC (Term.enc a1) rfl rfl fun b4 w6 hB_ hC => ?_
 refine s_as (v := .bool false) rfl ?_
 refine dn ?_
 refine wp_seq ?_
 refine sr ?_
 refine s_faddrB 0 Try.underlying114 rfl ag49.size rfl rfl ?_
 refine s_loadA hC 1 (A8.enc .u8 a0.mono) rfl ag49 rfl rfl rfl ?_
 refine s_faddrB 0 Try.underlying114 rfl ag49.size rfl rfl ?_
 refine s_loadA hC 0 (A8.enc .u8 a1.mono) rfl ag49 rfl rfl rfl ?_
 refine s_call [.agg (List.toArray (A8.enc .u8 a0.mono)), .agg (List.toArray (A8.enc .u8 a1.mono))] _ Try.func172 rfl rfl rfl (c_laws_eqMonomial a0.mono a1.mono h _) (fun ret7 w9 hR8 => ?_)
 obtain ⟨r10, rfl, h, hB11⟩ := hR8
 refine ⟨_, rfl, ?_⟩
 replace hC := hC.grow hB11
 refine s_not rfl ?_
 refine dn ?_
 refine cw_cond rfl (fun hb12 => ?_) (fun hb12 => ?_)
 ·replace h := ift h (ne_t (not_t hb12))
  refine sr ?_
  refine s_as (v := .bool false) rfl ?_
  refine dn ?_
  refine wp_ret (then_ret ?_)
  refine ret1 (fn := Try.f161) rfl ?_ ⟨false, rfl, h, hC.below⟩ (.inl rfl)
  exact res_tmp rfl
 ·replace h := iff_ h (not_not_intro ((not_f hb12)))
  refine wp_skip ?_
  refine then_norm ?_
  refine wp_seq ?_
  refine sr ?_
  refine s_faddrB 8 Try.underlying114 rfl sc2.size rfl rfl ?_
  refine s_loadS hC 1 (.int .i64 a0.factor) rfl sc2 rfl rfl ?_
  refine s_faddrB 8 Try.underlying114 rfl sc2.size rfl rfl ?_
  refine s_loadS hC 0 (.int .i64 a1.factor) rfl sc2 rfl rfl ?_
  refine s_neq rfl rfl ?_
  refine dn ?_
  refine cw_cond rfl (fun hb13 => ?_) (fun hb13 => ?_)
  ·replace h := ift h (ct hb13)
   refine sr ?_
   refine s_as (v := .bool false) rfl ?_
   refine dn ?_
   refine wp_ret (then_ret ?_)
   refine ret1 (fn := Try.f161) rfl ?_ ⟨false, rfl, h, hC.below⟩ (.inl rfl)
   exact res_tmp rfl
  ·replace h := iff_ h (cf hb13)
   refine wp_skip ?_
   refine then_norm ?_
   refine sr ?_
   refine s_as (v := .bool true) rfl ?_
   refine dn ?_
   refine wp_ret ?_
   refine ret1 (fn := Try.f161) rfl ?_ ⟨true, rfl, h, hC.below⟩ (.inl rfl)
   exact res_tmp rfl
def f_laws_eqTermS (a0 : List Term) (a1 : List Term) (K : Bool → Prop) : Prop :=
 (if (a0.length : Int) ≠ (a1.length : Int) then K false else forN (fun i36 (s37 : Unit) next39 => ((0 ≤ (i36 : Int) ∧ (i36 : Int) < (a1.length : Int)) ∧ f_laws_eqTerm (a0.getD i36 default) (a1.getD i36 default) (fun r61 => (if ¬ (r61 = true) then K false else next39 ())))) (fun (s37 : Unit) => K true) a0.length 0 ())
theorem c_laws_eqTermS (a0 : List Term) (a1 : List Term) {u0_0 : Value} {u1_0 : Value} {fp0 : List Nat} {fp1 : List Nat} {K : Bool → Prop} (h : f_laws_eqTermS a0 a1 K) (w0 : World) (q0 : ETerm.ty.sl.rep a0 [u0_0] fp0 w0) (q1 : ETerm.ty.sl.rep a1 [u1_0] fp1 w0) :
  Calls Try.prog 146 #[u0_0, u1_0] w0 fun e w' => ∃ (r0 : Bool), 
   e = .returned (.bool r0) ∧ K r0 ∧ Bel w0 w' := by
 unfold f_laws_eqTermS at h
 refine calls_of (args := [u0_0, u1_0]) Try.func146 rfl 27 Try.ntmps146 (Nat.le_of_ble_eq_true rfl) ?_
 have hC := Ctx.start (X := Nox) w0 [Ty.item ETerm.ty.sl a0 [u0_0] fp0, Ty.item ETerm.ty.sl a1 [u1_0] fp1] (by simp only [List.mem_cons, List.not_mem_nil, or_false, forall_eq_or_imp, forall_eq]; exact ⟨q0, q1⟩)
 refine sr ?_
 refine s_as (v := .bool false) rfl ?_
 refine dn ?_
 refine wp_seq ?_
 refine sr ?_
 refine s_mv (v := u0_0) rfl ?_
 obtain ⟨Ad3, c4, hv5⟩ := sl_len (hC.getP 0 rfl)
 refine s_len Try.underlying93 (tr rfl hv5) ?_
 refine s_mv (v := u1_0) rfl ?_
 obtain ⟨Ad6, c7, hv8⟩ := sl_len (hC.getP 1 rfl)
 refine s_len Try.underlying93 (tr rfl hv8) ?_
 refine s_neq rfl rfl ?_
 refine dn ?_
 refine cw_cond rfl (fun hb9 => ?_) (fun hb9 => ?_)
 ·replace h := ift h (ct hb9)
  refine sr ?_
  refine s_as (v := .bool false) rfl ?_
  refine dn ?_
  refine wp_ret (then_ret ?_)
  refine ret1 (fn := Try.f146) rfl ?_ ⟨false, rfl, h, hC.below⟩ (.inl rfl)
  exact res_tmp rfl
 ·replace h := iff_ h (cf hb9)
  refine wp_skip ?_
  refine then_norm ?_
  refine wp_seq ?_
  refine sr ?_
  refine s_as (v := .int .i64 0) rfl ?_
  refine dn ?_
  refine wp_block ?_
  have hN38 : a0.length ≤ 9223372036854775807 := sl_max (hC.getP 0 rfl)
  refine loopN (S := Unit) _ _ (fun i36 s37 e_ w_ => Slots e_ [(0, u0_0), (1, u1_0), (4, .bool false), (5, .int .i64 (i36 : Int))] ∧ Ctx Nox w0 w_ [] [Ty.item ETerm.ty.sl a0 [u0_0] fp0, Ty.item ETerm.ty.sl a1 [u1_0] fp1]) a0.length ?_ ?_ (s0 := ()) ?_ h
  ·clear hC h
   rintro i36 s37 e_ w43 next39 K40 hi42 ⟨hS_, hC⟩ h hK41
   refine wp_seq ?_
   refine sr ?_
   refine s_mv (v := .int .i64 (i36 : Int)) (sx hS_ 3 rfl) ?_
   refine s_mv (v := u0_0) (sx hS_ 0 rfl) ?_
   obtain ⟨Ad44, c45, hv46⟩ := sl_len (hC.getP 0 rfl)
   refine s_len Try.underlying93 (tr rfl hv46) ?_
   refine s_lss rfl rfl ?_
   refine dn ?_
   refine cw_true rfl (decide_eq_true (by omega)) ?_
   refine wp_skip ?_
   refine then_norm ?_
   refine wp_seq ?_
   refine wp_block ?_
   refine wp_seq ?_
   refine cw_draw 8 mixed [0, 0, 3, 7, 0, 0, 48, 112, 255, 511] [2, 3, 6, 7] [0, 1, 4, 5] (by kernel_rfl) (by kernel_rfl) (by kernel_rfl) (fun hM48 hM49 w47 hB_ => ?_)
   replace hC := hC.grow hB_
   refine aF 0 (u0_0) rfl rfl (hM49 0 rfl) (rfl) (fun _ => by exact r_mv (v := u0_0) (sx hS_ 0 rfl)) (dbits 10 1) ?_
   refine aF 1 (.int .i64 (i36 : Int)) rfl rfl (hM49 1 rfl) (rfl) (fun _ => by exact r_mv (v := .int .i64 (i36 : Int)) (sx hS_ 3 rfl)) (dbits 10 3) ?_
   obtain ⟨Ad50, c51, hv52⟩ := sl_form (hC.getP 0 rfl) i36 hi42
   refine aL 2 (.pointer (some (Ad50.add (i36 * 9)))) rfl rfl (hM48 2 rfl) (rfl) (fun _ hB_ => by exact r_iaddrS (len := a0.length) Try.underlying93 ag114.size (by exact tr rfl hv52) rfl (Int.natCast_nonneg _) (Int.ofNat_lt.2 hi42)) (dbits 10 7) ?_
   refine aL 3 (.agg (List.toArray (Term.enc (a0.getD i36 default)))) rfl rfl (hM48 3 rfl) (rfl) (fun _ hB_ => by exact r_loadCA (Term.enc (a0.getD i36 default)) (sl_cellsE ((hC.grow hB_).getP 0 rfl) hv52 i36 hi42) ag114 rfl rfl) (dbits 10 15) ?_
   refine aF 4 (u1_0) rfl rfl (hM49 4 rfl) (rfl) (fun _ => by exact r_mv (v := u1_0) (sx hS_ 1 rfl)) (dbits 10 31) ?_
   refine aF 5 (.int .i64 (i36 : Int)) rfl rfl (hM49 5 rfl) (rfl) (fun _ => by exact r_mv (v := .int .i64 (i36 : Int)) (sx hS_ 3 rfl)) (dbits 10 63) ?_
   obtain ⟨⟨h0_53, h1_54⟩, h⟩ := h
   obtain ⟨Ad55, c56, hv57⟩ := sl_form (hC.getP 1 rfl) i36 (show i36 < a1.length by omega)
   refine aL 6 (.pointer (some (Ad55.add (i36 * 9)))) rfl rfl (hM48 6 rfl) (rfl) (fun _ hB_ => by exact r_iaddrS (len := a1.length) Try.underlying93 ag114.size (by exact tr rfl hv57) rfl h0_53 h1_54) (dbits 10 127) ?_
   refine aL 7 (.agg (List.toArray (Term.enc (a1.getD i36 default)))) rfl rfl (hM48 7 rfl) (rfl) (fun _ hB_ => by exact r_loadCA (Term.enc (a1.getD i36 default)) (sl_cellsE ((hC.grow hB_).getP 1 rfl) hv57 i36 (show i36 < a1.length by omega)) ag114 rfl rfl) (dbits 10 255) ?_
   refine ae_tail 8 (by decide) (by decide) (by kernel_rfl) (by kernel_rfl) rfl ?_
   refine s_call [.agg (List.toArray (Term.enc (a0.getD i36 default))), .agg (List.toArray (Term.enc (a1.getD i36 default)))] _ Try.func161 rfl rfl rfl (c_laws_eqTerm (a0.getD i36 default) (a1.getD i36 default) h _) (fun ret58 w60 hR59 => ?_)
   obtain ⟨r61, rfl, h, hB62⟩ := hR59
   refine ⟨_, rfl, ?_⟩
   replace hC := hC.grow hB62
   refine s_not rfl ?_
   refine done ?_
   refine qn_norm ?_
   refine then_norm ?_
   refine cw_cond rfl (fun hb63 => ?_) (fun hb63 => ?_)
   ·replace h := ift h (ne_t (not_t hb63))
    refine sr ?_
    refine s_as (v := .bool false) rfl ?_
    refine dn ?_
    refine wp_ret (blk_ret (then_ret (then_ret (blk_ret (then_ret ?_)))))
    refine ret1 (fn := Try.f146) rfl ?_ ⟨false, rfl, h, hC.below⟩ (.inl rfl)
    exact res_tmp rfl
   ·replace h := iff_ h (not_not_intro ((not_f hb63)))
    refine wp_skip ?_
    refine blk_norm ?_
    refine then_norm ?_
    refine cw_region ?_
    refine s_mv (v := .int .i64 (i36 : Int)) (sx hS_ 3 rfl) ?_
    refine s_add rfl rfl ?_
    refine s_as (v := .int .i64 (IntKind.i64.wrap ((i36 : Int) + 1))) rfl ?_
    refine done ?_
    exact hK41 () _ _ ⟨(sk (sx hS_ 0 rfl) (sk (sx hS_ 1 rfl) (sk (sx hS_ 2 rfl) (sk (tr rfl (congrArg _ (wrap64_nat hi42 hN38))) sn)))), hC⟩ h
  ·clear hC h
   rintro s37 e_ w64 K40 ⟨hS_, hC⟩ h
   refine wp_seq ?_
   refine sr ?_
   refine s_mv (v := .int .i64 (a0.length : Int)) (sx hS_ 3 rfl) ?_
   refine s_mv (v := u0_0) (sx hS_ 0 rfl) ?_
   obtain ⟨Ad65, c66, hv67⟩ := sl_len (hC.getP 0 rfl)
   refine s_len Try.underlying93 (tr rfl hv67) ?_
   refine s_lss rfl rfl ?_
   refine dn ?_
   refine cw_false rfl (decide_eq_false (by omega)) ?_
   refine wp_exit (then_exit (then_exit (exit_in ?_)))
   refine then_norm ?_
   refine sr ?_
   refine s_as (v := .bool true) rfl ?_
   refine dn ?_
   refine wp_ret ?_
   refine ret1 (fn := Try.f146) rfl ?_ ⟨true, rfl, h, hC.below⟩ (.inl rfl)
   exact res_tmp rfl
  ·skip
   exact ⟨(sk rfl (sk rfl (sk rfl (sk rfl sn)))), hC⟩
def f_laws_eqForm (a0 : Vc.Form) (a1 : Vc.Form) (K : Bool → Prop) : Prop :=
 f_laws_eqTermS a0.terms a1.terms (fun r16 => (if ¬ (r16 = true) then K false else K true))
theorem c_laws_eqForm (a0 : Vc.Form) (a1 : Vc.Form) {u0_0 : Value} {u1_0 : Value} {fp0 : List Nat} {fp1 : List Nat} {K : Bool → Prop} (h : f_laws_eqForm a0 a1 K) (w0 : World) (q0 : TForm.rep a0 [u0_0] fp0 w0) (q1 : TForm.rep a1 [u1_0] fp1 w0) :
  Calls Try.prog 110 #[.agg #[u0_0], .agg #[u1_0]] w0 fun e w' => ∃ (r0 : Bool), 
   e = .returned (.bool r0) ∧ K r0 ∧ Bel w0 w' := by
 unfold f_laws_eqForm at h
 refine calls_of (args := [.agg #[u0_0], .agg #[u1_0]]) Try.func110 rfl 11 Try.ntmps110 (Nat.le_of_ble_eq_true rfl) ?_
 have hC := Ctx.start (X := Nox) w0 [Ty.item TForm a0 [u0_0] fp0, Ty.item TForm a1 [u1_0] fp1] (by simp only [List.mem_cons, List.not_mem_nil, or_false, forall_eq_or_imp, forall_eq]; exact ⟨q0, q1⟩)
 have hp3 := (hC.getP 0 rfl)
 replace hC := hC.derive 0 rfl (Ty.item ETerm.ty.sl a0.terms [u0_0] fp0) (fun _ => (form_parts hp3)) (fun _ hb_ => hb_)
 have hp5 := (hC.getP 2 rfl)
 replace hC := hC.derive 2 rfl (Ty.item ETerm.ty.sl a1.terms [u1_0] fp1) (fun _ => (form_parts hp5)) (fun _ hb_ => hb_)
 refine sr ?_
 refine s_box (v := .agg #[u0_0]) hC [u0_0] rfl rfl fun b7 w9 hB_ hC => ?_
 refine s_box (v := .agg #[u1_0]) hC [u1_0] rfl rfl fun b10 w12 hB_ hC => ?_
 refine s_as (v := .bool false) rfl ?_
 refine dn ?_
 refine wp_seq ?_
 refine sr ?_
 refine s_faddrB 0 Try.underlying95 rfl sc93.size rfl rfl ?_
 refine s_loadS hC 1 (u0_0) rfl sc93 rfl rfl ?_
 refine s_faddrB 0 Try.underlying95 rfl sc93.size rfl rfl ?_
 refine s_loadS hC 0 (u1_0) rfl sc93 rfl rfl ?_
 refine s_call [u0_0, u1_0] _ Try.func146 rfl rfl rfl (c_laws_eqTermS a0.terms a1.terms h _ (hC.getP 1 rfl) (hC.getP 0 rfl)) (fun ret13 w15 hR14 => ?_)
 obtain ⟨r16, rfl, h, hB17⟩ := hR14
 refine ⟨_, rfl, ?_⟩
 replace hC := hC.grow hB17
 refine s_not rfl ?_
 refine dn ?_
 refine cw_cond rfl (fun hb18 => ?_) (fun hb18 => ?_)
 ·replace h := ift h (ne_t (not_t hb18))
  refine sr ?_
  refine s_as (v := .bool false) rfl ?_
  refine dn ?_
  refine wp_ret (then_ret ?_)
  refine ret1 (fn := Try.f110) rfl ?_ ⟨false, rfl, h, hC.below⟩ (.inl rfl)
  exact res_tmp rfl
 ·replace h := iff_ h (not_not_intro ((not_f hb18)))
  refine wp_skip ?_
  refine then_norm ?_
  refine sr ?_
  refine s_as (v := .bool true) rfl ?_
  refine dn ?_
  refine wp_ret ?_
  refine ret1 (fn := Try.f110) rfl ?_ ⟨true, rfl, h, hC.below⟩ (.inl rfl)
  exact res_tmp rfl
def f_laws_eqFormS (a0 : List Vc.Form) (a1 : List Vc.Form) (K : Bool → Prop) : Prop :=
 (if (a0.length : Int) ≠ (a1.length : Int) then K false else forN (fun i48 (s49 : Unit) next51 => ((0 ≤ (i48 : Int) ∧ (i48 : Int) < (a1.length : Int)) ∧ f_laws_eqForm (a0.getD i48 default) (a1.getD i48 default) (fun r85 => (if ¬ (r85 = true) then K false else next51 ())))) (fun (s49 : Unit) => K true) a0.length 0 ())
theorem c_laws_eqFormS (a0 : List Vc.Form) (a1 : List Vc.Form) {u0_0 : Value} {u1_0 : Value} {fp0 : List Nat} {fp1 : List Nat} {K : Bool → Prop} (h : f_laws_eqFormS a0 a1 K) (w0 : World) (q0 : TForm.sl.rep a0 [u0_0] fp0 w0) (q1 : TForm.sl.rep a1 [u1_0] fp1 w0) :
  Calls Try.prog 51 #[u0_0, u1_0] w0 fun e w' => ∃ (r0 : Bool), 
   e = .returned (.bool r0) ∧ K r0 ∧ Bel w0 w' := by
 unfold f_laws_eqFormS at h
 refine calls_of (args := [u0_0, u1_0]) Try.func51 rfl 27 Try.ntmps51 (Nat.le_of_ble_eq_true rfl) ?_
 have hC := Ctx.start (X := Nox) w0 [Ty.item TForm.sl a0 [u0_0] fp0, Ty.item TForm.sl a1 [u1_0] fp1] (by simp only [List.mem_cons, List.not_mem_nil, or_false, forall_eq_or_imp, forall_eq]; exact ⟨q0, q1⟩)
 refine sr ?_
 refine s_as (v := .bool false) rfl ?_
 refine dn ?_
 refine wp_seq ?_
 refine sr ?_
 refine s_mv (v := u0_0) rfl ?_
 obtain ⟨Ad3, c4, hv5⟩ := sl_len (hC.getP 0 rfl)
 refine s_len Try.underlying30 (tr rfl hv5) ?_
 refine s_mv (v := u1_0) rfl ?_
 obtain ⟨Ad6, c7, hv8⟩ := sl_len (hC.getP 1 rfl)
 refine s_len Try.underlying30 (tr rfl hv8) ?_
 refine s_neq rfl rfl ?_
 refine dn ?_
 refine cw_cond rfl (fun hb9 => ?_) (fun hb9 => ?_)
 ·replace h := ift h (ct hb9)
  refine sr ?_
  refine s_as (v := .bool false) rfl ?_
  refine dn ?_
  refine wp_ret (then_ret ?_)
  refine ret1 (fn := Try.f51) rfl ?_ ⟨false, rfl, h, hC.below⟩ (.inl rfl)
  exact res_tmp rfl
 ·replace h := iff_ h (cf hb9)
  refine wp_skip ?_
  refine then_norm ?_
  refine wp_seq ?_
  refine sr ?_
  refine s_as (v := .int .i64 0) rfl ?_
  refine dn ?_
  refine wp_block ?_
  have hN50 : a0.length ≤ 9223372036854775807 := sl_max (hC.getP 0 rfl)
  refine loopN (S := Unit) _ _ (fun i48 s49 e_ w_ => Slots e_ [(0, u0_0), (1, u1_0), (4, .bool false), (5, .int .i64 (i48 : Int))] ∧ Ctx Nox w0 w_ [] [Ty.item TForm.sl a0 [u0_0] fp0, Ty.item TForm.sl a1 [u1_0] fp1]) a0.length ?_ ?_ (s0 := ()) ?_ h
  ·clear hC h
   rintro i48 s49 e_ w55 next51 K52 hi54 ⟨hS_, hC⟩ h hK53
   refine wp_seq ?_
   refine sr ?_
   refine s_mv (v := .int .i64 (i48 : Int)) (sx hS_ 3 rfl) ?_
   refine s_mv (v := u0_0) (sx hS_ 0 rfl) ?_
   obtain ⟨Ad56, c57, hv58⟩ := sl_len (hC.getP 0 rfl)
   refine s_len Try.underlying30 (tr rfl hv58) ?_
   refine s_lss rfl rfl ?_
   refine dn ?_
   refine cw_true rfl (decide_eq_true (by omega)) ?_
   refine wp_skip ?_
   refine then_norm ?_
   refine wp_seq ?_
   refine wp_block ?_
   refine wp_seq ?_
   refine cw_draw 8 mixed [0, 0, 3, 7, 0, 0, 48, 112, 255, 511] [2, 3, 6, 7] [0, 1, 4, 5] (by kernel_rfl) (by kernel_rfl) (by kernel_rfl) (fun hM60 hM61 w59 hB_ => ?_)
   replace hC := hC.grow hB_
   refine aF 0 (u0_0) rfl rfl (hM61 0 rfl) (rfl) (fun _ => by exact r_mv (v := u0_0) (sx hS_ 0 rfl)) (dbits 10 1) ?_
   refine aF 1 (.int .i64 (i48 : Int)) rfl rfl (hM61 1 rfl) (rfl) (fun _ => by exact r_mv (v := .int .i64 (i48 : Int)) (sx hS_ 3 rfl)) (dbits 10 3) ?_
   obtain ⟨Ad62, c63, hv64⟩ := sl_form (hC.getP 0 rfl) i48 hi54
   refine aL 2 (.pointer (some (Ad62.add (i48 * 1)))) rfl rfl (hM60 2 rfl) (rfl) (fun _ hB_ => by exact r_iaddrS (len := a0.length) Try.underlying30 ag95.size (by exact tr rfl hv64) rfl (Int.natCast_nonneg _) (Int.ofNat_lt.2 hi54)) (dbits 10 7) ?_
   obtain ⟨cs_, hl66, hc67, hr68⟩ := sl_cells (hC.getP 0 rfl) hv64 i48 hi54
   obtain ⟨u65, rfl⟩ := List.length_eq_one_iff.1 hl66
   clear hl66
   rw [getD_eq _ _ hi54] at hr68
   have hp69 := hr68
   replace hC := hC.derive 0 rfl (Ty.item ETerm.ty.sl ((a0.getD i48 default).terms) [u65] fp0) (fun _ => (form_parts hp69)) (fun _ hb_ => hb_)
   refine aL 3 (.agg #[u65]) rfl rfl (hM60 3 rfl) (rfl) (fun _ hB_ => by exact r_loadCA [u65] (cellsAt_bel hB_ hc67) ag95 rfl rfl) (dbits 10 15) ?_
   refine aF 4 (u1_0) rfl rfl (hM61 4 rfl) (rfl) (fun _ => by exact r_mv (v := u1_0) (sx hS_ 1 rfl)) (dbits 10 31) ?_
   refine aF 5 (.int .i64 (i48 : Int)) rfl rfl (hM61 5 rfl) (rfl) (fun _ => by exact r_mv (v := .int .i64 (i48 : Int)) (sx hS_ 3 rfl)) (dbits 10 63) ?_
   obtain ⟨⟨h0_71, h1_72⟩, h⟩ := h
   obtain ⟨Ad73, c74, hv75⟩ := sl_form (hC.getP 2 rfl) i48 (show i48 < a1.length by omega)
   refine aL 6 (.pointer (some (Ad73.add (i48 * 1)))) rfl rfl (hM60 6 rfl) (rfl) (fun _ hB_ => by exact r_iaddrS (len := a1.length) Try.underlying30 ag95.size (by exact tr rfl hv75) rfl h0_71 h1_72) (dbits 10 127) ?_
   obtain ⟨cs_, hl77, hc78, hr79⟩ := sl_cells (hC.getP 2 rfl) hv75 i48 (show i48 < a1.length by omega)
   obtain ⟨u76, rfl⟩ := List.length_eq_one_iff.1 hl77
   clear hl77
   rw [getD_eq _ _ (show i48 < a1.length by omega)] at hr79
   have hp80 := hr79
   replace hC := hC.derive 2 rfl (Ty.item ETerm.ty.sl ((a1.getD i48 default).terms) [u76] fp1) (fun _ => (form_parts hp80)) (fun _ hb_ => hb_)
   refine aL 7 (.agg #[u76]) rfl rfl (hM60 7 rfl) (rfl) (fun _ hB_ => by exact r_loadCA [u76] (cellsAt_bel hB_ hc78) ag95 rfl rfl) (dbits 10 255) ?_
   refine ae_tail 8 (by decide) (by decide) (by kernel_rfl) (by kernel_rfl) rfl ?_
   refine s_call [.agg #[u65], .agg #[u76]] _ Try.func110 rfl rfl rfl (c_laws_eqForm (a0.getD i48 default) (a1.getD i48 default) h _ (form_mk (hC.getP 1 rfl)) (form_mk (hC.getP 0 rfl))) (fun ret82 w84 hR83 => ?_)
   obtain ⟨r85, rfl, h, hB86⟩ := hR83
   refine ⟨_, rfl, ?_⟩
   replace hC := hC.grow hB86
   refine s_not rfl ?_
   refine done ?_
   refine qn_norm ?_
   refine then_norm ?_
   refine cw_cond rfl (fun hb87 => ?_) (fun hb87 => ?_)
   ·replace h := ift h (ne_t (not_t hb87))
    refine sr ?_
    refine s_as (v := .bool false) rfl ?_
    refine dn ?_
    refine wp_ret (blk_ret (then_ret (then_ret (blk_ret (then_ret ?_)))))
    refine ret1 (fn := Try.f51) rfl ?_ ⟨false, rfl, h, hC.below⟩ (.inl rfl)
    exact res_tmp rfl
   ·replace h := iff_ h (not_not_intro ((not_f hb87)))
    refine wp_skip ?_
    refine blk_norm ?_
    refine then_norm ?_
    refine cw_region ?_
    refine s_mv (v := .int .i64 (i48 : Int)) (sx hS_ 3 rfl) ?_
    refine s_add rfl rfl ?_
    refine s_as (v := .int .i64 (IntKind.i64.wrap ((i48 : Int) + 1))) rfl ?_
    refine done ?_
    replace hC := hC.sP [2, 3] (Ps' := [Ty.item TForm.sl a0 [u0_0] fp0, Ty.item TForm.sl a1 [u1_0] fp1]) rfl
    exact hK53 () _ _ ⟨(sk (sx hS_ 0 rfl) (sk (sx hS_ 1 rfl) (sk (sx hS_ 2 rfl) (sk (tr rfl (congrArg _ (wrap64_nat hi54 hN50))) sn)))), hC⟩ h
  ·clear hC h
   rintro s49 e_ w88 K52 ⟨hS_, hC⟩ h
   refine wp_seq ?_
   refine sr ?_
   refine s_mv (v := .int .i64 (a0.length : Int)) (sx hS_ 3 rfl) ?_
   refine s_mv (v := u0_0) (sx hS_ 0 rfl) ?_
   obtain ⟨Ad89, c90, hv91⟩ := sl_len (hC.getP 0 rfl)
   refine s_len Try.underlying30 (tr rfl hv91) ?_
   refine s_lss rfl rfl ?_
   refine dn ?_
   refine cw_false rfl (decide_eq_false (by omega)) ?_
   refine wp_exit (then_exit (then_exit (exit_in ?_)))
   refine then_norm ?_
   refine sr ?_
   refine s_as (v := .bool true) rfl ?_
   refine dn ?_
   refine wp_ret ?_
   refine ret1 (fn := Try.f51) rfl ?_ ⟨true, rfl, h, hC.below⟩ (.inl rfl)
   exact res_tmp rfl
  ·skip
   exact ⟨(sk rfl (sk rfl (sk rfl (sk rfl sn)))), hC⟩
def f_laws_markTermS (a0 : List Term) (a1 : Int) (K : Int → List Term → Prop) : Prop :=
 whileP (fun (s223 : (List Term) × Int × Int) next224 => (if s223.2.2 < (s223.1.length : Int) then forN (fun i262 (s263 : (List Term) × Int) next264 => ((0 ≤ s223.2.2 ∧ s223.2.2 < (s263.1.length : Int)) ∧ next264 (s263.1.set s223.2.2.toNat (⟨((s263.1.getD s223.2.2.toNat default).mono).set i262 (IntKind.u8.wrap s263.2), (s263.1.getD s223.2.2.toNat default).factor⟩ : Term), IntKind.i64.wrap (s263.2 + 1)))) (fun (s263 : (List Term) × Int) => ((0 ≤ s223.2.2 ∧ s223.2.2 < (s263.1.length : Int)) ∧ next224 (s263.1.set s223.2.2.toNat (⟨(s263.1.getD s223.2.2.toNat default).mono, s263.2⟩ : Term), IntKind.i64.wrap (s263.2 + 1), IntKind.i64.wrap (s223.2.2 + 1)))) 8 0 (s223.1, s223.2.1) else K s223.2.1 s223.1)) (a0, a1, 0)
theorem c_laws_markTermS (a0 : List Term) (a1 : Int) {u0_0 : Value} {K : Int → List Term → Prop} (h : f_laws_markTermS a0 a1 K) (w0 : World) (qw0 : (own 114 9 u0_0 a0.length (ETerm.encs a0)).holds w0) :
  Calls Try.prog 111 #[u0_0, .int .i64 a1] w0 fun e w' => ∃ (r0 : Int) (mw : List Term), 
   e = .returned (.int .i64 r0) ∧ K r0 mw ∧ (own 114 9 u0_0 mw.length (ETerm.encs mw)).holds w' ∧ BelO ((Option.toList (Value.ownBlock u0_0))) w0 w' := by
 unfold f_laws_markTermS at h
 refine calls_of (args := [u0_0, .int .i64 a1]) Try.func111 rfl 35 Try.ntmps111 (Nat.le_of_ble_eq_true rfl) ?_
 have hC := Ctx.startL w0 ((Option.toList (Value.ownBlock u0_0))) [own 114 9 u0_0 a0.length (ETerm.encs a0)] [] (by simp only [List.mem_cons, List.not_mem_nil, or_false, forall_eq_or_imp, forall_eq]; exact qw0) (by simp) (by simp only [List.mem_cons, List.not_mem_nil, or_false, forall_eq_or_imp, forall_eq]; exact fun b hb => hb) (List.pairwise_singleton _ _) (by simp)
 refine sr ?_
 refine s_as (v := .int .i64 0) rfl ?_
 refine dn ?_
 refine wp_seq ?_
 refine sr ?_
 refine s_as (v := .int .i64 0) rfl ?_
 refine dn ?_
 refine wp_block ?_
 refine loopW (S := (List Term) × Int × Int) _ (fun s223 e_ w_ => Slots e_ [(0, u0_0), (1, .int .i64 s223.2.1), (4, .int .i64 0), (5, .int .i64 s223.2.2)] ∧ Ctx (fun c_ => c_ ∈ (Option.toList (Value.ownBlock u0_0))) w0 w_ [own 114 9 u0_0 s223.1.length (ETerm.encs s223.1)] []) ?_ (s0 := (a0, a1, 0)) ?_ h
 ·clear hC h
  rintro s223 e_ w227 next224 K225 ⟨hS_, hC⟩ h hK226
  refine wp_seq ?_
  refine sr ?_
  refine s_mv (v := .int .i64 s223.2.2) (sx hS_ 3 rfl) ?_
  refine s_mv (v := u0_0) (sx hS_ 0 rfl) ?_
  obtain ⟨Ad228, c229, hv230⟩ := own_form (hC.getM 0 rfl)
  refine s_len Try.underlying93 (tr rfl hv230) ?_
  refine s_lss rfl rfl ?_
  refine dn ?_
  refine cw_cond rfl (fun hb231 => ?_) (fun hb231 => ?_)
  ·replace h := ift h (ct hb231)
   refine wp_skip ?_
   refine then_norm ?_
   refine wp_seq ?_
   refine wp_block ?_
   refine wp_seq ?_
   refine sr ?_
   refine s_as (v := .int .i64 0) rfl ?_
   refine dn ?_
   refine wp_block ?_
   refine loopN (S := (List Term) × Int) _ _ (fun i262 s263 e_ w_ => Slots e_ [(0, u0_0), (1, .int .i64 s263.2), (4, .int .i64 0), (5, .int .i64 s223.2.2), (6, .int .i64 (i262 : Int)), (7, .int .i64 s223.2.2), (8, u0_0), (9, .int .i64 (s223.1.length : Int)), (10, .bool (decide (s223.2.2 < (s223.1.length : Int))))] ∧ Ctx (fun c_ => c_ ∈ (Option.toList (Value.ownBlock u0_0))) w0 w_ [own 114 9 u0_0 s263.1.length (ETerm.encs s263.1)] []) 8 ?_ ?_ (s0 := (s223.1, s223.2.1)) ?_ h
   ·clear hC h
    rintro i262 s263 e_ w268 next264 K265 hi267 ⟨hS_, hC⟩ h hK266
    refine wp_seq ?_
    refine sr ?_
    refine s_mv (v := .int .i64 (i262 : Int)) (sx hS_ 4 rfl) ?_
    refine s_lss rfl rfl ?_
    refine dn ?_
    refine cw_true rfl (decide_eq_true (by omega)) ?_
    refine wp_skip ?_
    refine then_norm ?_
    refine wp_seq ?_
    refine wp_block ?_
    refine sr ?_
    refine s_mv (v := u0_0) (sx hS_ 0 rfl) ?_
    refine s_mv (v := .int .i64 s223.2.2) (sx hS_ 3 rfl) ?_
    refine s_mv (v := .int .i64 (i262 : Int)) (sx hS_ 4 rfl) ?_
    refine s_mv (v := .int .i64 s263.2) (sx hS_ 1 rfl) ?_
    refine s_conv Try.underlying3 Try.underlying5 rfl ?_
    obtain ⟨⟨h0_269, h1_270⟩, h⟩ := h
    obtain ⟨Ad271, c272, hv273⟩ := own_formE (hC.getM 0 rfl) (Nat.lt_of_le_of_lt (Nat.zero_le _) (show s223.2.2.toNat < s263.1.length by omega))
    refine s_iaddrO (s223.2.2.toNat * 9) Try.underlying93 ag114.size (tr rfl hv273) rfl h0_269 h1_270 rfl ?_
    refine s_faddrB (s223.2.2.toNat * 9 + 0) Try.underlying114 rfl ag49.size rfl rfl ?_
    refine s_iaddrB (s223.2.2.toNat * 9 + 0 + i262) Try.underlying49 sc5.size rfl rfl (Int.natCast_nonneg _) (by omega) (by omega) ?_
    refine s_storeO (v := .int .u8 (IntKind.u8.wrap s263.2)) hC 0 [.int .u8 (IntKind.u8.wrap s263.2)] (ETerm.encs (s263.1.set s223.2.2.toNat (⟨((s263.1.getD s223.2.2.toNat default).mono).set i262 (IntKind.u8.wrap s263.2), (s263.1.getD s223.2.2.toNat default).factor⟩ : Term))) rfl hv273 sc5.size rfl rfl rfl rfl rfl (by rw [Enc.encs_len]; have := seg_le (sz := 9) (show s223.2.2.toNat < s263.1.length by omega); have h9 : i262 + 1 ≤ 9 := (show i262 + 1 ≤ 9 by omega); have e9 : ETerm.sz = 9 := rfl; rw [e9]; omega) (splice_in (E := ETerm) (o := i262) (show s223.2.2.toNat < s263.1.length by omega) (show i262 + 1 ≤ 9 by omega) (arr_set hi267)) fun w274 hC => ?_
    replace hC := own_re hC 0 ((s263.1.set s223.2.2.toNat (⟨((s263.1.getD s223.2.2.toNat default).mono).set i262 (IntKind.u8.wrap s263.2), (s263.1.getD s223.2.2.toNat default).factor⟩ : Term)).length) (ETerm.encs (s263.1.set s223.2.2.toNat (⟨((s263.1.getD s223.2.2.toNat default).mono).set i262 (IntKind.u8.wrap s263.2), (s263.1.getD s223.2.2.toNat default).factor⟩ : Term))) rfl (by simp) rfl
    refine dn ?_
    refine cw_region ?_
    refine s_mv (v := .int .i64 s263.2) (sx hS_ 1 rfl) ?_
    refine s_add rfl rfl ?_
    refine s_as (v := .int .i64 (IntKind.i64.wrap (s263.2 + 1))) rfl ?_
    refine done ?_
    refine blk_norm ?_
    refine then_norm ?_
    refine cw_region ?_
    refine s_mv (v := .int .i64 (i262 : Int)) (sx hS_ 4 rfl) ?_
    refine s_add rfl rfl ?_
    refine s_as (v := .int .i64 (IntKind.i64.wrap ((i262 : Int) + 1))) rfl ?_
    refine done ?_
    exact hK266 (s263.1.set s223.2.2.toNat (⟨((s263.1.getD s223.2.2.toNat default).mono).set i262 (IntKind.u8.wrap s263.2), (s263.1.getD s223.2.2.toNat default).factor⟩ : Term), IntKind.i64.wrap (s263.2 + 1)) _ _ ⟨(sk (sx hS_ 0 rfl) (sk rfl (sk (sx hS_ 2 rfl) (sk (sx hS_ 3 rfl) (sk (tr rfl (congrArg _ (wrap64_nat hi267 (by decide)))) (sk (sx hS_ 5 rfl) (sk (sx hS_ 6 rfl) (sk (sx hS_ 7 rfl) (sk (sx hS_ 8 rfl) sn))))))))), hC⟩ h
   ·clear hC h
    rintro s263 e_ w275 K265 ⟨hS_, hC⟩ h
    refine wp_seq ?_
    refine sr ?_
    refine s_mv (v := .int .i64 8) (sx hS_ 4 rfl) ?_
    refine s_lss rfl rfl ?_
    refine dn ?_
    refine cw_false rfl (decide_eq_false (by omega)) ?_
    refine wp_exit (then_exit (then_exit (exit_in ?_)))
    refine then_norm ?_
    refine sr ?_
    refine s_mv (v := u0_0) (sx hS_ 0 rfl) ?_
    refine s_mv (v := .int .i64 s223.2.2) (sx hS_ 3 rfl) ?_
    refine s_mv (v := .int .i64 s263.2) (sx hS_ 1 rfl) ?_
    obtain ⟨⟨h0_276, h1_277⟩, h⟩ := h
    obtain ⟨Ad278, c279, hv280⟩ := own_formE (hC.getM 0 rfl) (Nat.lt_of_le_of_lt (Nat.zero_le _) (show s223.2.2.toNat < s263.1.length by omega))
    refine s_iaddrO (s223.2.2.toNat * 9) Try.underlying93 ag114.size (tr rfl hv280) rfl h0_276 h1_277 rfl ?_
    refine s_faddrB (s223.2.2.toNat * 9 + 8) Try.underlying114 rfl sc2.size rfl rfl ?_
    refine s_storeO (v := .int .i64 s263.2) hC 0 [.int .i64 s263.2] (ETerm.encs (s263.1.set s223.2.2.toNat (⟨(s263.1.getD s223.2.2.toNat default).mono, s263.2⟩ : Term))) rfl hv280 sc2.size rfl rfl rfl rfl rfl (by rw [Enc.encs_len]; have := seg_le (sz := 9) (show s223.2.2.toNat < s263.1.length by omega); have h9 : 8 + 1 ≤ 9 := (Nat.le_of_ble_eq_true rfl); have e9 : ETerm.sz = 9 := rfl; rw [e9]; omega) (splice_in (E := ETerm) (o := 8) (show s223.2.2.toNat < s263.1.length by omega) (Nat.le_of_ble_eq_true rfl) rfl) fun w281 hC => ?_
    replace hC := own_re hC 0 ((s263.1.set s223.2.2.toNat (⟨(s263.1.getD s223.2.2.toNat default).mono, s263.2⟩ : Term)).length) (ETerm.encs (s263.1.set s223.2.2.toNat (⟨(s263.1.getD s223.2.2.toNat default).mono, s263.2⟩ : Term))) rfl (by simp) rfl
    refine dn ?_
    refine cw_region ?_
    refine s_mv (v := .int .i64 s263.2) (sx hS_ 1 rfl) ?_
    refine s_add rfl rfl ?_
    refine s_as (v := .int .i64 (IntKind.i64.wrap (s263.2 + 1))) rfl ?_
    refine done ?_
    refine blk_norm ?_
    refine then_norm ?_
    refine cw_region ?_
    refine s_mv (v := .int .i64 s223.2.2) (sx hS_ 3 rfl) ?_
    refine s_add rfl rfl ?_
    refine s_as (v := .int .i64 (IntKind.i64.wrap (s223.2.2 + 1))) rfl ?_
    refine done ?_
    exact hK226 (s263.1.set s223.2.2.toNat (⟨(s263.1.getD s223.2.2.toNat default).mono, s263.2⟩ : Term), IntKind.i64.wrap (s263.2 + 1), IntKind.i64.wrap (s223.2.2 + 1)) _ _ ⟨(sk (sx hS_ 0 rfl) (sk rfl (sk (sx hS_ 2 rfl) (sk rfl sn)))), hC⟩ h
   ·skip
    exact ⟨(sk (sx hS_ 0 rfl) (sk (sx hS_ 1 rfl) (sk (sx hS_ 2 rfl) (sk (sx hS_ 3 rfl) (sk rfl (sk rfl (sk rfl (sk rfl (sk rfl sn))))))))), hC⟩
  ·replace h := iff_ h (cf hb231)
   refine wp_exit (then_exit (then_exit (exit_in ?_)))
   refine then_norm ?_
   refine sr ?_
   refine s_mv (v := .int .i64 s223.2.1) (sx hS_ 1 rfl) ?_
   refine s_as (v := .int .i64 s223.2.1) rfl ?_
   refine dn ?_
   refine wp_ret ?_
   refine ret1 (fn := Try.f111) rfl ?_ ⟨s223.2.1, s223.1, rfl, h, (hC.getM 0 rfl), hC.belO⟩ (.inl rfl)
   exact res_tmp rfl
 ·skip
  exact ⟨(sk rfl (sk rfl (sk rfl (sk rfl sn)))), hC⟩
def f_laws_heldTermS (a0 : List Term) (a1 : Int) (K : Int → Prop) : Prop :=
 forN (fun i93 (s94 : Int) next96 => forN (fun i126 (s127 : Int) next128 => (if ((a0.getD i93 default).mono).get i126 ≠ IntKind.u8.wrap s127 then K (-1) else next128 (IntKind.i64.wrap (s127 + 1)))) (fun (s127 : Int) => (if (a0.getD i93 default).factor ≠ s127 then K (-1) else next96 (IntKind.i64.wrap (s127 + 1)))) 8 0 s94) (fun (s94 : Int) => K s94) a0.length 0 a1
theorem c_laws_heldTermS (a0 : List Term) (a1 : Int) {u0_0 : Value} {fp0 : List Nat} {K : Int → Prop} (h : f_laws_heldTermS a0 a1 K) (w0 : World) (q0 : ETerm.ty.sl.rep a0 [u0_0] fp0 w0) :
  Calls Try.prog 125 #[u0_0, .int .i64 a1] w0 fun e w' => ∃ (r0 : Int), 
   e = .returned (.int .i64 r0) ∧ K r0 ∧ Bel w0 w' := by
 unfold f_laws_heldTermS at h
 refine calls_of (args := [u0_0, .int .i64 a1]) Try.func125 rfl 39 Try.ntmps125 (Nat.le_of_ble_eq_true rfl) ?_
 have hC := Ctx.start (X := Nox) w0 [Ty.item ETerm.ty.sl a0 [u0_0] fp0] (by simp only [List.mem_cons, List.not_mem_nil, or_false, forall_eq_or_imp, forall_eq]; exact q0)
 refine sr ?_
 refine s_as (v := .int .i64 0) rfl ?_
 refine dn ?_
 refine wp_seq ?_
 refine sr ?_
 refine s_as (v := .int .i64 0) rfl ?_
 refine dn ?_
 refine wp_block ?_
 have hN95 : a0.length ≤ 9223372036854775807 := sl_max (hC.getP 0 rfl)
 refine loopN (S := Int) _ _ (fun i93 s94 e_ w_ => Slots e_ [(0, u0_0), (1, .int .i64 s94), (4, .int .i64 0), (5, .int .i64 (i93 : Int))] ∧ Ctx Nox w0 w_ [] [Ty.item ETerm.ty.sl a0 [u0_0] fp0]) a0.length ?_ ?_ (s0 := a1) ?_ h
 ·clear hC h
  rintro i93 s94 e_ w100 next96 K97 hi99 ⟨hS_, hC⟩ h hK98
  refine wp_seq ?_
  refine sr ?_
  refine s_mv (v := .int .i64 (i93 : Int)) (sx hS_ 3 rfl) ?_
  refine s_mv (v := u0_0) (sx hS_ 0 rfl) ?_
  obtain ⟨Ad101, c102, hv103⟩ := sl_len (hC.getP 0 rfl)
  refine s_len Try.underlying93 (tr rfl hv103) ?_
  refine s_lss rfl rfl ?_
  refine dn ?_
  refine cw_true rfl (decide_eq_true (by omega)) ?_
  refine wp_skip ?_
  refine then_norm ?_
  refine wp_seq ?_
  refine wp_block ?_
  refine wp_seq ?_
  refine sr ?_
  refine s_as (v := .int .i64 0) rfl ?_
  refine dn ?_
  refine wp_block ?_
  refine loopN (S := Int) _ _ (fun i126 s127 e_ w_ => Slots e_ [(0, u0_0), (1, .int .i64 s127), (4, .int .i64 0), (5, .int .i64 (i93 : Int)), (6, .int .i64 (i126 : Int)), (7, .int .i64 (i93 : Int)), (8, u0_0), (9, .int .i64 (a0.length : Int)), (10, .bool (decide ((i93 : Int) < (a0.length : Int))))] ∧ Ctx Nox w0 w_ [] [Ty.item ETerm.ty.sl a0 [u0_0] fp0]) 8 ?_ ?_ (s0 := s94) ?_ h
  ·clear hC h
   rintro i126 s127 e_ w132 next128 K129 hi131 ⟨hS_, hC⟩ h hK130
   refine wp_seq ?_
   refine sr ?_
   refine s_mv (v := .int .i64 (i126 : Int)) (sx hS_ 4 rfl) ?_
   refine s_lss rfl rfl ?_
   refine dn ?_
   refine cw_true rfl (decide_eq_true (by omega)) ?_
   refine wp_skip ?_
   refine then_norm ?_
   refine wp_seq ?_
   refine wp_block ?_
   refine wp_seq ?_
   refine sr ?_
   refine s_mv (v := u0_0) (sx hS_ 0 rfl) ?_
   refine s_mv (v := .int .i64 (i93 : Int)) (sx hS_ 3 rfl) ?_
   refine s_mv (v := .int .i64 (i126 : Int)) (sx hS_ 4 rfl) ?_
   obtain ⟨Ad133, c134, hv135⟩ := sl_form (hC.getP 0 rfl) i93 hi99
   refine s_iaddrS (len := a0.length) Try.underlying93 ag114.size (tr rfl hv135) rfl (Int.natCast_nonneg _) (Int.ofNat_lt.2 hi99) ?_
   refine s_faddrS (i93 * 9 + 0) Try.underlying114 rfl ag49.size rfl rfl ?_
   refine s_iaddrSa (i93 * 9 + 0 + i126) Try.underlying49 sc5.size rfl rfl (Int.natCast_nonneg _) (by omega) (by omega) ?_
   refine s_loadCS (.int .u8 (((a0.getD i93 default).mono).get i126)) (cells_subS (o := i126) (k := 1) (sl_cellsE (hC.getP 0 rfl) hv135 i93 hi99) (arr_at (r := _) hi131)) sc5 rfl ?_
   refine s_mv (v := .int .i64 s127) (sx hS_ 1 rfl) ?_
   refine s_conv Try.underlying3 Try.underlying5 rfl ?_
   refine s_neq rfl rfl ?_
   refine dn ?_
   refine cw_cond rfl (fun hb136 => ?_) (fun hb136 => ?_)
   ·replace h := ift h (ct hb136)
    refine sr ?_
    refine s_as (v := .int .i64 (-1)) rfl ?_
    refine dn ?_
    refine wp_ret (then_ret (blk_ret (then_ret (then_ret (blk_ret (then_ret (blk_ret (then_ret (then_ret (blk_ret (then_ret ?_)))))))))))
    refine ret1 (fn := Try.f125) rfl ?_ ⟨(-1), rfl, h, hC.below⟩ (.inl rfl)
    exact res_tmp rfl
   ·replace h := iff_ h (cf hb136)
    refine wp_skip ?_
    refine then_norm ?_
    refine cw_region ?_
    refine s_mv (v := .int .i64 s127) (sx hS_ 1 rfl) ?_
    refine s_add rfl rfl ?_
    refine s_as (v := .int .i64 (IntKind.i64.wrap (s127 + 1))) rfl ?_
    refine done ?_
    refine blk_norm ?_
    refine then_norm ?_
    refine cw_region ?_
    refine s_mv (v := .int .i64 (i126 : Int)) (sx hS_ 4 rfl) ?_
    refine s_add rfl rfl ?_
    refine s_as (v := .int .i64 (IntKind.i64.wrap ((i126 : Int) + 1))) rfl ?_
    refine done ?_
    exact hK130 (IntKind.i64.wrap (s127 + 1)) _ _ ⟨(sk (sx hS_ 0 rfl) (sk rfl (sk (sx hS_ 2 rfl) (sk (sx hS_ 3 rfl) (sk (tr rfl (congrArg _ (wrap64_nat hi131 (by decide)))) (sk (sx hS_ 5 rfl) (sk (sx hS_ 6 rfl) (sk (sx hS_ 7 rfl) (sk (sx hS_ 8 rfl) sn))))))))), hC⟩ h
  ·clear hC h
   rintro s127 e_ w137 K129 ⟨hS_, hC⟩ h
   refine wp_seq ?_
   refine sr ?_
   refine s_mv (v := .int .i64 8) (sx hS_ 4 rfl) ?_
   refine s_lss rfl rfl ?_
   refine dn ?_
   refine cw_false rfl (decide_eq_false (by omega)) ?_
   refine wp_exit (then_exit (then_exit (exit_in ?_)))
   refine then_norm ?_
   refine wp_seq ?_
   refine sr ?_
   refine s_mv (v := u0_0) (sx hS_ 0 rfl) ?_
   refine s_mv (v := .int .i64 (i93 : Int)) (sx hS_ 3 rfl) ?_
   obtain ⟨Ad138, c139, hv140⟩ := sl_form (hC.getP 0 rfl) i93 hi99
   refine s_iaddrS (len := a0.length) Try.underlying93 ag114.size (tr rfl hv140) rfl (Int.natCast_nonneg _) (Int.ofNat_lt.2 hi99) ?_
   refine s_faddrS (i93 * 9 + 8) Try.underlying114 rfl sc2.size rfl rfl ?_
   refine s_loadCS (.int .i64 ((a0.getD i93 default).factor)) (cells_subS (o := 8) (k := 1) (sl_cellsE (hC.getP 0 rfl) hv140 i93 hi99) rfl) sc2 rfl ?_
   refine s_mv (v := .int .i64 s127) (sx hS_ 1 rfl) ?_
   refine s_neq rfl rfl ?_
   refine dn ?_
   refine cw_cond rfl (fun hb141 => ?_) (fun hb141 => ?_)
   ·replace h := ift h (ct hb141)
    refine sr ?_
    refine s_as (v := .int .i64 (-1)) rfl ?_
    refine dn ?_
    refine wp_ret (then_ret (blk_ret (then_ret (then_ret (blk_ret (then_ret ?_))))))
    refine ret1 (fn := Try.f125) rfl ?_ ⟨(-1), rfl, h, hC.below⟩ (.inl rfl)
    exact res_tmp rfl
   ·replace h := iff_ h (cf hb141)
    refine wp_skip ?_
    refine then_norm ?_
    refine cw_region ?_
    refine s_mv (v := .int .i64 s127) (sx hS_ 1 rfl) ?_
    refine s_add rfl rfl ?_
    refine s_as (v := .int .i64 (IntKind.i64.wrap (s127 + 1))) rfl ?_
    refine done ?_
    refine blk_norm ?_
    refine then_norm ?_
    refine cw_region ?_
    refine s_mv (v := .int .i64 (i93 : Int)) (sx hS_ 3 rfl) ?_
    refine s_add rfl rfl ?_
    refine s_as (v := .int .i64 (IntKind.i64.wrap ((i93 : Int) + 1))) rfl ?_
    refine done ?_
    exact hK98 (IntKind.i64.wrap (s127 + 1)) _ _ ⟨(sk (sx hS_ 0 rfl) (sk rfl (sk (sx hS_ 2 rfl) (sk (tr rfl (congrArg _ (wrap64_nat hi99 hN95))) sn)))), hC⟩ h
  ·skip
   exact ⟨(sk (sx hS_ 0 rfl) (sk (sx hS_ 1 rfl) (sk (sx hS_ 2 rfl) (sk (sx hS_ 3 rfl) (sk rfl (sk rfl (sk rfl (sk rfl (sk rfl sn))))))))), hC⟩
 ·clear hC h
  rintro s94 e_ w142 K97 ⟨hS_, hC⟩ h
  refine wp_seq ?_
  refine sr ?_
  refine s_mv (v := .int .i64 (a0.length : Int)) (sx hS_ 3 rfl) ?_
  refine s_mv (v := u0_0) (sx hS_ 0 rfl) ?_
  obtain ⟨Ad143, c144, hv145⟩ := sl_len (hC.getP 0 rfl)
  refine s_len Try.underlying93 (tr rfl hv145) ?_
  refine s_lss rfl rfl ?_
  refine dn ?_
  refine cw_false rfl (decide_eq_false (by omega)) ?_
  refine wp_exit (then_exit (then_exit (exit_in ?_)))
  refine then_norm ?_
  refine sr ?_
  refine s_mv (v := .int .i64 s94) (sx hS_ 1 rfl) ?_
  refine s_as (v := .int .i64 s94) rfl ?_
  refine dn ?_
  refine wp_ret ?_
  refine ret1 (fn := Try.f125) rfl ?_ ⟨s94, rfl, h, hC.below⟩ (.inl rfl)
  exact res_tmp rfl
 ·skip
  exact ⟨(sk rfl (sk rfl (sk rfl (sk rfl sn)))), hC⟩
end Go.Proofs.Ytaagfepgbofmlaa
