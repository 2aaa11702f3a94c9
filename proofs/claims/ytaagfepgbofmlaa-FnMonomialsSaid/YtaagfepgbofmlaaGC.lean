/- Printed by vcgen.py: functions of the program as predicates, and that the machine's calls meet them. -/
import Derived.Test.YtaagfepgbofmlaaGA
import Derived.Test.YtaagfepgbofmlaaVn
import Derived.KernelRfl
set_option linter.unusedVariables false
set_option linter.unusedSimpArgs false
set_option maxRecDepth 4000
set_option maxHeartbeats 4000000
namespace Go.Proofs.Ytaagfepgbofmlaa
open Go Go.RowKit Vc
def f_impl_first (a0 : List Int) (K : Int → Prop) : Prop :=
 forN (fun i12 (s13 : Unit) next15 => (if a0.getD i12 default ≠ 0 then K (a0.getD i12 default) else next15 ())) (fun (s13 : Unit) => K 0) a0.length 0 ()
theorem c_impl_first (a0 : List Int) {u0_0 : Value} {fp0 : List Nat} {K : Int → Prop} (h : f_impl_first a0 K) (w0 : World) (q0 : ((EI .i64).ty.sl).rep a0 [u0_0] fp0 w0) :
  Calls Try.prog 45 #[u0_0] w0 fun e w' => ∃ (r0 : Int), 
   e = .returned (.int .i64 r0) ∧ K r0 ∧ Bel w0 w' := by
 unfold f_impl_first at h
 refine calls_of (args := [u0_0]) Try.func45 rfl 15 Try.ntmps45 (Nat.le_of_ble_eq_true rfl) ?_
 have hC := Ctx.start (X := Nox) w0 [Ty.item ((EI .i64).ty.sl) a0 [u0_0] fp0] (by simp only [List.mem_cons, List.not_mem_nil, or_false, forall_eq_or_imp, forall_eq]; exact q0)
 refine sr ?_
 refine s_as (v := .int .i64 0) rfl ?_
 refine dn ?_
 refine wp_seq ?_
 refine sr ?_
 refine s_mv (v := u0_0) rfl ?_
 obtain ⟨Ad2, c3, hv4⟩ := sl_len (hC.getP 0 rfl)
 refine s_len Try.underlying22 (tr rfl hv4) ?_
 refine s_mv (v := .int .i64 0) rfl ?_
 refine dn ?_
 refine wp_block ?_
 have hN14 : a0.length ≤ 9223372036854775807 := sl_max (hC.getP 0 rfl)
 refine loopN (S := Unit) _ _ (fun i12 s13 e_ w_ => Slots e_ [(2, .int .i64 0), (5, u0_0), (6, .int .i64 (a0.length : Int)), (7, .int .i64 (i12 : Int))] ∧ Ctx Nox w0 w_ [] [Ty.item ((EI .i64).ty.sl) a0 [u0_0] fp0]) a0.length ?_ ?_ (s0 := ()) ?_ h
 ·clear hC h
  rintro i12 s13 e_ w19 next15 K16 hi18 ⟨hS_, hC⟩ h hK17
  refine sr ?_
  refine s_lss (sx hS_ 3 rfl) (sx hS_ 2 rfl) ?_
  refine dn ?_
  refine wp_seq ?_
  refine cw_true rfl (decide_eq_true (by omega)) ?_
  refine wp_skip ?_
  refine then_norm ?_
  refine wp_seq ?_
  refine wp_block ?_
  refine sr ?_
  obtain ⟨Ad20, c21, hv22⟩ := sl_form (hC.getP 0 rfl) i12 hi18
  refine s_iaddrS (len := a0.length) Try.underlying22 sc2.size (tr (sx hS_ 1 rfl) hv22) (sx hS_ 3 rfl) (Int.natCast_nonneg _) (Int.ofNat_lt.2 hi18) ?_
  refine s_loadCS (.int .i64 (a0.getD i12 default)) (sl_cellsE (hC.getP 0 rfl) hv22 i12 hi18) sc2 rfl ?_
  refine s_as (v := .int .i64 (a0.getD i12 default)) rfl ?_
  refine dn ?_
  refine sr ?_
  refine s_mv (v := .int .i64 (a0.getD i12 default)) rfl ?_
  refine s_neq rfl rfl ?_
  refine dn ?_
  refine cw_cond rfl (fun hb23 => ?_) (fun hb23 => ?_)
  ·replace h := ift h (ct hb23)
   refine sr ?_
   refine s_mv (v := .int .i64 (a0.getD i12 default)) rfl ?_
   refine s_as (v := .int .i64 (a0.getD i12 default)) rfl ?_
   refine dn ?_
   refine wp_ret (blk_ret (then_ret (then_ret (blk_ret (then_ret ?_)))))
   refine ret1 (fn := Try.f45) rfl ?_ ⟨a0.getD i12 default, rfl, h, hC.below⟩ (.inl rfl)
   exact res_tmp rfl
  ·replace h := iff_ h (cf hb23)
   refine wp_skip ?_
   refine blk_norm ?_
   refine then_norm ?_
   refine cw_region ?_
   refine s_add (sx hS_ 3 rfl) rfl ?_
   refine s_mv (v := .int .i64 (IntKind.i64.wrap ((i12 : Int) + 1))) rfl ?_
   refine done ?_
   exact hK17 () _ _ ⟨(sk (sx hS_ 0 rfl) (sk (sx hS_ 1 rfl) (sk (sx hS_ 2 rfl) (sk (tr rfl (congrArg _ (wrap64_nat hi18 hN14))) sn)))), hC⟩ h
 ·clear hC h
  rintro s13 e_ w24 K16 ⟨hS_, hC⟩ h
  refine sr ?_
  refine s_lss (sx hS_ 3 rfl) (sx hS_ 2 rfl) ?_
  refine dn ?_
  refine wp_seq ?_
  refine cw_false rfl (decide_eq_false (by omega)) ?_
  refine wp_exit (then_exit (then_exit (exit_in ?_)))
  refine then_norm ?_
  refine sr ?_
  refine s_as (v := .int .i64 0) rfl ?_
  refine dn ?_
  refine wp_ret ?_
  refine ret1 (fn := Try.f45) rfl ?_ ⟨0, rfl, h, hC.below⟩ (.inl rfl)
  exact res_tmp rfl
 ·skip
  exact ⟨(sk rfl (sk rfl (sk rfl (sk rfl sn)))), hC⟩
end Go.Proofs.Ytaagfepgbofmlaa
