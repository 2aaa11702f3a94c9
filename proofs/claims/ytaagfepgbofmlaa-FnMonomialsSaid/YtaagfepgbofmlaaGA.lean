/- Printed by vcgen.py: functions of the program as predicates, and that the machine's calls meet them. -/
import Derived.Test.YtaagfepgbofmlaaGAb
set_option linter.unusedVariables false
set_option linter.unusedSimpArgs false
set_option maxRecDepth 4000
set_option maxHeartbeats 4000000
namespace Go.Proofs.Ytaagfepgbofmlaa
open Go Go.RowKit Vc
def f_impl_when (a0 : Bool) (a1 : Int) (K : Int → Prop) : Prop :=
 (if a0 = true then K a1 else K 0)
theorem c_impl_when (a0 : Bool) (a1 : Int)  {K : Int → Prop} (h : f_impl_when a0 a1 K) (w0 : World)  :
  Calls Try.prog 47 #[.bool a0, .int .i64 a1] w0 fun e w' => ∃ (r0 : Int), 
   e = .returned (.int .i64 r0) ∧ K r0 ∧ Bel w0 w' := by
 unfold f_impl_when at h
 refine calls_of (args := [.bool a0, .int .i64 a1]) Try.func47 rfl 7 Try.ntmps47 (Nat.le_of_ble_eq_true rfl) ?_
 have hC := Ctx.start (X := Nox) w0 [] (by simp)
 refine sr ?_
 refine s_as (v := .int .i64 0) rfl ?_
 refine dn ?_
 refine wp_seq ?_
 refine sr ?_
 refine s_mv (v := .bool a0) rfl ?_
 refine dn ?_
 refine cw_cond rfl (fun hb1 => ?_) (fun hb1 => ?_)
 ·replace h := ift h (hb1)
  refine sr ?_
  refine s_mv (v := .int .i64 a1) rfl ?_
  refine s_as (v := .int .i64 a1) rfl ?_
  refine dn ?_
  refine wp_ret (then_ret ?_)
  refine ret1 (fn := Try.f47) rfl ?_ ⟨a1, rfl, h, hC.below⟩ (.inl rfl)
  exact res_tmp rfl
 ·replace h := iff_ h (ne_t hb1)
  refine wp_skip ?_
  refine then_norm ?_
  refine sr ?_
  refine s_as (v := .int .i64 0) rfl ?_
  refine dn ?_
  refine wp_ret ?_
  refine ret1 (fn := Try.f47) rfl ?_ ⟨0, rfl, h, hC.below⟩ (.inl rfl)
  exact res_tmp rfl
end Go.Proofs.Ytaagfepgbofmlaa
