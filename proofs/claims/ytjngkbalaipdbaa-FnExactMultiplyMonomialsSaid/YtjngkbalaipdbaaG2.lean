/- Printed by vcgen.py: functions of the program as predicates, and that the machine's calls meet them. -/
import Derived.Test.YtjngkbalaipdbaaG2b
set_option linter.unusedVariables false
set_option linter.unusedSimpArgs false
set_option maxRecDepth 4000
set_option maxHeartbeats 4000000
namespace Go.Proofs.Ytjngkbalaipdbaa
open Go Go.RowKit Vc
def f_laws_FnExactMultiplyMonomials (a0 : List Int) (a1 : A8) (a2 : A8) (K : Bool → Prop) : Prop :=
  (if (a0.length : Int) > 1048576 then K true else f_laws_toInt64S a0 (fun r16 => f_laws_toMonomial a1 (fun r27 => f_laws_toMonomial a2 (fun r32 => f_spec_MultiplyMonomials r16 r27 r32 (fun r37 r38 r39 => f_laws_toInt64S a0 (fun r48 => f_laws_toMonomial a1 (fun r60 => f_laws_toMonomial a2 (fun r65 => f_impl_MultiplyMonomials r48 r60 r65 (fun r70 r71 r72 => f_laws_eqMonomial r70 r37 (fun r81 => (if ¬ (r81 = true) then K false else (if r71 ≠ r38 then K false else (if r72 ≠ r39 then K false else f_laws_toInt64S a0 (fun r89 => f_laws_eqInt64S r48 r89 (fun r100 => (if ¬ (r100 = true) then K false else K true))))))))))))))))
theorem c_laws_FnExactMultiplyMonomials (a0 : List Int) (a1 : A8) (a2 : A8) {u0_0 : Value} {fp0 : List Nat} {K : Bool → Prop} (h : f_laws_FnExactMultiplyMonomials a0 a1 a2 K) (w0 : World) (q0 : ((EI .i64).ty.sl).rep a0 [u0_0] fp0 w0) :
    Calls Try.prog 3 #[u0_0, .agg (List.toArray (A8.enc .u8 a1)), .agg (List.toArray (A8.enc .u8 a2))] w0 fun e w' => ∃ (r0 : Bool), 
      e = .returned (.bool r0) ∧ K r0 ∧ Bel w0 w' := by
  unfold f_laws_FnExactMultiplyMonomials at h
  refine calls_of (args := [u0_0, .agg (List.toArray (A8.enc .u8 a1)), .agg (List.toArray (A8.enc .u8 a2))]) Try.func3 rfl 59 Try.ntmps3 (Nat.le_of_ble_eq_true rfl) ?_
  have hC := Ctx.start (X := Nox) w0 [Ty.item ((EI .i64).ty.sl) a0 [u0_0] fp0] (by simp only [List.mem_cons, List.not_mem_nil, or_false, forall_eq_or_imp, forall_eq]; exact q0)
  refine wp_seq ?_
  refine cw_region ?_
  refine s_box (v := .agg (List.toArray (A8.enc .u8 a1))) hC (A8.enc .u8 a1) rfl rfl fun b2 w4 hB_ hC => ?_
  refine s_box (v := .agg (List.toArray (A8.enc .u8 a2))) hC (A8.enc .u8 a2) rfl rfl fun b5 w7 hB_ hC => ?_
  refine s_as (v := .bool false) rfl ?_
  refine done ?_
  refine then_norm ?_
  refine wp_seq ?_
  refine wp_seq ?_
  refine cw_region ?_
  refine s_mv (v := u0_0) rfl ?_
  obtain ⟨Ad8, c9, hv10⟩ := sl_len (hC.getP 0 rfl)
  refine s_len Try.underlying22 (tr rfl hv10) ?_
  refine s_gtr rfl rfl ?_
  refine done ?_
  refine then_norm ?_
  refine cw_cond rfl (fun hb11 => ?_) (fun hb11 => ?_)
  · replace h := ift h (ct hb11)
    refine wp_seq ?_
    refine cw_region ?_
    refine s_as (v := .bool true) rfl ?_
    refine done ?_
    refine then_norm ?_
    refine wp_ret (then_ret ?_)
    refine ret1 (fn := Try.f3) rfl ?_ ⟨true, rfl, h, hC.below⟩ (.inl rfl)
    exact res_tmp rfl
  · replace h := iff_ h (cf hb11)
    refine wp_skip ?_
    refine then_norm ?_
    refine wp_seq ?_
    refine cw_draw 12 mixed (fun w12 hB_ => ?_)
    replace hC := hC.grow hB_
    refine ae_lookF 0 (u0_0) rfl rfl (by kernel_rfl) (by kernel_rfl) (by kernel_rfl) (fun w_ => .inl ⟨rfl, by exact r_mv (v := u0_0) rfl⟩) (listed' := (List.toArray [true, false, false, false, false, false, false, false, false, false, false, false, false, false, false])) rfl ?_
    refine ae_look 2 (.agg (List.toArray (A8.enc .u8 a1))) rfl rfl (by kernel_rfl) (by kernel_rfl) (by kernel_rfl) (fun w_ hB_ => .inl ⟨rfl, by exact r_loadA (hC.grow hB_) 1 (A8.enc .u8 a1) rfl ag23 rfl rfl rfl⟩) (listed' := (List.toArray [true, false, true, false, false, false, false, false, false, false, false, false, false, false, false])) rfl ?_
    refine ae_look 4 (.agg (List.toArray (A8.enc .u8 a2))) rfl rfl (by kernel_rfl) (by kernel_rfl) (by kernel_rfl) (fun w_ hB_ => .inl ⟨rfl, by exact r_loadA (hC.grow hB_) 0 (A8.enc .u8 a2) rfl ag23 rfl rfl rfl⟩) (listed' := (List.toArray [true, false, true, false, true, false, false, false, false, false, false, false, false, false, false])) rfl ?_
    refine ae_two 1 11 rfl rfl (by kernel_rfl) ?_ ?_
    · skip
      refine s_call [u0_0] _ Try.func14 rfl rfl rfl (c_laws_toInt64S a0 h _ (hC.getP 0 rfl)) (fun ret13 w15 hR14 => ?_)
      obtain ⟨r16, u17, f18, rfl, h, hr19, hf20, hB21⟩ := hR14
      refine ⟨_, rfl, ?_⟩
      have hs22 := fresh_on hC.size hf20
      replace hC := hC.pushR hB21 (Ty.item ((EI .i64).ty.sl) r16 [u17] f18) hr19 (fun b hb => .inl (hf20 b hb))
      refine done ?_
      refine ak_intro (by assumption) (listed' := (List.toArray [true, true, true, false, true, false, false, false, false, false, false, false, false, false, false])) rfl ?_
      refine ae_two 3 11 rfl rfl (by kernel_rfl) ?_ ?_
      · skip
        refine s_call [.agg (List.toArray (A8.enc .u8 a1))] _ Try.func15 rfl rfl rfl (c_laws_toMonomial a1 h _) (fun ret24 w26 hR25 => ?_)
        obtain ⟨r27, rfl, h, hB28⟩ := hR25
        refine ⟨_, rfl, ?_⟩
        replace hC := hC.grow hB28
        refine done ?_
        refine ak_intro (by assumption) (listed' := (List.toArray [true, true, true, true, true, false, false, false, false, false, false, false, false, false, false])) rfl ?_
        refine ae_two 5 11 rfl rfl (by kernel_rfl) ?_ ?_
        · skip
          refine s_call [.agg (List.toArray (A8.enc .u8 a2))] _ Try.func15 rfl rfl rfl (c_laws_toMonomial a2 h _) (fun ret29 w31 hR30 => ?_)
          obtain ⟨r32, rfl, h, hB33⟩ := hR30
          refine ⟨_, rfl, ?_⟩
          replace hC := hC.grow hB33
          refine done ?_
          refine ak_intro (by assumption) (listed' := (List.toArray [true, true, true, true, true, true, false, false, false, false, false, false, false, false, false])) rfl ?_
          refine ae_two 6 11 rfl rfl (by kernel_rfl) ?_ ?_
          · skip
            refine s_call [u17, .agg (List.toArray (A8.enc .u8 r27)), .agg (List.toArray (A8.enc .u8 r32))] _ Try.func13 rfl rfl rfl (c_spec_MultiplyMonomials r16 r27 r32 h _ (hC.getP 0 rfl)) (fun ret34 w36 hR35 => ?_)
            obtain ⟨r37, r38, r39, rfl, h, hB40⟩ := hR35
            refine ⟨_, rfl, ?_⟩
            replace hC := hC.grow hB40
            refine done ?_
            refine ak_intro (by assumption) (listed' := (List.toArray [true, true, true, true, true, true, true, false, false, false, false, false, false, false, false])) rfl ?_
            refine ae_lookF 7 (.tuple #[.agg (List.toArray (A8.enc .u8 r37)), .int .i64 r38, .int .i64 r39]) rfl rfl (by kernel_rfl) (by kernel_rfl) (by kernel_rfl) (fun w_ => .inl ⟨rfl, by exact r_mv (v := .tuple #[.agg (List.toArray (A8.enc .u8 r37)), .int .i64 r38, .int .i64 r39]) rfl⟩) (listed' := (List.toArray [true, true, true, true, true, true, true, true, false, false, false, false, false, false, false])) rfl ?_
            refine ae_lookF 8 (.agg (List.toArray (A8.enc .u8 r37))) rfl rfl (by kernel_rfl) (by kernel_rfl) (by kernel_rfl) (fun w_ => .inl ⟨rfl, by exact r_ext (v := .agg (List.toArray (A8.enc .u8 r37))) rfl rfl⟩) (listed' := (List.toArray [true, true, true, true, true, true, true, true, true, false, false, false, false, false, false])) rfl ?_
            refine ae_lookF 9 (.int .i64 r38) rfl rfl (by kernel_rfl) (by kernel_rfl) (by kernel_rfl) (fun w_ => .inl ⟨rfl, by exact r_ext (v := .int .i64 r38) rfl rfl⟩) (listed' := (List.toArray [true, true, true, true, true, true, true, true, true, true, false, false, false, false, false])) rfl ?_
            refine ae_lookF 10 (.int .i64 r39) rfl rfl (by kernel_rfl) (by kernel_rfl) (by kernel_rfl) (fun w_ => .inl ⟨rfl, by exact r_ext (v := .int .i64 r39) rfl rfl⟩) (listed' := (List.toArray [true, true, true, true, true, true, true, true, true, true, true, false, false, false, false])) rfl ?_
            refine ae_one 11 rfl (by kernel_rfl) ?_
            refine s_alloc hC (A8.enc .u8 A8.zero) z24 rfl fun b41 w43 hB_ hC => ?_
            refine done ?_
            refine ak_intro (by assumption) (listed' := (List.toArray [true, true, true, true, true, true, true, true, true, true, true, true, false, false, false])) rfl ?_
            refine ae_one 12 rfl (by kernel_rfl) ?_
            refine s_store (v := .agg (List.toArray (A8.enc .u8 r37))) hC 0 (A8.enc .u8 r37) (A8.enc .u8 r37) rfl ag24.size rfl rfl rfl rfl rfl (Nat.le_of_ble_eq_true rfl) rfl fun w44 hC => ?_
            refine done ?_
            refine ak_introN (by decide) (listed' := (List.toArray [true, true, true, true, true, true, true, true, true, true, true, true, true, false, false])) rfl ?_
            refine ae_lookF 13 (.int .i64 r38) rfl rfl (by kernel_rfl) (by kernel_rfl) (by kernel_rfl) (fun w_ => .inl ⟨rfl, by exact r_as (v := .int .i64 r38) rfl⟩) (listed' := (List.toArray [true, true, true, true, true, true, true, true, true, true, true, true, true, true, false])) rfl ?_
            refine ae_tail 14 (by decide) (by decide) (by kernel_rfl) rfl rfl ?_
            refine s_as (v := .int .i64 r39) rfl ?_
            refine done ?_
            refine qn_norm ?_
            refine then_norm ?_
            refine wp_seq ?_
            refine cw_region ?_
            refine s_mv (v := u0_0) rfl ?_
            refine s_call [u0_0] _ Try.func14 rfl rfl rfl (c_laws_toInt64S a0 h _ (hC.getP 1 rfl)) (fun ret45 w47 hR46 => ?_)
            obtain ⟨r48, u49, f50, rfl, h, hr51, hf52, hB53⟩ := hR46
            refine ⟨_, rfl, ?_⟩
            have hs54 := fresh_on hC.size hf52
            replace hC := hC.pushR hB53 (Ty.item ((EI .i64).ty.sl) r48 [u49] f50) hr51 (fun b hb => .inl (hf52 b hb))
            refine s_as (v := u49) rfl ?_
            refine done ?_
            refine then_norm ?_
            refine wp_seq ?_
            refine cw_draw 11 mixed (fun w56 hB_ => ?_)
            replace hC := hC.grow hB_
            refine ae_lookF 0 (u49) rfl rfl (by kernel_rfl) (by kernel_rfl) (by kernel_rfl) (fun w_ => .inl ⟨rfl, by exact r_mv (v := u49) rfl⟩) (listed' := (List.toArray [true, false, false, false, false, false, false, false, false, false, false, false, false, false])) rfl ?_
            refine ae_look 1 (.agg (List.toArray (A8.enc .u8 a1))) rfl rfl (by kernel_rfl) (by kernel_rfl) (by kernel_rfl) (fun w_ hB_ => .inl ⟨rfl, by exact r_loadA (hC.grow hB_) 2 (A8.enc .u8 a1) rfl ag23 rfl rfl rfl⟩) (listed' := (List.toArray [true, true, false, false, false, false, false, false, false, false, false, false, false, false])) rfl ?_
            refine ae_look 3 (.agg (List.toArray (A8.enc .u8 a2))) rfl rfl (by kernel_rfl) (by kernel_rfl) (by kernel_rfl) (fun w_ hB_ => .inl ⟨rfl, by exact r_loadA (hC.grow hB_) 1 (A8.enc .u8 a2) rfl ag23 rfl rfl rfl⟩) (listed' := (List.toArray [true, true, false, true, false, false, false, false, false, false, false, false, false, false])) rfl ?_
            refine ae_two 2 10 rfl rfl (by kernel_rfl) ?_ ?_
            · skip
              refine s_call [.agg (List.toArray (A8.enc .u8 a1))] _ Try.func15 rfl rfl rfl (c_laws_toMonomial a1 h _) (fun ret57 w59 hR58 => ?_)
              obtain ⟨r60, rfl, h, hB61⟩ := hR58
              refine ⟨_, rfl, ?_⟩
              replace hC := hC.grow hB61
              refine done ?_
              refine ak_intro (by assumption) (listed' := (List.toArray [true, true, true, true, false, false, false, false, false, false, false, false, false, false])) rfl ?_
              refine ae_two 4 10 rfl rfl (by kernel_rfl) ?_ ?_
              · skip
                refine s_call [.agg (List.toArray (A8.enc .u8 a2))] _ Try.func15 rfl rfl rfl (c_laws_toMonomial a2 h _) (fun ret62 w64 hR63 => ?_)
                obtain ⟨r65, rfl, h, hB66⟩ := hR63
                refine ⟨_, rfl, ?_⟩
                replace hC := hC.grow hB66
                refine done ?_
                refine ak_intro (by assumption) (listed' := (List.toArray [true, true, true, true, true, false, false, false, false, false, false, false, false, false])) rfl ?_
                refine ae_two 5 10 rfl rfl (by kernel_rfl) ?_ ?_
                · skip
                  refine s_call [u49, .agg (List.toArray (A8.enc .u8 r60)), .agg (List.toArray (A8.enc .u8 r65))] _ Try.func16 rfl rfl rfl (c_impl_MultiplyMonomials r48 r60 r65 h _ (hC.getP 0 rfl)) (fun ret67 w69 hR68 => ?_)
                  obtain ⟨r70, r71, r72, rfl, h, hB73⟩ := hR68
                  refine ⟨_, rfl, ?_⟩
                  replace hC := hC.grow hB73
                  refine done ?_
                  refine ak_intro (by assumption) (listed' := (List.toArray [true, true, true, true, true, true, false, false, false, false, false, false, false, false])) rfl ?_
                  refine ae_lookF 6 (.tuple #[.agg (List.toArray (A8.enc .u8 r70)), .int .i64 r71, .int .i64 r72]) rfl rfl (by kernel_rfl) (by kernel_rfl) (by kernel_rfl) (fun w_ => .inl ⟨rfl, by exact r_mv (v := .tuple #[.agg (List.toArray (A8.enc .u8 r70)), .int .i64 r71, .int .i64 r72]) rfl⟩) (listed' := (List.toArray [true, true, true, true, true, true, true, false, false, false, false, false, false, false])) rfl ?_
                  refine ae_lookF 7 (.agg (List.toArray (A8.enc .u8 r70))) rfl rfl (by kernel_rfl) (by kernel_rfl) (by kernel_rfl) (fun w_ => .inl ⟨rfl, by exact r_ext (v := .agg (List.toArray (A8.enc .u8 r70))) rfl rfl⟩) (listed' := (List.toArray [true, true, true, true, true, true, true, true, false, false, false, false, false, false])) rfl ?_
                  refine ae_lookF 8 (.int .i64 r71) rfl rfl (by kernel_rfl) (by kernel_rfl) (by kernel_rfl) (fun w_ => .inl ⟨rfl, by exact r_ext (v := .int .i64 r71) rfl rfl⟩) (listed' := (List.toArray [true, true, true, true, true, true, true, true, true, false, false, false, false, false])) rfl ?_
                  refine ae_lookF 9 (.int .i64 r72) rfl rfl (by kernel_rfl) (by kernel_rfl) (by kernel_rfl) (fun w_ => .inl ⟨rfl, by exact r_ext (v := .int .i64 r72) rfl rfl⟩) (listed' := (List.toArray [true, true, true, true, true, true, true, true, true, true, false, false, false, false])) rfl ?_
                  refine ae_one 10 rfl (by kernel_rfl) ?_
                  refine s_alloc hC (A8.enc .u8 A8.zero) z24 rfl fun b74 w76 hB_ hC => ?_
                  refine done ?_
                  refine ak_intro (by assumption) (listed' := (List.toArray [true, true, true, true, true, true, true, true, true, true, true, false, false, false])) rfl ?_
                  refine ae_one 11 rfl (by kernel_rfl) ?_
                  refine s_store (v := .agg (List.toArray (A8.enc .u8 r70))) hC 0 (A8.enc .u8 r70) (A8.enc .u8 r70) rfl ag24.size rfl rfl rfl rfl rfl (Nat.le_of_ble_eq_true rfl) rfl fun w77 hC => ?_
                  refine done ?_
                  refine ak_introN (by decide) (listed' := (List.toArray [true, true, true, true, true, true, true, true, true, true, true, true, false, false])) rfl ?_
                  refine ae_lookF 12 (.int .i64 r71) rfl rfl (by kernel_rfl) (by kernel_rfl) (by kernel_rfl) (fun w_ => .inl ⟨rfl, by exact r_as (v := .int .i64 r71) rfl⟩) (listed' := (List.toArray [true, true, true, true, true, true, true, true, true, true, true, true, true, false])) rfl ?_
                  refine ae_tail 13 (by decide) (by decide) (by kernel_rfl) rfl rfl ?_
                  refine s_as (v := .int .i64 r72) rfl ?_
                  refine done ?_
                  refine qn_norm ?_
                  refine then_norm ?_
                  refine wp_seq ?_
                  refine wp_seq ?_
                  refine cw_region ?_
                  refine s_loadA hC 0 (A8.enc .u8 r70) rfl ag24 rfl rfl rfl ?_
                  refine s_loadA hC 1 (A8.enc .u8 r37) rfl ag24 rfl rfl rfl ?_
                  refine s_call [.agg (List.toArray (A8.enc .u8 r70)), .agg (List.toArray (A8.enc .u8 r37))] _ Try.func17 rfl rfl rfl (c_laws_eqMonomial r70 r37 h _) (fun ret78 w80 hR79 => ?_)
                  obtain ⟨r81, rfl, h, hB82⟩ := hR79
                  refine ⟨_, rfl, ?_⟩
                  replace hC := hC.grow hB82
                  refine s_not rfl ?_
                  refine s_mv (v := .bool (!r81)) rfl ?_
                  refine bsplit (!r81) (fun hb83 => ?_) (fun hb83 => ?_)
                  · replace h := ift h (ne_t (not_t hb83))
                    refine guardOff (b := true) 4 44 rfl (tr rfl (congrArg _ hb83)) (by decide) ?_
                    refine guardOff (b := true) 4 44 rfl (tr rfl (congrArg _ hb83)) (by decide) ?_
                    refine guardOff (b := true) 4 44 rfl (tr rfl (congrArg _ hb83)) (by decide) ?_
                    refine s_pick (v := .bool true) (b := true) (tr rfl (congrArg _ hb83)) rfl ?_
                    refine s_mv (v := .bool true) rfl ?_
                    refine guardOff (b := true) 9 49 rfl (tr rfl (congrArg _ rfl)) (by decide) ?_
                    refine guardOff (b := true) 9 49 rfl (tr rfl (congrArg _ rfl)) (by decide) ?_
                    refine guardOff (b := true) 9 49 rfl (tr rfl (congrArg _ rfl)) (by decide) ?_
                    refine s_pick (v := .bool true) (b := true) rfl rfl ?_
                    refine done ?_
                    refine then_norm ?_
                    refine cw_true rfl rfl ?_
                    refine wp_seq ?_
                    refine cw_region ?_
                    refine s_as (v := .bool false) rfl ?_
                    refine done ?_
                    refine then_norm ?_
                    refine wp_ret (then_ret ?_)
                    refine ret1 (fn := Try.f3) rfl ?_ ⟨false, rfl, h, hC.below⟩ (.inl rfl)
                    exact res_tmp rfl
                  · replace h := iff_ h (not_not_intro ((not_f hb83)))
                    refine guardOn 4 44 rfl rfl hb83 ?_
                    refine s_mv (v := .int .i64 r71) rfl ?_
                    refine guardOn 4 44 rfl rfl hb83 ?_
                    refine s_mv (v := .int .i64 r38) rfl ?_
                    refine guardOn 4 44 rfl rfl hb83 ?_
                    refine s_neq rfl rfl ?_
                    refine s_pick (v := .bool (decide (r71 ≠ r38))) (b := false) (tr rfl (congrArg _ hb83)) rfl ?_
                    refine s_mv (v := .bool (decide (r71 ≠ r38))) rfl ?_
                    refine bsplit (decide (r71 ≠ r38)) (fun hb84 => ?_) (fun hb84 => ?_)
                    · replace h := ift h (ct hb84)
                      refine guardOff (b := true) 9 49 rfl (tr rfl (congrArg _ hb84)) (by decide) ?_
                      refine guardOff (b := true) 9 49 rfl (tr rfl (congrArg _ hb84)) (by decide) ?_
                      refine guardOff (b := true) 9 49 rfl (tr rfl (congrArg _ hb84)) (by decide) ?_
                      refine s_pick (v := .bool true) (b := true) (tr rfl (congrArg _ hb84)) rfl ?_
                      refine done ?_
                      refine then_norm ?_
                      refine cw_true rfl rfl ?_
                      refine wp_seq ?_
                      refine cw_region ?_
                      refine s_as (v := .bool false) rfl ?_
                      refine done ?_
                      refine then_norm ?_
                      refine wp_ret (then_ret ?_)
                      refine ret1 (fn := Try.f3) rfl ?_ ⟨false, rfl, h, hC.below⟩ (.inl rfl)
                      exact res_tmp rfl
                    · replace h := iff_ h (cf hb84)
                      refine guardOn 9 49 rfl rfl hb84 ?_
                      refine s_mv (v := .int .i64 r72) rfl ?_
                      refine guardOn 9 49 rfl rfl hb84 ?_
                      refine s_mv (v := .int .i64 r39) rfl ?_
                      refine guardOn 9 49 rfl rfl hb84 ?_
                      refine s_neq rfl rfl ?_
                      refine s_pick (v := .bool (decide (r72 ≠ r39))) (b := false) (tr rfl (congrArg _ hb84)) rfl ?_
                      refine done ?_
                      refine then_norm ?_
                      refine cw_cond rfl (fun hb85 => ?_) (fun hb85 => ?_)
                      · replace h := ift h (ct hb85)
                        refine wp_seq ?_
                        refine cw_region ?_
                        refine s_as (v := .bool false) rfl ?_
                        refine done ?_
                        refine then_norm ?_
                        refine wp_ret (then_ret ?_)
                        refine ret1 (fn := Try.f3) rfl ?_ ⟨false, rfl, h, hC.below⟩ (.inl rfl)
                        exact res_tmp rfl
                      · replace h := iff_ h (cf hb85)
                        refine wp_skip ?_
                        refine then_norm ?_
                        refine wp_seq ?_
                        refine wp_seq ?_
                        refine cw_region ?_
                        refine s_mv (v := u49) rfl ?_
                        refine s_mv (v := u0_0) rfl ?_
                        refine s_call [u0_0] _ Try.func14 rfl rfl rfl (c_laws_toInt64S a0 h _ (hC.getP 2 rfl)) (fun ret86 w88 hR87 => ?_)
                        obtain ⟨r89, u90, f91, rfl, h, hr92, hf93, hB94⟩ := hR87
                        refine ⟨_, rfl, ?_⟩
                        have hs95 := fresh_on hC.size hf93
                        replace hC := hC.pushR hB94 (Ty.item ((EI .i64).ty.sl) r89 [u90] f91) hr92 (fun b hb => .inl (hf93 b hb))
                        refine s_call [u49, u90] _ Try.func18 rfl rfl rfl (c_laws_eqInt64S r48 r89 h _ (hC.getP 1 rfl) (hC.getP 0 rfl)) (fun ret97 w99 hR98 => ?_)
                        obtain ⟨r100, rfl, h, hB101⟩ := hR98
                        refine ⟨_, rfl, ?_⟩
                        replace hC := hC.grow hB101
                        refine s_not rfl ?_
                        refine done ?_
                        refine then_norm ?_
                        refine cw_cond rfl (fun hb102 => ?_) (fun hb102 => ?_)
                        · replace h := ift h (ne_t (not_t hb102))
                          refine wp_seq ?_
                          refine cw_region ?_
                          refine s_as (v := .bool false) rfl ?_
                          refine done ?_
                          refine then_norm ?_
                          refine wp_ret (then_ret ?_)
                          refine ret1 (fn := Try.f3) rfl ?_ ⟨false, rfl, h, hC.below⟩ (.inl rfl)
                          exact res_tmp rfl
                        · replace h := iff_ h (not_not_intro ((not_f hb102)))
                          refine wp_skip ?_
                          refine then_norm ?_
                          refine wp_seq ?_
                          refine cw_region ?_
                          refine s_as (v := .bool true) rfl ?_
                          refine done ?_
                          refine then_norm ?_
                          refine wp_ret ?_
                          refine ret1 (fn := Try.f3) rfl ?_ ⟨true, rfl, h, hC.below⟩ (.inl rfl)
                          exact res_tmp rfl
                · skip
                  refine s_alloc hC (A8.enc .u8 A8.zero) z24 rfl fun b103 w105 hB_ hC => ?_
                  refine done ?_
                  refine ak_intro (by assumption) (listed' := (List.toArray [true, true, true, true, true, false, false, false, false, false, true, false, false, false])) rfl ?_
                  refine ae_one 5 rfl (by kernel_rfl) ?_
                  refine s_call [u49, .agg (List.toArray (A8.enc .u8 r60)), .agg (List.toArray (A8.enc .u8 r65))] _ Try.func16 rfl rfl rfl (c_impl_MultiplyMonomials r48 r60 r65 h _ (hC.getP 0 rfl)) (fun ret106 w108 hR107 => ?_)
                  obtain ⟨r109, r110, r111, rfl, h, hB112⟩ := hR107
                  refine ⟨_, rfl, ?_⟩
                  replace hC := hC.grow hB112
                  refine done ?_
                  refine ak_intro (by assumption) (listed' := (List.toArray [true, true, true, true, true, true, false, false, false, false, true, false, false, false])) rfl ?_
                  refine ae_lookF 6 (.tuple #[.agg (List.toArray (A8.enc .u8 r109)), .int .i64 r110, .int .i64 r111]) rfl rfl (by kernel_rfl) (by kernel_rfl) (by kernel_rfl) (fun w_ => .inl ⟨rfl, by exact r_mv (v := .tuple #[.agg (List.toArray (A8.enc .u8 r109)), .int .i64 r110, .int .i64 r111]) rfl⟩) (listed' := (List.toArray [true, true, true, true, true, true, true, false, false, false, true, false, false, false])) rfl ?_
                  refine ae_lookF 7 (.agg (List.toArray (A8.enc .u8 r109))) rfl rfl (by kernel_rfl) (by kernel_rfl) (by kernel_rfl) (fun w_ => .inl ⟨rfl, by exact r_ext (v := .agg (List.toArray (A8.enc .u8 r109))) rfl rfl⟩) (listed' := (List.toArray [true, true, true, true, true, true, true, true, false, false, true, false, false, false])) rfl ?_
                  refine ae_lookF 8 (.int .i64 r110) rfl rfl (by kernel_rfl) (by kernel_rfl) (by kernel_rfl) (fun w_ => .inl ⟨rfl, by exact r_ext (v := .int .i64 r110) rfl rfl⟩) (listed' := (List.toArray [true, true, true, true, true, true, true, true, true, false, true, false, false, false])) rfl ?_
                  refine ae_lookF 9 (.int .i64 r111) rfl rfl (by kernel_rfl) (by kernel_rfl) (by kernel_rfl) (fun w_ => .inl ⟨rfl, by exact r_ext (v := .int .i64 r111) rfl rfl⟩) (listed' := (List.toArray [true, true, true, true, true, true, true, true, true, true, true, false, false, false])) rfl ?_
                  refine ae_one 11 rfl (by kernel_rfl) ?_
                  refine s_store (v := .agg (List.toArray (A8.enc .u8 r109))) hC 0 (A8.enc .u8 r109) (A8.enc .u8 r109) rfl ag24.size rfl rfl rfl rfl rfl (Nat.le_of_ble_eq_true rfl) rfl fun w113 hC => ?_
                  refine done ?_
                  refine ak_introN (by decide) (listed' := (List.toArray [true, true, true, true, true, true, true, true, true, true, true, true, false, false])) rfl ?_
                  refine ae_lookF 12 (.int .i64 r110) rfl rfl (by kernel_rfl) (by kernel_rfl) (by kernel_rfl) (fun w_ => .inl ⟨rfl, by exact r_as (v := .int .i64 r110) rfl⟩) (listed' := (List.toArray [true, true, true, true, true, true, true, true, true, true, true, true, true, false])) rfl ?_
                  refine ae_tail 13 (by decide) (by decide) (by kernel_rfl) rfl rfl ?_
                  refine s_as (v := .int .i64 r111) rfl ?_
                  refine done ?_
                  refine qn_norm ?_
                  refine then_norm ?_
                  refine wp_seq ?_
                  refine wp_seq ?_
                  refine cw_region ?_
                  refine s_loadA hC 0 (A8.enc .u8 r109) rfl ag24 rfl rfl rfl ?_
                  refine s_loadA hC 1 (A8.enc .u8 r37) rfl ag24 rfl rfl rfl ?_
                  refine s_call [.agg (List.toArray (A8.enc .u8 r109)), .agg (List.toArray (A8.enc .u8 r37))] _ Try.func17 rfl rfl rfl (c_laws_eqMonomial r109 r37 h _) (fun ret114 w116 hR115 => ?_)
                  obtain ⟨r117, rfl, h, hB118⟩ := hR115
                  refine ⟨_, rfl, ?_⟩
                  replace hC := hC.grow hB118
                  refine s_not rfl ?_
                  refine s_mv (v := .bool (!r117)) rfl ?_
                  refine bsplit (!r117) (fun hb119 => ?_) (fun hb119 => ?_)
                  · replace h := ift h (ne_t (not_t hb119))
                    refine guardOff (b := true) 4 44 rfl (tr rfl (congrArg _ hb119)) (by decide) ?_
                    refine guardOff (b := true) 4 44 rfl (tr rfl (congrArg _ hb119)) (by decide) ?_
                    refine guardOff (b := true) 4 44 rfl (tr rfl (congrArg _ hb119)) (by decide) ?_
                    refine s_pick (v := .bool true) (b := true) (tr rfl (congrArg _ hb119)) rfl ?_
                    refine s_mv (v := .bool true) rfl ?_
                    refine guardOff (b := true) 9 49 rfl (tr rfl (congrArg _ rfl)) (by decide) ?_
                    refine guardOff (b := true) 9 49 rfl (tr rfl (congrArg _ rfl)) (by decide) ?_
                    refine guardOff (b := true) 9 49 rfl (tr rfl (congrArg _ rfl)) (by decide) ?_
                    refine s_pick (v := .bool true) (b := true) rfl rfl ?_
                    refine done ?_
                    refine then_norm ?_
                    refine cw_true rfl rfl ?_
                    refine wp_seq ?_
                    refine cw_region ?_
                    refine s_as (v := .bool false) rfl ?_
                    refine done ?_
                    refine then_norm ?_
                    refine wp_ret (then_ret ?_)
                    refine ret1 (fn := Try.f3) rfl ?_ ⟨false, rfl, h, hC.below⟩ (.inl rfl)
                    exact res_tmp rfl
                  · replace h := iff_ h (not_not_intro ((not_f hb119)))
                    refine guardOn 4 44 rfl rfl hb119 ?_
                    refine s_mv (v := .int .i64 r110) rfl ?_
                    refine guardOn 4 44 rfl rfl hb119 ?_
                    refine s_mv (v := .int .i64 r38) rfl ?_
                    refine guardOn 4 44 rfl rfl hb119 ?_
                    refine s_neq rfl rfl ?_
                    refine s_pick (v := .bool (decide (r110 ≠ r38))) (b := false) (tr rfl (congrArg _ hb119)) rfl ?_
                    refine s_mv (v := .bool (decide (r110 ≠ r38))) rfl ?_
                    refine bsplit (decide (r110 ≠ r38)) (fun hb120 => ?_) (fun hb120 => ?_)
                    · replace h := ift h (ct hb120)
                      refine guardOff (b := true) 9 49 rfl (tr rfl (congrArg _ hb120)) (by decide) ?_
                      refine guardOff (b := true) 9 49 rfl (tr rfl (congrArg _ hb120)) (by decide) ?_
                      refine guardOff (b := true) 9 49 rfl (tr rfl (congrArg _ hb120)) (by decide) ?_
                      refine s_pick (v := .bool true) (b := true) (tr rfl (congrArg _ hb120)) rfl ?_
                      refine done ?_
                      refine then_norm ?_
                      refine cw_true rfl rfl ?_
                      refine wp_seq ?_
                      refine cw_region ?_
                      refine s_as (v := .bool false) rfl ?_
                      refine done ?_
                      refine then_norm ?_
                      refine wp_ret (then_ret ?_)
                      refine ret1 (fn := Try.f3) rfl ?_ ⟨false, rfl, h, hC.below⟩ (.inl rfl)
                      exact res_tmp rfl
                    · replace h := iff_ h (cf hb120)
                      refine guardOn 9 49 rfl rfl hb120 ?_
                      refine s_mv (v := .int .i64 r111) rfl ?_
                      refine guardOn 9 49 rfl rfl hb120 ?_
                      refine s_mv (v := .int .i64 r39) rfl ?_
                      refine guardOn 9 49 rfl rfl hb120 ?_
                      refine s_neq rfl rfl ?_
                      refine s_pick (v := .bool (decide (r111 ≠ r39))) (b := false) (tr rfl (congrArg _ hb120)) rfl ?_
                      refine done ?_
                      refine then_norm ?_
                      refine cw_cond rfl (fun hb121 => ?_) (fun hb121 => ?_)
                      · replace h := ift h (ct hb121)
                        refine wp_seq ?_
                        refine cw_region ?_
                        refine s_as (v := .bool false) rfl ?_
                        refine done ?_
                        refine then_norm ?_
                        refine wp_ret (then_ret ?_)
                        refine ret1 (fn := Try.f3) rfl ?_ ⟨false, rfl, h, hC.below⟩ (.inl rfl)
                        exact res_tmp rfl
                      · replace h := iff_ h (cf hb121)
                        refine wp_skip ?_
                        refine then_norm ?_
                        refine wp_seq ?_
                        refine wp_seq ?_
                        refine cw_region ?_
                        refine s_mv (v := u49) rfl ?_
                        refine s_mv (v := u0_0) rfl ?_
                        refine s_call [u0_0] _ Try.func14 rfl rfl rfl (c_laws_toInt64S a0 h _ (hC.getP 2 rfl)) (fun ret122 w124 hR123 => ?_)
                        obtain ⟨r125, u126, f127, rfl, h, hr128, hf129, hB130⟩ := hR123
                        refine ⟨_, rfl, ?_⟩
                        have hs131 := fresh_on hC.size hf129
                        replace hC := hC.pushR hB130 (Ty.item ((EI .i64).ty.sl) r125 [u126] f127) hr128 (fun b hb => .inl (hf129 b hb))
                        refine s_call [u49, u126] _ Try.func18 rfl rfl rfl (c_laws_eqInt64S r48 r125 h _ (hC.getP 1 rfl) (hC.getP 0 rfl)) (fun ret133 w135 hR134 => ?_)
                        obtain ⟨r136, rfl, h, hB137⟩ := hR134
                        refine ⟨_, rfl, ?_⟩
                        replace hC := hC.grow hB137
                        refine s_not rfl ?_
                        refine done ?_
                        refine then_norm ?_
                        refine cw_cond rfl (fun hb138 => ?_) (fun hb138 => ?_)
                        · replace h := ift h (ne_t (not_t hb138))
                          refine wp_seq ?_
                          refine cw_region ?_
                          refine s_as (v := .bool false) rfl ?_
                          refine done ?_
                          refine then_norm ?_
                          refine wp_ret (then_ret ?_)
                          refine ret1 (fn := Try.f3) rfl ?_ ⟨false, rfl, h, hC.below⟩ (.inl rfl)
                          exact res_tmp rfl
                        · replace h := iff_ h (not_not_intro ((not_f hb138)))
                          refine wp_skip ?_
                          refine then_norm ?_
                          refine wp_seq ?_
                          refine cw_region ?_
                          refine s_as (v := .bool true) rfl ?_
                          refine done ?_
                          refine then_norm ?_
                          refine wp_ret ?_
                          refine ret1 (fn := Try.f3) rfl ?_ ⟨true, rfl, h, hC.below⟩ (.inl rfl)
                          exact res_tmp rfl
              · skip
                refine s_alloc hC (A8.enc .u8 A8.zero) z24 rfl fun b139 w141 hB_ hC => ?_
                refine done ?_
                refine ak_intro (by assumption) (listed' := (List.toArray [true, true, true, true, false, false, false, false, false, false, true, false, false, false])) rfl ?_
                refine ae_one 4 rfl (by kernel_rfl) ?_
                refine s_call [.agg (List.toArray (A8.enc .u8 a2))] _ Try.func15 rfl rfl rfl (c_laws_toMonomial a2 h _) (fun ret142 w144 hR143 => ?_)
                obtain ⟨r145, rfl, h, hB146⟩ := hR143
                refine ⟨_, rfl, ?_⟩
                replace hC := hC.grow hB146
                refine done ?_
                refine ak_intro (by assumption) (listed' := (List.toArray [true, true, true, true, true, false, false, false, false, false, true, false, false, false])) rfl ?_
                refine ae_one 5 rfl (by kernel_rfl) ?_
                refine s_call [u49, .agg (List.toArray (A8.enc .u8 r60)), .agg (List.toArray (A8.enc .u8 r145))] _ Try.func16 rfl rfl rfl (c_impl_MultiplyMonomials r48 r60 r145 h _ (hC.getP 0 rfl)) (fun ret147 w149 hR148 => ?_)
                obtain ⟨r150, r151, r152, rfl, h, hB153⟩ := hR148
                refine ⟨_, rfl, ?_⟩
                replace hC := hC.grow hB153
                refine done ?_
                refine ak_intro (by assumption) (listed' := (List.toArray [true, true, true, true, true, true, false, false, false, false, true, false, false, false])) rfl ?_
                refine ae_lookF 6 (.tuple #[.agg (List.toArray (A8.enc .u8 r150)), .int .i64 r151, .int .i64 r152]) rfl rfl (by kernel_rfl) (by kernel_rfl) (by kernel_rfl) (fun w_ => .inl ⟨rfl, by exact r_mv (v := .tuple #[.agg (List.toArray (A8.enc .u8 r150)), .int .i64 r151, .int .i64 r152]) rfl⟩) (listed' := (List.toArray [true, true, true, true, true, true, true, false, false, false, true, false, false, false])) rfl ?_
                refine ae_lookF 7 (.agg (List.toArray (A8.enc .u8 r150))) rfl rfl (by kernel_rfl) (by kernel_rfl) (by kernel_rfl) (fun w_ => .inl ⟨rfl, by exact r_ext (v := .agg (List.toArray (A8.enc .u8 r150))) rfl rfl⟩) (listed' := (List.toArray [true, true, true, true, true, true, true, true, false, false, true, false, false, false])) rfl ?_
                refine ae_lookF 8 (.int .i64 r151) rfl rfl (by kernel_rfl) (by kernel_rfl) (by kernel_rfl) (fun w_ => .inl ⟨rfl, by exact r_ext (v := .int .i64 r151) rfl rfl⟩) (listed' := (List.toArray [true, true, true, true, true, true, true, true, true, false, true, false, false, false])) rfl ?_
                refine ae_lookF 9 (.int .i64 r152) rfl rfl (by kernel_rfl) (by kernel_rfl) (by kernel_rfl) (fun w_ => .inl ⟨rfl, by exact r_ext (v := .int .i64 r152) rfl rfl⟩) (listed' := (List.toArray [true, true, true, true, true, true, true, true, true, true, true, false, false, false])) rfl ?_
                refine ae_one 11 rfl (by kernel_rfl) ?_
                refine s_store (v := .agg (List.toArray (A8.enc .u8 r150))) hC 0 (A8.enc .u8 r150) (A8.enc .u8 r150) rfl ag24.size rfl rfl rfl rfl rfl (Nat.le_of_ble_eq_true rfl) rfl fun w154 hC => ?_
                refine done ?_
                refine ak_introN (by decide) (listed' := (List.toArray [true, true, true, true, true, true, true, true, true, true, true, true, false, false])) rfl ?_
                refine ae_lookF 12 (.int .i64 r151) rfl rfl (by kernel_rfl) (by kernel_rfl) (by kernel_rfl) (fun w_ => .inl ⟨rfl, by exact r_as (v := .int .i64 r151) rfl⟩) (listed' := (List.toArray [true, true, true, true, true, true, true, true, true, true, true, true, true, false])) rfl ?_
                refine ae_tail 13 (by decide) (by decide) (by kernel_rfl) rfl rfl ?_
                refine s_as (v := .int .i64 r152) rfl ?_
                refine done ?_
                refine qn_norm ?_
                refine then_norm ?_
                refine wp_seq ?_
                refine wp_seq ?_
                refine cw_region ?_
                refine s_loadA hC 0 (A8.enc .u8 r150) rfl ag24 rfl rfl rfl ?_
                refine s_loadA hC 1 (A8.enc .u8 r37) rfl ag24 rfl rfl rfl ?_
                refine s_call [.agg (List.toArray (A8.enc .u8 r150)), .agg (List.toArray (A8.enc .u8 r37))] _ Try.func17 rfl rfl rfl (c_laws_eqMonomial r150 r37 h _) (fun ret155 w157 hR156 => ?_)
                obtain ⟨r158, rfl, h, hB159⟩ := hR156
                refine ⟨_, rfl, ?_⟩
                replace hC := hC.grow hB159
                refine s_not rfl ?_
                refine s_mv (v := .bool (!r158)) rfl ?_
                refine bsplit (!r158) (fun hb160 => ?_) (fun hb160 => ?_)
                · replace h := ift h (ne_t (not_t hb160))
                  refine guardOff (b := true) 4 44 rfl (tr rfl (congrArg _ hb160)) (by decide) ?_
                  refine guardOff (b := true) 4 44 rfl (tr rfl (congrArg _ hb160)) (by decide) ?_
                  refine guardOff (b := true) 4 44 rfl (tr rfl (congrArg _ hb160)) (by decide) ?_
                  refine s_pick (v := .bool true) (b := true) (tr rfl (congrArg _ hb160)) rfl ?_
                  refine s_mv (v := .bool true) rfl ?_
                  refine guardOff (b := true) 9 49 rfl (tr rfl (congrArg _ rfl)) (by decide) ?_
                  refine guardOff (b := true) 9 49 rfl (tr rfl (congrArg _ rfl)) (by decide) ?_
                  refine guardOff (b := true) 9 49 rfl (tr rfl (congrArg _ rfl)) (by decide) ?_
                  refine s_pick (v := .bool true) (b := true) rfl rfl ?_
                  refine done ?_
                  refine then_norm ?_
                  refine cw_true rfl rfl ?_
                  refine wp_seq ?_
                  refine cw_region ?_
                  refine s_as (v := .bool false) rfl ?_
                  refine done ?_
                  refine then_norm ?_
                  refine wp_ret (then_ret ?_)
                  refine ret1 (fn := Try.f3) rfl ?_ ⟨false, rfl, h, hC.below⟩ (.inl rfl)
                  exact res_tmp rfl
                · replace h := iff_ h (not_not_intro ((not_f hb160)))
                  refine guardOn 4 44 rfl rfl hb160 ?_
                  refine s_mv (v := .int .i64 r151) rfl ?_
                  refine guardOn 4 44 rfl rfl hb160 ?_
                  refine s_mv (v := .int .i64 r38) rfl ?_
                  refine guardOn 4 44 rfl rfl hb160 ?_
                  refine s_neq rfl rfl ?_
                  refine s_pick (v := .bool (decide (r151 ≠ r38))) (b := false) (tr rfl (congrArg _ hb160)) rfl ?_
                  refine s_mv (v := .bool (decide (r151 ≠ r38))) rfl ?_
                  refine bsplit (decide (r151 ≠ r38)) (fun hb161 => ?_) (fun hb161 => ?_)
                  · replace h := ift h (ct hb161)
                    refine guardOff (b := true) 9 49 rfl (tr rfl (congrArg _ hb161)) (by decide) ?_
                    refine guardOff (b := true) 9 49 rfl (tr rfl (congrArg _ hb161)) (by decide) ?_
                    refine guardOff (b := true) 9 49 rfl (tr rfl (congrArg _ hb161)) (by decide) ?_
                    refine s_pick (v := .bool true) (b := true) (tr rfl (congrArg _ hb161)) rfl ?_
                    refine done ?_
                    refine then_norm ?_
                    refine cw_true rfl rfl ?_
                    refine wp_seq ?_
                    refine cw_region ?_
                    refine s_as (v := .bool false) rfl ?_
                    refine done ?_
                    refine then_norm ?_
                    refine wp_ret (then_ret ?_)
                    refine ret1 (fn := Try.f3) rfl ?_ ⟨false, rfl, h, hC.below⟩ (.inl rfl)
                    exact res_tmp rfl
                  · replace h := iff_ h (cf hb161)
                    refine guardOn 9 49 rfl rfl hb161 ?_
                    refine s_mv (v := .int .i64 r152) rfl ?_
                    refine guardOn 9 49 rfl rfl hb161 ?_
                    refine s_mv (v := .int .i64 r39) rfl ?_
                    refine guardOn 9 49 rfl rfl hb161 ?_
                    refine s_neq rfl rfl ?_
                    refine s_pick (v := .bool (decide (r152 ≠ r39))) (b := false) (tr rfl (congrArg _ hb161)) rfl ?_
                    refine done ?_
                    refine then_norm ?_
                    refine cw_cond rfl (fun hb162 => ?_) (fun hb162 => ?_)
                    · replace h := ift h (ct hb162)
                      refine wp_seq ?_
                      refine cw_region ?_
                      refine s_as (v := .bool false) rfl ?_
                      refine done ?_
                      refine then_norm ?_
                      refine wp_ret (then_ret ?_)
                      refine ret1 (fn := Try.f3) rfl ?_ ⟨false, rfl, h, hC.below⟩ (.inl rfl)
                      exact res_tmp rfl
                    · replace h := iff_ h (cf hb162)
                      refine wp_skip ?_
                      refine then_norm ?_
                      refine wp_seq ?_
                      refine wp_seq ?_
                      refine cw_region ?_
                      refine s_mv (v := u49) rfl ?_
                      refine s_mv (v := u0_0) rfl ?_
                      refine s_call [u0_0] _ Try.func14 rfl rfl rfl (c_laws_toInt64S a0 h _ (hC.getP 2 rfl)) (fun ret163 w165 hR164 => ?_)
                      obtain ⟨r166, u167, f168, rfl, h, hr169, hf170, hB171⟩ := hR164
                      refine ⟨_, rfl, ?_⟩
                      have hs172 := fresh_on hC.size hf170
                      replace hC := hC.pushR hB171 (Ty.item ((EI .i64).ty.sl) r166 [u167] f168) hr169 (fun b hb => .inl (hf170 b hb))
                      refine s_call [u49, u167] _ Try.func18 rfl rfl rfl (c_laws_eqInt64S r48 r166 h _ (hC.getP 1 rfl) (hC.getP 0 rfl)) (fun ret174 w176 hR175 => ?_)
                      obtain ⟨r177, rfl, h, hB178⟩ := hR175
                      refine ⟨_, rfl, ?_⟩
                      replace hC := hC.grow hB178
                      refine s_not rfl ?_
                      refine done ?_
                      refine then_norm ?_
                      refine cw_cond rfl (fun hb179 => ?_) (fun hb179 => ?_)
                      · replace h := ift h (ne_t (not_t hb179))
                        refine wp_seq ?_
                        refine cw_region ?_
                        refine s_as (v := .bool false) rfl ?_
                        refine done ?_
                        refine then_norm ?_
                        refine wp_ret (then_ret ?_)
                        refine ret1 (fn := Try.f3) rfl ?_ ⟨false, rfl, h, hC.below⟩ (.inl rfl)
                        exact res_tmp rfl
                      · replace h := iff_ h (not_not_intro ((not_f hb179)))
                        refine wp_skip ?_
                        refine then_norm ?_
                        refine wp_seq ?_
                        refine cw_region ?_
                        refine s_as (v := .bool true) rfl ?_
                        refine done ?_
                        refine then_norm ?_
                        refine wp_ret ?_
                        refine ret1 (fn := Try.f3) rfl ?_ ⟨true, rfl, h, hC.below⟩ (.inl rfl)
                        exact res_tmp rfl
            · skip
              refine s_alloc hC (A8.enc .u8 A8.zero) z24 rfl fun b180 w182 hB_ hC => ?_
              refine done ?_
              refine ak_intro (by assumption) (listed' := (List.toArray [true, true, false, true, false, false, false, false, false, false, true, false, false, false])) rfl ?_
              refine ae_one 2 rfl (by kernel_rfl) ?_
              refine s_call [.agg (List.toArray (A8.enc .u8 a1))] _ Try.func15 rfl rfl rfl (c_laws_toMonomial a1 h _) (fun ret183 w185 hR184 => ?_)
              obtain ⟨r186, rfl, h, hB187⟩ := hR184
              refine ⟨_, rfl, ?_⟩
              replace hC := hC.grow hB187
              refine done ?_
              refine ak_intro (by assumption) (listed' := (List.toArray [true, true, true, true, false, false, false, false, false, false, true, false, false, false])) rfl ?_
              refine ae_one 4 rfl (by kernel_rfl) ?_
              refine s_call [.agg (List.toArray (A8.enc .u8 a2))] _ Try.func15 rfl rfl rfl (c_laws_toMonomial a2 h _) (fun ret188 w190 hR189 => ?_)
              obtain ⟨r191, rfl, h, hB192⟩ := hR189
              refine ⟨_, rfl, ?_⟩
              replace hC := hC.grow hB192
              refine done ?_
              refine ak_intro (by assumption) (listed' := (List.toArray [true, true, true, true, true, false, false, false, false, false, true, false, false, false])) rfl ?_
              refine ae_one 5 rfl (by kernel_rfl) ?_
              refine s_call [u49, .agg (List.toArray (A8.enc .u8 r186)), .agg (List.toArray (A8.enc .u8 r191))] _ Try.func16 rfl rfl rfl (c_impl_MultiplyMonomials r48 r186 r191 h _ (hC.getP 0 rfl)) (fun ret193 w195 hR194 => ?_)
              obtain ⟨r196, r197, r198, rfl, h, hB199⟩ := hR194
              refine ⟨_, rfl, ?_⟩
              replace hC := hC.grow hB199
              refine done ?_
              refine ak_intro (by assumption) (listed' := (List.toArray [true, true, true, true, true, true, false, false, false, false, true, false, false, false])) rfl ?_
              refine ae_lookF 6 (.tuple #[.agg (List.toArray (A8.enc .u8 r196)), .int .i64 r197, .int .i64 r198]) rfl rfl (by kernel_rfl) (by kernel_rfl) (by kernel_rfl) (fun w_ => .inl ⟨rfl, by exact r_mv (v := .tuple #[.agg (List.toArray (A8.enc .u8 r196)), .int .i64 r197, .int .i64 r198]) rfl⟩) (listed' := (List.toArray [true, true, true, true, true, true, true, false, false, false, true, false, false, false])) rfl ?_
              refine ae_lookF 7 (.agg (List.toArray (A8.enc .u8 r196))) rfl rfl (by kernel_rfl) (by kernel_rfl) (by kernel_rfl) (fun w_ => .inl ⟨rfl, by exact r_ext (v := .agg (List.toArray (A8.enc .u8 r196))) rfl rfl⟩) (listed' := (List.toArray [true, true, true, true, true, true, true, true, false, false, true, false, false, false])) rfl ?_
              refine ae_lookF 8 (.int .i64 r197) rfl rfl (by kernel_rfl) (by kernel_rfl) (by kernel_rfl) (fun w_ => .inl ⟨rfl, by exact r_ext (v := .int .i64 r197) rfl rfl⟩) (listed' := (List.toArray [true, true, true, true, true, true, true, true, true, false, true, false, false, false])) rfl ?_
              refine ae_lookF 9 (.int .i64 r198) rfl rfl (by kernel_rfl) (by kernel_rfl) (by kernel_rfl) (fun w_ => .inl ⟨rfl, by exact r_ext (v := .int .i64 r198) rfl rfl⟩) (listed' := (List.toArray [true, true, true, true, true, true, true, true, true, true, true, false, false, false])) rfl ?_
              refine ae_one 11 rfl (by kernel_rfl) ?_
              refine s_store (v := .agg (List.toArray (A8.enc .u8 r196))) hC 0 (A8.enc .u8 r196) (A8.enc .u8 r196) rfl ag24.size rfl rfl rfl rfl rfl (Nat.le_of_ble_eq_true rfl) rfl fun w200 hC => ?_
              refine done ?_
              refine ak_introN (by decide) (listed' := (List.toArray [true, true, true, true, true, true, true, true, true, true, true, true, false, false])) rfl ?_
              refine ae_lookF 12 (.int .i64 r197) rfl rfl (by kernel_rfl) (by kernel_rfl) (by kernel_rfl) (fun w_ => .inl ⟨rfl, by exact r_as (v := .int .i64 r197) rfl⟩) (listed' := (List.toArray [true, true, true, true, true, true, true, true, true, true, true, true, true, false])) rfl ?_
              refine ae_tail 13 (by decide) (by decide) (by kernel_rfl) rfl rfl ?_
              refine s_as (v := .int .i64 r198) rfl ?_
              refine done ?_
              refine qn_norm ?_
              refine then_norm ?_
              refine wp_seq ?_
              refine wp_seq ?_
              refine cw_region ?_
              refine s_loadA hC 0 (A8.enc .u8 r196) rfl ag24 rfl rfl rfl ?_
              refine s_loadA hC 1 (A8.enc .u8 r37) rfl ag24 rfl rfl rfl ?_
              refine s_call [.agg (List.toArray (A8.enc .u8 r196)), .agg (List.toArray (A8.enc .u8 r37))] _ Try.func17 rfl rfl rfl (c_laws_eqMonomial r196 r37 h _) (fun ret201 w203 hR202 => ?_)
              obtain ⟨r204, rfl, h, hB205⟩ := hR202
              refine ⟨_, rfl, ?_⟩
              replace hC := hC.grow hB205
              refine s_not rfl ?_
              refine s_mv (v := .bool (!r204)) rfl ?_
              refine bsplit (!r204) (fun hb206 => ?_) (fun hb206 => ?_)
              · replace h := ift h (ne_t (not_t hb206))
                refine guardOff (b := true) 4 44 rfl (tr rfl (congrArg _ hb206)) (by decide) ?_
                refine guardOff (b := true) 4 44 rfl (tr rfl (congrArg _ hb206)) (by decide) ?_
                refine guardOff (b := true) 4 44 rfl (tr rfl (congrArg _ hb206)) (by decide) ?_
                refine s_pick (v := .bool true) (b := true) (tr rfl (congrArg _ hb206)) rfl ?_
                refine s_mv (v := .bool true) rfl ?_
                refine guardOff (b := true) 9 49 rfl (tr rfl (congrArg _ rfl)) (by decide) ?_
                refine guardOff (b := true) 9 49 rfl (tr rfl (congrArg _ rfl)) (by decide) ?_
                refine guardOff (b := true) 9 49 rfl (tr rfl (congrArg _ rfl)) (by decide) ?_
                refine s_pick (v := .bool true) (b := true) rfl rfl ?_
                refine done ?_
                refine then_norm ?_
                refine cw_true rfl rfl ?_
                refine wp_seq ?_
                refine cw_region ?_
                refine s_as (v := .bool false) rfl ?_
                refine done ?_
                refine then_norm ?_
                refine wp_ret (then_ret ?_)
                refine ret1 (fn := Try.f3) rfl ?_ ⟨false, rfl, h, hC.below⟩ (.inl rfl)
                exact res_tmp rfl
              · replace h := iff_ h (not_not_intro ((not_f hb206)))
                refine guardOn 4 44 rfl rfl hb206 ?_
                refine s_mv (v := .int .i64 r197) rfl ?_
                refine guardOn 4 44 rfl rfl hb206 ?_
                refine s_mv (v := .int .i64 r38) rfl ?_
                refine guardOn 4 44 rfl rfl hb206 ?_
                refine s_neq rfl rfl ?_
                refine s_pick (v := .bool (decide (r197 ≠ r38))) (b := false) (tr rfl (congrArg _ hb206)) rfl ?_
                refine s_mv (v := .bool (decide (r197 ≠ r38))) rfl ?_
                refine bsplit (decide (r197 ≠ r38)) (fun hb207 => ?_) (fun hb207 => ?_)
                · replace h := ift h (ct hb207)
                  refine guardOff (b := true) 9 49 rfl (tr rfl (congrArg _ hb207)) (by decide) ?_
                  refine guardOff (b := true) 9 49 rfl (tr rfl (congrArg _ hb207)) (by decide) ?_
                  refine guardOff (b := true) 9 49 rfl (tr rfl (congrArg _ hb207)) (by decide) ?_
                  refine s_pick (v := .bool true) (b := true) (tr rfl (congrArg _ hb207)) rfl ?_
                  refine done ?_
                  refine then_norm ?_
                  refine cw_true rfl rfl ?_
                  refine wp_seq ?_
                  refine cw_region ?_
                  refine s_as (v := .bool false) rfl ?_
                  refine done ?_
                  refine then_norm ?_
                  refine wp_ret (then_ret ?_)
                  refine ret1 (fn := Try.f3) rfl ?_ ⟨false, rfl, h, hC.below⟩ (.inl rfl)
                  exact res_tmp rfl
                · replace h := iff_ h (cf hb207)
                  refine guardOn 9 49 rfl rfl hb207 ?_
                  refine s_mv (v := .int .i64 r198) rfl ?_
                  refine guardOn 9 49 rfl rfl hb207 ?_
                  refine s_mv (v := .int .i64 r39) rfl ?_
                  refine guardOn 9 49 rfl rfl hb207 ?_
                  refine s_neq rfl rfl ?_
                  refine s_pick (v := .bool (decide (r198 ≠ r39))) (b := false) (tr rfl (congrArg _ hb207)) rfl ?_
                  refine done ?_
                  refine then_norm ?_
                  refine cw_cond rfl (fun hb208 => ?_) (fun hb208 => ?_)
                  · replace h := ift h (ct hb208)
                    refine wp_seq ?_
                    refine cw_region ?_
                    refine s_as (v := .bool false) rfl ?_
                    refine done ?_
                    refine then_norm ?_
                    refine wp_ret (then_ret ?_)
                    refine ret1 (fn := Try.f3) rfl ?_ ⟨false, rfl, h, hC.below⟩ (.inl rfl)
                    exact res_tmp rfl
                  · replace h := iff_ h (cf hb208)
                    refine wp_skip ?_
                    refine then_norm ?_
                    refine wp_seq ?_
                    refine wp_seq ?_
                    refine cw_region ?_
                    refine s_mv (v := u49) rfl ?_
                    refine s_mv (v := u0_0) rfl ?_
                    refine s_call [u0_0] _ Try.func14 rfl rfl rfl (c_laws_toInt64S a0 h _ (hC.getP 2 rfl)) (fun ret209 w211 hR210 => ?_)
                    obtain ⟨r212, u213, f214, rfl, h, hr215, hf216, hB217⟩ := hR210
                    refine ⟨_, rfl, ?_⟩
                    have hs218 := fresh_on hC.size hf216
                    replace hC := hC.pushR hB217 (Ty.item ((EI .i64).ty.sl) r212 [u213] f214) hr215 (fun b hb => .inl (hf216 b hb))
                    refine s_call [u49, u213] _ Try.func18 rfl rfl rfl (c_laws_eqInt64S r48 r212 h _ (hC.getP 1 rfl) (hC.getP 0 rfl)) (fun ret220 w222 hR221 => ?_)
                    obtain ⟨r223, rfl, h, hB224⟩ := hR221
                    refine ⟨_, rfl, ?_⟩
                    replace hC := hC.grow hB224
                    refine s_not rfl ?_
                    refine done ?_
                    refine then_norm ?_
                    refine cw_cond rfl (fun hb225 => ?_) (fun hb225 => ?_)
                    · replace h := ift h (ne_t (not_t hb225))
                      refine wp_seq ?_
                      refine cw_region ?_
                      refine s_as (v := .bool false) rfl ?_
                      refine done ?_
                      refine then_norm ?_
                      refine wp_ret (then_ret ?_)
                      refine ret1 (fn := Try.f3) rfl ?_ ⟨false, rfl, h, hC.below⟩ (.inl rfl)
                      exact res_tmp rfl
                    · replace h := iff_ h (not_not_intro ((not_f hb225)))
                      refine wp_skip ?_
                      refine then_norm ?_
                      refine wp_seq ?_
                      refine cw_region ?_
                      refine s_as (v := .bool true) rfl ?_
                      refine done ?_
                      refine then_norm ?_
                      refine wp_ret ?_
                      refine ret1 (fn := Try.f3) rfl ?_ ⟨true, rfl, h, hC.below⟩ (.inl rfl)
                      exact res_tmp rfl
          · skip
            refine s_alloc hC (A8.enc .u8 A8.zero) z24 rfl fun b226 w228 hB_ hC => ?_
            refine done ?_
            refine ak_intro (by assumption) (listed' := (List.toArray [true, true, true, true, true, true, false, false, false, false, false, true, false, false, false])) rfl ?_
            refine ae_one 6 rfl (by kernel_rfl) ?_
            refine s_call [u17, .agg (List.toArray (A8.enc .u8 r27)), .agg (List.toArray (A8.enc .u8 r32))] _ Try.func13 rfl rfl rfl (c_spec_MultiplyMonomials r16 r27 r32 h _ (hC.getP 0 rfl)) (fun ret229 w231 hR230 => ?_)
            obtain ⟨r232, r233, r234, rfl, h, hB235⟩ := hR230
            refine ⟨_, rfl, ?_⟩
            replace hC := hC.grow hB235
            refine done ?_
            refine ak_intro (by assumption) (listed' := (List.toArray [true, true, true, true, true, true, true, false, false, false, false, true, false, false, false])) rfl ?_
            refine ae_lookF 7 (.tuple #[.agg (List.toArray (A8.enc .u8 r232)), .int .i64 r233, .int .i64 r234]) rfl rfl (by kernel_rfl) (by kernel_rfl) (by kernel_rfl) (fun w_ => .inl ⟨rfl, by exact r_mv (v := .tuple #[.agg (List.toArray (A8.enc .u8 r232)), .int .i64 r233, .int .i64 r234]) rfl⟩) (listed' := (List.toArray [true, true, true, true, true, true, true, true, false, false, false, true, false, false, false])) rfl ?_
            refine ae_lookF 8 (.agg (List.toArray (A8.enc .u8 r232))) rfl rfl (by kernel_rfl) (by kernel_rfl) (by kernel_rfl) (fun w_ => .inl ⟨rfl, by exact r_ext (v := .agg (List.toArray (A8.enc .u8 r232))) rfl rfl⟩) (listed' := (List.toArray [true, true, true, true, true, true, true, true, true, false, false, true, false, false, false])) rfl ?_
            refine ae_lookF 9 (.int .i64 r233) rfl rfl (by kernel_rfl) (by kernel_rfl) (by kernel_rfl) (fun w_ => .inl ⟨rfl, by exact r_ext (v := .int .i64 r233) rfl rfl⟩) (listed' := (List.toArray [true, true, true, true, true, true, true, true, true, true, false, true, false, false, false])) rfl ?_
            refine ae_lookF 10 (.int .i64 r234) rfl rfl (by kernel_rfl) (by kernel_rfl) (by kernel_rfl) (fun w_ => .inl ⟨rfl, by exact r_ext (v := .int .i64 r234) rfl rfl⟩) (listed' := (List.toArray [true, true, true, true, true, true, true, true, true, true, true, true, false, false, false])) rfl ?_
            refine ae_one 12 rfl (by kernel_rfl) ?_
            refine s_store (v := .agg (List.toArray (A8.enc .u8 r232))) hC 0 (A8.enc .u8 r232) (A8.enc .u8 r232) rfl ag24.size rfl rfl rfl rfl rfl (Nat.le_of_ble_eq_true rfl) rfl fun w236 hC => ?_
            refine done ?_
            refine ak_introN (by decide) (listed' := (List.toArray [true, true, true, true, true, true, true, true, true, true, true, true, true, false, false])) rfl ?_
            refine ae_lookF 13 (.int .i64 r233) rfl rfl (by kernel_rfl) (by kernel_rfl) (by kernel_rfl) (fun w_ => .inl ⟨rfl, by exact r_as (v := .int .i64 r233) rfl⟩) (listed' := (List.toArray [true, true, true, true, true, true, true, true, true, true, true, true, true, true, false])) rfl ?_
            refine ae_tail 14 (by decide) (by decide) (by kernel_rfl) rfl rfl ?_
            refine s_as (v := .int .i64 r234) rfl ?_
            refine done ?_
            refine qn_norm ?_
            refine then_norm ?_
            refine wp_seq ?_
            refine cw_region ?_
            refine s_mv (v := u0_0) rfl ?_
            refine s_call [u0_0] _ Try.func14 rfl rfl rfl (c_laws_toInt64S a0 h _ (hC.getP 1 rfl)) (fun ret237 w239 hR238 => ?_)
            obtain ⟨r240, u241, f242, rfl, h, hr243, hf244, hB245⟩ := hR238
            refine ⟨_, rfl, ?_⟩
            have hs246 := fresh_on hC.size hf244
            replace hC := hC.pushR hB245 (Ty.item ((EI .i64).ty.sl) r240 [u241] f242) hr243 (fun b hb => .inl (hf244 b hb))
            refine s_as (v := u241) rfl ?_
            refine done ?_
            refine then_norm ?_
            refine wp_seq ?_
            refine cw_draw 11 mixed (fun w248 hB_ => ?_)
            replace hC := hC.grow hB_
            refine ae_lookF 0 (u241) rfl rfl (by kernel_rfl) (by kernel_rfl) (by kernel_rfl) (fun w_ => .inl ⟨rfl, by exact r_mv (v := u241) rfl⟩) (listed' := (List.toArray [true, false, false, false, false, false, false, false, false, false, false, false, false, false])) rfl ?_
            refine ae_look 1 (.agg (List.toArray (A8.enc .u8 a1))) rfl rfl (by kernel_rfl) (by kernel_rfl) (by kernel_rfl) (fun w_ hB_ => .inl ⟨rfl, by exact r_loadA (hC.grow hB_) 2 (A8.enc .u8 a1) rfl ag23 rfl rfl rfl⟩) (listed' := (List.toArray [true, true, false, false, false, false, false, false, false, false, false, false, false, false])) rfl ?_
            refine ae_look 3 (.agg (List.toArray (A8.enc .u8 a2))) rfl rfl (by kernel_rfl) (by kernel_rfl) (by kernel_rfl) (fun w_ hB_ => .inl ⟨rfl, by exact r_loadA (hC.grow hB_) 1 (A8.enc .u8 a2) rfl ag23 rfl rfl rfl⟩) (listed' := (List.toArray [true, true, false, true, false, false, false, false, false, false, false, false, false, false])) rfl ?_
            refine ae_two 2 10 rfl rfl (by kernel_rfl) ?_ ?_
            · skip
              refine s_call [.agg (List.toArray (A8.enc .u8 a1))] _ Try.func15 rfl rfl rfl (c_laws_toMonomial a1 h _) (fun ret249 w251 hR250 => ?_)
              obtain ⟨r252, rfl, h, hB253⟩ := hR250
              refine ⟨_, rfl, ?_⟩
              replace hC := hC.grow hB253
              refine done ?_
              refine ak_intro (by assumption) (listed' := (List.toArray [true, true, true, true, false, false, false, false, false, false, false, false, false, false])) rfl ?_
              refine ae_two 4 10 rfl rfl (by kernel_rfl) ?_ ?_
              · skip
                refine s_call [.agg (List.toArray (A8.enc .u8 a2))] _ Try.func15 rfl rfl rfl (c_laws_toMonomial a2 h _) (fun ret254 w256 hR255 => ?_)
                obtain ⟨r257, rfl, h, hB258⟩ := hR255
                refine ⟨_, rfl, ?_⟩
                replace hC := hC.grow hB258
                refine done ?_
                refine ak_intro (by assumption) (listed' := (List.toArray [true, true, true, true, true, false, false, false, false, false, false, false, false, false])) rfl ?_
                refine ae_two 5 10 rfl rfl (by kernel_rfl) ?_ ?_
                · skip
                  refine s_call [u241, .agg (List.toArray (A8.enc .u8 r252)), .agg (List.toArray (A8.enc .u8 r257))] _ Try.func16 rfl rfl rfl (c_impl_MultiplyMonomials r240 r252 r257 h _ (hC.getP 0 rfl)) (fun ret259 w261 hR260 => ?_)
                  obtain ⟨r262, r263, r264, rfl, h, hB265⟩ := hR260
                  refine ⟨_, rfl, ?_⟩
                  replace hC := hC.grow hB265
                  refine done ?_
                  refine ak_intro (by assumption) (listed' := (List.toArray [true, true, true, true, true, true, false, false, false, false, false, false, false, false])) rfl ?_
                  refine ae_lookF 6 (.tuple #[.agg (List.toArray (A8.enc .u8 r262)), .int .i64 r263, .int .i64 r264]) rfl rfl (by kernel_rfl) (by kernel_rfl) (by kernel_rfl) (fun w_ => .inl ⟨rfl, by exact r_mv (v := .tuple #[.agg (List.toArray (A8.enc .u8 r262)), .int .i64 r263, .int .i64 r264]) rfl⟩) (listed' := (List.toArray [true, true, true, true, true, true, true, false, false, false, false, false, false, false])) rfl ?_
                  refine ae_lookF 7 (.agg (List.toArray (A8.enc .u8 r262))) rfl rfl (by kernel_rfl) (by kernel_rfl) (by kernel_rfl) (fun w_ => .inl ⟨rfl, by exact r_ext (v := .agg (List.toArray (A8.enc .u8 r262))) rfl rfl⟩) (listed' := (List.toArray [true, true, true, true, true, true, true, true, false, false, false, false, false, false])) rfl ?_
                  refine ae_lookF 8 (.int .i64 r263) rfl rfl (by kernel_rfl) (by kernel_rfl) (by kernel_rfl) (fun w_ => .inl ⟨rfl, by exact r_ext (v := .int .i64 r263) rfl rfl⟩) (listed' := (List.toArray [true, true, true, true, true, true, true, true, true, false, false, false, false, false])) rfl ?_
                  refine ae_lookF 9 (.int .i64 r264) rfl rfl (by kernel_rfl) (by kernel_rfl) (by kernel_rfl) (fun w_ => .inl ⟨rfl, by exact r_ext (v := .int .i64 r264) rfl rfl⟩) (listed' := (List.toArray [true, true, true, true, true, true, true, true, true, true, false, false, false, false])) rfl ?_
                  refine ae_one 10 rfl (by kernel_rfl) ?_
                  refine s_alloc hC (A8.enc .u8 A8.zero) z24 rfl fun b266 w268 hB_ hC => ?_
                  refine done ?_
                  refine ak_intro (by assumption) (listed' := (List.toArray [true, true, true, true, true, true, true, true, true, true, true, false, false, false])) rfl ?_
                  refine ae_one 11 rfl (by kernel_rfl) ?_
                  refine s_store (v := .agg (List.toArray (A8.enc .u8 r262))) hC 0 (A8.enc .u8 r262) (A8.enc .u8 r262) rfl ag24.size rfl rfl rfl rfl rfl (Nat.le_of_ble_eq_true rfl) rfl fun w269 hC => ?_
                  refine done ?_
                  refine ak_introN (by decide) (listed' := (List.toArray [true, true, true, true, true, true, true, true, true, true, true, true, false, false])) rfl ?_
                  refine ae_lookF 12 (.int .i64 r263) rfl rfl (by kernel_rfl) (by kernel_rfl) (by kernel_rfl) (fun w_ => .inl ⟨rfl, by exact r_as (v := .int .i64 r263) rfl⟩) (listed' := (List.toArray [true, true, true, true, true, true, true, true, true, true, true, true, true, false])) rfl ?_
                  refine ae_tail 13 (by decide) (by decide) (by kernel_rfl) rfl rfl ?_
                  refine s_as (v := .int .i64 r264) rfl ?_
                  refine done ?_
                  refine qn_norm ?_
                  refine then_norm ?_
                  refine wp_seq ?_
                  refine wp_seq ?_
                  refine cw_region ?_
                  refine s_loadA hC 0 (A8.enc .u8 r262) rfl ag24 rfl rfl rfl ?_
                  refine s_loadA hC 1 (A8.enc .u8 r232) rfl ag24 rfl rfl rfl ?_
                  refine s_call [.agg (List.toArray (A8.enc .u8 r262)), .agg (List.toArray (A8.enc .u8 r232))] _ Try.func17 rfl rfl rfl (c_laws_eqMonomial r262 r232 h _) (fun ret270 w272 hR271 => ?_)
                  obtain ⟨r273, rfl, h, hB274⟩ := hR271
                  refine ⟨_, rfl, ?_⟩
                  replace hC := hC.grow hB274
                  refine s_not rfl ?_
                  refine s_mv (v := .bool (!r273)) rfl ?_
                  refine bsplit (!r273) (fun hb275 => ?_) (fun hb275 => ?_)
                  · replace h := ift h (ne_t (not_t hb275))
                    refine guardOff (b := true) 4 44 rfl (tr rfl (congrArg _ hb275)) (by decide) ?_
                    refine guardOff (b := true) 4 44 rfl (tr rfl (congrArg _ hb275)) (by decide) ?_
                    refine guardOff (b := true) 4 44 rfl (tr rfl (congrArg _ hb275)) (by decide) ?_
                    refine s_pick (v := .bool true) (b := true) (tr rfl (congrArg _ hb275)) rfl ?_
                    refine s_mv (v := .bool true) rfl ?_
                    refine guardOff (b := true) 9 49 rfl (tr rfl (congrArg _ rfl)) (by decide) ?_
                    refine guardOff (b := true) 9 49 rfl (tr rfl (congrArg _ rfl)) (by decide) ?_
                    refine guardOff (b := true) 9 49 rfl (tr rfl (congrArg _ rfl)) (by decide) ?_
                    refine s_pick (v := .bool true) (b := true) rfl rfl ?_
                    refine done ?_
                    refine then_norm ?_
                    refine cw_true rfl rfl ?_
                    refine wp_seq ?_
                    refine cw_region ?_
                    refine s_as (v := .bool false) rfl ?_
                    refine done ?_
                    refine then_norm ?_
                    refine wp_ret (then_ret ?_)
                    refine ret1 (fn := Try.f3) rfl ?_ ⟨false, rfl, h, hC.below⟩ (.inl rfl)
                    exact res_tmp rfl
                  · replace h := iff_ h (not_not_intro ((not_f hb275)))
                    refine guardOn 4 44 rfl rfl hb275 ?_
                    refine s_mv (v := .int .i64 r263) rfl ?_
                    refine guardOn 4 44 rfl rfl hb275 ?_
                    refine s_mv (v := .int .i64 r233) rfl ?_
                    refine guardOn 4 44 rfl rfl hb275 ?_
                    refine s_neq rfl rfl ?_
                    refine s_pick (v := .bool (decide (r263 ≠ r233))) (b := false) (tr rfl (congrArg _ hb275)) rfl ?_
                    refine s_mv (v := .bool (decide (r263 ≠ r233))) rfl ?_
                    refine bsplit (decide (r263 ≠ r233)) (fun hb276 => ?_) (fun hb276 => ?_)
                    · replace h := ift h (ct hb276)
                      refine guardOff (b := true) 9 49 rfl (tr rfl (congrArg _ hb276)) (by decide) ?_
                      refine guardOff (b := true) 9 49 rfl (tr rfl (congrArg _ hb276)) (by decide) ?_
                      refine guardOff (b := true) 9 49 rfl (tr rfl (congrArg _ hb276)) (by decide) ?_
                      refine s_pick (v := .bool true) (b := true) (tr rfl (congrArg _ hb276)) rfl ?_
                      refine done ?_
                      refine then_norm ?_
                      refine cw_true rfl rfl ?_
                      refine wp_seq ?_
                      refine cw_region ?_
                      refine s_as (v := .bool false) rfl ?_
                      refine done ?_
                      refine then_norm ?_
                      refine wp_ret (then_ret ?_)
                      refine ret1 (fn := Try.f3) rfl ?_ ⟨false, rfl, h, hC.below⟩ (.inl rfl)
                      exact res_tmp rfl
                    · replace h := iff_ h (cf hb276)
                      refine guardOn 9 49 rfl rfl hb276 ?_
                      refine s_mv (v := .int .i64 r264) rfl ?_
                      refine guardOn 9 49 rfl rfl hb276 ?_
                      refine s_mv (v := .int .i64 r234) rfl ?_
                      refine guardOn 9 49 rfl rfl hb276 ?_
                      refine s_neq rfl rfl ?_
                      refine s_pick (v := .bool (decide (r264 ≠ r234))) (b := false) (tr rfl (congrArg _ hb276)) rfl ?_
                      refine done ?_
                      refine then_norm ?_
                      refine cw_cond rfl (fun hb277 => ?_) (fun hb277 => ?_)
                      · replace h := ift h (ct hb277)
                        refine wp_seq ?_
                        refine cw_region ?_
                        refine s_as (v := .bool false) rfl ?_
                        refine done ?_
                        refine then_norm ?_
                        refine wp_ret (then_ret ?_)
                        refine ret1 (fn := Try.f3) rfl ?_ ⟨false, rfl, h, hC.below⟩ (.inl rfl)
                        exact res_tmp rfl
                      · replace h := iff_ h (cf hb277)
                        refine wp_skip ?_
                        refine then_norm ?_
                        refine wp_seq ?_
                        refine wp_seq ?_
                        refine cw_region ?_
                        refine s_mv (v := u241) rfl ?_
                        refine s_mv (v := u0_0) rfl ?_
                        refine s_call [u0_0] _ Try.func14 rfl rfl rfl (c_laws_toInt64S a0 h _ (hC.getP 2 rfl)) (fun ret278 w280 hR279 => ?_)
                        obtain ⟨r281, u282, f283, rfl, h, hr284, hf285, hB286⟩ := hR279
                        refine ⟨_, rfl, ?_⟩
                        have hs287 := fresh_on hC.size hf285
                        replace hC := hC.pushR hB286 (Ty.item ((EI .i64).ty.sl) r281 [u282] f283) hr284 (fun b hb => .inl (hf285 b hb))
                        refine s_call [u241, u282] _ Try.func18 rfl rfl rfl (c_laws_eqInt64S r240 r281 h _ (hC.getP 1 rfl) (hC.getP 0 rfl)) (fun ret289 w291 hR290 => ?_)
                        obtain ⟨r292, rfl, h, hB293⟩ := hR290
                        refine ⟨_, rfl, ?_⟩
                        replace hC := hC.grow hB293
                        refine s_not rfl ?_
                        refine done ?_
                        refine then_norm ?_
                        refine cw_cond rfl (fun hb294 => ?_) (fun hb294 => ?_)
                        · replace h := ift h (ne_t (not_t hb294))
                          refine wp_seq ?_
                          refine cw_region ?_
                          refine s_as (v := .bool false) rfl ?_
                          refine done ?_
                          refine then_norm ?_
                          refine wp_ret (then_ret ?_)
                          refine ret1 (fn := Try.f3) rfl ?_ ⟨false, rfl, h, hC.below⟩ (.inl rfl)
                          exact res_tmp rfl
                        · replace h := iff_ h (not_not_intro ((not_f hb294)))
                          refine wp_skip ?_
                          refine then_norm ?_
                          refine wp_seq ?_
                          refine cw_region ?_
                          refine s_as (v := .bool true) rfl ?_
                          refine done ?_
                          refine then_norm ?_
                          refine wp_ret ?_
                          refine ret1 (fn := Try.f3) rfl ?_ ⟨true, rfl, h, hC.below⟩ (.inl rfl)
                          exact res_tmp rfl
                · skip
                  refine s_alloc hC (A8.enc .u8 A8.zero) z24 rfl fun b295 w297 hB_ hC => ?_
                  refine done ?_
                  refine ak_intro (by assumption) (listed' := (List.toArray [true, true, true, true, true, false, false, false, false, false, true, false, false, false])) rfl ?_
                  refine ae_one 5 rfl (by kernel_rfl) ?_
                  refine s_call [u241, .agg (List.toArray (A8.enc .u8 r252)), .agg (List.toArray (A8.enc .u8 r257))] _ Try.func16 rfl rfl rfl (c_impl_MultiplyMonomials r240 r252 r257 h _ (hC.getP 0 rfl)) (fun ret298 w300 hR299 => ?_)
                  obtain ⟨r301, r302, r303, rfl, h, hB304⟩ := hR299
                  refine ⟨_, rfl, ?_⟩
                  replace hC := hC.grow hB304
                  refine done ?_
                  refine ak_intro (by assumption) (listed' := (List.toArray [true, true, true, true, true, true, false, false, false, false, true, false, false, false])) rfl ?_
                  refine ae_lookF 6 (.tuple #[.agg (List.toArray (A8.enc .u8 r301)), .int .i64 r302, .int .i64 r303]) rfl rfl (by kernel_rfl) (by kernel_rfl) (by kernel_rfl) (fun w_ => .inl ⟨rfl, by exact r_mv (v := .tuple #[.agg (List.toArray (A8.enc .u8 r301)), .int .i64 r302, .int .i64 r303]) rfl⟩) (listed' := (List.toArray [true, true, true, true, true, true, true, false, false, false, true, false, false, false])) rfl ?_
                  refine ae_lookF 7 (.agg (List.toArray (A8.enc .u8 r301))) rfl rfl (by kernel_rfl) (by kernel_rfl) (by kernel_rfl) (fun w_ => .inl ⟨rfl, by exact r_ext (v := .agg (List.toArray (A8.enc .u8 r301))) rfl rfl⟩) (listed' := (List.toArray [true, true, true, true, true, true, true, true, false, false, true, false, false, false])) rfl ?_
                  refine ae_lookF 8 (.int .i64 r302) rfl rfl (by kernel_rfl) (by kernel_rfl) (by kernel_rfl) (fun w_ => .inl ⟨rfl, by exact r_ext (v := .int .i64 r302) rfl rfl⟩) (listed' := (List.toArray [true, true, true, true, true, true, true, true, true, false, true, false, false, false])) rfl ?_
                  refine ae_lookF 9 (.int .i64 r303) rfl rfl (by kernel_rfl) (by kernel_rfl) (by kernel_rfl) (fun w_ => .inl ⟨rfl, by exact r_ext (v := .int .i64 r303) rfl rfl⟩) (listed' := (List.toArray [true, true, true, true, true, true, true, true, true, true, true, false, false, false])) rfl ?_
                  refine ae_one 11 rfl (by kernel_rfl) ?_
                  refine s_store (v := .agg (List.toArray (A8.enc .u8 r301))) hC 0 (A8.enc .u8 r301) (A8.enc .u8 r301) rfl ag24.size rfl rfl rfl rfl rfl (Nat.le_of_ble_eq_true rfl) rfl fun w305 hC => ?_
                  refine done ?_
                  refine ak_introN (by decide) (listed' := (List.toArray [true, true, true, true, true, true, true, true, true, true, true, true, false, false])) rfl ?_
                  refine ae_lookF 12 (.int .i64 r302) rfl rfl (by kernel_rfl) (by kernel_rfl) (by kernel_rfl) (fun w_ => .inl ⟨rfl, by exact r_as (v := .int .i64 r302) rfl⟩) (listed' := (List.toArray [true, true, true, true, true, true, true, true, true, true, true, true, true, false])) rfl ?_
                  refine ae_tail 13 (by decide) (by decide) (by kernel_rfl) rfl rfl ?_
                  refine s_as (v := .int .i64 r303) rfl ?_
                  refine done ?_
                  refine qn_norm ?_
                  refine then_norm ?_
                  refine wp_seq ?_
                  refine wp_seq ?_
                  refine cw_region ?_
                  refine s_loadA hC 0 (A8.enc .u8 r301) rfl ag24 rfl rfl rfl ?_
                  refine s_loadA hC 1 (A8.enc .u8 r232) rfl ag24 rfl rfl rfl ?_
                  refine s_call [.agg (List.toArray (A8.enc .u8 r301)), .agg (List.toArray (A8.enc .u8 r232))] _ Try.func17 rfl rfl rfl (c_laws_eqMonomial r301 r232 h _) (fun ret306 w308 hR307 => ?_)
                  obtain ⟨r309, rfl, h, hB310⟩ := hR307
                  refine ⟨_, rfl, ?_⟩
                  replace hC := hC.grow hB310
                  refine s_not rfl ?_
                  refine s_mv (v := .bool (!r309)) rfl ?_
                  refine bsplit (!r309) (fun hb311 => ?_) (fun hb311 => ?_)
                  · replace h := ift h (ne_t (not_t hb311))
                    refine guardOff (b := true) 4 44 rfl (tr rfl (congrArg _ hb311)) (by decide) ?_
                    refine guardOff (b := true) 4 44 rfl (tr rfl (congrArg _ hb311)) (by decide) ?_
                    refine guardOff (b := true) 4 44 rfl (tr rfl (congrArg _ hb311)) (by decide) ?_
                    refine s_pick (v := .bool true) (b := true) (tr rfl (congrArg _ hb311)) rfl ?_
                    refine s_mv (v := .bool true) rfl ?_
                    refine guardOff (b := true) 9 49 rfl (tr rfl (congrArg _ rfl)) (by decide) ?_
                    refine guardOff (b := true) 9 49 rfl (tr rfl (congrArg _ rfl)) (by decide) ?_
                    refine guardOff (b := true) 9 49 rfl (tr rfl (congrArg _ rfl)) (by decide) ?_
                    refine s_pick (v := .bool true) (b := true) rfl rfl ?_
                    refine done ?_
                    refine then_norm ?_
                    refine cw_true rfl rfl ?_
                    refine wp_seq ?_
                    refine cw_region ?_
                    refine s_as (v := .bool false) rfl ?_
                    refine done ?_
                    refine then_norm ?_
                    refine wp_ret (then_ret ?_)
                    refine ret1 (fn := Try.f3) rfl ?_ ⟨false, rfl, h, hC.below⟩ (.inl rfl)
                    exact res_tmp rfl
                  · replace h := iff_ h (not_not_intro ((not_f hb311)))
                    refine guardOn 4 44 rfl rfl hb311 ?_
                    refine s_mv (v := .int .i64 r302) rfl ?_
                    refine guardOn 4 44 rfl rfl hb311 ?_
                    refine s_mv (v := .int .i64 r233) rfl ?_
                    refine guardOn 4 44 rfl rfl hb311 ?_
                    refine s_neq rfl rfl ?_
                    refine s_pick (v := .bool (decide (r302 ≠ r233))) (b := false) (tr rfl (congrArg _ hb311)) rfl ?_
                    refine s_mv (v := .bool (decide (r302 ≠ r233))) rfl ?_
                    refine bsplit (decide (r302 ≠ r233)) (fun hb312 => ?_) (fun hb312 => ?_)
                    · replace h := ift h (ct hb312)
                      refine guardOff (b := true) 9 49 rfl (tr rfl (congrArg _ hb312)) (by decide) ?_
                      refine guardOff (b := true) 9 49 rfl (tr rfl (congrArg _ hb312)) (by decide) ?_
                      refine guardOff (b := true) 9 49 rfl (tr rfl (congrArg _ hb312)) (by decide) ?_
                      refine s_pick (v := .bool true) (b := true) (tr rfl (congrArg _ hb312)) rfl ?_
                      refine done ?_
                      refine then_norm ?_
                      refine cw_true rfl rfl ?_
                      refine wp_seq ?_
                      refine cw_region ?_
                      refine s_as (v := .bool false) rfl ?_
                      refine done ?_
                      refine then_norm ?_
                      refine wp_ret (then_ret ?_)
                      refine ret1 (fn := Try.f3) rfl ?_ ⟨false, rfl, h, hC.below⟩ (.inl rfl)
                      exact res_tmp rfl
                    · replace h := iff_ h (cf hb312)
                      refine guardOn 9 49 rfl rfl hb312 ?_
                      refine s_mv (v := .int .i64 r303) rfl ?_
                      refine guardOn 9 49 rfl rfl hb312 ?_
                      refine s_mv (v := .int .i64 r234) rfl ?_
                      refine guardOn 9 49 rfl rfl hb312 ?_
                      refine s_neq rfl rfl ?_
                      refine s_pick (v := .bool (decide (r303 ≠ r234))) (b := false) (tr rfl (congrArg _ hb312)) rfl ?_
                      refine done ?_
                      refine then_norm ?_
                      refine cw_cond rfl (fun hb313 => ?_) (fun hb313 => ?_)
                      · replace h := ift h (ct hb313)
                        refine wp_seq ?_
                        refine cw_region ?_
                        refine s_as (v := .bool false) rfl ?_
                        refine done ?_
                        refine then_norm ?_
                        refine wp_ret (then_ret ?_)
                        refine ret1 (fn := Try.f3) rfl ?_ ⟨false, rfl, h, hC.below⟩ (.inl rfl)
                        exact res_tmp rfl
                      · replace h := iff_ h (cf hb313)
                        refine wp_skip ?_
                        refine then_norm ?_
                        refine wp_seq ?_
                        refine wp_seq ?_
                        refine cw_region ?_
                        refine s_mv (v := u241) rfl ?_
                        refine s_mv (v := u0_0) rfl ?_
                        refine s_call [u0_0] _ Try.func14 rfl rfl rfl (c_laws_toInt64S a0 h _ (hC.getP 2 rfl)) (fun ret314 w316 hR315 => ?_)
                        obtain ⟨r317, u318, f319, rfl, h, hr320, hf321, hB322⟩ := hR315
                        refine ⟨_, rfl, ?_⟩
                        have hs323 := fresh_on hC.size hf321
                        replace hC := hC.pushR hB322 (Ty.item ((EI .i64).ty.sl) r317 [u318] f319) hr320 (fun b hb => .inl (hf321 b hb))
                        refine s_call [u241, u318] _ Try.func18 rfl rfl rfl (c_laws_eqInt64S r240 r317 h _ (hC.getP 1 rfl) (hC.getP 0 rfl)) (fun ret325 w327 hR326 => ?_)
                        obtain ⟨r328, rfl, h, hB329⟩ := hR326
                        refine ⟨_, rfl, ?_⟩
                        replace hC := hC.grow hB329
                        refine s_not rfl ?_
                        refine done ?_
                        refine then_norm ?_
                        refine cw_cond rfl (fun hb330 => ?_) (fun hb330 => ?_)
                        · replace h := ift h (ne_t (not_t hb330))
                          refine wp_seq ?_
                          refine cw_region ?_
                          refine s_as (v := .bool false) rfl ?_
                          refine done ?_
                          refine then_norm ?_
                          refine wp_ret (then_ret ?_)
                          refine ret1 (fn := Try.f3) rfl ?_ ⟨false, rfl, h, hC.below⟩ (.inl rfl)
                          exact res_tmp rfl
                        · replace h := iff_ h (not_not_intro ((not_f hb330)))
                          refine wp_skip ?_
                          refine then_norm ?_
                          refine wp_seq ?_
                          refine cw_region ?_
                          refine s_as (v := .bool true) rfl ?_
                          refine done ?_
                          refine then_norm ?_
                          refine wp_ret ?_
                          refine ret1 (fn := Try.f3) rfl ?_ ⟨true, rfl, h, hC.below⟩ (.inl rfl)
                          exact res_tmp rfl
              · skip
                refine s_alloc hC (A8.enc .u8 A8.zero) z24 rfl fun b331 w333 hB_ hC => ?_
                refine done ?_
                refine ak_intro (by assumption) (listed' := (List.toArray [true, true, true, true, false, false, false, false, false, false, true, false, false, false])) rfl ?_
                refine ae_one 4 rfl (by kernel_rfl) ?_
                refine s_call [.agg (List.toArray (A8.enc .u8 a2))] _ Try.func15 rfl rfl rfl (c_laws_toMonomial a2 h _) (fun ret334 w336 hR335 => ?_)
                obtain ⟨r337, rfl, h, hB338⟩ := hR335
                refine ⟨_, rfl, ?_⟩
                replace hC := hC.grow hB338
                refine done ?_
                refine ak_intro (by assumption) (listed' := (List.toArray [true, true, true, true, true, false, false, false, false, false, true, false, false, false])) rfl ?_
                refine ae_one 5 rfl (by kernel_rfl) ?_
                refine s_call [u241, .agg (List.toArray (A8.enc .u8 r252)), .agg (List.toArray (A8.enc .u8 r337))] _ Try.func16 rfl rfl rfl (c_impl_MultiplyMonomials r240 r252 r337 h _ (hC.getP 0 rfl)) (fun ret339 w341 hR340 => ?_)
                obtain ⟨r342, r343, r344, rfl, h, hB345⟩ := hR340
                refine ⟨_, rfl, ?_⟩
                replace hC := hC.grow hB345
                refine done ?_
                refine ak_intro (by assumption) (listed' := (List.toArray [true, true, true, true, true, true, false, false, false, false, true, false, false, false])) rfl ?_
                refine ae_lookF 6 (.tuple #[.agg (List.toArray (A8.enc .u8 r342)), .int .i64 r343, .int .i64 r344]) rfl rfl (by kernel_rfl) (by kernel_rfl) (by kernel_rfl) (fun w_ => .inl ⟨rfl, by exact r_mv (v := .tuple #[.agg (List.toArray (A8.enc .u8 r342)), .int .i64 r343, .int .i64 r344]) rfl⟩) (listed' := (List.toArray [true, true, true, true, true, true, true, false, false, false, true, false, false, false])) rfl ?_
                refine ae_lookF 7 (.agg (List.toArray (A8.enc .u8 r342))) rfl rfl (by kernel_rfl) (by kernel_rfl) (by kernel_rfl) (fun w_ => .inl ⟨rfl, by exact r_ext (v := .agg (List.toArray (A8.enc .u8 r342))) rfl rfl⟩) (listed' := (List.toArray [true, true, true, true, true, true, true, true, false, false, true, false, false, false])) rfl ?_
                refine ae_lookF 8 (.int .i64 r343) rfl rfl (by kernel_rfl) (by kernel_rfl) (by kernel_rfl) (fun w_ => .inl ⟨rfl, by exact r_ext (v := .int .i64 r343) rfl rfl⟩) (listed' := (List.toArray [true, true, true, true, true, true, true, true, true, false, true, false, false, false])) rfl ?_
                refine ae_lookF 9 (.int .i64 r344) rfl rfl (by kernel_rfl) (by kernel_rfl) (by kernel_rfl) (fun w_ => .inl ⟨rfl, by exact r_ext (v := .int .i64 r344) rfl rfl⟩) (listed' := (List.toArray [true, true, true, true, true, true, true, true, true, true, true, false, false, false])) rfl ?_
                refine ae_one 11 rfl (by kernel_rfl) ?_
                refine s_store (v := .agg (List.toArray (A8.enc .u8 r342))) hC 0 (A8.enc .u8 r342) (A8.enc .u8 r342) rfl ag24.size rfl rfl rfl rfl rfl (Nat.le_of_ble_eq_true rfl) rfl fun w346 hC => ?_
                refine done ?_
                refine ak_introN (by decide) (listed' := (List.toArray [true, true, true, true, true, true, true, true, true, true, true, true, false, false])) rfl ?_
                refine ae_lookF 12 (.int .i64 r343) rfl rfl (by kernel_rfl) (by kernel_rfl) (by kernel_rfl) (fun w_ => .inl ⟨rfl, by exact r_as (v := .int .i64 r343) rfl⟩) (listed' := (List.toArray [true, true, true, true, true, true, true, true, true, true, true, true, true, false])) rfl ?_
                refine ae_tail 13 (by decide) (by decide) (by kernel_rfl) rfl rfl ?_
                refine s_as (v := .int .i64 r344) rfl ?_
                refine done ?_
                refine qn_norm ?_
                refine then_norm ?_
                refine wp_seq ?_
                refine wp_seq ?_
                refine cw_region ?_
                refine s_loadA hC 0 (A8.enc .u8 r342) rfl ag24 rfl rfl rfl ?_
                refine s_loadA hC 1 (A8.enc .u8 r232) rfl ag24 rfl rfl rfl ?_
                refine s_call [.agg (List.toArray (A8.enc .u8 r342)), .agg (List.toArray (A8.enc .u8 r232))] _ Try.func17 rfl rfl rfl (c_laws_eqMonomial r342 r232 h _) (fun ret347 w349 hR348 => ?_)
                obtain ⟨r350, rfl, h, hB351⟩ := hR348
                refine ⟨_, rfl, ?_⟩
                replace hC := hC.grow hB351
                refine s_not rfl ?_
                refine s_mv (v := .bool (!r350)) rfl ?_
                refine bsplit (!r350) (fun hb352 => ?_) (fun hb352 => ?_)
                · replace h := ift h (ne_t (not_t hb352))
                  refine guardOff (b := true) 4 44 rfl (tr rfl (congrArg _ hb352)) (by decide) ?_
                  refine guardOff (b := true) 4 44 rfl (tr rfl (congrArg _ hb352)) (by decide) ?_
                  refine guardOff (b := true) 4 44 rfl (tr rfl (congrArg _ hb352)) (by decide) ?_
                  refine s_pick (v := .bool true) (b := true) (tr rfl (congrArg _ hb352)) rfl ?_
                  refine s_mv (v := .bool true) rfl ?_
                  refine guardOff (b := true) 9 49 rfl (tr rfl (congrArg _ rfl)) (by decide) ?_
                  refine guardOff (b := true) 9 49 rfl (tr rfl (congrArg _ rfl)) (by decide) ?_
                  refine guardOff (b := true) 9 49 rfl (tr rfl (congrArg _ rfl)) (by decide) ?_
                  refine s_pick (v := .bool true) (b := true) rfl rfl ?_
                  refine done ?_
                  refine then_norm ?_
                  refine cw_true rfl rfl ?_
                  refine wp_seq ?_
                  refine cw_region ?_
                  refine s_as (v := .bool false) rfl ?_
                  refine done ?_
                  refine then_norm ?_
                  refine wp_ret (then_ret ?_)
                  refine ret1 (fn := Try.f3) rfl ?_ ⟨false, rfl, h, hC.below⟩ (.inl rfl)
                  exact res_tmp rfl
                · replace h := iff_ h (not_not_intro ((not_f hb352)))
                  refine guardOn 4 44 rfl rfl hb352 ?_
                  refine s_mv (v := .int .i64 r343) rfl ?_
                  refine guardOn 4 44 rfl rfl hb352 ?_
                  refine s_mv (v := .int .i64 r233) rfl ?_
                  refine guardOn 4 44 rfl rfl hb352 ?_
                  refine s_neq rfl rfl ?_
                  refine s_pick (v := .bool (decide (r343 ≠ r233))) (b := false) (tr rfl (congrArg _ hb352)) rfl ?_
                  refine s_mv (v := .bool (decide (r343 ≠ r233))) rfl ?_
                  refine bsplit (decide (r343 ≠ r233)) (fun hb353 => ?_) (fun hb353 => ?_)
                  · replace h := ift h (ct hb353)
                    refine guardOff (b := true) 9 49 rfl (tr rfl (congrArg _ hb353)) (by decide) ?_
                    refine guardOff (b := true) 9 49 rfl (tr rfl (congrArg _ hb353)) (by decide) ?_
                    refine guardOff (b := true) 9 49 rfl (tr rfl (congrArg _ hb353)) (by decide) ?_
                    refine s_pick (v := .bool true) (b := true) (tr rfl (congrArg _ hb353)) rfl ?_
                    refine done ?_
                    refine then_norm ?_
                    refine cw_true rfl rfl ?_
                    refine wp_seq ?_
                    refine cw_region ?_
                    refine s_as (v := .bool false) rfl ?_
                    refine done ?_
                    refine then_norm ?_
                    refine wp_ret (then_ret ?_)
                    refine ret1 (fn := Try.f3) rfl ?_ ⟨false, rfl, h, hC.below⟩ (.inl rfl)
                    exact res_tmp rfl
                  · replace h := iff_ h (cf hb353)
                    refine guardOn 9 49 rfl rfl hb353 ?_
                    refine s_mv (v := .int .i64 r344) rfl ?_
                    refine guardOn 9 49 rfl rfl hb353 ?_
                    refine s_mv (v := .int .i64 r234) rfl ?_
                    refine guardOn 9 49 rfl rfl hb353 ?_
                    refine s_neq rfl rfl ?_
                    refine s_pick (v := .bool (decide (r344 ≠ r234))) (b := false) (tr rfl (congrArg _ hb353)) rfl ?_
                    refine done ?_
                    refine then_norm ?_
                    refine cw_cond rfl (fun hb354 => ?_) (fun hb354 => ?_)
                    · replace h := ift h (ct hb354)
                      refine wp_seq ?_
                      refine cw_region ?_
                      refine s_as (v := .bool false) rfl ?_
                      refine done ?_
                      refine then_norm ?_
                      refine wp_ret (then_ret ?_)
                      refine ret1 (fn := Try.f3) rfl ?_ ⟨false, rfl, h, hC.below⟩ (.inl rfl)
                      exact res_tmp rfl
                    · replace h := iff_ h (cf hb354)
                      refine wp_skip ?_
                      refine then_norm ?_
                      refine wp_seq ?_
                      refine wp_seq ?_
                      refine cw_region ?_
                      refine s_mv (v := u241) rfl ?_
                      refine s_mv (v := u0_0) rfl ?_
                      refine s_call [u0_0] _ Try.func14 rfl rfl rfl (c_laws_toInt64S a0 h _ (hC.getP 2 rfl)) (fun ret355 w357 hR356 => ?_)
                      obtain ⟨r358, u359, f360, rfl, h, hr361, hf362, hB363⟩ := hR356
                      refine ⟨_, rfl, ?_⟩
                      have hs364 := fresh_on hC.size hf362
                      replace hC := hC.pushR hB363 (Ty.item ((EI .i64).ty.sl) r358 [u359] f360) hr361 (fun b hb => .inl (hf362 b hb))
                      refine s_call [u241, u359] _ Try.func18 rfl rfl rfl (c_laws_eqInt64S r240 r358 h _ (hC.getP 1 rfl) (hC.getP 0 rfl)) (fun ret366 w368 hR367 => ?_)
                      obtain ⟨r369, rfl, h, hB370⟩ := hR367
                      refine ⟨_, rfl, ?_⟩
                      replace hC := hC.grow hB370
                      refine s_not rfl ?_
                      refine done ?_
                      refine then_norm ?_
                      refine cw_cond rfl (fun hb371 => ?_) (fun hb371 => ?_)
                      · replace h := ift h (ne_t (not_t hb371))
                        refine wp_seq ?_
                        refine cw_region ?_
                        refine s_as (v := .bool false) rfl ?_
                        refine done ?_
                        refine then_norm ?_
                        refine wp_ret (then_ret ?_)
                        refine ret1 (fn := Try.f3) rfl ?_ ⟨false, rfl, h, hC.below⟩ (.inl rfl)
                        exact res_tmp rfl
                      · replace h := iff_ h (not_not_intro ((not_f hb371)))
                        refine wp_skip ?_
                        refine then_norm ?_
                        refine wp_seq ?_
                        refine cw_region ?_
                        refine s_as (v := .bool true) rfl ?_
                        refine done ?_
                        refine then_norm ?_
                        refine wp_ret ?_
                        refine ret1 (fn := Try.f3) rfl ?_ ⟨true, rfl, h, hC.below⟩ (.inl rfl)
                        exact res_tmp rfl
            · skip
              refine s_alloc hC (A8.enc .u8 A8.zero) z24 rfl fun b372 w374 hB_ hC => ?_
              refine done ?_
              refine ak_intro (by assumption) (listed' := (List.toArray [true, true, false, true, false, false, false, false, false, false, true, false, false, false])) rfl ?_
              refine ae_one 2 rfl (by kernel_rfl) ?_
              refine s_call [.agg (List.toArray (A8.enc .u8 a1))] _ Try.func15 rfl rfl rfl (c_laws_toMonomial a1 h _) (fun ret375 w377 hR376 => ?_)
              obtain ⟨r378, rfl, h, hB379⟩ := hR376
              refine ⟨_, rfl, ?_⟩
              replace hC := hC.grow hB379
              refine done ?_
              refine ak_intro (by assumption) (listed' := (List.toArray [true, true, true, true, false, false, false, false, false, false, true, false, false, false])) rfl ?_
              refine ae_one 4 rfl (by kernel_rfl) ?_
              refine s_call [.agg (List.toArray (A8.enc .u8 a2))] _ Try.func15 rfl rfl rfl (c_laws_toMonomial a2 h _) (fun ret380 w382 hR381 => ?_)
              obtain ⟨r383, rfl, h, hB384⟩ := hR381
              refine ⟨_, rfl, ?_⟩
              replace hC := hC.grow hB384
              refine done ?_
              refine ak_intro (by assumption) (listed' := (List.toArray [true, true, true, true, true, false, false, false, false, false, true, false, false, false])) rfl ?_
              refine ae_one 5 rfl (by kernel_rfl) ?_
              refine s_call [u241, .agg (List.toArray (A8.enc .u8 r378)), .agg (List.toArray (A8.enc .u8 r383))] _ Try.func16 rfl rfl rfl (c_impl_MultiplyMonomials r240 r378 r383 h _ (hC.getP 0 rfl)) (fun ret385 w387 hR386 => ?_)
              obtain ⟨r388, r389, r390, rfl, h, hB391⟩ := hR386
              refine ⟨_, rfl, ?_⟩
              replace hC := hC.grow hB391
              refine done ?_
              refine ak_intro (by assumption) (listed' := (List.toArray [true, true, true, true, true, true, false, false, false, false, true, false, false, false])) rfl ?_
              refine ae_lookF 6 (.tuple #[.agg (List.toArray (A8.enc .u8 r388)), .int .i64 r389, .int .i64 r390]) rfl rfl (by kernel_rfl) (by kernel_rfl) (by kernel_rfl) (fun w_ => .inl ⟨rfl, by exact r_mv (v := .tuple #[.agg (List.toArray (A8.enc .u8 r388)), .int .i64 r389, .int .i64 r390]) rfl⟩) (listed' := (List.toArray [true, true, true, true, true, true, true, false, false, false, true, false, false, false])) rfl ?_
              refine ae_lookF 7 (.agg (List.toArray (A8.enc .u8 r388))) rfl rfl (by kernel_rfl) (by kernel_rfl) (by kernel_rfl) (fun w_ => .inl ⟨rfl, by exact r_ext (v := .agg (List.toArray (A8.enc .u8 r388))) rfl rfl⟩) (listed' := (List.toArray [true, true, true, true, true, true, true, true, false, false, true, false, false, false])) rfl ?_
              refine ae_lookF 8 (.int .i64 r389) rfl rfl (by kernel_rfl) (by kernel_rfl) (by kernel_rfl) (fun w_ => .inl ⟨rfl, by exact r_ext (v := .int .i64 r389) rfl rfl⟩) (listed' := (List.toArray [true, true, true, true, true, true, true, true, true, false, true, false, false, false])) rfl ?_
              refine ae_lookF 9 (.int .i64 r390) rfl rfl (by kernel_rfl) (by kernel_rfl) (by kernel_rfl) (fun w_ => .inl ⟨rfl, by exact r_ext (v := .int .i64 r390) rfl rfl⟩) (listed' := (List.toArray [true, true, true, true, true, true, true, true, true, true, true, false, false, false])) rfl ?_
              refine ae_one 11 rfl (by kernel_rfl) ?_
              refine s_store (v := .agg (List.toArray (A8.enc .u8 r388))) hC 0 (A8.enc .u8 r388) (A8.enc .u8 r388) rfl ag24.size rfl rfl rfl rfl rfl (Nat.le_of_ble_eq_true rfl) rfl fun w392 hC => ?_
              refine done ?_
              refine ak_introN (by decide) (listed' := (List.toArray [true, true, true, true, true, true, true, true, true, true, true, true, false, false])) rfl ?_
              refine ae_lookF 12 (.int .i64 r389) rfl rfl (by kernel_rfl) (by kernel_rfl) (by kernel_rfl) (fun w_ => .inl ⟨rfl, by exact r_as (v := .int .i64 r389) rfl⟩) (listed' := (List.toArray [true, true, true, true, true, true, true, true, true, true, true, true, true, false])) rfl ?_
              refine ae_tail 13 (by decide) (by decide) (by kernel_rfl) rfl rfl ?_
              refine s_as (v := .int .i64 r390) rfl ?_
              refine done ?_
              refine qn_norm ?_
              refine then_norm ?_
              refine wp_seq ?_
              refine wp_seq ?_
              refine cw_region ?_
              refine s_loadA hC 0 (A8.enc .u8 r388) rfl ag24 rfl rfl rfl ?_
              refine s_loadA hC 1 (A8.enc .u8 r232) rfl ag24 rfl rfl rfl ?_
              refine s_call [.agg (List.toArray (A8.enc .u8 r388)), .agg (List.toArray (A8.enc .u8 r232))] _ Try.func17 rfl rfl rfl (c_laws_eqMonomial r388 r232 h _) (fun ret393 w395 hR394 => ?_)
              obtain ⟨r396, rfl, h, hB397⟩ := hR394
              refine ⟨_, rfl, ?_⟩
              replace hC := hC.grow hB397
              refine s_not rfl ?_
              refine s_mv (v := .bool (!r396)) rfl ?_
              refine bsplit (!r396) (fun hb398 => ?_) (fun hb398 => ?_)
              · replace h := ift h (ne_t (not_t hb398))
                refine guardOff (b := true) 4 44 rfl (tr rfl (congrArg _ hb398)) (by decide) ?_
                refine guardOff (b := true) 4 44 rfl (tr rfl (congrArg _ hb398)) (by decide) ?_
                refine guardOff (b := true) 4 44 rfl (tr rfl (congrArg _ hb398)) (by decide) ?_
                refine s_pick (v := .bool true) (b := true) (tr rfl (congrArg _ hb398)) rfl ?_
                refine s_mv (v := .bool true) rfl ?_
                refine guardOff (b := true) 9 49 rfl (tr rfl (congrArg _ rfl)) (by decide) ?_
                refine guardOff (b := true) 9 49 rfl (tr rfl (congrArg _ rfl)) (by decide) ?_
                refine guardOff (b := true) 9 49 rfl (tr rfl (congrArg _ rfl)) (by decide) ?_
                refine s_pick (v := .bool true) (b := true) rfl rfl ?_
                refine done ?_
                refine then_norm ?_
                refine cw_true rfl rfl ?_
                refine wp_seq ?_
                refine cw_region ?_
                refine s_as (v := .bool false) rfl ?_
                refine done ?_
                refine then_norm ?_
                refine wp_ret (then_ret ?_)
                refine ret1 (fn := Try.f3) rfl ?_ ⟨false, rfl, h, hC.below⟩ (.inl rfl)
                exact res_tmp rfl
              · replace h := iff_ h (not_not_intro ((not_f hb398)))
                refine guardOn 4 44 rfl rfl hb398 ?_
                refine s_mv (v := .int .i64 r389) rfl ?_
                refine guardOn 4 44 rfl rfl hb398 ?_
                refine s_mv (v := .int .i64 r233) rfl ?_
                refine guardOn 4 44 rfl rfl hb398 ?_
                refine s_neq rfl rfl ?_
                refine s_pick (v := .bool (decide (r389 ≠ r233))) (b := false) (tr rfl (congrArg _ hb398)) rfl ?_
                refine s_mv (v := .bool (decide (r389 ≠ r233))) rfl ?_
                refine bsplit (decide (r389 ≠ r233)) (fun hb399 => ?_) (fun hb399 => ?_)
                · replace h := ift h (ct hb399)
                  refine guardOff (b := true) 9 49 rfl (tr rfl (congrArg _ hb399)) (by decide) ?_
                  refine guardOff (b := true) 9 49 rfl (tr rfl (congrArg _ hb399)) (by decide) ?_
                  refine guardOff (b := true) 9 49 rfl (tr rfl (congrArg _ hb399)) (by decide) ?_
                  refine s_pick (v := .bool true) (b := true) (tr rfl (congrArg _ hb399)) rfl ?_
                  refine done ?_
                  refine then_norm ?_
                  refine cw_true rfl rfl ?_
                  refine wp_seq ?_
                  refine cw_region ?_
                  refine s_as (v := .bool false) rfl ?_
                  refine done ?_
                  refine then_norm ?_
                  refine wp_ret (then_ret ?_)
                  refine ret1 (fn := Try.f3) rfl ?_ ⟨false, rfl, h, hC.below⟩ (.inl rfl)
                  exact res_tmp rfl
                · replace h := iff_ h (cf hb399)
                  refine guardOn 9 49 rfl rfl hb399 ?_
                  refine s_mv (v := .int .i64 r390) rfl ?_
                  refine guardOn 9 49 rfl rfl hb399 ?_
                  refine s_mv (v := .int .i64 r234) rfl ?_
                  refine guardOn 9 49 rfl rfl hb399 ?_
                  refine s_neq rfl rfl ?_
                  refine s_pick (v := .bool (decide (r390 ≠ r234))) (b := false) (tr rfl (congrArg _ hb399)) rfl ?_
                  refine done ?_
                  refine then_norm ?_
                  refine cw_cond rfl (fun hb400 => ?_) (fun hb400 => ?_)
                  · replace h := ift h (ct hb400)
                    refine wp_seq ?_
                    refine cw_region ?_
                    refine s_as (v := .bool false) rfl ?_
                    refine done ?_
                    refine then_norm ?_
                    refine wp_ret (then_ret ?_)
                    refine ret1 (fn := Try.f3) rfl ?_ ⟨false, rfl, h, hC.below⟩ (.inl rfl)
                    exact res_tmp rfl
                  · replace h := iff_ h (cf hb400)
                    refine wp_skip ?_
                    refine then_norm ?_
                    refine wp_seq ?_
                    refine wp_seq ?_
                    refine cw_region ?_
                    refine s_mv (v := u241) rfl ?_
                    refine s_mv (v := u0_0) rfl ?_
                    refine s_call [u0_0] _ Try.func14 rfl rfl rfl (c_laws_toInt64S a0 h _ (hC.getP 2 rfl)) (fun ret401 w403 hR402 => ?_)
                    obtain ⟨r404, u405, f406, rfl, h, hr407, hf408, hB409⟩ := hR402
                    refine ⟨_, rfl, ?_⟩
                    have hs410 := fresh_on hC.size hf408
                    replace hC := hC.pushR hB409 (Ty.item ((EI .i64).ty.sl) r404 [u405] f406) hr407 (fun b hb => .inl (hf408 b hb))
                    refine s_call [u241, u405] _ Try.func18 rfl rfl rfl (c_laws_eqInt64S r240 r404 h _ (hC.getP 1 rfl) (hC.getP 0 rfl)) (fun ret412 w414 hR413 => ?_)
                    obtain ⟨r415, rfl, h, hB416⟩ := hR413
                    refine ⟨_, rfl, ?_⟩
                    replace hC := hC.grow hB416
                    refine s_not rfl ?_
                    refine done ?_
                    refine then_norm ?_
                    refine cw_cond rfl (fun hb417 => ?_) (fun hb417 => ?_)
                    · replace h := ift h (ne_t (not_t hb417))
                      refine wp_seq ?_
                      refine cw_region ?_
                      refine s_as (v := .bool false) rfl ?_
                      refine done ?_
                      refine then_norm ?_
                      refine wp_ret (then_ret ?_)
                      refine ret1 (fn := Try.f3) rfl ?_ ⟨false, rfl, h, hC.below⟩ (.inl rfl)
                      exact res_tmp rfl
                    · replace h := iff_ h (not_not_intro ((not_f hb417)))
                      refine wp_skip ?_
                      refine then_norm ?_
                      refine wp_seq ?_
                      refine cw_region ?_
                      refine s_as (v := .bool true) rfl ?_
                      refine done ?_
                      refine then_norm ?_
                      refine wp_ret ?_
                      refine ret1 (fn := Try.f3) rfl ?_ ⟨true, rfl, h, hC.below⟩ (.inl rfl)
                      exact res_tmp rfl
        · skip
          refine s_alloc hC (A8.enc .u8 A8.zero) z24 rfl fun b418 w420 hB_ hC => ?_
          refine done ?_
          refine ak_intro (by assumption) (listed' := (List.toArray [true, true, true, true, true, false, false, false, false, false, false, true, false, false, false])) rfl ?_
          refine ae_one 5 rfl (by kernel_rfl) ?_
          refine s_call [.agg (List.toArray (A8.enc .u8 a2))] _ Try.func15 rfl rfl rfl (c_laws_toMonomial a2 h _) (fun ret421 w423 hR422 => ?_)
          obtain ⟨r424, rfl, h, hB425⟩ := hR422
          refine ⟨_, rfl, ?_⟩
          replace hC := hC.grow hB425
          refine done ?_
          refine ak_intro (by assumption) (listed' := (List.toArray [true, true, true, true, true, true, false, false, false, false, false, true, false, false, false])) rfl ?_
          refine ae_one 6 rfl (by kernel_rfl) ?_
          refine s_call [u17, .agg (List.toArray (A8.enc .u8 r27)), .agg (List.toArray (A8.enc .u8 r424))] _ Try.func13 rfl rfl rfl (c_spec_MultiplyMonomials r16 r27 r424 h _ (hC.getP 0 rfl)) (fun ret426 w428 hR427 => ?_)
          obtain ⟨r429, r430, r431, rfl, h, hB432⟩ := hR427
          refine ⟨_, rfl, ?_⟩
          replace hC := hC.grow hB432
          refine done ?_
          refine ak_intro (by assumption) (listed' := (List.toArray [true, true, true, true, true, true, true, false, false, false, false, true, false, false, false])) rfl ?_
          refine ae_lookF 7 (.tuple #[.agg (List.toArray (A8.enc .u8 r429)), .int .i64 r430, .int .i64 r431]) rfl rfl (by kernel_rfl) (by kernel_rfl) (by kernel_rfl) (fun w_ => .inl ⟨rfl, by exact r_mv (v := .tuple #[.agg (List.toArray (A8.enc .u8 r429)), .int .i64 r430, .int .i64 r431]) rfl⟩) (listed' := (List.toArray [true, true, true, true, true, true, true, true, false, false, false, true, false, false, false])) rfl ?_
          refine ae_lookF 8 (.agg (List.toArray (A8.enc .u8 r429))) rfl rfl (by kernel_rfl) (by kernel_rfl) (by kernel_rfl) (fun w_ => .inl ⟨rfl, by exact r_ext (v := .agg (List.toArray (A8.enc .u8 r429))) rfl rfl⟩) (listed' := (List.toArray [true, true, true, true, true, true, true, true, true, false, false, true, false, false, false])) rfl ?_
          refine ae_lookF 9 (.int .i64 r430) rfl rfl (by kernel_rfl) (by kernel_rfl) (by kernel_rfl) (fun w_ => .inl ⟨rfl, by exact r_ext (v := .int .i64 r430) rfl rfl⟩) (listed' := (List.toArray [true, true, true, true, true, true, true, true, true, true, false, true, false, false, false])) rfl ?_
          refine ae_lookF 10 (.int .i64 r431) rfl rfl (by kernel_rfl) (by kernel_rfl) (by kernel_rfl) (fun w_ => .inl ⟨rfl, by exact r_ext (v := .int .i64 r431) rfl rfl⟩) (listed' := (List.toArray [true, true, true, true, true, true, true, true, true, true, true, true, false, false, false])) rfl ?_
          refine ae_one 12 rfl (by kernel_rfl) ?_
          refine s_store (v := .agg (List.toArray (A8.enc .u8 r429))) hC 0 (A8.enc .u8 r429) (A8.enc .u8 r429) rfl ag24.size rfl rfl rfl rfl rfl (Nat.le_of_ble_eq_true rfl) rfl fun w433 hC => ?_
          refine done ?_
          refine ak_introN (by decide) (listed' := (List.toArray [true, true, true, true, true, true, true, true, true, true, true, true, true, false, false])) rfl ?_
          refine ae_lookF 13 (.int .i64 r430) rfl rfl (by kernel_rfl) (by kernel_rfl) (by kernel_rfl) (fun w_ => .inl ⟨rfl, by exact r_as (v := .int .i64 r430) rfl⟩) (listed' := (List.toArray [true, true, true, true, true, true, true, true, true, true, true, true, true, true, false])) rfl ?_
          refine ae_tail 14 (by decide) (by decide) (by kernel_rfl) rfl rfl ?_
          refine s_as (v := .int .i64 r431) rfl ?_
          refine done ?_
          refine qn_norm ?_
          refine then_norm ?_
          refine wp_seq ?_
          refine cw_region ?_
          refine s_mv (v := u0_0) rfl ?_
          refine s_call [u0_0] _ Try.func14 rfl rfl rfl (c_laws_toInt64S a0 h _ (hC.getP 1 rfl)) (fun ret434 w436 hR435 => ?_)
          obtain ⟨r437, u438, f439, rfl, h, hr440, hf441, hB442⟩ := hR435
          refine ⟨_, rfl, ?_⟩
          have hs443 := fresh_on hC.size hf441
          replace hC := hC.pushR hB442 (Ty.item ((EI .i64).ty.sl) r437 [u438] f439) hr440 (fun b hb => .inl (hf441 b hb))
          refine s_as (v := u438) rfl ?_
          refine done ?_
          refine then_norm ?_
          refine wp_seq ?_
          refine cw_draw 11 mixed (fun w445 hB_ => ?_)
          replace hC := hC.grow hB_
          refine ae_lookF 0 (u438) rfl rfl (by kernel_rfl) (by kernel_rfl) (by kernel_rfl) (fun w_ => .inl ⟨rfl, by exact r_mv (v := u438) rfl⟩) (listed' := (List.toArray [true, false, false, false, false, false, false, false, false, false, false, false, false, false])) rfl ?_
          refine ae_look 1 (.agg (List.toArray (A8.enc .u8 a1))) rfl rfl (by kernel_rfl) (by kernel_rfl) (by kernel_rfl) (fun w_ hB_ => .inl ⟨rfl, by exact r_loadA (hC.grow hB_) 2 (A8.enc .u8 a1) rfl ag23 rfl rfl rfl⟩) (listed' := (List.toArray [true, true, false, false, false, false, false, false, false, false, false, false, false, false])) rfl ?_
          refine ae_look 3 (.agg (List.toArray (A8.enc .u8 a2))) rfl rfl (by kernel_rfl) (by kernel_rfl) (by kernel_rfl) (fun w_ hB_ => .inl ⟨rfl, by exact r_loadA (hC.grow hB_) 1 (A8.enc .u8 a2) rfl ag23 rfl rfl rfl⟩) (listed' := (List.toArray [true, true, false, true, false, false, false, false, false, false, false, false, false, false])) rfl ?_
          refine ae_two 2 10 rfl rfl (by kernel_rfl) ?_ ?_
          · skip
            refine s_call [.agg (List.toArray (A8.enc .u8 a1))] _ Try.func15 rfl rfl rfl (c_laws_toMonomial a1 h _) (fun ret446 w448 hR447 => ?_)
            obtain ⟨r449, rfl, h, hB450⟩ := hR447
            refine ⟨_, rfl, ?_⟩
            replace hC := hC.grow hB450
            refine done ?_
            refine ak_intro (by assumption) (listed' := (List.toArray [true, true, true, true, false, false, false, false, false, false, false, false, false, false])) rfl ?_
            refine ae_two 4 10 rfl rfl (by kernel_rfl) ?_ ?_
            · skip
              refine s_call [.agg (List.toArray (A8.enc .u8 a2))] _ Try.func15 rfl rfl rfl (c_laws_toMonomial a2 h _) (fun ret451 w453 hR452 => ?_)
              obtain ⟨r454, rfl, h, hB455⟩ := hR452
              refine ⟨_, rfl, ?_⟩
              replace hC := hC.grow hB455
              refine done ?_
              refine ak_intro (by assumption) (listed' := (List.toArray [true, true, true, true, true, false, false, false, false, false, false, false, false, false])) rfl ?_
              refine ae_two 5 10 rfl rfl (by kernel_rfl) ?_ ?_
              · skip
                refine s_call [u438, .agg (List.toArray (A8.enc .u8 r449)), .agg (List.toArray (A8.enc .u8 r454))] _ Try.func16 rfl rfl rfl (c_impl_MultiplyMonomials r437 r449 r454 h _ (hC.getP 0 rfl)) (fun ret456 w458 hR457 => ?_)
                obtain ⟨r459, r460, r461, rfl, h, hB462⟩ := hR457
                refine ⟨_, rfl, ?_⟩
                replace hC := hC.grow hB462
                refine done ?_
                refine ak_intro (by assumption) (listed' := (List.toArray [true, true, true, true, true, true, false, false, false, false, false, false, false, false])) rfl ?_
                refine ae_lookF 6 (.tuple #[.agg (List.toArray (A8.enc .u8 r459)), .int .i64 r460, .int .i64 r461]) rfl rfl (by kernel_rfl) (by kernel_rfl) (by kernel_rfl) (fun w_ => .inl ⟨rfl, by exact r_mv (v := .tuple #[.agg (List.toArray (A8.enc .u8 r459)), .int .i64 r460, .int .i64 r461]) rfl⟩) (listed' := (List.toArray [true, true, true, true, true, true, true, false, false, false, false, false, false, false])) rfl ?_
                refine ae_lookF 7 (.agg (List.toArray (A8.enc .u8 r459))) rfl rfl (by kernel_rfl) (by kernel_rfl) (by kernel_rfl) (fun w_ => .inl ⟨rfl, by exact r_ext (v := .agg (List.toArray (A8.enc .u8 r459))) rfl rfl⟩) (listed' := (List.toArray [true, true, true, true, true, true, true, true, false, false, false, false, false, false])) rfl ?_
                refine ae_lookF 8 (.int .i64 r460) rfl rfl (by kernel_rfl) (by kernel_rfl) (by kernel_rfl) (fun w_ => .inl ⟨rfl, by exact r_ext (v := .int .i64 r460) rfl rfl⟩) (listed' := (List.toArray [true, true, true, true, true, true, true, true, true, false, false, false, false, false])) rfl ?_
                refine ae_lookF 9 (.int .i64 r461) rfl rfl (by kernel_rfl) (by kernel_rfl) (by kernel_rfl) (fun w_ => .inl ⟨rfl, by exact r_ext (v := .int .i64 r461) rfl rfl⟩) (listed' := (List.toArray [true, true, true, true, true, true, true, true, true, true, false, false, false, false])) rfl ?_
                refine ae_one 10 rfl (by kernel_rfl) ?_
                refine s_alloc hC (A8.enc .u8 A8.zero) z24 rfl fun b463 w465 hB_ hC => ?_
                refine done ?_
                refine ak_intro (by assumption) (listed' := (List.toArray [true, true, true, true, true, true, true, true, true, true, true, false, false, false])) rfl ?_
                refine ae_one 11 rfl (by kernel_rfl) ?_
                refine s_store (v := .agg (List.toArray (A8.enc .u8 r459))) hC 0 (A8.enc .u8 r459) (A8.enc .u8 r459) rfl ag24.size rfl rfl rfl rfl rfl (Nat.le_of_ble_eq_true rfl) rfl fun w466 hC => ?_
                refine done ?_
                refine ak_introN (by decide) (listed' := (List.toArray [true, true, true, true, true, true, true, true, true, true, true, true, false, false])) rfl ?_
                refine ae_lookF 12 (.int .i64 r460) rfl rfl (by kernel_rfl) (by kernel_rfl) (by kernel_rfl) (fun w_ => .inl ⟨rfl, by exact r_as (v := .int .i64 r460) rfl⟩) (listed' := (List.toArray [true, true, true, true, true, true, true, true, true, true, true, true, true, false])) rfl ?_
                refine ae_tail 13 (by decide) (by decide) (by kernel_rfl) rfl rfl ?_
                refine s_as (v := .int .i64 r461) rfl ?_
                refine done ?_
                refine qn_norm ?_
                refine then_norm ?_
                refine wp_seq ?_
                refine wp_seq ?_
                refine cw_region ?_
                refine s_loadA hC 0 (A8.enc .u8 r459) rfl ag24 rfl rfl rfl ?_
                refine s_loadA hC 1 (A8.enc .u8 r429) rfl ag24 rfl rfl rfl ?_
                refine s_call [.agg (List.toArray (A8.enc .u8 r459)), .agg (List.toArray (A8.enc .u8 r429))] _ Try.func17 rfl rfl rfl (c_laws_eqMonomial r459 r429 h _) (fun ret467 w469 hR468 => ?_)
                obtain ⟨r470, rfl, h, hB471⟩ := hR468
                refine ⟨_, rfl, ?_⟩
                replace hC := hC.grow hB471
                refine s_not rfl ?_
                refine s_mv (v := .bool (!r470)) rfl ?_
                refine bsplit (!r470) (fun hb472 => ?_) (fun hb472 => ?_)
                · replace h := ift h (ne_t (not_t hb472))
                  refine guardOff (b := true) 4 44 rfl (tr rfl (congrArg _ hb472)) (by decide) ?_
                  refine guardOff (b := true) 4 44 rfl (tr rfl (congrArg _ hb472)) (by decide) ?_
                  refine guardOff (b := true) 4 44 rfl (tr rfl (congrArg _ hb472)) (by decide) ?_
                  refine s_pick (v := .bool true) (b := true) (tr rfl (congrArg _ hb472)) rfl ?_
                  refine s_mv (v := .bool true) rfl ?_
                  refine guardOff (b := true) 9 49 rfl (tr rfl (congrArg _ rfl)) (by decide) ?_
                  refine guardOff (b := true) 9 49 rfl (tr rfl (congrArg _ rfl)) (by decide) ?_
                  refine guardOff (b := true) 9 49 rfl (tr rfl (congrArg _ rfl)) (by decide) ?_
                  refine s_pick (v := .bool true) (b := true) rfl rfl ?_
                  refine done ?_
                  refine then_norm ?_
                  refine cw_true rfl rfl ?_
                  refine wp_seq ?_
                  refine cw_region ?_
                  refine s_as (v := .bool false) rfl ?_
                  refine done ?_
                  refine then_norm ?_
                  refine wp_ret (then_ret ?_)
                  refine ret1 (fn := Try.f3) rfl ?_ ⟨false, rfl, h, hC.below⟩ (.inl rfl)
                  exact res_tmp rfl
                · replace h := iff_ h (not_not_intro ((not_f hb472)))
                  refine guardOn 4 44 rfl rfl hb472 ?_
                  refine s_mv (v := .int .i64 r460) rfl ?_
                  refine guardOn 4 44 rfl rfl hb472 ?_
                  refine s_mv (v := .int .i64 r430) rfl ?_
                  refine guardOn 4 44 rfl rfl hb472 ?_
                  refine s_neq rfl rfl ?_
                  refine s_pick (v := .bool (decide (r460 ≠ r430))) (b := false) (tr rfl (congrArg _ hb472)) rfl ?_
                  refine s_mv (v := .bool (decide (r460 ≠ r430))) rfl ?_
                  refine bsplit (decide (r460 ≠ r430)) (fun hb473 => ?_) (fun hb473 => ?_)
                  · replace h := ift h (ct hb473)
                    refine guardOff (b := true) 9 49 rfl (tr rfl (congrArg _ hb473)) (by decide) ?_
                    refine guardOff (b := true) 9 49 rfl (tr rfl (congrArg _ hb473)) (by decide) ?_
                    refine guardOff (b := true) 9 49 rfl (tr rfl (congrArg _ hb473)) (by decide) ?_
                    refine s_pick (v := .bool true) (b := true) (tr rfl (congrArg _ hb473)) rfl ?_
                    refine done ?_
                    refine then_norm ?_
                    refine cw_true rfl rfl ?_
                    refine wp_seq ?_
                    refine cw_region ?_
                    refine s_as (v := .bool false) rfl ?_
                    refine done ?_
                    refine then_norm ?_
                    refine wp_ret (then_ret ?_)
                    refine ret1 (fn := Try.f3) rfl ?_ ⟨false, rfl, h, hC.below⟩ (.inl rfl)
                    exact res_tmp rfl
                  · replace h := iff_ h (cf hb473)
                    refine guardOn 9 49 rfl rfl hb473 ?_
                    refine s_mv (v := .int .i64 r461) rfl ?_
                    refine guardOn 9 49 rfl rfl hb473 ?_
                    refine s_mv (v := .int .i64 r431) rfl ?_
                    refine guardOn 9 49 rfl rfl hb473 ?_
                    refine s_neq rfl rfl ?_
                    refine s_pick (v := .bool (decide (r461 ≠ r431))) (b := false) (tr rfl (congrArg _ hb473)) rfl ?_
                    refine done ?_
                    refine then_norm ?_
                    refine cw_cond rfl (fun hb474 => ?_) (fun hb474 => ?_)
                    · replace h := ift h (ct hb474)
                      refine wp_seq ?_
                      refine cw_region ?_
                      refine s_as (v := .bool false) rfl ?_
                      refine done ?_
                      refine then_norm ?_
                      refine wp_ret (then_ret ?_)
                      refine ret1 (fn := Try.f3) rfl ?_ ⟨false, rfl, h, hC.below⟩ (.inl rfl)
                      exact res_tmp rfl
                    · replace h := iff_ h (cf hb474)
                      refine wp_skip ?_
                      refine then_norm ?_
                      refine wp_seq ?_
                      refine wp_seq ?_
                      refine cw_region ?_
                      refine s_mv (v := u438) rfl ?_
                      refine s_mv (v := u0_0) rfl ?_
                      refine s_call [u0_0] _ Try.func14 rfl rfl rfl (c_laws_toInt64S a0 h _ (hC.getP 2 rfl)) (fun ret475 w477 hR476 => ?_)
                      obtain ⟨r478, u479, f480, rfl, h, hr481, hf482, hB483⟩ := hR476
                      refine ⟨_, rfl, ?_⟩
                      have hs484 := fresh_on hC.size hf482
                      replace hC := hC.pushR hB483 (Ty.item ((EI .i64).ty.sl) r478 [u479] f480) hr481 (fun b hb => .inl (hf482 b hb))
                      refine s_call [u438, u479] _ Try.func18 rfl rfl rfl (c_laws_eqInt64S r437 r478 h _ (hC.getP 1 rfl) (hC.getP 0 rfl)) (fun ret486 w488 hR487 => ?_)
                      obtain ⟨r489, rfl, h, hB490⟩ := hR487
                      refine ⟨_, rfl, ?_⟩
                      replace hC := hC.grow hB490
                      refine s_not rfl ?_
                      refine done ?_
                      refine then_norm ?_
                      refine cw_cond rfl (fun hb491 => ?_) (fun hb491 => ?_)
                      · replace h := ift h (ne_t (not_t hb491))
                        refine wp_seq ?_
                        refine cw_region ?_
                        refine s_as (v := .bool false) rfl ?_
                        refine done ?_
                        refine then_norm ?_
                        refine wp_ret (then_ret ?_)
                        refine ret1 (fn := Try.f3) rfl ?_ ⟨false, rfl, h, hC.below⟩ (.inl rfl)
                        exact res_tmp rfl
                      · replace h := iff_ h (not_not_intro ((not_f hb491)))
                        refine wp_skip ?_
                        refine then_norm ?_
                        refine wp_seq ?_
                        refine cw_region ?_
                        refine s_as (v := .bool true) rfl ?_
                        refine done ?_
                        refine then_norm ?_
                        refine wp_ret ?_
                        refine ret1 (fn := Try.f3) rfl ?_ ⟨true, rfl, h, hC.below⟩ (.inl rfl)
                        exact res_tmp rfl
              · skip
                refine s_alloc hC (A8.enc .u8 A8.zero) z24 rfl fun b492 w494 hB_ hC => ?_
                refine done ?_
                refine ak_intro (by assumption) (listed' := (List.toArray [true, true, true, true, true, false, false, false, false, false, true, false, false, false])) rfl ?_
                refine ae_one 5 rfl (by kernel_rfl) ?_
                refine s_call [u438, .agg (List.toArray (A8.enc .u8 r449)), .agg (List.toArray (A8.enc .u8 r454))] _ Try.func16 rfl rfl rfl (c_impl_MultiplyMonomials r437 r449 r454 h _ (hC.getP 0 rfl)) (fun ret495 w497 hR496 => ?_)
                obtain ⟨r498, r499, r500, rfl, h, hB501⟩ := hR496
                refine ⟨_, rfl, ?_⟩
                replace hC := hC.grow hB501
                refine done ?_
                refine ak_intro (by assumption) (listed' := (List.toArray [true, true, true, true, true, true, false, false, false, false, true, false, false, false])) rfl ?_
                refine ae_lookF 6 (.tuple #[.agg (List.toArray (A8.enc .u8 r498)), .int .i64 r499, .int .i64 r500]) rfl rfl (by kernel_rfl) (by kernel_rfl) (by kernel_rfl) (fun w_ => .inl ⟨rfl, by exact r_mv (v := .tuple #[.agg (List.toArray (A8.enc .u8 r498)), .int .i64 r499, .int .i64 r500]) rfl⟩) (listed' := (List.toArray [true, true, true, true, true, true, true, false, false, false, true, false, false, false])) rfl ?_
                refine ae_lookF 7 (.agg (List.toArray (A8.enc .u8 r498))) rfl rfl (by kernel_rfl) (by kernel_rfl) (by kernel_rfl) (fun w_ => .inl ⟨rfl, by exact r_ext (v := .agg (List.toArray (A8.enc .u8 r498))) rfl rfl⟩) (listed' := (List.toArray [true, true, true, true, true, true, true, true, false, false, true, false, false, false])) rfl ?_
                refine ae_lookF 8 (.int .i64 r499) rfl rfl (by kernel_rfl) (by kernel_rfl) (by kernel_rfl) (fun w_ => .inl ⟨rfl, by exact r_ext (v := .int .i64 r499) rfl rfl⟩) (listed' := (List.toArray [true, true, true, true, true, true, true, true, true, false, true, false, false, false])) rfl ?_
                refine ae_lookF 9 (.int .i64 r500) rfl rfl (by kernel_rfl) (by kernel_rfl) (by kernel_rfl) (fun w_ => .inl ⟨rfl, by exact r_ext (v := .int .i64 r500) rfl rfl⟩) (listed' := (List.toArray [true, true, true, true, true, true, true, true, true, true, true, false, false, false])) rfl ?_
                refine ae_one 11 rfl (by kernel_rfl) ?_
                refine s_store (v := .agg (List.toArray (A8.enc .u8 r498))) hC 0 (A8.enc .u8 r498) (A8.enc .u8 r498) rfl ag24.size rfl rfl rfl rfl rfl (Nat.le_of_ble_eq_true rfl) rfl fun w502 hC => ?_
                refine done ?_
                refine ak_introN (by decide) (listed' := (List.toArray [true, true, true, true, true, true, true, true, true, true, true, true, false, false])) rfl ?_
                refine ae_lookF 12 (.int .i64 r499) rfl rfl (by kernel_rfl) (by kernel_rfl) (by kernel_rfl) (fun w_ => .inl ⟨rfl, by exact r_as (v := .int .i64 r499) rfl⟩) (listed' := (List.toArray [true, true, true, true, true, true, true, true, true, true, true, true, true, false])) rfl ?_
                refine ae_tail 13 (by decide) (by decide) (by kernel_rfl) rfl rfl ?_
                refine s_as (v := .int .i64 r500) rfl ?_
                refine done ?_
                refine qn_norm ?_
                refine then_norm ?_
                refine wp_seq ?_
                refine wp_seq ?_
                refine cw_region ?_
                refine s_loadA hC 0 (A8.enc .u8 r498) rfl ag24 rfl rfl rfl ?_
                refine s_loadA hC 1 (A8.enc .u8 r429) rfl ag24 rfl rfl rfl ?_
                refine s_call [.agg (List.toArray (A8.enc .u8 r498)), .agg (List.toArray (A8.enc .u8 r429))] _ Try.func17 rfl rfl rfl (c_laws_eqMonomial r498 r429 h _) (fun ret503 w505 hR504 => ?_)
                obtain ⟨r506, rfl, h, hB507⟩ := hR504
                refine ⟨_, rfl, ?_⟩
                replace hC := hC.grow hB507
                refine s_not rfl ?_
                refine s_mv (v := .bool (!r506)) rfl ?_
                refine bsplit (!r506) (fun hb508 => ?_) (fun hb508 => ?_)
                · replace h := ift h (ne_t (not_t hb508))
                  refine guardOff (b := true) 4 44 rfl (tr rfl (congrArg _ hb508)) (by decide) ?_
                  refine guardOff (b := true) 4 44 rfl (tr rfl (congrArg _ hb508)) (by decide) ?_
                  refine guardOff (b := true) 4 44 rfl (tr rfl (congrArg _ hb508)) (by decide) ?_
                  refine s_pick (v := .bool true) (b := true) (tr rfl (congrArg _ hb508)) rfl ?_
                  refine s_mv (v := .bool true) rfl ?_
                  refine guardOff (b := true) 9 49 rfl (tr rfl (congrArg _ rfl)) (by decide) ?_
                  refine guardOff (b := true) 9 49 rfl (tr rfl (congrArg _ rfl)) (by decide) ?_
                  refine guardOff (b := true) 9 49 rfl (tr rfl (congrArg _ rfl)) (by decide) ?_
                  refine s_pick (v := .bool true) (b := true) rfl rfl ?_
                  refine done ?_
                  refine then_norm ?_
                  refine cw_true rfl rfl ?_
                  refine wp_seq ?_
                  refine cw_region ?_
                  refine s_as (v := .bool false) rfl ?_
                  refine done ?_
                  refine then_norm ?_
                  refine wp_ret (then_ret ?_)
                  refine ret1 (fn := Try.f3) rfl ?_ ⟨false, rfl, h, hC.below⟩ (.inl rfl)
                  exact res_tmp rfl
                · replace h := iff_ h (not_not_intro ((not_f hb508)))
                  refine guardOn 4 44 rfl rfl hb508 ?_
                  refine s_mv (v := .int .i64 r499) rfl ?_
                  refine guardOn 4 44 rfl rfl hb508 ?_
                  refine s_mv (v := .int .i64 r430) rfl ?_
                  refine guardOn 4 44 rfl rfl hb508 ?_
                  refine s_neq rfl rfl ?_
                  refine s_pick (v := .bool (decide (r499 ≠ r430))) (b := false) (tr rfl (congrArg _ hb508)) rfl ?_
                  refine s_mv (v := .bool (decide (r499 ≠ r430))) rfl ?_
                  refine bsplit (decide (r499 ≠ r430)) (fun hb509 => ?_) (fun hb509 => ?_)
                  · replace h := ift h (ct hb509)
                    refine guardOff (b := true) 9 49 rfl (tr rfl (congrArg _ hb509)) (by decide) ?_
                    refine guardOff (b := true) 9 49 rfl (tr rfl (congrArg _ hb509)) (by decide) ?_
                    refine guardOff (b := true) 9 49 rfl (tr rfl (congrArg _ hb509)) (by decide) ?_
                    refine s_pick (v := .bool true) (b := true) (tr rfl (congrArg _ hb509)) rfl ?_
                    refine done ?_
                    refine then_norm ?_
                    refine cw_true rfl rfl ?_
                    refine wp_seq ?_
                    refine cw_region ?_
                    refine s_as (v := .bool false) rfl ?_
                    refine done ?_
                    refine then_norm ?_
                    refine wp_ret (then_ret ?_)
                    refine ret1 (fn := Try.f3) rfl ?_ ⟨false, rfl, h, hC.below⟩ (.inl rfl)
                    exact res_tmp rfl
                  · replace h := iff_ h (cf hb509)
                    refine guardOn 9 49 rfl rfl hb509 ?_
                    refine s_mv (v := .int .i64 r500) rfl ?_
                    refine guardOn 9 49 rfl rfl hb509 ?_
                    refine s_mv (v := .int .i64 r431) rfl ?_
                    refine guardOn 9 49 rfl rfl hb509 ?_
                    refine s_neq rfl rfl ?_
                    refine s_pick (v := .bool (decide (r500 ≠ r431))) (b := false) (tr rfl (congrArg _ hb509)) rfl ?_
                    refine done ?_
                    refine then_norm ?_
                    refine cw_cond rfl (fun hb510 => ?_) (fun hb510 => ?_)
                    · replace h := ift h (ct hb510)
                      refine wp_seq ?_
                      refine cw_region ?_
                      refine s_as (v := .bool false) rfl ?_
                      refine done ?_
                      refine then_norm ?_
                      refine wp_ret (then_ret ?_)
                      refine ret1 (fn := Try.f3) rfl ?_ ⟨false, rfl, h, hC.below⟩ (.inl rfl)
                      exact res_tmp rfl
                    · replace h := iff_ h (cf hb510)
                      refine wp_skip ?_
                      refine then_norm ?_
                      refine wp_seq ?_
                      refine wp_seq ?_
                      refine cw_region ?_
                      refine s_mv (v := u438) rfl ?_
                      refine s_mv (v := u0_0) rfl ?_
                      refine s_call [u0_0] _ Try.func14 rfl rfl rfl (c_laws_toInt64S a0 h _ (hC.getP 2 rfl)) (fun ret511 w513 hR512 => ?_)
                      obtain ⟨r514, u515, f516, rfl, h, hr517, hf518, hB519⟩ := hR512
                      refine ⟨_, rfl, ?_⟩
                      have hs520 := fresh_on hC.size hf518
                      replace hC := hC.pushR hB519 (Ty.item ((EI .i64).ty.sl) r514 [u515] f516) hr517 (fun b hb => .inl (hf518 b hb))
                      refine s_call [u438, u515] _ Try.func18 rfl rfl rfl (c_laws_eqInt64S r437 r514 h _ (hC.getP 1 rfl) (hC.getP 0 rfl)) (fun ret522 w524 hR523 => ?_)
                      obtain ⟨r525, rfl, h, hB526⟩ := hR523
                      refine ⟨_, rfl, ?_⟩
                      replace hC := hC.grow hB526
                      refine s_not rfl ?_
                      refine done ?_
                      refine then_norm ?_
                      refine cw_cond rfl (fun hb527 => ?_) (fun hb527 => ?_)
                      · replace h := ift h (ne_t (not_t hb527))
                        refine wp_seq ?_
                        refine cw_region ?_
                        refine s_as (v := .bool false) rfl ?_
                        refine done ?_
                        refine then_norm ?_
                        refine wp_ret (then_ret ?_)
                        refine ret1 (fn := Try.f3) rfl ?_ ⟨false, rfl, h, hC.below⟩ (.inl rfl)
                        exact res_tmp rfl
                      · replace h := iff_ h (not_not_intro ((not_f hb527)))
                        refine wp_skip ?_
                        refine then_norm ?_
                        refine wp_seq ?_
                        refine cw_region ?_
                        refine s_as (v := .bool true) rfl ?_
                        refine done ?_
                        refine then_norm ?_
                        refine wp_ret ?_
                        refine ret1 (fn := Try.f3) rfl ?_ ⟨true, rfl, h, hC.below⟩ (.inl rfl)
                        exact res_tmp rfl
            · skip
              refine s_alloc hC (A8.enc .u8 A8.zero) z24 rfl fun b528 w530 hB_ hC => ?_
              refine done ?_
              refine ak_intro (by assumption) (listed' := (List.toArray [true, true, true, true, false, false, false, false, false, false, true, false, false, false])) rfl ?_
              refine ae_one 4 rfl (by kernel_rfl) ?_
              refine s_call [.agg (List.toArray (A8.enc .u8 a2))] _ Try.func15 rfl rfl rfl (c_laws_toMonomial a2 h _) (fun ret531 w533 hR532 => ?_)
              obtain ⟨r534, rfl, h, hB535⟩ := hR532
              refine ⟨_, rfl, ?_⟩
              replace hC := hC.grow hB535
              refine done ?_
              refine ak_intro (by assumption) (listed' := (List.toArray [true, true, true, true, true, false, false, false, false, false, true, false, false, false])) rfl ?_
              refine ae_one 5 rfl (by kernel_rfl) ?_
              refine s_call [u438, .agg (List.toArray (A8.enc .u8 r449)), .agg (List.toArray (A8.enc .u8 r534))] _ Try.func16 rfl rfl rfl (c_impl_MultiplyMonomials r437 r449 r534 h _ (hC.getP 0 rfl)) (fun ret536 w538 hR537 => ?_)
              obtain ⟨r539, r540, r541, rfl, h, hB542⟩ := hR537
              refine ⟨_, rfl, ?_⟩
              replace hC := hC.grow hB542
              refine done ?_
              refine ak_intro (by assumption) (listed' := (List.toArray [true, true, true, true, true, true, false, false, false, false, true, false, false, false])) rfl ?_
              refine ae_lookF 6 (.tuple #[.agg (List.toArray (A8.enc .u8 r539)), .int .i64 r540, .int .i64 r541]) rfl rfl (by kernel_rfl) (by kernel_rfl) (by kernel_rfl) (fun w_ => .inl ⟨rfl, by exact r_mv (v := .tuple #[.agg (List.toArray (A8.enc .u8 r539)), .int .i64 r540, .int .i64 r541]) rfl⟩) (listed' := (List.toArray [true, true, true, true, true, true, true, false, false, false, true, false, false, false])) rfl ?_
              refine ae_lookF 7 (.agg (List.toArray (A8.enc .u8 r539))) rfl rfl (by kernel_rfl) (by kernel_rfl) (by kernel_rfl) (fun w_ => .inl ⟨rfl, by exact r_ext (v := .agg (List.toArray (A8.enc .u8 r539))) rfl rfl⟩) (listed' := (List.toArray [true, true, true, true, true, true, true, true, false, false, true, false, false, false])) rfl ?_
              refine ae_lookF 8 (.int .i64 r540) rfl rfl (by kernel_rfl) (by kernel_rfl) (by kernel_rfl) (fun w_ => .inl ⟨rfl, by exact r_ext (v := .int .i64 r540) rfl rfl⟩) (listed' := (List.toArray [true, true, true, true, true, true, true, true, true, false, true, false, false, false])) rfl ?_
              refine ae_lookF 9 (.int .i64 r541) rfl rfl (by kernel_rfl) (by kernel_rfl) (by kernel_rfl) (fun w_ => .inl ⟨rfl, by exact r_ext (v := .int .i64 r541) rfl rfl⟩) (listed' := (List.toArray [true, true, true, true, true, true, true, true, true, true, true, false, false, false])) rfl ?_
              refine ae_one 11 rfl (by kernel_rfl) ?_
              refine s_store (v := .agg (List.toArray (A8.enc .u8 r539))) hC 0 (A8.enc .u8 r539) (A8.enc .u8 r539) rfl ag24.size rfl rfl rfl rfl rfl (Nat.le_of_ble_eq_true rfl) rfl fun w543 hC => ?_
              refine done ?_
              refine ak_introN (by decide) (listed' := (List.toArray [true, true, true, true, true, true, true, true, true, true, true, true, false, false])) rfl ?_
              refine ae_lookF 12 (.int .i64 r540) rfl rfl (by kernel_rfl) (by kernel_rfl) (by kernel_rfl) (fun w_ => .inl ⟨rfl, by exact r_as (v := .int .i64 r540) rfl⟩) (listed' := (List.toArray [true, true, true, true, true, true, true, true, true, true, true, true, true, false])) rfl ?_
              refine ae_tail 13 (by decide) (by decide) (by kernel_rfl) rfl rfl ?_
              refine s_as (v := .int .i64 r541) rfl ?_
              refine done ?_
              refine qn_norm ?_
              refine then_norm ?_
              refine wp_seq ?_
              refine wp_seq ?_
              refine cw_region ?_
              refine s_loadA hC 0 (A8.enc .u8 r539) rfl ag24 rfl rfl rfl ?_
              refine s_loadA hC 1 (A8.enc .u8 r429) rfl ag24 rfl rfl rfl ?_
              refine s_call [.agg (List.toArray (A8.enc .u8 r539)), .agg (List.toArray (A8.enc .u8 r429))] _ Try.func17 rfl rfl rfl (c_laws_eqMonomial r539 r429 h _) (fun ret544 w546 hR545 => ?_)
              obtain ⟨r547, rfl, h, hB548⟩ := hR545
              refine ⟨_, rfl, ?_⟩
              replace hC := hC.grow hB548
              refine s_not rfl ?_
              refine s_mv (v := .bool (!r547)) rfl ?_
              refine bsplit (!r547) (fun hb549 => ?_) (fun hb549 => ?_)
              · replace h := ift h (ne_t (not_t hb549))
                refine guardOff (b := true) 4 44 rfl (tr rfl (congrArg _ hb549)) (by decide) ?_
                refine guardOff (b := true) 4 44 rfl (tr rfl (congrArg _ hb549)) (by decide) ?_
                refine guardOff (b := true) 4 44 rfl (tr rfl (congrArg _ hb549)) (by decide) ?_
                refine s_pick (v := .bool true) (b := true) (tr rfl (congrArg _ hb549)) rfl ?_
                refine s_mv (v := .bool true) rfl ?_
                refine guardOff (b := true) 9 49 rfl (tr rfl (congrArg _ rfl)) (by decide) ?_
                refine guardOff (b := true) 9 49 rfl (tr rfl (congrArg _ rfl)) (by decide) ?_
                refine guardOff (b := true) 9 49 rfl (tr rfl (congrArg _ rfl)) (by decide) ?_
                refine s_pick (v := .bool true) (b := true) rfl rfl ?_
                refine done ?_
                refine then_norm ?_
                refine cw_true rfl rfl ?_
                refine wp_seq ?_
                refine cw_region ?_
                refine s_as (v := .bool false) rfl ?_
                refine done ?_
                refine then_norm ?_
                refine wp_ret (then_ret ?_)
                refine ret1 (fn := Try.f3) rfl ?_ ⟨false, rfl, h, hC.below⟩ (.inl rfl)
                exact res_tmp rfl
              · replace h := iff_ h (not_not_intro ((not_f hb549)))
                refine guardOn 4 44 rfl rfl hb549 ?_
                refine s_mv (v := .int .i64 r540) rfl ?_
                refine guardOn 4 44 rfl rfl hb549 ?_
                refine s_mv (v := .int .i64 r430) rfl ?_
                refine guardOn 4 44 rfl rfl hb549 ?_
                refine s_neq rfl rfl ?_
                refine s_pick (v := .bool (decide (r540 ≠ r430))) (b := false) (tr rfl (congrArg _ hb549)) rfl ?_
                refine s_mv (v := .bool (decide (r540 ≠ r430))) rfl ?_
                refine bsplit (decide (r540 ≠ r430)) (fun hb550 => ?_) (fun hb550 => ?_)
                · replace h := ift h (ct hb550)
                  refine guardOff (b := true) 9 49 rfl (tr rfl (congrArg _ hb550)) (by decide) ?_
                  refine guardOff (b := true) 9 49 rfl (tr rfl (congrArg _ hb550)) (by decide) ?_
                  refine guardOff (b := true) 9 49 rfl (tr rfl (congrArg _ hb550)) (by decide) ?_
                  refine s_pick (v := .bool true) (b := true) (tr rfl (congrArg _ hb550)) rfl ?_
                  refine done ?_
                  refine then_norm ?_
                  refine cw_true rfl rfl ?_
                  refine wp_seq ?_
                  refine cw_region ?_
                  refine s_as (v := .bool false) rfl ?_
                  refine done ?_
                  refine then_norm ?_
                  refine wp_ret (then_ret ?_)
                  refine ret1 (fn := Try.f3) rfl ?_ ⟨false, rfl, h, hC.below⟩ (.inl rfl)
                  exact res_tmp rfl
                · replace h := iff_ h (cf hb550)
                  refine guardOn 9 49 rfl rfl hb550 ?_
                  refine s_mv (v := .int .i64 r541) rfl ?_
                  refine guardOn 9 49 rfl rfl hb550 ?_
                  refine s_mv (v := .int .i64 r431) rfl ?_
                  refine guardOn 9 49 rfl rfl hb550 ?_
                  refine s_neq rfl rfl ?_
                  refine s_pick (v := .bool (decide (r541 ≠ r431))) (b := false) (tr rfl (congrArg _ hb550)) rfl ?_
                  refine done ?_
                  refine then_norm ?_
                  refine cw_cond rfl (fun hb551 => ?_) (fun hb551 => ?_)
                  · replace h := ift h (ct hb551)
                    refine wp_seq ?_
                    refine cw_region ?_
                    refine s_as (v := .bool false) rfl ?_
                    refine done ?_
                    refine then_norm ?_
                    refine wp_ret (then_ret ?_)
                    refine ret1 (fn := Try.f3) rfl ?_ ⟨false, rfl, h, hC.below⟩ (.inl rfl)
                    exact res_tmp rfl
                  · replace h := iff_ h (cf hb551)
                    refine wp_skip ?_
                    refine then_norm ?_
                    refine wp_seq ?_
                    refine wp_seq ?_
                    refine cw_region ?_
                    refine s_mv (v := u438) rfl ?_
                    refine s_mv (v := u0_0) rfl ?_
                    refine s_call [u0_0] _ Try.func14 rfl rfl rfl (c_laws_toInt64S a0 h _ (hC.getP 2 rfl)) (fun ret552 w554 hR553 => ?_)
                    obtain ⟨r555, u556, f557, rfl, h, hr558, hf559, hB560⟩ := hR553
                    refine ⟨_, rfl, ?_⟩
                    have hs561 := fresh_on hC.size hf559
                    replace hC := hC.pushR hB560 (Ty.item ((EI .i64).ty.sl) r555 [u556] f557) hr558 (fun b hb => .inl (hf559 b hb))
                    refine s_call [u438, u556] _ Try.func18 rfl rfl rfl (c_laws_eqInt64S r437 r555 h _ (hC.getP 1 rfl) (hC.getP 0 rfl)) (fun ret563 w565 hR564 => ?_)
                    obtain ⟨r566, rfl, h, hB567⟩ := hR564
                    refine ⟨_, rfl, ?_⟩
                    replace hC := hC.grow hB567
                    refine s_not rfl ?_
                    refine done ?_
                    refine then_norm ?_
                    refine cw_cond rfl (fun hb568 => ?_) (fun hb568 => ?_)
                    · replace h := ift h (ne_t (not_t hb568))
                      refine wp_seq ?_
                      refine cw_region ?_
                      refine s_as (v := .bool false) rfl ?_
                      refine done ?_
                      refine then_norm ?_
                      refine wp_ret (then_ret ?_)
                      refine ret1 (fn := Try.f3) rfl ?_ ⟨false, rfl, h, hC.below⟩ (.inl rfl)
                      exact res_tmp rfl
                    · replace h := iff_ h (not_not_intro ((not_f hb568)))
                      refine wp_skip ?_
                      refine then_norm ?_
                      refine wp_seq ?_
                      refine cw_region ?_
                      refine s_as (v := .bool true) rfl ?_
                      refine done ?_
                      refine then_norm ?_
                      refine wp_ret ?_
                      refine ret1 (fn := Try.f3) rfl ?_ ⟨true, rfl, h, hC.below⟩ (.inl rfl)
                      exact res_tmp rfl
          · skip
            refine s_alloc hC (A8.enc .u8 A8.zero) z24 rfl fun b569 w571 hB_ hC => ?_
            refine done ?_
            refine ak_intro (by assumption) (listed' := (List.toArray [true, true, false, true, false, false, false, false, false, false, true, false, false, false])) rfl ?_
            refine ae_one 2 rfl (by kernel_rfl) ?_
            refine s_call [.agg (List.toArray (A8.enc .u8 a1))] _ Try.func15 rfl rfl rfl (c_laws_toMonomial a1 h _) (fun ret572 w574 hR573 => ?_)
            obtain ⟨r575, rfl, h, hB576⟩ := hR573
            refine ⟨_, rfl, ?_⟩
            replace hC := hC.grow hB576
            refine done ?_
            refine ak_intro (by assumption) (listed' := (List.toArray [true, true, true, true, false, false, false, false, false, false, true, false, false, false])) rfl ?_
            refine ae_one 4 rfl (by kernel_rfl) ?_
            refine s_call [.agg (List.toArray (A8.enc .u8 a2))] _ Try.func15 rfl rfl rfl (c_laws_toMonomial a2 h _) (fun ret577 w579 hR578 => ?_)
            obtain ⟨r580, rfl, h, hB581⟩ := hR578
            refine ⟨_, rfl, ?_⟩
            replace hC := hC.grow hB581
            refine done ?_
            refine ak_intro (by assumption) (listed' := (List.toArray [true, true, true, true, true, false, false, false, false, false, true, false, false, false])) rfl ?_
            refine ae_one 5 rfl (by kernel_rfl) ?_
            refine s_call [u438, .agg (List.toArray (A8.enc .u8 r575)), .agg (List.toArray (A8.enc .u8 r580))] _ Try.func16 rfl rfl rfl (c_impl_MultiplyMonomials r437 r575 r580 h _ (hC.getP 0 rfl)) (fun ret582 w584 hR583 => ?_)
            obtain ⟨r585, r586, r587, rfl, h, hB588⟩ := hR583
            refine ⟨_, rfl, ?_⟩
            replace hC := hC.grow hB588
            refine done ?_
            refine ak_intro (by assumption) (listed' := (List.toArray [true, true, true, true, true, true, false, false, false, false, true, false, false, false])) rfl ?_
            refine ae_lookF 6 (.tuple #[.agg (List.toArray (A8.enc .u8 r585)), .int .i64 r586, .int .i64 r587]) rfl rfl (by kernel_rfl) (by kernel_rfl) (by kernel_rfl) (fun w_ => .inl ⟨rfl, by exact r_mv (v := .tuple #[.agg (List.toArray (A8.enc .u8 r585)), .int .i64 r586, .int .i64 r587]) rfl⟩) (listed' := (List.toArray [true, true, true, true, true, true, true, false, false, false, true, false, false, false])) rfl ?_
            refine ae_lookF 7 (.agg (List.toArray (A8.enc .u8 r585))) rfl rfl (by kernel_rfl) (by kernel_rfl) (by kernel_rfl) (fun w_ => .inl ⟨rfl, by exact r_ext (v := .agg (List.toArray (A8.enc .u8 r585))) rfl rfl⟩) (listed' := (List.toArray [true, true, true, true, true, true, true, true, false, false, true, false, false, false])) rfl ?_
            refine ae_lookF 8 (.int .i64 r586) rfl rfl (by kernel_rfl) (by kernel_rfl) (by kernel_rfl) (fun w_ => .inl ⟨rfl, by exact r_ext (v := .int .i64 r586) rfl rfl⟩) (listed' := (List.toArray [true, true, true, true, true, true, true, true, true, false, true, false, false, false])) rfl ?_
            refine ae_lookF 9 (.int .i64 r587) rfl rfl (by kernel_rfl) (by kernel_rfl) (by kernel_rfl) (fun w_ => .inl ⟨rfl, by exact r_ext (v := .int .i64 r587) rfl rfl⟩) (listed' := (List.toArray [true, true, true, true, true, true, true, true, true, true, true, false, false, false])) rfl ?_
            refine ae_one 11 rfl (by kernel_rfl) ?_
            refine s_store (v := .agg (List.toArray (A8.enc .u8 r585))) hC 0 (A8.enc .u8 r585) (A8.enc .u8 r585) rfl ag24.size rfl rfl rfl rfl rfl (Nat.le_of_ble_eq_true rfl) rfl fun w589 hC => ?_
            refine done ?_
            refine ak_introN (by decide) (listed' := (List.toArray [true, true, true, true, true, true, true, true, true, true, true, true, false, false])) rfl ?_
            refine ae_lookF 12 (.int .i64 r586) rfl rfl (by kernel_rfl) (by kernel_rfl) (by kernel_rfl) (fun w_ => .inl ⟨rfl, by exact r_as (v := .int .i64 r586) rfl⟩) (listed' := (List.toArray [true, true, true, true, true, true, true, true, true, true, true, true, true, false])) rfl ?_
            refine ae_tail 13 (by decide) (by decide) (by kernel_rfl) rfl rfl ?_
            refine s_as (v := .int .i64 r587) rfl ?_
            refine done ?_
            refine qn_norm ?_
            refine then_norm ?_
            refine wp_seq ?_
            refine wp_seq ?_
            refine cw_region ?_
            refine s_loadA hC 0 (A8.enc .u8 r585) rfl ag24 rfl rfl rfl ?_
            refine s_loadA hC 1 (A8.enc .u8 r429) rfl ag24 rfl rfl rfl ?_
            refine s_call [.agg (List.toArray (A8.enc .u8 r585)), .agg (List.toArray (A8.enc .u8 r429))] _ Try.func17 rfl rfl rfl (c_laws_eqMonomial r585 r429 h _) (fun ret590 w592 hR591 => ?_)
            obtain ⟨r593, rfl, h, hB594⟩ := hR591
            refine ⟨_, rfl, ?_⟩
            replace hC := hC.grow hB594
            refine s_not rfl ?_
            refine s_mv (v := .bool (!r593)) rfl ?_
            refine bsplit (!r593) (fun hb595 => ?_) (fun hb595 => ?_)
            · replace h := ift h (ne_t (not_t hb595))
              refine guardOff (b := true) 4 44 rfl (tr rfl (congrArg _ hb595)) (by decide) ?_
              refine guardOff (b := true) 4 44 rfl (tr rfl (congrArg _ hb595)) (by decide) ?_
              refine guardOff (b := true) 4 44 rfl (tr rfl (congrArg _ hb595)) (by decide) ?_
              refine s_pick (v := .bool true) (b := true) (tr rfl (congrArg _ hb595)) rfl ?_
              refine s_mv (v := .bool true) rfl ?_
              refine guardOff (b := true) 9 49 rfl (tr rfl (congrArg _ rfl)) (by decide) ?_
              refine guardOff (b := true) 9 49 rfl (tr rfl (congrArg _ rfl)) (by decide) ?_
              refine guardOff (b := true) 9 49 rfl (tr rfl (congrArg _ rfl)) (by decide) ?_
              refine s_pick (v := .bool true) (b := true) rfl rfl ?_
              refine done ?_
              refine then_norm ?_
              refine cw_true rfl rfl ?_
              refine wp_seq ?_
              refine cw_region ?_
              refine s_as (v := .bool false) rfl ?_
              refine done ?_
              refine then_norm ?_
              refine wp_ret (then_ret ?_)
              refine ret1 (fn := Try.f3) rfl ?_ ⟨false, rfl, h, hC.below⟩ (.inl rfl)
              exact res_tmp rfl
            · replace h := iff_ h (not_not_intro ((not_f hb595)))
              refine guardOn 4 44 rfl rfl hb595 ?_
              refine s_mv (v := .int .i64 r586) rfl ?_
              refine guardOn 4 44 rfl rfl hb595 ?_
              refine s_mv (v := .int .i64 r430) rfl ?_
              refine guardOn 4 44 rfl rfl hb595 ?_
              refine s_neq rfl rfl ?_
              refine s_pick (v := .bool (decide (r586 ≠ r430))) (b := false) (tr rfl (congrArg _ hb595)) rfl ?_
              refine s_mv (v := .bool (decide (r586 ≠ r430))) rfl ?_
              refine bsplit (decide (r586 ≠ r430)) (fun hb596 => ?_) (fun hb596 => ?_)
              · replace h := ift h (ct hb596)
                refine guardOff (b := true) 9 49 rfl (tr rfl (congrArg _ hb596)) (by decide) ?_
                refine guardOff (b := true) 9 49 rfl (tr rfl (congrArg _ hb596)) (by decide) ?_
                refine guardOff (b := true) 9 49 rfl (tr rfl (congrArg _ hb596)) (by decide) ?_
                refine s_pick (v := .bool true) (b := true) (tr rfl (congrArg _ hb596)) rfl ?_
                refine done ?_
                refine then_norm ?_
                refine cw_true rfl rfl ?_
                refine wp_seq ?_
                refine cw_region ?_
                refine s_as (v := .bool false) rfl ?_
                refine done ?_
                refine then_norm ?_
                refine wp_ret (then_ret ?_)
                refine ret1 (fn := Try.f3) rfl ?_ ⟨false, rfl, h, hC.below⟩ (.inl rfl)
                exact res_tmp rfl
              · replace h := iff_ h (cf hb596)
                refine guardOn 9 49 rfl rfl hb596 ?_
                refine s_mv (v := .int .i64 r587) rfl ?_
                refine guardOn 9 49 rfl rfl hb596 ?_
                refine s_mv (v := .int .i64 r431) rfl ?_
                refine guardOn 9 49 rfl rfl hb596 ?_
                refine s_neq rfl rfl ?_
                refine s_pick (v := .bool (decide (r587 ≠ r431))) (b := false) (tr rfl (congrArg _ hb596)) rfl ?_
                refine done ?_
                refine then_norm ?_
                refine cw_cond rfl (fun hb597 => ?_) (fun hb597 => ?_)
                · replace h := ift h (ct hb597)
                  refine wp_seq ?_
                  refine cw_region ?_
                  refine s_as (v := .bool false) rfl ?_
                  refine done ?_
                  refine then_norm ?_
                  refine wp_ret (then_ret ?_)
                  refine ret1 (fn := Try.f3) rfl ?_ ⟨false, rfl, h, hC.below⟩ (.inl rfl)
                  exact res_tmp rfl
                · replace h := iff_ h (cf hb597)
                  refine wp_skip ?_
                  refine then_norm ?_
                  refine wp_seq ?_
                  refine wp_seq ?_
                  refine cw_region ?_
                  refine s_mv (v := u438) rfl ?_
                  refine s_mv (v := u0_0) rfl ?_
                  refine s_call [u0_0] _ Try.func14 rfl rfl rfl (c_laws_toInt64S a0 h _ (hC.getP 2 rfl)) (fun ret598 w600 hR599 => ?_)
                  obtain ⟨r601, u602, f603, rfl, h, hr604, hf605, hB606⟩ := hR599
                  refine ⟨_, rfl, ?_⟩
                  have hs607 := fresh_on hC.size hf605
                  replace hC := hC.pushR hB606 (Ty.item ((EI .i64).ty.sl) r601 [u602] f603) hr604 (fun b hb => .inl (hf605 b hb))
                  refine s_call [u438, u602] _ Try.func18 rfl rfl rfl (c_laws_eqInt64S r437 r601 h _ (hC.getP 1 rfl) (hC.getP 0 rfl)) (fun ret609 w611 hR610 => ?_)
                  obtain ⟨r612, rfl, h, hB613⟩ := hR610
                  refine ⟨_, rfl, ?_⟩
                  replace hC := hC.grow hB613
                  refine s_not rfl ?_
                  refine done ?_
                  refine then_norm ?_
                  refine cw_cond rfl (fun hb614 => ?_) (fun hb614 => ?_)
                  · replace h := ift h (ne_t (not_t hb614))
                    refine wp_seq ?_
                    refine cw_region ?_
                    refine s_as (v := .bool false) rfl ?_
                    refine done ?_
                    refine then_norm ?_
                    refine wp_ret (then_ret ?_)
                    refine ret1 (fn := Try.f3) rfl ?_ ⟨false, rfl, h, hC.below⟩ (.inl rfl)
                    exact res_tmp rfl
                  · replace h := iff_ h (not_not_intro ((not_f hb614)))
                    refine wp_skip ?_
                    refine then_norm ?_
                    refine wp_seq ?_
                    refine cw_region ?_
                    refine s_as (v := .bool true) rfl ?_
                    refine done ?_
                    refine then_norm ?_
                    refine wp_ret ?_
                    refine ret1 (fn := Try.f3) rfl ?_ ⟨true, rfl, h, hC.below⟩ (.inl rfl)
                    exact res_tmp rfl
      · skip
        refine s_alloc hC (A8.enc .u8 A8.zero) z24 rfl fun b615 w617 hB_ hC => ?_
        refine done ?_
        refine ak_intro (by assumption) (listed' := (List.toArray [true, true, true, false, true, false, false, false, false, false, false, true, false, false, false])) rfl ?_
        refine ae_one 3 rfl (by kernel_rfl) ?_
        refine s_call [.agg (List.toArray (A8.enc .u8 a1))] _ Try.func15 rfl rfl rfl (c_laws_toMonomial a1 h _) (fun ret618 w620 hR619 => ?_)
        obtain ⟨r621, rfl, h, hB622⟩ := hR619
        refine ⟨_, rfl, ?_⟩
        replace hC := hC.grow hB622
        refine done ?_
        refine ak_intro (by assumption) (listed' := (List.toArray [true, true, true, true, true, false, false, false, false, false, false, true, false, false, false])) rfl ?_
        refine ae_one 5 rfl (by kernel_rfl) ?_
        refine s_call [.agg (List.toArray (A8.enc .u8 a2))] _ Try.func15 rfl rfl rfl (c_laws_toMonomial a2 h _) (fun ret623 w625 hR624 => ?_)
        obtain ⟨r626, rfl, h, hB627⟩ := hR624
        refine ⟨_, rfl, ?_⟩
        replace hC := hC.grow hB627
        refine done ?_
        refine ak_intro (by assumption) (listed' := (List.toArray [true, true, true, true, true, true, false, false, false, false, false, true, false, false, false])) rfl ?_
        refine ae_one 6 rfl (by kernel_rfl) ?_
        refine s_call [u17, .agg (List.toArray (A8.enc .u8 r621)), .agg (List.toArray (A8.enc .u8 r626))] _ Try.func13 rfl rfl rfl (c_spec_MultiplyMonomials r16 r621 r626 h _ (hC.getP 0 rfl)) (fun ret628 w630 hR629 => ?_)
        obtain ⟨r631, r632, r633, rfl, h, hB634⟩ := hR629
        refine ⟨_, rfl, ?_⟩
        replace hC := hC.grow hB634
        refine done ?_
        refine ak_intro (by assumption) (listed' := (List.toArray [true, true, true, true, true, true, true, false, false, false, false, true, false, false, false])) rfl ?_
        refine ae_lookF 7 (.tuple #[.agg (List.toArray (A8.enc .u8 r631)), .int .i64 r632, .int .i64 r633]) rfl rfl (by kernel_rfl) (by kernel_rfl) (by kernel_rfl) (fun w_ => .inl ⟨rfl, by exact r_mv (v := .tuple #[.agg (List.toArray (A8.enc .u8 r631)), .int .i64 r632, .int .i64 r633]) rfl⟩) (listed' := (List.toArray [true, true, true, true, true, true, true, true, false, false, false, true, false, false, false])) rfl ?_
        refine ae_lookF 8 (.agg (List.toArray (A8.enc .u8 r631))) rfl rfl (by kernel_rfl) (by kernel_rfl) (by kernel_rfl) (fun w_ => .inl ⟨rfl, by exact r_ext (v := .agg (List.toArray (A8.enc .u8 r631))) rfl rfl⟩) (listed' := (List.toArray [true, true, true, true, true, true, true, true, true, false, false, true, false, false, false])) rfl ?_
        refine ae_lookF 9 (.int .i64 r632) rfl rfl (by kernel_rfl) (by kernel_rfl) (by kernel_rfl) (fun w_ => .inl ⟨rfl, by exact r_ext (v := .int .i64 r632) rfl rfl⟩) (listed' := (List.toArray [true, true, true, true, true, true, true, true, true, true, false, true, false, false, false])) rfl ?_
        refine ae_lookF 10 (.int .i64 r633) rfl rfl (by kernel_rfl) (by kernel_rfl) (by kernel_rfl) (fun w_ => .inl ⟨rfl, by exact r_ext (v := .int .i64 r633) rfl rfl⟩) (listed' := (List.toArray [true, true, true, true, true, true, true, true, true, true, true, true, false, false, false])) rfl ?_
        refine ae_one 12 rfl (by kernel_rfl) ?_
        refine s_store (v := .agg (List.toArray (A8.enc .u8 r631))) hC 0 (A8.enc .u8 r631) (A8.enc .u8 r631) rfl ag24.size rfl rfl rfl rfl rfl (Nat.le_of_ble_eq_true rfl) rfl fun w635 hC => ?_
        refine done ?_
        refine ak_introN (by decide) (listed' := (List.toArray [true, true, true, true, true, true, true, true, true, true, true, true, true, false, false])) rfl ?_
        refine ae_lookF 13 (.int .i64 r632) rfl rfl (by kernel_rfl) (by kernel_rfl) (by kernel_rfl) (fun w_ => .inl ⟨rfl, by exact r_as (v := .int .i64 r632) rfl⟩) (listed' := (List.toArray [true, true, true, true, true, true, true, true, true, true, true, true, true, true, false])) rfl ?_
        refine ae_tail 14 (by decide) (by decide) (by kernel_rfl) rfl rfl ?_
        refine s_as (v := .int .i64 r633) rfl ?_
        refine done ?_
        refine qn_norm ?_
        refine then_norm ?_
        refine wp_seq ?_
        refine cw_region ?_
        refine s_mv (v := u0_0) rfl ?_
        refine s_call [u0_0] _ Try.func14 rfl rfl rfl (c_laws_toInt64S a0 h _ (hC.getP 1 rfl)) (fun ret636 w638 hR637 => ?_)
        obtain ⟨r639, u640, f641, rfl, h, hr642, hf643, hB644⟩ := hR637
        refine ⟨_, rfl, ?_⟩
        have hs645 := fresh_on hC.size hf643
        replace hC := hC.pushR hB644 (Ty.item ((EI .i64).ty.sl) r639 [u640] f641) hr642 (fun b hb => .inl (hf643 b hb))
        refine s_as (v := u640) rfl ?_
        refine done ?_
        refine then_norm ?_
        refine wp_seq ?_
        refine cw_draw 11 mixed (fun w647 hB_ => ?_)
        replace hC := hC.grow hB_
        refine ae_lookF 0 (u640) rfl rfl (by kernel_rfl) (by kernel_rfl) (by kernel_rfl) (fun w_ => .inl ⟨rfl, by exact r_mv (v := u640) rfl⟩) (listed' := (List.toArray [true, false, false, false, false, false, false, false, false, false, false, false, false, false])) rfl ?_
        refine ae_look 1 (.agg (List.toArray (A8.enc .u8 a1))) rfl rfl (by kernel_rfl) (by kernel_rfl) (by kernel_rfl) (fun w_ hB_ => .inl ⟨rfl, by exact r_loadA (hC.grow hB_) 2 (A8.enc .u8 a1) rfl ag23 rfl rfl rfl⟩) (listed' := (List.toArray [true, true, false, false, false, false, false, false, false, false, false, false, false, false])) rfl ?_
        refine ae_look 3 (.agg (List.toArray (A8.enc .u8 a2))) rfl rfl (by kernel_rfl) (by kernel_rfl) (by kernel_rfl) (fun w_ hB_ => .inl ⟨rfl, by exact r_loadA (hC.grow hB_) 1 (A8.enc .u8 a2) rfl ag23 rfl rfl rfl⟩) (listed' := (List.toArray [true, true, false, true, false, false, false, false, false, false, false, false, false, false])) rfl ?_
        refine ae_two 2 10 rfl rfl (by kernel_rfl) ?_ ?_
        · skip
          refine s_call [.agg (List.toArray (A8.enc .u8 a1))] _ Try.func15 rfl rfl rfl (c_laws_toMonomial a1 h _) (fun ret648 w650 hR649 => ?_)
          obtain ⟨r651, rfl, h, hB652⟩ := hR649
          refine ⟨_, rfl, ?_⟩
          replace hC := hC.grow hB652
          refine done ?_
          refine ak_intro (by assumption) (listed' := (List.toArray [true, true, true, true, false, false, false, false, false, false, false, false, false, false])) rfl ?_
          refine ae_two 4 10 rfl rfl (by kernel_rfl) ?_ ?_
          · skip
            refine s_call [.agg (List.toArray (A8.enc .u8 a2))] _ Try.func15 rfl rfl rfl (c_laws_toMonomial a2 h _) (fun ret653 w655 hR654 => ?_)
            obtain ⟨r656, rfl, h, hB657⟩ := hR654
            refine ⟨_, rfl, ?_⟩
            replace hC := hC.grow hB657
            refine done ?_
            refine ak_intro (by assumption) (listed' := (List.toArray [true, true, true, true, true, false, false, false, false, false, false, false, false, false])) rfl ?_
            refine ae_two 5 10 rfl rfl (by kernel_rfl) ?_ ?_
            · skip
              refine s_call [u640, .agg (List.toArray (A8.enc .u8 r651)), .agg (List.toArray (A8.enc .u8 r656))] _ Try.func16 rfl rfl rfl (c_impl_MultiplyMonomials r639 r651 r656 h _ (hC.getP 0 rfl)) (fun ret658 w660 hR659 => ?_)
              obtain ⟨r661, r662, r663, rfl, h, hB664⟩ := hR659
              refine ⟨_, rfl, ?_⟩
              replace hC := hC.grow hB664
              refine done ?_
              refine ak_intro (by assumption) (listed' := (List.toArray [true, true, true, true, true, true, false, false, false, false, false, false, false, false])) rfl ?_
              refine ae_lookF 6 (.tuple #[.agg (List.toArray (A8.enc .u8 r661)), .int .i64 r662, .int .i64 r663]) rfl rfl (by kernel_rfl) (by kernel_rfl) (by kernel_rfl) (fun w_ => .inl ⟨rfl, by exact r_mv (v := .tuple #[.agg (List.toArray (A8.enc .u8 r661)), .int .i64 r662, .int .i64 r663]) rfl⟩) (listed' := (List.toArray [true, true, true, true, true, true, true, false, false, false, false, false, false, false])) rfl ?_
              refine ae_lookF 7 (.agg (List.toArray (A8.enc .u8 r661))) rfl rfl (by kernel_rfl) (by kernel_rfl) (by kernel_rfl) (fun w_ => .inl ⟨rfl, by exact r_ext (v := .agg (List.toArray (A8.enc .u8 r661))) rfl rfl⟩) (listed' := (List.toArray [true, true, true, true, true, true, true, true, false, false, false, false, false, false])) rfl ?_
              refine ae_lookF 8 (.int .i64 r662) rfl rfl (by kernel_rfl) (by kernel_rfl) (by kernel_rfl) (fun w_ => .inl ⟨rfl, by exact r_ext (v := .int .i64 r662) rfl rfl⟩) (listed' := (List.toArray [true, true, true, true, true, true, true, true, true, false, false, false, false, false])) rfl ?_
              refine ae_lookF 9 (.int .i64 r663) rfl rfl (by kernel_rfl) (by kernel_rfl) (by kernel_rfl) (fun w_ => .inl ⟨rfl, by exact r_ext (v := .int .i64 r663) rfl rfl⟩) (listed' := (List.toArray [true, true, true, true, true, true, true, true, true, true, false, false, false, false])) rfl ?_
              refine ae_one 10 rfl (by kernel_rfl) ?_
              refine s_alloc hC (A8.enc .u8 A8.zero) z24 rfl fun b665 w667 hB_ hC => ?_
              refine done ?_
              refine ak_intro (by assumption) (listed' := (List.toArray [true, true, true, true, true, true, true, true, true, true, true, false, false, false])) rfl ?_
              refine ae_one 11 rfl (by kernel_rfl) ?_
              refine s_store (v := .agg (List.toArray (A8.enc .u8 r661))) hC 0 (A8.enc .u8 r661) (A8.enc .u8 r661) rfl ag24.size rfl rfl rfl rfl rfl (Nat.le_of_ble_eq_true rfl) rfl fun w668 hC => ?_
              refine done ?_
              refine ak_introN (by decide) (listed' := (List.toArray [true, true, true, true, true, true, true, true, true, true, true, true, false, false])) rfl ?_
              refine ae_lookF 12 (.int .i64 r662) rfl rfl (by kernel_rfl) (by kernel_rfl) (by kernel_rfl) (fun w_ => .inl ⟨rfl, by exact r_as (v := .int .i64 r662) rfl⟩) (listed' := (List.toArray [true, true, true, true, true, true, true, true, true, true, true, true, true, false])) rfl ?_
              refine ae_tail 13 (by decide) (by decide) (by kernel_rfl) rfl rfl ?_
              refine s_as (v := .int .i64 r663) rfl ?_
              refine done ?_
              refine qn_norm ?_
              refine then_norm ?_
              refine wp_seq ?_
              refine wp_seq ?_
              refine cw_region ?_
              refine s_loadA hC 0 (A8.enc .u8 r661) rfl ag24 rfl rfl rfl ?_
              refine s_loadA hC 1 (A8.enc .u8 r631) rfl ag24 rfl rfl rfl ?_
              refine s_call [.agg (List.toArray (A8.enc .u8 r661)), .agg (List.toArray (A8.enc .u8 r631))] _ Try.func17 rfl rfl rfl (c_laws_eqMonomial r661 r631 h _) (fun ret669 w671 hR670 => ?_)
              obtain ⟨r672, rfl, h, hB673⟩ := hR670
              refine ⟨_, rfl, ?_⟩
              replace hC := hC.grow hB673
              refine s_not rfl ?_
              refine s_mv (v := .bool (!r672)) rfl ?_
              refine bsplit (!r672) (fun hb674 => ?_) (fun hb674 => ?_)
              · replace h := ift h (ne_t (not_t hb674))
                refine guardOff (b := true) 4 44 rfl (tr rfl (congrArg _ hb674)) (by decide) ?_
                refine guardOff (b := true) 4 44 rfl (tr rfl (congrArg _ hb674)) (by decide) ?_
                refine guardOff (b := true) 4 44 rfl (tr rfl (congrArg _ hb674)) (by decide) ?_
                refine s_pick (v := .bool true) (b := true) (tr rfl (congrArg _ hb674)) rfl ?_
                refine s_mv (v := .bool true) rfl ?_
                refine guardOff (b := true) 9 49 rfl (tr rfl (congrArg _ rfl)) (by decide) ?_
                refine guardOff (b := true) 9 49 rfl (tr rfl (congrArg _ rfl)) (by decide) ?_
                refine guardOff (b := true) 9 49 rfl (tr rfl (congrArg _ rfl)) (by decide) ?_
                refine s_pick (v := .bool true) (b := true) rfl rfl ?_
                refine done ?_
                refine then_norm ?_
                refine cw_true rfl rfl ?_
                refine wp_seq ?_
                refine cw_region ?_
                refine s_as (v := .bool false) rfl ?_
                refine done ?_
                refine then_norm ?_
                refine wp_ret (then_ret ?_)
                refine ret1 (fn := Try.f3) rfl ?_ ⟨false, rfl, h, hC.below⟩ (.inl rfl)
                exact res_tmp rfl
              · replace h := iff_ h (not_not_intro ((not_f hb674)))
                refine guardOn 4 44 rfl rfl hb674 ?_
                refine s_mv (v := .int .i64 r662) rfl ?_
                refine guardOn 4 44 rfl rfl hb674 ?_
                refine s_mv (v := .int .i64 r632) rfl ?_
                refine guardOn 4 44 rfl rfl hb674 ?_
                refine s_neq rfl rfl ?_
                refine s_pick (v := .bool (decide (r662 ≠ r632))) (b := false) (tr rfl (congrArg _ hb674)) rfl ?_
                refine s_mv (v := .bool (decide (r662 ≠ r632))) rfl ?_
                refine bsplit (decide (r662 ≠ r632)) (fun hb675 => ?_) (fun hb675 => ?_)
                · replace h := ift h (ct hb675)
                  refine guardOff (b := true) 9 49 rfl (tr rfl (congrArg _ hb675)) (by decide) ?_
                  refine guardOff (b := true) 9 49 rfl (tr rfl (congrArg _ hb675)) (by decide) ?_
                  refine guardOff (b := true) 9 49 rfl (tr rfl (congrArg _ hb675)) (by decide) ?_
                  refine s_pick (v := .bool true) (b := true) (tr rfl (congrArg _ hb675)) rfl ?_
                  refine done ?_
                  refine then_norm ?_
                  refine cw_true rfl rfl ?_
                  refine wp_seq ?_
                  refine cw_region ?_
                  refine s_as (v := .bool false) rfl ?_
                  refine done ?_
                  refine then_norm ?_
                  refine wp_ret (then_ret ?_)
                  refine ret1 (fn := Try.f3) rfl ?_ ⟨false, rfl, h, hC.below⟩ (.inl rfl)
                  exact res_tmp rfl
                · replace h := iff_ h (cf hb675)
                  refine guardOn 9 49 rfl rfl hb675 ?_
                  refine s_mv (v := .int .i64 r663) rfl ?_
                  refine guardOn 9 49 rfl rfl hb675 ?_
                  refine s_mv (v := .int .i64 r633) rfl ?_
                  refine guardOn 9 49 rfl rfl hb675 ?_
                  refine s_neq rfl rfl ?_
                  refine s_pick (v := .bool (decide (r663 ≠ r633))) (b := false) (tr rfl (congrArg _ hb675)) rfl ?_
                  refine done ?_
                  refine then_norm ?_
                  refine cw_cond rfl (fun hb676 => ?_) (fun hb676 => ?_)
                  · replace h := ift h (ct hb676)
                    refine wp_seq ?_
                    refine cw_region ?_
                    refine s_as (v := .bool false) rfl ?_
                    refine done ?_
                    refine then_norm ?_
                    refine wp_ret (then_ret ?_)
                    refine ret1 (fn := Try.f3) rfl ?_ ⟨false, rfl, h, hC.below⟩ (.inl rfl)
                    exact res_tmp rfl
                  · replace h := iff_ h (cf hb676)
                    refine wp_skip ?_
                    refine then_norm ?_
                    refine wp_seq ?_
                    refine wp_seq ?_
                    refine cw_region ?_
                    refine s_mv (v := u640) rfl ?_
                    refine s_mv (v := u0_0) rfl ?_
                    refine s_call [u0_0] _ Try.func14 rfl rfl rfl (c_laws_toInt64S a0 h _ (hC.getP 2 rfl)) (fun ret677 w679 hR678 => ?_)
                    obtain ⟨r680, u681, f682, rfl, h, hr683, hf684, hB685⟩ := hR678
                    refine ⟨_, rfl, ?_⟩
                    have hs686 := fresh_on hC.size hf684
                    replace hC := hC.pushR hB685 (Ty.item ((EI .i64).ty.sl) r680 [u681] f682) hr683 (fun b hb => .inl (hf684 b hb))
                    refine s_call [u640, u681] _ Try.func18 rfl rfl rfl (c_laws_eqInt64S r639 r680 h _ (hC.getP 1 rfl) (hC.getP 0 rfl)) (fun ret688 w690 hR689 => ?_)
                    obtain ⟨r691, rfl, h, hB692⟩ := hR689
                    refine ⟨_, rfl, ?_⟩
                    replace hC := hC.grow hB692
                    refine s_not rfl ?_
                    refine done ?_
                    refine then_norm ?_
                    refine cw_cond rfl (fun hb693 => ?_) (fun hb693 => ?_)
                    · replace h := ift h (ne_t (not_t hb693))
                      refine wp_seq ?_
                      refine cw_region ?_
                      refine s_as (v := .bool false) rfl ?_
                      refine done ?_
                      refine then_norm ?_
                      refine wp_ret (then_ret ?_)
                      refine ret1 (fn := Try.f3) rfl ?_ ⟨false, rfl, h, hC.below⟩ (.inl rfl)
                      exact res_tmp rfl
                    · replace h := iff_ h (not_not_intro ((not_f hb693)))
                      refine wp_skip ?_
                      refine then_norm ?_
                      refine wp_seq ?_
                      refine cw_region ?_
                      refine s_as (v := .bool true) rfl ?_
                      refine done ?_
                      refine then_norm ?_
                      refine wp_ret ?_
                      refine ret1 (fn := Try.f3) rfl ?_ ⟨true, rfl, h, hC.below⟩ (.inl rfl)
                      exact res_tmp rfl
            · skip
              refine s_alloc hC (A8.enc .u8 A8.zero) z24 rfl fun b694 w696 hB_ hC => ?_
              refine done ?_
              refine ak_intro (by assumption) (listed' := (List.toArray [true, true, true, true, true, false, false, false, false, false, true, false, false, false])) rfl ?_
              refine ae_one 5 rfl (by kernel_rfl) ?_
              refine s_call [u640, .agg (List.toArray (A8.enc .u8 r651)), .agg (List.toArray (A8.enc .u8 r656))] _ Try.func16 rfl rfl rfl (c_impl_MultiplyMonomials r639 r651 r656 h _ (hC.getP 0 rfl)) (fun ret697 w699 hR698 => ?_)
              obtain ⟨r700, r701, r702, rfl, h, hB703⟩ := hR698
              refine ⟨_, rfl, ?_⟩
              replace hC := hC.grow hB703
              refine done ?_
              refine ak_intro (by assumption) (listed' := (List.toArray [true, true, true, true, true, true, false, false, false, false, true, false, false, false])) rfl ?_
              refine ae_lookF 6 (.tuple #[.agg (List.toArray (A8.enc .u8 r700)), .int .i64 r701, .int .i64 r702]) rfl rfl (by kernel_rfl) (by kernel_rfl) (by kernel_rfl) (fun w_ => .inl ⟨rfl, by exact r_mv (v := .tuple #[.agg (List.toArray (A8.enc .u8 r700)), .int .i64 r701, .int .i64 r702]) rfl⟩) (listed' := (List.toArray [true, true, true, true, true, true, true, false, false, false, true, false, false, false])) rfl ?_
              refine ae_lookF 7 (.agg (List.toArray (A8.enc .u8 r700))) rfl rfl (by kernel_rfl) (by kernel_rfl) (by kernel_rfl) (fun w_ => .inl ⟨rfl, by exact r_ext (v := .agg (List.toArray (A8.enc .u8 r700))) rfl rfl⟩) (listed' := (List.toArray [true, true, true, true, true, true, true, true, false, false, true, false, false, false])) rfl ?_
              refine ae_lookF 8 (.int .i64 r701) rfl rfl (by kernel_rfl) (by kernel_rfl) (by kernel_rfl) (fun w_ => .inl ⟨rfl, by exact r_ext (v := .int .i64 r701) rfl rfl⟩) (listed' := (List.toArray [true, true, true, true, true, true, true, true, true, false, true, false, false, false])) rfl ?_
              refine ae_lookF 9 (.int .i64 r702) rfl rfl (by kernel_rfl) (by kernel_rfl) (by kernel_rfl) (fun w_ => .inl ⟨rfl, by exact r_ext (v := .int .i64 r702) rfl rfl⟩) (listed' := (List.toArray [true, true, true, true, true, true, true, true, true, true, true, false, false, false])) rfl ?_
              refine ae_one 11 rfl (by kernel_rfl) ?_
              refine s_store (v := .agg (List.toArray (A8.enc .u8 r700))) hC 0 (A8.enc .u8 r700) (A8.enc .u8 r700) rfl ag24.size rfl rfl rfl rfl rfl (Nat.le_of_ble_eq_true rfl) rfl fun w704 hC => ?_
              refine done ?_
              refine ak_introN (by decide) (listed' := (List.toArray [true, true, true, true, true, true, true, true, true, true, true, true, false, false])) rfl ?_
              refine ae_lookF 12 (.int .i64 r701) rfl rfl (by kernel_rfl) (by kernel_rfl) (by kernel_rfl) (fun w_ => .inl ⟨rfl, by exact r_as (v := .int .i64 r701) rfl⟩) (listed' := (List.toArray [true, true, true, true, true, true, true, true, true, true, true, true, true, false])) rfl ?_
              refine ae_tail 13 (by decide) (by decide) (by kernel_rfl) rfl rfl ?_
              refine s_as (v := .int .i64 r702) rfl ?_
              refine done ?_
              refine qn_norm ?_
              refine then_norm ?_
              refine wp_seq ?_
              refine wp_seq ?_
              refine cw_region ?_
              refine s_loadA hC 0 (A8.enc .u8 r700) rfl ag24 rfl rfl rfl ?_
              refine s_loadA hC 1 (A8.enc .u8 r631) rfl ag24 rfl rfl rfl ?_
              refine s_call [.agg (List.toArray (A8.enc .u8 r700)), .agg (List.toArray (A8.enc .u8 r631))] _ Try.func17 rfl rfl rfl (c_laws_eqMonomial r700 r631 h _) (fun ret705 w707 hR706 => ?_)
              obtain ⟨r708, rfl, h, hB709⟩ := hR706
              refine ⟨_, rfl, ?_⟩
              replace hC := hC.grow hB709
              refine s_not rfl ?_
              refine s_mv (v := .bool (!r708)) rfl ?_
              refine bsplit (!r708) (fun hb710 => ?_) (fun hb710 => ?_)
              · replace h := ift h (ne_t (not_t hb710))
                refine guardOff (b := true) 4 44 rfl (tr rfl (congrArg _ hb710)) (by decide) ?_
                refine guardOff (b := true) 4 44 rfl (tr rfl (congrArg _ hb710)) (by decide) ?_
                refine guardOff (b := true) 4 44 rfl (tr rfl (congrArg _ hb710)) (by decide) ?_
                refine s_pick (v := .bool true) (b := true) (tr rfl (congrArg _ hb710)) rfl ?_
                refine s_mv (v := .bool true) rfl ?_
                refine guardOff (b := true) 9 49 rfl (tr rfl (congrArg _ rfl)) (by decide) ?_
                refine guardOff (b := true) 9 49 rfl (tr rfl (congrArg _ rfl)) (by decide) ?_
                refine guardOff (b := true) 9 49 rfl (tr rfl (congrArg _ rfl)) (by decide) ?_
                refine s_pick (v := .bool true) (b := true) rfl rfl ?_
                refine done ?_
                refine then_norm ?_
                refine cw_true rfl rfl ?_
                refine wp_seq ?_
                refine cw_region ?_
                refine s_as (v := .bool false) rfl ?_
                refine done ?_
                refine then_norm ?_
                refine wp_ret (then_ret ?_)
                refine ret1 (fn := Try.f3) rfl ?_ ⟨false, rfl, h, hC.below⟩ (.inl rfl)
                exact res_tmp rfl
              · replace h := iff_ h (not_not_intro ((not_f hb710)))
                refine guardOn 4 44 rfl rfl hb710 ?_
                refine s_mv (v := .int .i64 r701) rfl ?_
                refine guardOn 4 44 rfl rfl hb710 ?_
                refine s_mv (v := .int .i64 r632) rfl ?_
                refine guardOn 4 44 rfl rfl hb710 ?_
                refine s_neq rfl rfl ?_
                refine s_pick (v := .bool (decide (r701 ≠ r632))) (b := false) (tr rfl (congrArg _ hb710)) rfl ?_
                refine s_mv (v := .bool (decide (r701 ≠ r632))) rfl ?_
                refine bsplit (decide (r701 ≠ r632)) (fun hb711 => ?_) (fun hb711 => ?_)
                · replace h := ift h (ct hb711)
                  refine guardOff (b := true) 9 49 rfl (tr rfl (congrArg _ hb711)) (by decide) ?_
                  refine guardOff (b := true) 9 49 rfl (tr rfl (congrArg _ hb711)) (by decide) ?_
                  refine guardOff (b := true) 9 49 rfl (tr rfl (congrArg _ hb711)) (by decide) ?_
                  refine s_pick (v := .bool true) (b := true) (tr rfl (congrArg _ hb711)) rfl ?_
                  refine done ?_
                  refine then_norm ?_
                  refine cw_true rfl rfl ?_
                  refine wp_seq ?_
                  refine cw_region ?_
                  refine s_as (v := .bool false) rfl ?_
                  refine done ?_
                  refine then_norm ?_
                  refine wp_ret (then_ret ?_)
                  refine ret1 (fn := Try.f3) rfl ?_ ⟨false, rfl, h, hC.below⟩ (.inl rfl)
                  exact res_tmp rfl
                · replace h := iff_ h (cf hb711)
                  refine guardOn 9 49 rfl rfl hb711 ?_
                  refine s_mv (v := .int .i64 r702) rfl ?_
                  refine guardOn 9 49 rfl rfl hb711 ?_
                  refine s_mv (v := .int .i64 r633) rfl ?_
                  refine guardOn 9 49 rfl rfl hb711 ?_
                  refine s_neq rfl rfl ?_
                  refine s_pick (v := .bool (decide (r702 ≠ r633))) (b := false) (tr rfl (congrArg _ hb711)) rfl ?_
                  refine done ?_
                  refine then_norm ?_
                  refine cw_cond rfl (fun hb712 => ?_) (fun hb712 => ?_)
                  · replace h := ift h (ct hb712)
                    refine wp_seq ?_
                    refine cw_region ?_
                    refine s_as (v := .bool false) rfl ?_
                    refine done ?_
                    refine then_norm ?_
                    refine wp_ret (then_ret ?_)
                    refine ret1 (fn := Try.f3) rfl ?_ ⟨false, rfl, h, hC.below⟩ (.inl rfl)
                    exact res_tmp rfl
                  · replace h := iff_ h (cf hb712)
                    refine wp_skip ?_
                    refine then_norm ?_
                    refine wp_seq ?_
                    refine wp_seq ?_
                    refine cw_region ?_
                    refine s_mv (v := u640) rfl ?_
                    refine s_mv (v := u0_0) rfl ?_
                    refine s_call [u0_0] _ Try.func14 rfl rfl rfl (c_laws_toInt64S a0 h _ (hC.getP 2 rfl)) (fun ret713 w715 hR714 => ?_)
                    obtain ⟨r716, u717, f718, rfl, h, hr719, hf720, hB721⟩ := hR714
                    refine ⟨_, rfl, ?_⟩
                    have hs722 := fresh_on hC.size hf720
                    replace hC := hC.pushR hB721 (Ty.item ((EI .i64).ty.sl) r716 [u717] f718) hr719 (fun b hb => .inl (hf720 b hb))
                    refine s_call [u640, u717] _ Try.func18 rfl rfl rfl (c_laws_eqInt64S r639 r716 h _ (hC.getP 1 rfl) (hC.getP 0 rfl)) (fun ret724 w726 hR725 => ?_)
                    obtain ⟨r727, rfl, h, hB728⟩ := hR725
                    refine ⟨_, rfl, ?_⟩
                    replace hC := hC.grow hB728
                    refine s_not rfl ?_
                    refine done ?_
                    refine then_norm ?_
                    refine cw_cond rfl (fun hb729 => ?_) (fun hb729 => ?_)
                    · replace h := ift h (ne_t (not_t hb729))
                      refine wp_seq ?_
                      refine cw_region ?_
                      refine s_as (v := .bool false) rfl ?_
                      refine done ?_
                      refine then_norm ?_
                      refine wp_ret (then_ret ?_)
                      refine ret1 (fn := Try.f3) rfl ?_ ⟨false, rfl, h, hC.below⟩ (.inl rfl)
                      exact res_tmp rfl
                    · replace h := iff_ h (not_not_intro ((not_f hb729)))
                      refine wp_skip ?_
                      refine then_norm ?_
                      refine wp_seq ?_
                      refine cw_region ?_
                      refine s_as (v := .bool true) rfl ?_
                      refine done ?_
                      refine then_norm ?_
                      refine wp_ret ?_
                      refine ret1 (fn := Try.f3) rfl ?_ ⟨true, rfl, h, hC.below⟩ (.inl rfl)
                      exact res_tmp rfl
          · skip
            refine s_alloc hC (A8.enc .u8 A8.zero) z24 rfl fun b730 w732 hB_ hC => ?_
            refine done ?_
            refine ak_intro (by assumption) (listed' := (List.toArray [true, true, true, true, false, false, false, false, false, false, true, false, false, false])) rfl ?_
            refine ae_one 4 rfl (by kernel_rfl) ?_
            refine s_call [.agg (List.toArray (A8.enc .u8 a2))] _ Try.func15 rfl rfl rfl (c_laws_toMonomial a2 h _) (fun ret733 w735 hR734 => ?_)
            obtain ⟨r736, rfl, h, hB737⟩ := hR734
            refine ⟨_, rfl, ?_⟩
            replace hC := hC.grow hB737
            refine done ?_
            refine ak_intro (by assumption) (listed' := (List.toArray [true, true, true, true, true, false, false, false, false, false, true, false, false, false])) rfl ?_
            refine ae_one 5 rfl (by kernel_rfl) ?_
            refine s_call [u640, .agg (List.toArray (A8.enc .u8 r651)), .agg (List.toArray (A8.enc .u8 r736))] _ Try.func16 rfl rfl rfl (c_impl_MultiplyMonomials r639 r651 r736 h _ (hC.getP 0 rfl)) (fun ret738 w740 hR739 => ?_)
            obtain ⟨r741, r742, r743, rfl, h, hB744⟩ := hR739
            refine ⟨_, rfl, ?_⟩
            replace hC := hC.grow hB744
            refine done ?_
            refine ak_intro (by assumption) (listed' := (List.toArray [true, true, true, true, true, true, false, false, false, false, true, false, false, false])) rfl ?_
            refine ae_lookF 6 (.tuple #[.agg (List.toArray (A8.enc .u8 r741)), .int .i64 r742, .int .i64 r743]) rfl rfl (by kernel_rfl) (by kernel_rfl) (by kernel_rfl) (fun w_ => .inl ⟨rfl, by exact r_mv (v := .tuple #[.agg (List.toArray (A8.enc .u8 r741)), .int .i64 r742, .int .i64 r743]) rfl⟩) (listed' := (List.toArray [true, true, true, true, true, true, true, false, false, false, true, false, false, false])) rfl ?_
            refine ae_lookF 7 (.agg (List.toArray (A8.enc .u8 r741))) rfl rfl (by kernel_rfl) (by kernel_rfl) (by kernel_rfl) (fun w_ => .inl ⟨rfl, by exact r_ext (v := .agg (List.toArray (A8.enc .u8 r741))) rfl rfl⟩) (listed' := (List.toArray [true, true, true, true, true, true, true, true, false, false, true, false, false, false])) rfl ?_
            refine ae_lookF 8 (.int .i64 r742) rfl rfl (by kernel_rfl) (by kernel_rfl) (by kernel_rfl) (fun w_ => .inl ⟨rfl, by exact r_ext (v := .int .i64 r742) rfl rfl⟩) (listed' := (List.toArray [true, true, true, true, true, true, true, true, true, false, true, false, false, false])) rfl ?_
            refine ae_lookF 9 (.int .i64 r743) rfl rfl (by kernel_rfl) (by kernel_rfl) (by kernel_rfl) (fun w_ => .inl ⟨rfl, by exact r_ext (v := .int .i64 r743) rfl rfl⟩) (listed' := (List.toArray [true, true, true, true, true, true, true, true, true, true, true, false, false, false])) rfl ?_
            refine ae_one 11 rfl (by kernel_rfl) ?_
            refine s_store (v := .agg (List.toArray (A8.enc .u8 r741))) hC 0 (A8.enc .u8 r741) (A8.enc .u8 r741) rfl ag24.size rfl rfl rfl rfl rfl (Nat.le_of_ble_eq_true rfl) rfl fun w745 hC => ?_
            refine done ?_
            refine ak_introN (by decide) (listed' := (List.toArray [true, true, true, true, true, true, true, true, true, true, true, true, false, false])) rfl ?_
            refine ae_lookF 12 (.int .i64 r742) rfl rfl (by kernel_rfl) (by kernel_rfl) (by kernel_rfl) (fun w_ => .inl ⟨rfl, by exact r_as (v := .int .i64 r742) rfl⟩) (listed' := (List.toArray [true, true, true, true, true, true, true, true, true, true, true, true, true, false])) rfl ?_
            refine ae_tail 13 (by decide) (by decide) (by kernel_rfl) rfl rfl ?_
            refine s_as (v := .int .i64 r743) rfl ?_
            refine done ?_
            refine qn_norm ?_
            refine then_norm ?_
            refine wp_seq ?_
            refine wp_seq ?_
            refine cw_region ?_
            refine s_loadA hC 0 (A8.enc .u8 r741) rfl ag24 rfl rfl rfl ?_
            refine s_loadA hC 1 (A8.enc .u8 r631) rfl ag24 rfl rfl rfl ?_
            refine s_call [.agg (List.toArray (A8.enc .u8 r741)), .agg (List.toArray (A8.enc .u8 r631))] _ Try.func17 rfl rfl rfl (c_laws_eqMonomial r741 r631 h _) (fun ret746 w748 hR747 => ?_)
            obtain ⟨r749, rfl, h, hB750⟩ := hR747
            refine ⟨_, rfl, ?_⟩
            replace hC := hC.grow hB750
            refine s_not rfl ?_
            refine s_mv (v := .bool (!r749)) rfl ?_
            refine bsplit (!r749) (fun hb751 => ?_) (fun hb751 => ?_)
            · replace h := ift h (ne_t (not_t hb751))
              refine guardOff (b := true) 4 44 rfl (tr rfl (congrArg _ hb751)) (by decide) ?_
              refine guardOff (b := true) 4 44 rfl (tr rfl (congrArg _ hb751)) (by decide) ?_
              refine guardOff (b := true) 4 44 rfl (tr rfl (congrArg _ hb751)) (by decide) ?_
              refine s_pick (v := .bool true) (b := true) (tr rfl (congrArg _ hb751)) rfl ?_
              refine s_mv (v := .bool true) rfl ?_
              refine guardOff (b := true) 9 49 rfl (tr rfl (congrArg _ rfl)) (by decide) ?_
              refine guardOff (b := true) 9 49 rfl (tr rfl (congrArg _ rfl)) (by decide) ?_
              refine guardOff (b := true) 9 49 rfl (tr rfl (congrArg _ rfl)) (by decide) ?_
              refine s_pick (v := .bool true) (b := true) rfl rfl ?_
              refine done ?_
              refine then_norm ?_
              refine cw_true rfl rfl ?_
              refine wp_seq ?_
              refine cw_region ?_
              refine s_as (v := .bool false) rfl ?_
              refine done ?_
              refine then_norm ?_
              refine wp_ret (then_ret ?_)
              refine ret1 (fn := Try.f3) rfl ?_ ⟨false, rfl, h, hC.below⟩ (.inl rfl)
              exact res_tmp rfl
            · replace h := iff_ h (not_not_intro ((not_f hb751)))
              refine guardOn 4 44 rfl rfl hb751 ?_
              refine s_mv (v := .int .i64 r742) rfl ?_
              refine guardOn 4 44 rfl rfl hb751 ?_
              refine s_mv (v := .int .i64 r632) rfl ?_
              refine guardOn 4 44 rfl rfl hb751 ?_
              refine s_neq rfl rfl ?_
              refine s_pick (v := .bool (decide (r742 ≠ r632))) (b := false) (tr rfl (congrArg _ hb751)) rfl ?_
              refine s_mv (v := .bool (decide (r742 ≠ r632))) rfl ?_
              refine bsplit (decide (r742 ≠ r632)) (fun hb752 => ?_) (fun hb752 => ?_)
              · replace h := ift h (ct hb752)
                refine guardOff (b := true) 9 49 rfl (tr rfl (congrArg _ hb752)) (by decide) ?_
                refine guardOff (b := true) 9 49 rfl (tr rfl (congrArg _ hb752)) (by decide) ?_
                refine guardOff (b := true) 9 49 rfl (tr rfl (congrArg _ hb752)) (by decide) ?_
                refine s_pick (v := .bool true) (b := true) (tr rfl (congrArg _ hb752)) rfl ?_
                refine done ?_
                refine then_norm ?_
                refine cw_true rfl rfl ?_
                refine wp_seq ?_
                refine cw_region ?_
                refine s_as (v := .bool false) rfl ?_
                refine done ?_
                refine then_norm ?_
                refine wp_ret (then_ret ?_)
                refine ret1 (fn := Try.f3) rfl ?_ ⟨false, rfl, h, hC.below⟩ (.inl rfl)
                exact res_tmp rfl
              · replace h := iff_ h (cf hb752)
                refine guardOn 9 49 rfl rfl hb752 ?_
                refine s_mv (v := .int .i64 r743) rfl ?_
                refine guardOn 9 49 rfl rfl hb752 ?_
                refine s_mv (v := .int .i64 r633) rfl ?_
                refine guardOn 9 49 rfl rfl hb752 ?_
                refine s_neq rfl rfl ?_
                refine s_pick (v := .bool (decide (r743 ≠ r633))) (b := false) (tr rfl (congrArg _ hb752)) rfl ?_
                refine done ?_
                refine then_norm ?_
                refine cw_cond rfl (fun hb753 => ?_) (fun hb753 => ?_)
                · replace h := ift h (ct hb753)
                  refine wp_seq ?_
                  refine cw_region ?_
                  refine s_as (v := .bool false) rfl ?_
                  refine done ?_
                  refine then_norm ?_
                  refine wp_ret (then_ret ?_)
                  refine ret1 (fn := Try.f3) rfl ?_ ⟨false, rfl, h, hC.below⟩ (.inl rfl)
                  exact res_tmp rfl
                · replace h := iff_ h (cf hb753)
                  refine wp_skip ?_
                  refine then_norm ?_
                  refine wp_seq ?_
                  refine wp_seq ?_
                  refine cw_region ?_
                  refine s_mv (v := u640) rfl ?_
                  refine s_mv (v := u0_0) rfl ?_
                  refine s_call [u0_0] _ Try.func14 rfl rfl rfl (c_laws_toInt64S a0 h _ (hC.getP 2 rfl)) (fun ret754 w756 hR755 => ?_)
                  obtain ⟨r757, u758, f759, rfl, h, hr760, hf761, hB762⟩ := hR755
                  refine ⟨_, rfl, ?_⟩
                  have hs763 := fresh_on hC.size hf761
                  replace hC := hC.pushR hB762 (Ty.item ((EI .i64).ty.sl) r757 [u758] f759) hr760 (fun b hb => .inl (hf761 b hb))
                  refine s_call [u640, u758] _ Try.func18 rfl rfl rfl (c_laws_eqInt64S r639 r757 h _ (hC.getP 1 rfl) (hC.getP 0 rfl)) (fun ret765 w767 hR766 => ?_)
                  obtain ⟨r768, rfl, h, hB769⟩ := hR766
                  refine ⟨_, rfl, ?_⟩
                  replace hC := hC.grow hB769
                  refine s_not rfl ?_
                  refine done ?_
                  refine then_norm ?_
                  refine cw_cond rfl (fun hb770 => ?_) (fun hb770 => ?_)
                  · replace h := ift h (ne_t (not_t hb770))
                    refine wp_seq ?_
                    refine cw_region ?_
                    refine s_as (v := .bool false) rfl ?_
                    refine done ?_
                    refine then_norm ?_
                    refine wp_ret (then_ret ?_)
                    refine ret1 (fn := Try.f3) rfl ?_ ⟨false, rfl, h, hC.below⟩ (.inl rfl)
                    exact res_tmp rfl
                  · replace h := iff_ h (not_not_intro ((not_f hb770)))
                    refine wp_skip ?_
                    refine then_norm ?_
                    refine wp_seq ?_
                    refine cw_region ?_
                    refine s_as (v := .bool true) rfl ?_
                    refine done ?_
                    refine then_norm ?_
                    refine wp_ret ?_
                    refine ret1 (fn := Try.f3) rfl ?_ ⟨true, rfl, h, hC.below⟩ (.inl rfl)
                    exact res_tmp rfl
        · skip
          refine s_alloc hC (A8.enc .u8 A8.zero) z24 rfl fun b771 w773 hB_ hC => ?_
          refine done ?_
          refine ak_intro (by assumption) (listed' := (List.toArray [true, true, false, true, false, false, false, false, false, false, true, false, false, false])) rfl ?_
          refine ae_one 2 rfl (by kernel_rfl) ?_
          refine s_call [.agg (List.toArray (A8.enc .u8 a1))] _ Try.func15 rfl rfl rfl (c_laws_toMonomial a1 h _) (fun ret774 w776 hR775 => ?_)
          obtain ⟨r777, rfl, h, hB778⟩ := hR775
          refine ⟨_, rfl, ?_⟩
          replace hC := hC.grow hB778
          refine done ?_
          refine ak_intro (by assumption) (listed' := (List.toArray [true, true, true, true, false, false, false, false, false, false, true, false, false, false])) rfl ?_
          refine ae_one 4 rfl (by kernel_rfl) ?_
          refine s_call [.agg (List.toArray (A8.enc .u8 a2))] _ Try.func15 rfl rfl rfl (c_laws_toMonomial a2 h _) (fun ret779 w781 hR780 => ?_)
          obtain ⟨r782, rfl, h, hB783⟩ := hR780
          refine ⟨_, rfl, ?_⟩
          replace hC := hC.grow hB783
          refine done ?_
          refine ak_intro (by assumption) (listed' := (List.toArray [true, true, true, true, true, false, false, false, false, false, true, false, false, false])) rfl ?_
          refine ae_one 5 rfl (by kernel_rfl) ?_
          refine s_call [u640, .agg (List.toArray (A8.enc .u8 r777)), .agg (List.toArray (A8.enc .u8 r782))] _ Try.func16 rfl rfl rfl (c_impl_MultiplyMonomials r639 r777 r782 h _ (hC.getP 0 rfl)) (fun ret784 w786 hR785 => ?_)
          obtain ⟨r787, r788, r789, rfl, h, hB790⟩ := hR785
          refine ⟨_, rfl, ?_⟩
          replace hC := hC.grow hB790
          refine done ?_
          refine ak_intro (by assumption) (listed' := (List.toArray [true, true, true, true, true, true, false, false, false, false, true, false, false, false])) rfl ?_
          refine ae_lookF 6 (.tuple #[.agg (List.toArray (A8.enc .u8 r787)), .int .i64 r788, .int .i64 r789]) rfl rfl (by kernel_rfl) (by kernel_rfl) (by kernel_rfl) (fun w_ => .inl ⟨rfl, by exact r_mv (v := .tuple #[.agg (List.toArray (A8.enc .u8 r787)), .int .i64 r788, .int .i64 r789]) rfl⟩) (listed' := (List.toArray [true, true, true, true, true, true, true, false, false, false, true, false, false, false])) rfl ?_
          refine ae_lookF 7 (.agg (List.toArray (A8.enc .u8 r787))) rfl rfl (by kernel_rfl) (by kernel_rfl) (by kernel_rfl) (fun w_ => .inl ⟨rfl, by exact r_ext (v := .agg (List.toArray (A8.enc .u8 r787))) rfl rfl⟩) (listed' := (List.toArray [true, true, true, true, true, true, true, true, false, false, true, false, false, false])) rfl ?_
          refine ae_lookF 8 (.int .i64 r788) rfl rfl (by kernel_rfl) (by kernel_rfl) (by kernel_rfl) (fun w_ => .inl ⟨rfl, by exact r_ext (v := .int .i64 r788) rfl rfl⟩) (listed' := (List.toArray [true, true, true, true, true, true, true, true, true, false, true, false, false, false])) rfl ?_
          refine ae_lookF 9 (.int .i64 r789) rfl rfl (by kernel_rfl) (by kernel_rfl) (by kernel_rfl) (fun w_ => .inl ⟨rfl, by exact r_ext (v := .int .i64 r789) rfl rfl⟩) (listed' := (List.toArray [true, true, true, true, true, true, true, true, true, true, true, false, false, false])) rfl ?_
          refine ae_one 11 rfl (by kernel_rfl) ?_
          refine s_store (v := .agg (List.toArray (A8.enc .u8 r787))) hC 0 (A8.enc .u8 r787) (A8.enc .u8 r787) rfl ag24.size rfl rfl rfl rfl rfl (Nat.le_of_ble_eq_true rfl) rfl fun w791 hC => ?_
          refine done ?_
          refine ak_introN (by decide) (listed' := (List.toArray [true, true, true, true, true, true, true, true, true, true, true, true, false, false])) rfl ?_
          refine ae_lookF 12 (.int .i64 r788) rfl rfl (by kernel_rfl) (by kernel_rfl) (by kernel_rfl) (fun w_ => .inl ⟨rfl, by exact r_as (v := .int .i64 r788) rfl⟩) (listed' := (List.toArray [true, true, true, true, true, true, true, true, true, true, true, true, true, false])) rfl ?_
          refine ae_tail 13 (by decide) (by decide) (by kernel_rfl) rfl rfl ?_
          refine s_as (v := .int .i64 r789) rfl ?_
          refine done ?_
          refine qn_norm ?_
          refine then_norm ?_
          refine wp_seq ?_
          refine wp_seq ?_
          refine cw_region ?_
          refine s_loadA hC 0 (A8.enc .u8 r787) rfl ag24 rfl rfl rfl ?_
          refine s_loadA hC 1 (A8.enc .u8 r631) rfl ag24 rfl rfl rfl ?_
          refine s_call [.agg (List.toArray (A8.enc .u8 r787)), .agg (List.toArray (A8.enc .u8 r631))] _ Try.func17 rfl rfl rfl (c_laws_eqMonomial r787 r631 h _) (fun ret792 w794 hR793 => ?_)
          obtain ⟨r795, rfl, h, hB796⟩ := hR793
          refine ⟨_, rfl, ?_⟩
          replace hC := hC.grow hB796
          refine s_not rfl ?_
          refine s_mv (v := .bool (!r795)) rfl ?_
          refine bsplit (!r795) (fun hb797 => ?_) (fun hb797 => ?_)
          · replace h := ift h (ne_t (not_t hb797))
            refine guardOff (b := true) 4 44 rfl (tr rfl (congrArg _ hb797)) (by decide) ?_
            refine guardOff (b := true) 4 44 rfl (tr rfl (congrArg _ hb797)) (by decide) ?_
            refine guardOff (b := true) 4 44 rfl (tr rfl (congrArg _ hb797)) (by decide) ?_
            refine s_pick (v := .bool true) (b := true) (tr rfl (congrArg _ hb797)) rfl ?_
            refine s_mv (v := .bool true) rfl ?_
            refine guardOff (b := true) 9 49 rfl (tr rfl (congrArg _ rfl)) (by decide) ?_
            refine guardOff (b := true) 9 49 rfl (tr rfl (congrArg _ rfl)) (by decide) ?_
            refine guardOff (b := true) 9 49 rfl (tr rfl (congrArg _ rfl)) (by decide) ?_
            refine s_pick (v := .bool true) (b := true) rfl rfl ?_
            refine done ?_
            refine then_norm ?_
            refine cw_true rfl rfl ?_
            refine wp_seq ?_
            refine cw_region ?_
            refine s_as (v := .bool false) rfl ?_
            refine done ?_
            refine then_norm ?_
            refine wp_ret (then_ret ?_)
            refine ret1 (fn := Try.f3) rfl ?_ ⟨false, rfl, h, hC.below⟩ (.inl rfl)
            exact res_tmp rfl
          · replace h := iff_ h (not_not_intro ((not_f hb797)))
            refine guardOn 4 44 rfl rfl hb797 ?_
            refine s_mv (v := .int .i64 r788) rfl ?_
            refine guardOn 4 44 rfl rfl hb797 ?_
            refine s_mv (v := .int .i64 r632) rfl ?_
            refine guardOn 4 44 rfl rfl hb797 ?_
            refine s_neq rfl rfl ?_
            refine s_pick (v := .bool (decide (r788 ≠ r632))) (b := false) (tr rfl (congrArg _ hb797)) rfl ?_
            refine s_mv (v := .bool (decide (r788 ≠ r632))) rfl ?_
            refine bsplit (decide (r788 ≠ r632)) (fun hb798 => ?_) (fun hb798 => ?_)
            · replace h := ift h (ct hb798)
              refine guardOff (b := true) 9 49 rfl (tr rfl (congrArg _ hb798)) (by decide) ?_
              refine guardOff (b := true) 9 49 rfl (tr rfl (congrArg _ hb798)) (by decide) ?_
              refine guardOff (b := true) 9 49 rfl (tr rfl (congrArg _ hb798)) (by decide) ?_
              refine s_pick (v := .bool true) (b := true) (tr rfl (congrArg _ hb798)) rfl ?_
              refine done ?_
              refine then_norm ?_
              refine cw_true rfl rfl ?_
              refine wp_seq ?_
              refine cw_region ?_
              refine s_as (v := .bool false) rfl ?_
              refine done ?_
              refine then_norm ?_
              refine wp_ret (then_ret ?_)
              refine ret1 (fn := Try.f3) rfl ?_ ⟨false, rfl, h, hC.below⟩ (.inl rfl)
              exact res_tmp rfl
            · replace h := iff_ h (cf hb798)
              refine guardOn 9 49 rfl rfl hb798 ?_
              refine s_mv (v := .int .i64 r789) rfl ?_
              refine guardOn 9 49 rfl rfl hb798 ?_
              refine s_mv (v := .int .i64 r633) rfl ?_
              refine guardOn 9 49 rfl rfl hb798 ?_
              refine s_neq rfl rfl ?_
              refine s_pick (v := .bool (decide (r789 ≠ r633))) (b := false) (tr rfl (congrArg _ hb798)) rfl ?_
              refine done ?_
              refine then_norm ?_
              refine cw_cond rfl (fun hb799 => ?_) (fun hb799 => ?_)
              · replace h := ift h (ct hb799)
                refine wp_seq ?_
                refine cw_region ?_
                refine s_as (v := .bool false) rfl ?_
                refine done ?_
                refine then_norm ?_
                refine wp_ret (then_ret ?_)
                refine ret1 (fn := Try.f3) rfl ?_ ⟨false, rfl, h, hC.below⟩ (.inl rfl)
                exact res_tmp rfl
              · replace h := iff_ h (cf hb799)
                refine wp_skip ?_
                refine then_norm ?_
                refine wp_seq ?_
                refine wp_seq ?_
                refine cw_region ?_
                refine s_mv (v := u640) rfl ?_
                refine s_mv (v := u0_0) rfl ?_
                refine s_call [u0_0] _ Try.func14 rfl rfl rfl (c_laws_toInt64S a0 h _ (hC.getP 2 rfl)) (fun ret800 w802 hR801 => ?_)
                obtain ⟨r803, u804, f805, rfl, h, hr806, hf807, hB808⟩ := hR801
                refine ⟨_, rfl, ?_⟩
                have hs809 := fresh_on hC.size hf807
                replace hC := hC.pushR hB808 (Ty.item ((EI .i64).ty.sl) r803 [u804] f805) hr806 (fun b hb => .inl (hf807 b hb))
                refine s_call [u640, u804] _ Try.func18 rfl rfl rfl (c_laws_eqInt64S r639 r803 h _ (hC.getP 1 rfl) (hC.getP 0 rfl)) (fun ret811 w813 hR812 => ?_)
                obtain ⟨r814, rfl, h, hB815⟩ := hR812
                refine ⟨_, rfl, ?_⟩
                replace hC := hC.grow hB815
                refine s_not rfl ?_
                refine done ?_
                refine then_norm ?_
                refine cw_cond rfl (fun hb816 => ?_) (fun hb816 => ?_)
                · replace h := ift h (ne_t (not_t hb816))
                  refine wp_seq ?_
                  refine cw_region ?_
                  refine s_as (v := .bool false) rfl ?_
                  refine done ?_
                  refine then_norm ?_
                  refine wp_ret (then_ret ?_)
                  refine ret1 (fn := Try.f3) rfl ?_ ⟨false, rfl, h, hC.below⟩ (.inl rfl)
                  exact res_tmp rfl
                · replace h := iff_ h (not_not_intro ((not_f hb816)))
                  refine wp_skip ?_
                  refine then_norm ?_
                  refine wp_seq ?_
                  refine cw_region ?_
                  refine s_as (v := .bool true) rfl ?_
                  refine done ?_
                  refine then_norm ?_
                  refine wp_ret ?_
                  refine ret1 (fn := Try.f3) rfl ?_ ⟨true, rfl, h, hC.below⟩ (.inl rfl)
                  exact res_tmp rfl
    · skip
      refine s_alloc hC (A8.enc .u8 A8.zero) z24 rfl fun b817 w819 hB_ hC => ?_
      refine done ?_
      refine ak_intro (by assumption) (listed' := (List.toArray [true, false, true, false, true, false, false, false, false, false, false, true, false, false, false])) rfl ?_
      refine ae_one 1 rfl (by kernel_rfl) ?_
      refine s_call [u0_0] _ Try.func14 rfl rfl rfl (c_laws_toInt64S a0 h _ (hC.getP 0 rfl)) (fun ret820 w822 hR821 => ?_)
      obtain ⟨r823, u824, f825, rfl, h, hr826, hf827, hB828⟩ := hR821
      refine ⟨_, rfl, ?_⟩
      have hs829 := fresh_on hC.size hf827
      replace hC := hC.pushR hB828 (Ty.item ((EI .i64).ty.sl) r823 [u824] f825) hr826 (fun b hb => .inl (hf827 b hb))
      refine done ?_
      refine ak_intro (by assumption) (listed' := (List.toArray [true, true, true, false, true, false, false, false, false, false, false, true, false, false, false])) rfl ?_
      refine ae_one 3 rfl (by kernel_rfl) ?_
      refine s_call [.agg (List.toArray (A8.enc .u8 a1))] _ Try.func15 rfl rfl rfl (c_laws_toMonomial a1 h _) (fun ret831 w833 hR832 => ?_)
      obtain ⟨r834, rfl, h, hB835⟩ := hR832
      refine ⟨_, rfl, ?_⟩
      replace hC := hC.grow hB835
      refine done ?_
      refine ak_intro (by assumption) (listed' := (List.toArray [true, true, true, true, true, false, false, false, false, false, false, true, false, false, false])) rfl ?_
      refine ae_one 5 rfl (by kernel_rfl) ?_
      refine s_call [.agg (List.toArray (A8.enc .u8 a2))] _ Try.func15 rfl rfl rfl (c_laws_toMonomial a2 h _) (fun ret836 w838 hR837 => ?_)
      obtain ⟨r839, rfl, h, hB840⟩ := hR837
      refine ⟨_, rfl, ?_⟩
      replace hC := hC.grow hB840
      refine done ?_
      refine ak_intro (by assumption) (listed' := (List.toArray [true, true, true, true, true, true, false, false, false, false, false, true, false, false, false])) rfl ?_
      refine ae_one 6 rfl (by kernel_rfl) ?_
      refine s_call [u824, .agg (List.toArray (A8.enc .u8 r834)), .agg (List.toArray (A8.enc .u8 r839))] _ Try.func13 rfl rfl rfl (c_spec_MultiplyMonomials r823 r834 r839 h _ (hC.getP 0 rfl)) (fun ret841 w843 hR842 => ?_)
      obtain ⟨r844, r845, r846, rfl, h, hB847⟩ := hR842
      refine ⟨_, rfl, ?_⟩
      replace hC := hC.grow hB847
      refine done ?_
      refine ak_intro (by assumption) (listed' := (List.toArray [true, true, true, true, true, true, true, false, false, false, false, true, false, false, false])) rfl ?_
      refine ae_lookF 7 (.tuple #[.agg (List.toArray (A8.enc .u8 r844)), .int .i64 r845, .int .i64 r846]) rfl rfl (by kernel_rfl) (by kernel_rfl) (by kernel_rfl) (fun w_ => .inl ⟨rfl, by exact r_mv (v := .tuple #[.agg (List.toArray (A8.enc .u8 r844)), .int .i64 r845, .int .i64 r846]) rfl⟩) (listed' := (List.toArray [true, true, true, true, true, true, true, true, false, false, false, true, false, false, false])) rfl ?_
      refine ae_lookF 8 (.agg (List.toArray (A8.enc .u8 r844))) rfl rfl (by kernel_rfl) (by kernel_rfl) (by kernel_rfl) (fun w_ => .inl ⟨rfl, by exact r_ext (v := .agg (List.toArray (A8.enc .u8 r844))) rfl rfl⟩) (listed' := (List.toArray [true, true, true, true, true, true, true, true, true, false, false, true, false, false, false])) rfl ?_
      refine ae_lookF 9 (.int .i64 r845) rfl rfl (by kernel_rfl) (by kernel_rfl) (by kernel_rfl) (fun w_ => .inl ⟨rfl, by exact r_ext (v := .int .i64 r845) rfl rfl⟩) (listed' := (List.toArray [true, true, true, true, true, true, true, true, true, true, false, true, false, false, false])) rfl ?_
      refine ae_lookF 10 (.int .i64 r846) rfl rfl (by kernel_rfl) (by kernel_rfl) (by kernel_rfl) (fun w_ => .inl ⟨rfl, by exact r_ext (v := .int .i64 r846) rfl rfl⟩) (listed' := (List.toArray [true, true, true, true, true, true, true, true, true, true, true, true, false, false, false])) rfl ?_
      refine ae_one 12 rfl (by kernel_rfl) ?_
      refine s_store (v := .agg (List.toArray (A8.enc .u8 r844))) hC 0 (A8.enc .u8 r844) (A8.enc .u8 r844) rfl ag24.size rfl rfl rfl rfl rfl (Nat.le_of_ble_eq_true rfl) rfl fun w848 hC => ?_
      refine done ?_
      refine ak_introN (by decide) (listed' := (List.toArray [true, true, true, true, true, true, true, true, true, true, true, true, true, false, false])) rfl ?_
      refine ae_lookF 13 (.int .i64 r845) rfl rfl (by kernel_rfl) (by kernel_rfl) (by kernel_rfl) (fun w_ => .inl ⟨rfl, by exact r_as (v := .int .i64 r845) rfl⟩) (listed' := (List.toArray [true, true, true, true, true, true, true, true, true, true, true, true, true, true, false])) rfl ?_
      refine ae_tail 14 (by decide) (by decide) (by kernel_rfl) rfl rfl ?_
      refine s_as (v := .int .i64 r846) rfl ?_
      refine done ?_
      refine qn_norm ?_
      refine then_norm ?_
      refine wp_seq ?_
      refine cw_region ?_
      refine s_mv (v := u0_0) rfl ?_
      refine s_call [u0_0] _ Try.func14 rfl rfl rfl (c_laws_toInt64S a0 h _ (hC.getP 1 rfl)) (fun ret849 w851 hR850 => ?_)
      obtain ⟨r852, u853, f854, rfl, h, hr855, hf856, hB857⟩ := hR850
      refine ⟨_, rfl, ?_⟩
      have hs858 := fresh_on hC.size hf856
      replace hC := hC.pushR hB857 (Ty.item ((EI .i64).ty.sl) r852 [u853] f854) hr855 (fun b hb => .inl (hf856 b hb))
      refine s_as (v := u853) rfl ?_
      refine done ?_
      refine then_norm ?_
      refine wp_seq ?_
      refine cw_draw 11 mixed (fun w860 hB_ => ?_)
      replace hC := hC.grow hB_
      refine ae_lookF 0 (u853) rfl rfl (by kernel_rfl) (by kernel_rfl) (by kernel_rfl) (fun w_ => .inl ⟨rfl, by exact r_mv (v := u853) rfl⟩) (listed' := (List.toArray [true, false, false, false, false, false, false, false, false, false, false, false, false, false])) rfl ?_
      refine ae_look 1 (.agg (List.toArray (A8.enc .u8 a1))) rfl rfl (by kernel_rfl) (by kernel_rfl) (by kernel_rfl) (fun w_ hB_ => .inl ⟨rfl, by exact r_loadA (hC.grow hB_) 2 (A8.enc .u8 a1) rfl ag23 rfl rfl rfl⟩) (listed' := (List.toArray [true, true, false, false, false, false, false, false, false, false, false, false, false, false])) rfl ?_
      refine ae_look 3 (.agg (List.toArray (A8.enc .u8 a2))) rfl rfl (by kernel_rfl) (by kernel_rfl) (by kernel_rfl) (fun w_ hB_ => .inl ⟨rfl, by exact r_loadA (hC.grow hB_) 1 (A8.enc .u8 a2) rfl ag23 rfl rfl rfl⟩) (listed' := (List.toArray [true, true, false, true, false, false, false, false, false, false, false, false, false, false])) rfl ?_
      refine ae_two 2 10 rfl rfl (by kernel_rfl) ?_ ?_
      · skip
        refine s_call [.agg (List.toArray (A8.enc .u8 a1))] _ Try.func15 rfl rfl rfl (c_laws_toMonomial a1 h _) (fun ret861 w863 hR862 => ?_)
        obtain ⟨r864, rfl, h, hB865⟩ := hR862
        refine ⟨_, rfl, ?_⟩
        replace hC := hC.grow hB865
        refine done ?_
        refine ak_intro (by assumption) (listed' := (List.toArray [true, true, true, true, false, false, false, false, false, false, false, false, false, false])) rfl ?_
        refine ae_two 4 10 rfl rfl (by kernel_rfl) ?_ ?_
        · skip
          refine s_call [.agg (List.toArray (A8.enc .u8 a2))] _ Try.func15 rfl rfl rfl (c_laws_toMonomial a2 h _) (fun ret866 w868 hR867 => ?_)
          obtain ⟨r869, rfl, h, hB870⟩ := hR867
          refine ⟨_, rfl, ?_⟩
          replace hC := hC.grow hB870
          refine done ?_
          refine ak_intro (by assumption) (listed' := (List.toArray [true, true, true, true, true, false, false, false, false, false, false, false, false, false])) rfl ?_
          refine ae_two 5 10 rfl rfl (by kernel_rfl) ?_ ?_
          · skip
            refine s_call [u853, .agg (List.toArray (A8.enc .u8 r864)), .agg (List.toArray (A8.enc .u8 r869))] _ Try.func16 rfl rfl rfl (c_impl_MultiplyMonomials r852 r864 r869 h _ (hC.getP 0 rfl)) (fun ret871 w873 hR872 => ?_)
            obtain ⟨r874, r875, r876, rfl, h, hB877⟩ := hR872
            refine ⟨_, rfl, ?_⟩
            replace hC := hC.grow hB877
            refine done ?_
            refine ak_intro (by assumption) (listed' := (List.toArray [true, true, true, true, true, true, false, false, false, false, false, false, false, false])) rfl ?_
            refine ae_lookF 6 (.tuple #[.agg (List.toArray (A8.enc .u8 r874)), .int .i64 r875, .int .i64 r876]) rfl rfl (by kernel_rfl) (by kernel_rfl) (by kernel_rfl) (fun w_ => .inl ⟨rfl, by exact r_mv (v := .tuple #[.agg (List.toArray (A8.enc .u8 r874)), .int .i64 r875, .int .i64 r876]) rfl⟩) (listed' := (List.toArray [true, true, true, true, true, true, true, false, false, false, false, false, false, false])) rfl ?_
            refine ae_lookF 7 (.agg (List.toArray (A8.enc .u8 r874))) rfl rfl (by kernel_rfl) (by kernel_rfl) (by kernel_rfl) (fun w_ => .inl ⟨rfl, by exact r_ext (v := .agg (List.toArray (A8.enc .u8 r874))) rfl rfl⟩) (listed' := (List.toArray [true, true, true, true, true, true, true, true, false, false, false, false, false, false])) rfl ?_
            refine ae_lookF 8 (.int .i64 r875) rfl rfl (by kernel_rfl) (by kernel_rfl) (by kernel_rfl) (fun w_ => .inl ⟨rfl, by exact r_ext (v := .int .i64 r875) rfl rfl⟩) (listed' := (List.toArray [true, true, true, true, true, true, true, true, true, false, false, false, false, false])) rfl ?_
            refine ae_lookF 9 (.int .i64 r876) rfl rfl (by kernel_rfl) (by kernel_rfl) (by kernel_rfl) (fun w_ => .inl ⟨rfl, by exact r_ext (v := .int .i64 r876) rfl rfl⟩) (listed' := (List.toArray [true, true, true, true, true, true, true, true, true, true, false, false, false, false])) rfl ?_
            refine ae_one 10 rfl (by kernel_rfl) ?_
            refine s_alloc hC (A8.enc .u8 A8.zero) z24 rfl fun b878 w880 hB_ hC => ?_
            refine done ?_
            refine ak_intro (by assumption) (listed' := (List.toArray [true, true, true, true, true, true, true, true, true, true, true, false, false, false])) rfl ?_
            refine ae_one 11 rfl (by kernel_rfl) ?_
            refine s_store (v := .agg (List.toArray (A8.enc .u8 r874))) hC 0 (A8.enc .u8 r874) (A8.enc .u8 r874) rfl ag24.size rfl rfl rfl rfl rfl (Nat.le_of_ble_eq_true rfl) rfl fun w881 hC => ?_
            refine done ?_
            refine ak_introN (by decide) (listed' := (List.toArray [true, true, true, true, true, true, true, true, true, true, true, true, false, false])) rfl ?_
            refine ae_lookF 12 (.int .i64 r875) rfl rfl (by kernel_rfl) (by kernel_rfl) (by kernel_rfl) (fun w_ => .inl ⟨rfl, by exact r_as (v := .int .i64 r875) rfl⟩) (listed' := (List.toArray [true, true, true, true, true, true, true, true, true, true, true, true, true, false])) rfl ?_
            refine ae_tail 13 (by decide) (by decide) (by kernel_rfl) rfl rfl ?_
            refine s_as (v := .int .i64 r876) rfl ?_
            refine done ?_
            refine qn_norm ?_
            refine then_norm ?_
            refine wp_seq ?_
            refine wp_seq ?_
            refine cw_region ?_
            refine s_loadA hC 0 (A8.enc .u8 r874) rfl ag24 rfl rfl rfl ?_
            refine s_loadA hC 1 (A8.enc .u8 r844) rfl ag24 rfl rfl rfl ?_
            refine s_call [.agg (List.toArray (A8.enc .u8 r874)), .agg (List.toArray (A8.enc .u8 r844))] _ Try.func17 rfl rfl rfl (c_laws_eqMonomial r874 r844 h _) (fun ret882 w884 hR883 => ?_)
            obtain ⟨r885, rfl, h, hB886⟩ := hR883
            refine ⟨_, rfl, ?_⟩
            replace hC := hC.grow hB886
            refine s_not rfl ?_
            refine s_mv (v := .bool (!r885)) rfl ?_
            refine bsplit (!r885) (fun hb887 => ?_) (fun hb887 => ?_)
            · replace h := ift h (ne_t (not_t hb887))
              refine guardOff (b := true) 4 44 rfl (tr rfl (congrArg _ hb887)) (by decide) ?_
              refine guardOff (b := true) 4 44 rfl (tr rfl (congrArg _ hb887)) (by decide) ?_
              refine guardOff (b := true) 4 44 rfl (tr rfl (congrArg _ hb887)) (by decide) ?_
              refine s_pick (v := .bool true) (b := true) (tr rfl (congrArg _ hb887)) rfl ?_
              refine s_mv (v := .bool true) rfl ?_
              refine guardOff (b := true) 9 49 rfl (tr rfl (congrArg _ rfl)) (by decide) ?_
              refine guardOff (b := true) 9 49 rfl (tr rfl (congrArg _ rfl)) (by decide) ?_
              refine guardOff (b := true) 9 49 rfl (tr rfl (congrArg _ rfl)) (by decide) ?_
              refine s_pick (v := .bool true) (b := true) rfl rfl ?_
              refine done ?_
              refine then_norm ?_
              refine cw_true rfl rfl ?_
              refine wp_seq ?_
              refine cw_region ?_
              refine s_as (v := .bool false) rfl ?_
              refine done ?_
              refine then_norm ?_
              refine wp_ret (then_ret ?_)
              refine ret1 (fn := Try.f3) rfl ?_ ⟨false, rfl, h, hC.below⟩ (.inl rfl)
              exact res_tmp rfl
            · replace h := iff_ h (not_not_intro ((not_f hb887)))
              refine guardOn 4 44 rfl rfl hb887 ?_
              refine s_mv (v := .int .i64 r875) rfl ?_
              refine guardOn 4 44 rfl rfl hb887 ?_
              refine s_mv (v := .int .i64 r845) rfl ?_
              refine guardOn 4 44 rfl rfl hb887 ?_
              refine s_neq rfl rfl ?_
              refine s_pick (v := .bool (decide (r875 ≠ r845))) (b := false) (tr rfl (congrArg _ hb887)) rfl ?_
              refine s_mv (v := .bool (decide (r875 ≠ r845))) rfl ?_
              refine bsplit (decide (r875 ≠ r845)) (fun hb888 => ?_) (fun hb888 => ?_)
              · replace h := ift h (ct hb888)
                refine guardOff (b := true) 9 49 rfl (tr rfl (congrArg _ hb888)) (by decide) ?_
                refine guardOff (b := true) 9 49 rfl (tr rfl (congrArg _ hb888)) (by decide) ?_
                refine guardOff (b := true) 9 49 rfl (tr rfl (congrArg _ hb888)) (by decide) ?_
                refine s_pick (v := .bool true) (b := true) (tr rfl (congrArg _ hb888)) rfl ?_
                refine done ?_
                refine then_norm ?_
                refine cw_true rfl rfl ?_
                refine wp_seq ?_
                refine cw_region ?_
                refine s_as (v := .bool false) rfl ?_
                refine done ?_
                refine then_norm ?_
                refine wp_ret (then_ret ?_)
                refine ret1 (fn := Try.f3) rfl ?_ ⟨false, rfl, h, hC.below⟩ (.inl rfl)
                exact res_tmp rfl
              · replace h := iff_ h (cf hb888)
                refine guardOn 9 49 rfl rfl hb888 ?_
                refine s_mv (v := .int .i64 r876) rfl ?_
                refine guardOn 9 49 rfl rfl hb888 ?_
                refine s_mv (v := .int .i64 r846) rfl ?_
                refine guardOn 9 49 rfl rfl hb888 ?_
                refine s_neq rfl rfl ?_
                refine s_pick (v := .bool (decide (r876 ≠ r846))) (b := false) (tr rfl (congrArg _ hb888)) rfl ?_
                refine done ?_
                refine then_norm ?_
                refine cw_cond rfl (fun hb889 => ?_) (fun hb889 => ?_)
                · replace h := ift h (ct hb889)
                  refine wp_seq ?_
                  refine cw_region ?_
                  refine s_as (v := .bool false) rfl ?_
                  refine done ?_
                  refine then_norm ?_
                  refine wp_ret (then_ret ?_)
                  refine ret1 (fn := Try.f3) rfl ?_ ⟨false, rfl, h, hC.below⟩ (.inl rfl)
                  exact res_tmp rfl
                · replace h := iff_ h (cf hb889)
                  refine wp_skip ?_
                  refine then_norm ?_
                  refine wp_seq ?_
                  refine wp_seq ?_
                  refine cw_region ?_
                  refine s_mv (v := u853) rfl ?_
                  refine s_mv (v := u0_0) rfl ?_
                  refine s_call [u0_0] _ Try.func14 rfl rfl rfl (c_laws_toInt64S a0 h _ (hC.getP 2 rfl)) (fun ret890 w892 hR891 => ?_)
                  obtain ⟨r893, u894, f895, rfl, h, hr896, hf897, hB898⟩ := hR891
                  refine ⟨_, rfl, ?_⟩
                  have hs899 := fresh_on hC.size hf897
                  replace hC := hC.pushR hB898 (Ty.item ((EI .i64).ty.sl) r893 [u894] f895) hr896 (fun b hb => .inl (hf897 b hb))
                  refine s_call [u853, u894] _ Try.func18 rfl rfl rfl (c_laws_eqInt64S r852 r893 h _ (hC.getP 1 rfl) (hC.getP 0 rfl)) (fun ret901 w903 hR902 => ?_)
                  obtain ⟨r904, rfl, h, hB905⟩ := hR902
                  refine ⟨_, rfl, ?_⟩
                  replace hC := hC.grow hB905
                  refine s_not rfl ?_
                  refine done ?_
                  refine then_norm ?_
                  refine cw_cond rfl (fun hb906 => ?_) (fun hb906 => ?_)
                  · replace h := ift h (ne_t (not_t hb906))
                    refine wp_seq ?_
                    refine cw_region ?_
                    refine s_as (v := .bool false) rfl ?_
                    refine done ?_
                    refine then_norm ?_
                    refine wp_ret (then_ret ?_)
                    refine ret1 (fn := Try.f3) rfl ?_ ⟨false, rfl, h, hC.below⟩ (.inl rfl)
                    exact res_tmp rfl
                  · replace h := iff_ h (not_not_intro ((not_f hb906)))
                    refine wp_skip ?_
                    refine then_norm ?_
                    refine wp_seq ?_
                    refine cw_region ?_
                    refine s_as (v := .bool true) rfl ?_
                    refine done ?_
                    refine then_norm ?_
                    refine wp_ret ?_
                    refine ret1 (fn := Try.f3) rfl ?_ ⟨true, rfl, h, hC.below⟩ (.inl rfl)
                    exact res_tmp rfl
          · skip
            refine s_alloc hC (A8.enc .u8 A8.zero) z24 rfl fun b907 w909 hB_ hC => ?_
            refine done ?_
            refine ak_intro (by assumption) (listed' := (List.toArray [true, true, true, true, true, false, false, false, false, false, true, false, false, false])) rfl ?_
            refine ae_one 5 rfl (by kernel_rfl) ?_
            refine s_call [u853, .agg (List.toArray (A8.enc .u8 r864)), .agg (List.toArray (A8.enc .u8 r869))] _ Try.func16 rfl rfl rfl (c_impl_MultiplyMonomials r852 r864 r869 h _ (hC.getP 0 rfl)) (fun ret910 w912 hR911 => ?_)
            obtain ⟨r913, r914, r915, rfl, h, hB916⟩ := hR911
            refine ⟨_, rfl, ?_⟩
            replace hC := hC.grow hB916
            refine done ?_
            refine ak_intro (by assumption) (listed' := (List.toArray [true, true, true, true, true, true, false, false, false, false, true, false, false, false])) rfl ?_
            refine ae_lookF 6 (.tuple #[.agg (List.toArray (A8.enc .u8 r913)), .int .i64 r914, .int .i64 r915]) rfl rfl (by kernel_rfl) (by kernel_rfl) (by kernel_rfl) (fun w_ => .inl ⟨rfl, by exact r_mv (v := .tuple #[.agg (List.toArray (A8.enc .u8 r913)), .int .i64 r914, .int .i64 r915]) rfl⟩) (listed' := (List.toArray [true, true, true, true, true, true, true, false, false, false, true, false, false, false])) rfl ?_
            refine ae_lookF 7 (.agg (List.toArray (A8.enc .u8 r913))) rfl rfl (by kernel_rfl) (by kernel_rfl) (by kernel_rfl) (fun w_ => .inl ⟨rfl, by exact r_ext (v := .agg (List.toArray (A8.enc .u8 r913))) rfl rfl⟩) (listed' := (List.toArray [true, true, true, true, true, true, true, true, false, false, true, false, false, false])) rfl ?_
            refine ae_lookF 8 (.int .i64 r914) rfl rfl (by kernel_rfl) (by kernel_rfl) (by kernel_rfl) (fun w_ => .inl ⟨rfl, by exact r_ext (v := .int .i64 r914) rfl rfl⟩) (listed' := (List.toArray [true, true, true, true, true, true, true, true, true, false, true, false, false, false])) rfl ?_
            refine ae_lookF 9 (.int .i64 r915) rfl rfl (by kernel_rfl) (by kernel_rfl) (by kernel_rfl) (fun w_ => .inl ⟨rfl, by exact r_ext (v := .int .i64 r915) rfl rfl⟩) (listed' := (List.toArray [true, true, true, true, true, true, true, true, true, true, true, false, false, false])) rfl ?_
            refine ae_one 11 rfl (by kernel_rfl) ?_
            refine s_store (v := .agg (List.toArray (A8.enc .u8 r913))) hC 0 (A8.enc .u8 r913) (A8.enc .u8 r913) rfl ag24.size rfl rfl rfl rfl rfl (Nat.le_of_ble_eq_true rfl) rfl fun w917 hC => ?_
            refine done ?_
            refine ak_introN (by decide) (listed' := (List.toArray [true, true, true, true, true, true, true, true, true, true, true, true, false, false])) rfl ?_
            refine ae_lookF 12 (.int .i64 r914) rfl rfl (by kernel_rfl) (by kernel_rfl) (by kernel_rfl) (fun w_ => .inl ⟨rfl, by exact r_as (v := .int .i64 r914) rfl⟩) (listed' := (List.toArray [true, true, true, true, true, true, true, true, true, true, true, true, true, false])) rfl ?_
            refine ae_tail 13 (by decide) (by decide) (by kernel_rfl) rfl rfl ?_
            refine s_as (v := .int .i64 r915) rfl ?_
            refine done ?_
            refine qn_norm ?_
            refine then_norm ?_
            refine wp_seq ?_
            refine wp_seq ?_
            refine cw_region ?_
            refine s_loadA hC 0 (A8.enc .u8 r913) rfl ag24 rfl rfl rfl ?_
            refine s_loadA hC 1 (A8.enc .u8 r844) rfl ag24 rfl rfl rfl ?_
            refine s_call [.agg (List.toArray (A8.enc .u8 r913)), .agg (List.toArray (A8.enc .u8 r844))] _ Try.func17 rfl rfl rfl (c_laws_eqMonomial r913 r844 h _) (fun ret918 w920 hR919 => ?_)
            obtain ⟨r921, rfl, h, hB922⟩ := hR919
            refine ⟨_, rfl, ?_⟩
            replace hC := hC.grow hB922
            refine s_not rfl ?_
            refine s_mv (v := .bool (!r921)) rfl ?_
            refine bsplit (!r921) (fun hb923 => ?_) (fun hb923 => ?_)
            · replace h := ift h (ne_t (not_t hb923))
              refine guardOff (b := true) 4 44 rfl (tr rfl (congrArg _ hb923)) (by decide) ?_
              refine guardOff (b := true) 4 44 rfl (tr rfl (congrArg _ hb923)) (by decide) ?_
              refine guardOff (b := true) 4 44 rfl (tr rfl (congrArg _ hb923)) (by decide) ?_
              refine s_pick (v := .bool true) (b := true) (tr rfl (congrArg _ hb923)) rfl ?_
              refine s_mv (v := .bool true) rfl ?_
              refine guardOff (b := true) 9 49 rfl (tr rfl (congrArg _ rfl)) (by decide) ?_
              refine guardOff (b := true) 9 49 rfl (tr rfl (congrArg _ rfl)) (by decide) ?_
              refine guardOff (b := true) 9 49 rfl (tr rfl (congrArg _ rfl)) (by decide) ?_
              refine s_pick (v := .bool true) (b := true) rfl rfl ?_
              refine done ?_
              refine then_norm ?_
              refine cw_true rfl rfl ?_
              refine wp_seq ?_
              refine cw_region ?_
              refine s_as (v := .bool false) rfl ?_
              refine done ?_
              refine then_norm ?_
              refine wp_ret (then_ret ?_)
              refine ret1 (fn := Try.f3) rfl ?_ ⟨false, rfl, h, hC.below⟩ (.inl rfl)
              exact res_tmp rfl
            · replace h := iff_ h (not_not_intro ((not_f hb923)))
              refine guardOn 4 44 rfl rfl hb923 ?_
              refine s_mv (v := .int .i64 r914) rfl ?_
              refine guardOn 4 44 rfl rfl hb923 ?_
              refine s_mv (v := .int .i64 r845) rfl ?_
              refine guardOn 4 44 rfl rfl hb923 ?_
              refine s_neq rfl rfl ?_
              refine s_pick (v := .bool (decide (r914 ≠ r845))) (b := false) (tr rfl (congrArg _ hb923)) rfl ?_
              refine s_mv (v := .bool (decide (r914 ≠ r845))) rfl ?_
              refine bsplit (decide (r914 ≠ r845)) (fun hb924 => ?_) (fun hb924 => ?_)
              · replace h := ift h (ct hb924)
                refine guardOff (b := true) 9 49 rfl (tr rfl (congrArg _ hb924)) (by decide) ?_
                refine guardOff (b := true) 9 49 rfl (tr rfl (congrArg _ hb924)) (by decide) ?_
                refine guardOff (b := true) 9 49 rfl (tr rfl (congrArg _ hb924)) (by decide) ?_
                refine s_pick (v := .bool true) (b := true) (tr rfl (congrArg _ hb924)) rfl ?_
                refine done ?_
                refine then_norm ?_
                refine cw_true rfl rfl ?_
                refine wp_seq ?_
                refine cw_region ?_
                refine s_as (v := .bool false) rfl ?_
                refine done ?_
                refine then_norm ?_
                refine wp_ret (then_ret ?_)
                refine ret1 (fn := Try.f3) rfl ?_ ⟨false, rfl, h, hC.below⟩ (.inl rfl)
                exact res_tmp rfl
              · replace h := iff_ h (cf hb924)
                refine guardOn 9 49 rfl rfl hb924 ?_
                refine s_mv (v := .int .i64 r915) rfl ?_
                refine guardOn 9 49 rfl rfl hb924 ?_
                refine s_mv (v := .int .i64 r846) rfl ?_
                refine guardOn 9 49 rfl rfl hb924 ?_
                refine s_neq rfl rfl ?_
                refine s_pick (v := .bool (decide (r915 ≠ r846))) (b := false) (tr rfl (congrArg _ hb924)) rfl ?_
                refine done ?_
                refine then_norm ?_
                refine cw_cond rfl (fun hb925 => ?_) (fun hb925 => ?_)
                · replace h := ift h (ct hb925)
                  refine wp_seq ?_
                  refine cw_region ?_
                  refine s_as (v := .bool false) rfl ?_
                  refine done ?_
                  refine then_norm ?_
                  refine wp_ret (then_ret ?_)
                  refine ret1 (fn := Try.f3) rfl ?_ ⟨false, rfl, h, hC.below⟩ (.inl rfl)
                  exact res_tmp rfl
                · replace h := iff_ h (cf hb925)
                  refine wp_skip ?_
                  refine then_norm ?_
                  refine wp_seq ?_
                  refine wp_seq ?_
                  refine cw_region ?_
                  refine s_mv (v := u853) rfl ?_
                  refine s_mv (v := u0_0) rfl ?_
                  refine s_call [u0_0] _ Try.func14 rfl rfl rfl (c_laws_toInt64S a0 h _ (hC.getP 2 rfl)) (fun ret926 w928 hR927 => ?_)
                  obtain ⟨r929, u930, f931, rfl, h, hr932, hf933, hB934⟩ := hR927
                  refine ⟨_, rfl, ?_⟩
                  have hs935 := fresh_on hC.size hf933
                  replace hC := hC.pushR hB934 (Ty.item ((EI .i64).ty.sl) r929 [u930] f931) hr932 (fun b hb => .inl (hf933 b hb))
                  refine s_call [u853, u930] _ Try.func18 rfl rfl rfl (c_laws_eqInt64S r852 r929 h _ (hC.getP 1 rfl) (hC.getP 0 rfl)) (fun ret937 w939 hR938 => ?_)
                  obtain ⟨r940, rfl, h, hB941⟩ := hR938
                  refine ⟨_, rfl, ?_⟩
                  replace hC := hC.grow hB941
                  refine s_not rfl ?_
                  refine done ?_
                  refine then_norm ?_
                  refine cw_cond rfl (fun hb942 => ?_) (fun hb942 => ?_)
                  · replace h := ift h (ne_t (not_t hb942))
                    refine wp_seq ?_
                    refine cw_region ?_
                    refine s_as (v := .bool false) rfl ?_
                    refine done ?_
                    refine then_norm ?_
                    refine wp_ret (then_ret ?_)
                    refine ret1 (fn := Try.f3) rfl ?_ ⟨false, rfl, h, hC.below⟩ (.inl rfl)
                    exact res_tmp rfl
                  · replace h := iff_ h (not_not_intro ((not_f hb942)))
                    refine wp_skip ?_
                    refine then_norm ?_
                    refine wp_seq ?_
                    refine cw_region ?_
                    refine s_as (v := .bool true) rfl ?_
                    refine done ?_
                    refine then_norm ?_
                    refine wp_ret ?_
                    refine ret1 (fn := Try.f3) rfl ?_ ⟨true, rfl, h, hC.below⟩ (.inl rfl)
                    exact res_tmp rfl
        · skip
          refine s_alloc hC (A8.enc .u8 A8.zero) z24 rfl fun b943 w945 hB_ hC => ?_
          refine done ?_
          refine ak_intro (by assumption) (listed' := (List.toArray [true, true, true, true, false, false, false, false, false, false, true, false, false, false])) rfl ?_
          refine ae_one 4 rfl (by kernel_rfl) ?_
          refine s_call [.agg (List.toArray (A8.enc .u8 a2))] _ Try.func15 rfl rfl rfl (c_laws_toMonomial a2 h _) (fun ret946 w948 hR947 => ?_)
          obtain ⟨r949, rfl, h, hB950⟩ := hR947
          refine ⟨_, rfl, ?_⟩
          replace hC := hC.grow hB950
          refine done ?_
          refine ak_intro (by assumption) (listed' := (List.toArray [true, true, true, true, true, false, false, false, false, false, true, false, false, false])) rfl ?_
          refine ae_one 5 rfl (by kernel_rfl) ?_
          refine s_call [u853, .agg (List.toArray (A8.enc .u8 r864)), .agg (List.toArray (A8.enc .u8 r949))] _ Try.func16 rfl rfl rfl (c_impl_MultiplyMonomials r852 r864 r949 h _ (hC.getP 0 rfl)) (fun ret951 w953 hR952 => ?_)
          obtain ⟨r954, r955, r956, rfl, h, hB957⟩ := hR952
          refine ⟨_, rfl, ?_⟩
          replace hC := hC.grow hB957
          refine done ?_
          refine ak_intro (by assumption) (listed' := (List.toArray [true, true, true, true, true, true, false, false, false, false, true, false, false, false])) rfl ?_
          refine ae_lookF 6 (.tuple #[.agg (List.toArray (A8.enc .u8 r954)), .int .i64 r955, .int .i64 r956]) rfl rfl (by kernel_rfl) (by kernel_rfl) (by kernel_rfl) (fun w_ => .inl ⟨rfl, by exact r_mv (v := .tuple #[.agg (List.toArray (A8.enc .u8 r954)), .int .i64 r955, .int .i64 r956]) rfl⟩) (listed' := (List.toArray [true, true, true, true, true, true, true, false, false, false, true, false, false, false])) rfl ?_
          refine ae_lookF 7 (.agg (List.toArray (A8.enc .u8 r954))) rfl rfl (by kernel_rfl) (by kernel_rfl) (by kernel_rfl) (fun w_ => .inl ⟨rfl, by exact r_ext (v := .agg (List.toArray (A8.enc .u8 r954))) rfl rfl⟩) (listed' := (List.toArray [true, true, true, true, true, true, true, true, false, false, true, false, false, false])) rfl ?_
          refine ae_lookF 8 (.int .i64 r955) rfl rfl (by kernel_rfl) (by kernel_rfl) (by kernel_rfl) (fun w_ => .inl ⟨rfl, by exact r_ext (v := .int .i64 r955) rfl rfl⟩) (listed' := (List.toArray [true, true, true, true, true, true, true, true, true, false, true, false, false, false])) rfl ?_
          refine ae_lookF 9 (.int .i64 r956) rfl rfl (by kernel_rfl) (by kernel_rfl) (by kernel_rfl) (fun w_ => .inl ⟨rfl, by exact r_ext (v := .int .i64 r956) rfl rfl⟩) (listed' := (List.toArray [true, true, true, true, true, true, true, true, true, true, true, false, false, false])) rfl ?_
          refine ae_one 11 rfl (by kernel_rfl) ?_
          refine s_store (v := .agg (List.toArray (A8.enc .u8 r954))) hC 0 (A8.enc .u8 r954) (A8.enc .u8 r954) rfl ag24.size rfl rfl rfl rfl rfl (Nat.le_of_ble_eq_true rfl) rfl fun w958 hC => ?_
          refine done ?_
          refine ak_introN (by decide) (listed' := (List.toArray [true, true, true, true, true, true, true, true, true, true, true, true, false, false])) rfl ?_
          refine ae_lookF 12 (.int .i64 r955) rfl rfl (by kernel_rfl) (by kernel_rfl) (by kernel_rfl) (fun w_ => .inl ⟨rfl, by exact r_as (v := .int .i64 r955) rfl⟩) (listed' := (List.toArray [true, true, true, true, true, true, true, true, true, true, true, true, true, false])) rfl ?_
          refine ae_tail 13 (by decide) (by decide) (by kernel_rfl) rfl rfl ?_
          refine s_as (v := .int .i64 r956) rfl ?_
          refine done ?_
          refine qn_norm ?_
          refine then_norm ?_
          refine wp_seq ?_
          refine wp_seq ?_
          refine cw_region ?_
          refine s_loadA hC 0 (A8.enc .u8 r954) rfl ag24 rfl rfl rfl ?_
          refine s_loadA hC 1 (A8.enc .u8 r844) rfl ag24 rfl rfl rfl ?_
          refine s_call [.agg (List.toArray (A8.enc .u8 r954)), .agg (List.toArray (A8.enc .u8 r844))] _ Try.func17 rfl rfl rfl (c_laws_eqMonomial r954 r844 h _) (fun ret959 w961 hR960 => ?_)
          obtain ⟨r962, rfl, h, hB963⟩ := hR960
          refine ⟨_, rfl, ?_⟩
          replace hC := hC.grow hB963
          refine s_not rfl ?_
          refine s_mv (v := .bool (!r962)) rfl ?_
          refine bsplit (!r962) (fun hb964 => ?_) (fun hb964 => ?_)
          · replace h := ift h (ne_t (not_t hb964))
            refine guardOff (b := true) 4 44 rfl (tr rfl (congrArg _ hb964)) (by decide) ?_
            refine guardOff (b := true) 4 44 rfl (tr rfl (congrArg _ hb964)) (by decide) ?_
            refine guardOff (b := true) 4 44 rfl (tr rfl (congrArg _ hb964)) (by decide) ?_
            refine s_pick (v := .bool true) (b := true) (tr rfl (congrArg _ hb964)) rfl ?_
            refine s_mv (v := .bool true) rfl ?_
            refine guardOff (b := true) 9 49 rfl (tr rfl (congrArg _ rfl)) (by decide) ?_
            refine guardOff (b := true) 9 49 rfl (tr rfl (congrArg _ rfl)) (by decide) ?_
            refine guardOff (b := true) 9 49 rfl (tr rfl (congrArg _ rfl)) (by decide) ?_
            refine s_pick (v := .bool true) (b := true) rfl rfl ?_
            refine done ?_
            refine then_norm ?_
            refine cw_true rfl rfl ?_
            refine wp_seq ?_
            refine cw_region ?_
            refine s_as (v := .bool false) rfl ?_
            refine done ?_
            refine then_norm ?_
            refine wp_ret (then_ret ?_)
            refine ret1 (fn := Try.f3) rfl ?_ ⟨false, rfl, h, hC.below⟩ (.inl rfl)
            exact res_tmp rfl
          · replace h := iff_ h (not_not_intro ((not_f hb964)))
            refine guardOn 4 44 rfl rfl hb964 ?_
            refine s_mv (v := .int .i64 r955) rfl ?_
            refine guardOn 4 44 rfl rfl hb964 ?_
            refine s_mv (v := .int .i64 r845) rfl ?_
            refine guardOn 4 44 rfl rfl hb964 ?_
            refine s_neq rfl rfl ?_
            refine s_pick (v := .bool (decide (r955 ≠ r845))) (b := false) (tr rfl (congrArg _ hb964)) rfl ?_
            refine s_mv (v := .bool (decide (r955 ≠ r845))) rfl ?_
            refine bsplit (decide (r955 ≠ r845)) (fun hb965 => ?_) (fun hb965 => ?_)
            · replace h := ift h (ct hb965)
              refine guardOff (b := true) 9 49 rfl (tr rfl (congrArg _ hb965)) (by decide) ?_
              refine guardOff (b := true) 9 49 rfl (tr rfl (congrArg _ hb965)) (by decide) ?_
              refine guardOff (b := true) 9 49 rfl (tr rfl (congrArg _ hb965)) (by decide) ?_
              refine s_pick (v := .bool true) (b := true) (tr rfl (congrArg _ hb965)) rfl ?_
              refine done ?_
              refine then_norm ?_
              refine cw_true rfl rfl ?_
              refine wp_seq ?_
              refine cw_region ?_
              refine s_as (v := .bool false) rfl ?_
              refine done ?_
              refine then_norm ?_
              refine wp_ret (then_ret ?_)
              refine ret1 (fn := Try.f3) rfl ?_ ⟨false, rfl, h, hC.below⟩ (.inl rfl)
              exact res_tmp rfl
            · replace h := iff_ h (cf hb965)
              refine guardOn 9 49 rfl rfl hb965 ?_
              refine s_mv (v := .int .i64 r956) rfl ?_
              refine guardOn 9 49 rfl rfl hb965 ?_
              refine s_mv (v := .int .i64 r846) rfl ?_
              refine guardOn 9 49 rfl rfl hb965 ?_
              refine s_neq rfl rfl ?_
              refine s_pick (v := .bool (decide (r956 ≠ r846))) (b := false) (tr rfl (congrArg _ hb965)) rfl ?_
              refine done ?_
              refine then_norm ?_
              refine cw_cond rfl (fun hb966 => ?_) (fun hb966 => ?_)
              · replace h := ift h (ct hb966)
                refine wp_seq ?_
                refine cw_region ?_
                refine s_as (v := .bool false) rfl ?_
                refine done ?_
                refine then_norm ?_
                refine wp_ret (then_ret ?_)
                refine ret1 (fn := Try.f3) rfl ?_ ⟨false, rfl, h, hC.below⟩ (.inl rfl)
                exact res_tmp rfl
              · replace h := iff_ h (cf hb966)
                refine wp_skip ?_
                refine then_norm ?_
                refine wp_seq ?_
                refine wp_seq ?_
                refine cw_region ?_
                refine s_mv (v := u853) rfl ?_
                refine s_mv (v := u0_0) rfl ?_
                refine s_call [u0_0] _ Try.func14 rfl rfl rfl (c_laws_toInt64S a0 h _ (hC.getP 2 rfl)) (fun ret967 w969 hR968 => ?_)
                obtain ⟨r970, u971, f972, rfl, h, hr973, hf974, hB975⟩ := hR968
                refine ⟨_, rfl, ?_⟩
                have hs976 := fresh_on hC.size hf974
                replace hC := hC.pushR hB975 (Ty.item ((EI .i64).ty.sl) r970 [u971] f972) hr973 (fun b hb => .inl (hf974 b hb))
                refine s_call [u853, u971] _ Try.func18 rfl rfl rfl (c_laws_eqInt64S r852 r970 h _ (hC.getP 1 rfl) (hC.getP 0 rfl)) (fun ret978 w980 hR979 => ?_)
                obtain ⟨r981, rfl, h, hB982⟩ := hR979
                refine ⟨_, rfl, ?_⟩
                replace hC := hC.grow hB982
                refine s_not rfl ?_
                refine done ?_
                refine then_norm ?_
                refine cw_cond rfl (fun hb983 => ?_) (fun hb983 => ?_)
                · replace h := ift h (ne_t (not_t hb983))
                  refine wp_seq ?_
                  refine cw_region ?_
                  refine s_as (v := .bool false) rfl ?_
                  refine done ?_
                  refine then_norm ?_
                  refine wp_ret (then_ret ?_)
                  refine ret1 (fn := Try.f3) rfl ?_ ⟨false, rfl, h, hC.below⟩ (.inl rfl)
                  exact res_tmp rfl
                · replace h := iff_ h (not_not_intro ((not_f hb983)))
                  refine wp_skip ?_
                  refine then_norm ?_
                  refine wp_seq ?_
                  refine cw_region ?_
                  refine s_as (v := .bool true) rfl ?_
                  refine done ?_
                  refine then_norm ?_
                  refine wp_ret ?_
                  refine ret1 (fn := Try.f3) rfl ?_ ⟨true, rfl, h, hC.below⟩ (.inl rfl)
                  exact res_tmp rfl
      · skip
        refine s_alloc hC (A8.enc .u8 A8.zero) z24 rfl fun b984 w986 hB_ hC => ?_
        refine done ?_
        refine ak_intro (by assumption) (listed' := (List.toArray [true, true, false, true, false, false, false, false, false, false, true, false, false, false])) rfl ?_
        refine ae_one 2 rfl (by kernel_rfl) ?_
        refine s_call [.agg (List.toArray (A8.enc .u8 a1))] _ Try.func15 rfl rfl rfl (c_laws_toMonomial a1 h _) (fun ret987 w989 hR988 => ?_)
        obtain ⟨r990, rfl, h, hB991⟩ := hR988
        refine ⟨_, rfl, ?_⟩
        replace hC := hC.grow hB991
        refine done ?_
        refine ak_intro (by assumption) (listed' := (List.toArray [true, true, true, true, false, false, false, false, false, false, true, false, false, false])) rfl ?_
        refine ae_one 4 rfl (by kernel_rfl) ?_
        refine s_call [.agg (List.toArray (A8.enc .u8 a2))] _ Try.func15 rfl rfl rfl (c_laws_toMonomial a2 h _) (fun ret992 w994 hR993 => ?_)
        obtain ⟨r995, rfl, h, hB996⟩ := hR993
        refine ⟨_, rfl, ?_⟩
        replace hC := hC.grow hB996
        refine done ?_
        refine ak_intro (by assumption) (listed' := (List.toArray [true, true, true, true, true, false, false, false, false, false, true, false, false, false])) rfl ?_
        refine ae_one 5 rfl (by kernel_rfl) ?_
        refine s_call [u853, .agg (List.toArray (A8.enc .u8 r990)), .agg (List.toArray (A8.enc .u8 r995))] _ Try.func16 rfl rfl rfl (c_impl_MultiplyMonomials r852 r990 r995 h _ (hC.getP 0 rfl)) (fun ret997 w999 hR998 => ?_)
        obtain ⟨r1000, r1001, r1002, rfl, h, hB1003⟩ := hR998
        refine ⟨_, rfl, ?_⟩
        replace hC := hC.grow hB1003
        refine done ?_
        refine ak_intro (by assumption) (listed' := (List.toArray [true, true, true, true, true, true, false, false, false, false, true, false, false, false])) rfl ?_
        refine ae_lookF 6 (.tuple #[.agg (List.toArray (A8.enc .u8 r1000)), .int .i64 r1001, .int .i64 r1002]) rfl rfl (by kernel_rfl) (by kernel_rfl) (by kernel_rfl) (fun w_ => .inl ⟨rfl, by exact r_mv (v := .tuple #[.agg (List.toArray (A8.enc .u8 r1000)), .int .i64 r1001, .int .i64 r1002]) rfl⟩) (listed' := (List.toArray [true, true, true, true, true, true, true, false, false, false, true, false, false, false])) rfl ?_
        refine ae_lookF 7 (.agg (List.toArray (A8.enc .u8 r1000))) rfl rfl (by kernel_rfl) (by kernel_rfl) (by kernel_rfl) (fun w_ => .inl ⟨rfl, by exact r_ext (v := .agg (List.toArray (A8.enc .u8 r1000))) rfl rfl⟩) (listed' := (List.toArray [true, true, true, true, true, true, true, true, false, false, true, false, false, false])) rfl ?_
        refine ae_lookF 8 (.int .i64 r1001) rfl rfl (by kernel_rfl) (by kernel_rfl) (by kernel_rfl) (fun w_ => .inl ⟨rfl, by exact r_ext (v := .int .i64 r1001) rfl rfl⟩) (listed' := (List.toArray [true, true, true, true, true, true, true, true, true, false, true, false, false, false])) rfl ?_
        refine ae_lookF 9 (.int .i64 r1002) rfl rfl (by kernel_rfl) (by kernel_rfl) (by kernel_rfl) (fun w_ => .inl ⟨rfl, by exact r_ext (v := .int .i64 r1002) rfl rfl⟩) (listed' := (List.toArray [true, true, true, true, true, true, true, true, true, true, true, false, false, false])) rfl ?_
        refine ae_one 11 rfl (by kernel_rfl) ?_
        refine s_store (v := .agg (List.toArray (A8.enc .u8 r1000))) hC 0 (A8.enc .u8 r1000) (A8.enc .u8 r1000) rfl ag24.size rfl rfl rfl rfl rfl (Nat.le_of_ble_eq_true rfl) rfl fun w1004 hC => ?_
        refine done ?_
        refine ak_introN (by decide) (listed' := (List.toArray [true, true, true, true, true, true, true, true, true, true, true, true, false, false])) rfl ?_
        refine ae_lookF 12 (.int .i64 r1001) rfl rfl (by kernel_rfl) (by kernel_rfl) (by kernel_rfl) (fun w_ => .inl ⟨rfl, by exact r_as (v := .int .i64 r1001) rfl⟩) (listed' := (List.toArray [true, true, true, true, true, true, true, true, true, true, true, true, true, false])) rfl ?_
        refine ae_tail 13 (by decide) (by decide) (by kernel_rfl) rfl rfl ?_
        refine s_as (v := .int .i64 r1002) rfl ?_
        refine done ?_
        refine qn_norm ?_
        refine then_norm ?_
        refine wp_seq ?_
        refine wp_seq ?_
        refine cw_region ?_
        refine s_loadA hC 0 (A8.enc .u8 r1000) rfl ag24 rfl rfl rfl ?_
        refine s_loadA hC 1 (A8.enc .u8 r844) rfl ag24 rfl rfl rfl ?_
        refine s_call [.agg (List.toArray (A8.enc .u8 r1000)), .agg (List.toArray (A8.enc .u8 r844))] _ Try.func17 rfl rfl rfl (c_laws_eqMonomial r1000 r844 h _) (fun ret1005 w1007 hR1006 => ?_)
        obtain ⟨r1008, rfl, h, hB1009⟩ := hR1006
        refine ⟨_, rfl, ?_⟩
        replace hC := hC.grow hB1009
        refine s_not rfl ?_
        refine s_mv (v := .bool (!r1008)) rfl ?_
        refine bsplit (!r1008) (fun hb1010 => ?_) (fun hb1010 => ?_)
        · replace h := ift h (ne_t (not_t hb1010))
          refine guardOff (b := true) 4 44 rfl (tr rfl (congrArg _ hb1010)) (by decide) ?_
          refine guardOff (b := true) 4 44 rfl (tr rfl (congrArg _ hb1010)) (by decide) ?_
          refine guardOff (b := true) 4 44 rfl (tr rfl (congrArg _ hb1010)) (by decide) ?_
          refine s_pick (v := .bool true) (b := true) (tr rfl (congrArg _ hb1010)) rfl ?_
          refine s_mv (v := .bool true) rfl ?_
          refine guardOff (b := true) 9 49 rfl (tr rfl (congrArg _ rfl)) (by decide) ?_
          refine guardOff (b := true) 9 49 rfl (tr rfl (congrArg _ rfl)) (by decide) ?_
          refine guardOff (b := true) 9 49 rfl (tr rfl (congrArg _ rfl)) (by decide) ?_
          refine s_pick (v := .bool true) (b := true) rfl rfl ?_
          refine done ?_
          refine then_norm ?_
          refine cw_true rfl rfl ?_
          refine wp_seq ?_
          refine cw_region ?_
          refine s_as (v := .bool false) rfl ?_
          refine done ?_
          refine then_norm ?_
          refine wp_ret (then_ret ?_)
          refine ret1 (fn := Try.f3) rfl ?_ ⟨false, rfl, h, hC.below⟩ (.inl rfl)
          exact res_tmp rfl
        · replace h := iff_ h (not_not_intro ((not_f hb1010)))
          refine guardOn 4 44 rfl rfl hb1010 ?_
          refine s_mv (v := .int .i64 r1001) rfl ?_
          refine guardOn 4 44 rfl rfl hb1010 ?_
          refine s_mv (v := .int .i64 r845) rfl ?_
          refine guardOn 4 44 rfl rfl hb1010 ?_
          refine s_neq rfl rfl ?_
          refine s_pick (v := .bool (decide (r1001 ≠ r845))) (b := false) (tr rfl (congrArg _ hb1010)) rfl ?_
          refine s_mv (v := .bool (decide (r1001 ≠ r845))) rfl ?_
          refine bsplit (decide (r1001 ≠ r845)) (fun hb1011 => ?_) (fun hb1011 => ?_)
          · replace h := ift h (ct hb1011)
            refine guardOff (b := true) 9 49 rfl (tr rfl (congrArg _ hb1011)) (by decide) ?_
            refine guardOff (b := true) 9 49 rfl (tr rfl (congrArg _ hb1011)) (by decide) ?_
            refine guardOff (b := true) 9 49 rfl (tr rfl (congrArg _ hb1011)) (by decide) ?_
            refine s_pick (v := .bool true) (b := true) (tr rfl (congrArg _ hb1011)) rfl ?_
            refine done ?_
            refine then_norm ?_
            refine cw_true rfl rfl ?_
            refine wp_seq ?_
            refine cw_region ?_
            refine s_as (v := .bool false) rfl ?_
            refine done ?_
            refine then_norm ?_
            refine wp_ret (then_ret ?_)
            refine ret1 (fn := Try.f3) rfl ?_ ⟨false, rfl, h, hC.below⟩ (.inl rfl)
            exact res_tmp rfl
          · replace h := iff_ h (cf hb1011)
            refine guardOn 9 49 rfl rfl hb1011 ?_
            refine s_mv (v := .int .i64 r1002) rfl ?_
            refine guardOn 9 49 rfl rfl hb1011 ?_
            refine s_mv (v := .int .i64 r846) rfl ?_
            refine guardOn 9 49 rfl rfl hb1011 ?_
            refine s_neq rfl rfl ?_
            refine s_pick (v := .bool (decide (r1002 ≠ r846))) (b := false) (tr rfl (congrArg _ hb1011)) rfl ?_
            refine done ?_
            refine then_norm ?_
            refine cw_cond rfl (fun hb1012 => ?_) (fun hb1012 => ?_)
            · replace h := ift h (ct hb1012)
              refine wp_seq ?_
              refine cw_region ?_
              refine s_as (v := .bool false) rfl ?_
              refine done ?_
              refine then_norm ?_
              refine wp_ret (then_ret ?_)
              refine ret1 (fn := Try.f3) rfl ?_ ⟨false, rfl, h, hC.below⟩ (.inl rfl)
              exact res_tmp rfl
            · replace h := iff_ h (cf hb1012)
              refine wp_skip ?_
              refine then_norm ?_
              refine wp_seq ?_
              refine wp_seq ?_
              refine cw_region ?_
              refine s_mv (v := u853) rfl ?_
              refine s_mv (v := u0_0) rfl ?_
              refine s_call [u0_0] _ Try.func14 rfl rfl rfl (c_laws_toInt64S a0 h _ (hC.getP 2 rfl)) (fun ret1013 w1015 hR1014 => ?_)
              obtain ⟨r1016, u1017, f1018, rfl, h, hr1019, hf1020, hB1021⟩ := hR1014
              refine ⟨_, rfl, ?_⟩
              have hs1022 := fresh_on hC.size hf1020
              replace hC := hC.pushR hB1021 (Ty.item ((EI .i64).ty.sl) r1016 [u1017] f1018) hr1019 (fun b hb => .inl (hf1020 b hb))
              refine s_call [u853, u1017] _ Try.func18 rfl rfl rfl (c_laws_eqInt64S r852 r1016 h _ (hC.getP 1 rfl) (hC.getP 0 rfl)) (fun ret1024 w1026 hR1025 => ?_)
              obtain ⟨r1027, rfl, h, hB1028⟩ := hR1025
              refine ⟨_, rfl, ?_⟩
              replace hC := hC.grow hB1028
              refine s_not rfl ?_
              refine done ?_
              refine then_norm ?_
              refine cw_cond rfl (fun hb1029 => ?_) (fun hb1029 => ?_)
              · replace h := ift h (ne_t (not_t hb1029))
                refine wp_seq ?_
                refine cw_region ?_
                refine s_as (v := .bool false) rfl ?_
                refine done ?_
                refine then_norm ?_
                refine wp_ret (then_ret ?_)
                refine ret1 (fn := Try.f3) rfl ?_ ⟨false, rfl, h, hC.below⟩ (.inl rfl)
                exact res_tmp rfl
              · replace h := iff_ h (not_not_intro ((not_f hb1029)))
                refine wp_skip ?_
                refine then_norm ?_
                refine wp_seq ?_
                refine cw_region ?_
                refine s_as (v := .bool true) rfl ?_
                refine done ?_
                refine then_norm ?_
                refine wp_ret ?_
                refine ret1 (fn := Try.f3) rfl ?_ ⟨true, rfl, h, hC.below⟩ (.inl rfl)
                exact res_tmp rfl
end Go.Proofs.Ytjngkbalaipdbaa
