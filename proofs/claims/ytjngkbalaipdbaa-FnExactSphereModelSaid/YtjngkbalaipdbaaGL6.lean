/- Printed by vcgen.py: functions of the program as predicates, and that the machine's calls meet them. -/
import Derived.Test.YtjngkbalaipdbaaGA
import Derived.KernelRfl
set_option linter.unusedVariables false
set_option linter.unusedSimpArgs false
set_option maxRecDepth 4000
set_option maxHeartbeats 4000000
namespace Go.Proofs.Ytjngkbalaipdbaa
open Go Go.RowKit Vc

def f_laws_FnExactSphereModel (a0 : Int) (K : Bool → Prop) : Prop :=
  f_spec_SphereModel a0 (fun r4 r10 => f_impl_SphereModel a0 (fun r28 r34 => f_laws_eqAlgebra r28 r4 (fun r52 => (if ¬ (r52 = true) then K false else (if r34 ≠ r10 then K false else f_laws_markAlgebra r28 1 (fun r59 m61 => f_laws_heldAlgebra (⟨m61.degrees, m61.images⟩ : Alg) 1 (fun r67 => (if r67 < 0 then K false else (if r67 ≠ r59 then K false else f_impl_SphereModel a0 (fun r74 r80 => f_laws_eqAlgebra r74 (⟨r4.degrees, r4.images⟩ : Alg) (fun r98 => (if ¬ (r98 = true) then K false else (if r80 ≠ r10 then K false else f_laws_heldAlgebra (⟨m61.degrees, m61.images⟩ : Alg) 1 (fun r105 => (if r105 < 0 then K false else (if r105 ≠ r59 then K false else K true))))))))))))))))
theorem c_laws_FnExactSphereModel (a0 : Int)  {K : Bool → Prop} (h : f_laws_FnExactSphereModel a0 K) (w0 : World)  :
    Calls Try.prog 6 #[.int .i64 a0] w0 fun e w' => ∃ (r0 : Bool), 
      e = .returned (.bool r0) ∧ K r0 ∧ Bel w0 w' := by
  unfold f_laws_FnExactSphereModel at h
  refine calls_of (args := [.int .i64 a0]) Try.func6 rfl 63 Try.ntmps6 (Nat.le_of_ble_eq_true rfl) ?_
  have hC := Ctx.start (X := Nox) w0 [] (by simp)
  refine wp_seq ?_
  refine cw_region ?_
  refine s_as (v := .bool false) rfl ?_
  refine done ?_
  refine then_norm ?_
  refine wp_seq ?_
  refine cw_region ?_
  refine s_mv (v := .int .i64 a0) rfl ?_
  refine s_call [.int .i64 a0] _ Try.func30 rfl rfl rfl (c_spec_SphereModel a0 h _) (fun ret1 w3 hR2 => ?_)
  obtain ⟨r4, u5, u6, f7, r10, rfl, h, hr8, hf9, hB11⟩ := hR2
  refine ⟨_, rfl, ?_⟩
  replace hC := hC.push hB11 (Tr.item (TrAlg 2 93 51) r4 [u5, u6] f7) hr8 hf9
  obtain ⟨f13, ho14, ho15, hs16, hs17, hd18⟩ := alg_split (hC.getM 0 rfl)
  replace hC := hC.split (a := own 2 1 u5 r4.degrees.length ((EI .i64).encs r4.degrees)) (b := Tr.item (Tr.sl 51 (TrForm 93)) r4.images [u6] f13) hs16 hs17 ⟨ho14, ho15, hd18⟩
  refine s_mv (v := .tuple #[.agg #[u5, u6], .int .i64 r10]) rfl ?_
  refine s_ext (v := .agg #[u5, u6]) rfl rfl ?_
  refine s_ext (v := .int .i64 r10) rfl rfl ?_
  refine s_alloc hC [.slice none 0 0, .slice none 0 0] z34 rfl fun b21 w23 hB_ hC => ?_
  refine s_store (v := .agg #[u5, u6]) hC 0 [u5, u6] [u5, u6] rfl ag34.size rfl rfl rfl rfl (all_c (own_oneC (hC.getM 1 rfl)) (all_c (rep_oneC (Tr.trep _ (hC.getM 2 rfl).1)) rfl)) (Nat.le_of_ble_eq_true rfl) rfl fun w24 hC => ?_
  refine s_as (v := .int .i64 r10) rfl ?_
  refine done ?_
  refine then_norm ?_
  refine wp_seq ?_
  refine cw_region ?_
  refine s_mv (v := .int .i64 a0) rfl ?_
  refine s_call [.int .i64 a0] _ Try.func31 rfl rfl rfl (c_impl_SphereModel a0 h _) (fun ret25 w27 hR26 => ?_)
  obtain ⟨r28, u29, u30, f31, r34, rfl, h, hr32, hf33, hB35⟩ := hR26
  refine ⟨_, rfl, ?_⟩
  replace hC := hC.push hB35 (Tr.item (TrAlg 2 93 51) r28 [u29, u30] f31) hr32 hf33
  obtain ⟨f37, ho38, ho39, hs40, hs41, hd42⟩ := alg_split (hC.getM 0 rfl)
  replace hC := hC.split (a := own 2 1 u29 r28.degrees.length ((EI .i64).encs r28.degrees)) (b := Tr.item (Tr.sl 51 (TrForm 93)) r28.images [u30] f37) hs40 hs41 ⟨ho38, ho39, hd42⟩
  refine s_mv (v := .tuple #[.agg #[u29, u30], .int .i64 r34]) rfl ?_
  refine s_ext (v := .agg #[u29, u30]) rfl rfl ?_
  refine s_ext (v := .int .i64 r34) rfl rfl ?_
  refine s_alloc hC [.slice none 0 0, .slice none 0 0] z34 rfl fun b45 w47 hB_ hC => ?_
  refine s_store (v := .agg #[u29, u30]) hC 0 [u29, u30] [u29, u30] rfl ag34.size rfl rfl rfl rfl (all_c (own_oneC (hC.getM 1 rfl)) (all_c (rep_oneC (Tr.trep _ (hC.getM 2 rfl).1)) rfl)) (Nat.le_of_ble_eq_true rfl) rfl fun w48 hC => ?_
  refine s_as (v := .int .i64 r34) rfl ?_
  refine done ?_
  refine then_norm ?_
  refine wp_seq ?_
  refine wp_seq ?_
  refine cw_region ?_
  refine s_loadA hC 0 [u29, u30] rfl ag34 rfl rfl rfl ?_
  refine s_loadA hC 3 [u5, u6] rfl ag34 rfl rfl rfl ?_
  refine s_call [.agg #[u29, u30], .agg #[u5, u6]] _ Try.func21 rfl rfl rfl (c_laws_eqAlgebra r28 r4 h _ (alg_mk (own_repE (hC.getM 1 rfl)) (Tr.trep _ (hC.getM 2 rfl).1)) (alg_mk (own_repE (hC.getM 4 rfl)) (Tr.trep _ (hC.getM 5 rfl).1))) (fun ret49 w51 hR50 => ?_)
  obtain ⟨r52, rfl, h, hB53⟩ := hR50
  refine ⟨_, rfl, ?_⟩
  replace hC := hC.grow hB53
  refine s_not rfl ?_
  refine s_mv (v := .bool (!r52)) rfl ?_
  refine bsplit (!r52) (fun hb54 => ?_) (fun hb54 => ?_)
  · replace h := ift h (ne_t (not_t hb54))
    refine guardOff (b := true) 4 25 rfl (tr rfl (congrArg _ hb54)) (by decide) ?_
    refine guardOff (b := true) 4 25 rfl (tr rfl (congrArg _ hb54)) (by decide) ?_
    refine guardOff (b := true) 4 25 rfl (tr rfl (congrArg _ hb54)) (by decide) ?_
    refine s_pick (v := .bool true) (b := true) (tr rfl (congrArg _ hb54)) rfl ?_
    refine done ?_
    refine then_norm ?_
    refine cw_true rfl rfl ?_
    refine wp_seq ?_
    refine cw_region ?_
    refine s_as (v := .bool false) rfl ?_
    refine done ?_
    refine then_norm ?_
    refine wp_ret (then_ret ?_)
    refine ret1 (fn := Try.f6) rfl ?_ ⟨false, rfl, h, hC.below⟩ (.inl rfl)
    exact res_tmp rfl
  · replace h := iff_ h (not_not_intro ((not_f hb54)))
    refine guardOn 4 25 rfl rfl hb54 ?_
    refine s_mv (v := .int .i64 r34) rfl ?_
    refine guardOn 4 25 rfl rfl hb54 ?_
    refine s_mv (v := .int .i64 r10) rfl ?_
    refine guardOn 4 25 rfl rfl hb54 ?_
    refine s_neq rfl rfl ?_
    refine s_pick (v := .bool (decide (r34 ≠ r10))) (b := false) (tr rfl (congrArg _ hb54)) rfl ?_
    refine done ?_
    refine then_norm ?_
    refine cw_cond rfl (fun hb55 => ?_) (fun hb55 => ?_)
    · replace h := ift h (ct hb55)
      refine wp_seq ?_
      refine cw_region ?_
      refine s_as (v := .bool false) rfl ?_
      refine done ?_
      refine then_norm ?_
      refine wp_ret (then_ret ?_)
      refine ret1 (fn := Try.f6) rfl ?_ ⟨false, rfl, h, hC.below⟩ (.inl rfl)
      exact res_tmp rfl
    · replace h := iff_ h (cf hb55)
      refine wp_skip ?_
      refine then_norm ?_
      refine wp_seq ?_
      refine cw_region ?_
      refine s_as (v := .int .i64 1) rfl ?_
      refine done ?_
      refine then_norm ?_
      refine wp_seq ?_
      refine cw_region ?_
      refine s_loadA hC 0 [u29, u30] rfl ag34 rfl rfl rfl ?_
      refine s_mv (v := .int .i64 1) rfl ?_
      refine s_call [.agg #[u29, u30], .int .i64 1] _ Try.func22 rfl rfl rfl (c_laws_markAlgebra r28 1 h _ (hC.getM 1 rfl) (hC.getM 2 rfl) (hC.mm 1 2 rfl rfl (by decide))) (fun ret56 w58 hR57 => ?_)
      obtain ⟨r59, m61, rfl, h, hm62, hm63, hB60⟩ := hR57
      refine ⟨_, rfl, ?_⟩
      replace hC := hC.turnL hB60 (M' := [blk b45 34 [u29, u30], own 2 1 u29 m61.degrees.length ((EI .i64).encs m61.degrees), Tr.item (Tr.sl 51 (TrForm 93)) m61.images [u30] f37, blk b21 34 [u5, u6], own 2 1 u5 r4.degrees.length ((EI .i64).encs r4.degrees), Tr.item (Tr.sl 51 (TrForm 93)) r4.images [u6] f13]) rfl (fun x_ hx_ => (List.mem_append.1 hx_).elim (fun hx_ => ⟨_, List.mem_of_getElem? (i := 1) rfl, hx_⟩) (fun hx_ => ⟨_, List.mem_of_getElem? (i := 2) rfl, hx_⟩)) (by simp only [List.mem_cons, List.not_mem_nil, or_false, forall_eq_or_imp, forall_eq]; exact ⟨(hC.stay 0 rfl hB60 (fun x_ hq_ hx_ => (List.mem_append.1 hx_).elim (fun hx_ => hC.mm 0 1 rfl rfl (by decide) x_ hq_ hx_) (fun hx_ => hC.mm 0 2 rfl rfl (by decide) x_ hq_ hx_))), hm62, hm63, (hC.stay 3 rfl hB60 (fun x_ hq_ hx_ => (List.mem_append.1 hx_).elim (fun hx_ => hC.mm 3 1 rfl rfl (by decide) x_ hq_ hx_) (fun hx_ => hC.mm 3 2 rfl rfl (by decide) x_ hq_ hx_))), (hC.stay 4 rfl hB60 (fun x_ hq_ hx_ => (List.mem_append.1 hx_).elim (fun hx_ => hC.mm 4 1 rfl rfl (by decide) x_ hq_ hx_) (fun hx_ => hC.mm 4 2 rfl rfl (by decide) x_ hq_ hx_))), (hC.stay 5 rfl hB60 (fun x_ hq_ hx_ => (List.mem_append.1 hx_).elim (fun hx_ => hC.mm 5 1 rfl rfl (by decide) x_ hq_ hx_) (fun hx_ => hC.mm 5 2 rfl rfl (by decide) x_ hq_ hx_)))⟩)
      refine s_as (v := .int .i64 r59) rfl ?_
      refine done ?_
      refine then_norm ?_
      refine wp_seq ?_
      refine cw_region ?_
      refine s_as (v := .int .i64 1) rfl ?_
      refine done ?_
      refine then_norm ?_
      refine wp_seq ?_
      refine cw_region ?_
      refine s_loadA hC 0 [u29, u30] rfl ag34 rfl rfl rfl ?_
      refine s_mv (v := .int .i64 1) rfl ?_
      refine s_call [.agg #[u29, u30], .int .i64 1] _ Try.func23 rfl rfl rfl (c_laws_heldAlgebra (⟨m61.degrees, m61.images⟩ : Alg) 1 h _ (alg_mk (own_repE (hC.getM 1 rfl)) (Tr.trep _ (hC.getM 2 rfl).1))) (fun ret64 w66 hR65 => ?_)
      obtain ⟨r67, rfl, h, hB68⟩ := hR65
      refine ⟨_, rfl, ?_⟩
      replace hC := hC.grow hB68
      refine s_as (v := .int .i64 r67) rfl ?_
      refine done ?_
      refine then_norm ?_
      refine wp_seq ?_
      refine wp_seq ?_
      refine cw_region ?_
      refine s_mv (v := .int .i64 r67) rfl ?_
      refine s_lss rfl rfl ?_
      refine done ?_
      refine then_norm ?_
      refine cw_cond rfl (fun hb69 => ?_) (fun hb69 => ?_)
      · replace h := ift h (ct hb69)
        refine wp_seq ?_
        refine cw_region ?_
        refine s_as (v := .bool false) rfl ?_
        refine done ?_
        refine then_norm ?_
        refine wp_ret (then_ret ?_)
        refine ret1 (fn := Try.f6) rfl ?_ ⟨false, rfl, h, hC.below⟩ (.inl rfl)
        exact res_tmp rfl
      · replace h := iff_ h (cf hb69)
        refine wp_skip ?_
        refine then_norm ?_
        refine wp_seq ?_
        refine wp_seq ?_
        refine cw_region ?_
        refine s_mv (v := .int .i64 r67) rfl ?_
        refine s_mv (v := .int .i64 r59) rfl ?_
        refine s_neq rfl rfl ?_
        refine done ?_
        refine then_norm ?_
        refine cw_cond rfl (fun hb70 => ?_) (fun hb70 => ?_)
        · replace h := ift h (ct hb70)
          refine wp_seq ?_
          refine cw_region ?_
          refine s_as (v := .bool false) rfl ?_
          refine done ?_
          refine then_norm ?_
          refine wp_ret (then_ret ?_)
          refine ret1 (fn := Try.f6) rfl ?_ ⟨false, rfl, h, hC.below⟩ (.inl rfl)
          exact res_tmp rfl
        · replace h := iff_ h (cf hb70)
          refine wp_skip ?_
          refine then_norm ?_
          refine wp_seq ?_
          refine cw_region ?_
          refine s_mv (v := .int .i64 a0) rfl ?_
          refine s_call [.int .i64 a0] _ Try.func31 rfl rfl rfl (c_impl_SphereModel a0 h _) (fun ret71 w73 hR72 => ?_)
          obtain ⟨r74, u75, u76, f77, r80, rfl, h, hr78, hf79, hB81⟩ := hR72
          refine ⟨_, rfl, ?_⟩
          replace hC := hC.push hB81 (Tr.item (TrAlg 2 93 51) r74 [u75, u76] f77) hr78 hf79
          obtain ⟨f83, ho84, ho85, hs86, hs87, hd88⟩ := alg_split (hC.getM 0 rfl)
          replace hC := hC.split (a := own 2 1 u75 r74.degrees.length ((EI .i64).encs r74.degrees)) (b := Tr.item (Tr.sl 51 (TrForm 93)) r74.images [u76] f83) hs86 hs87 ⟨ho84, ho85, hd88⟩
          refine s_mv (v := .tuple #[.agg #[u75, u76], .int .i64 r80]) rfl ?_
          refine s_ext (v := .agg #[u75, u76]) rfl rfl ?_
          refine s_ext (v := .int .i64 r80) rfl rfl ?_
          refine s_alloc hC [.slice none 0 0, .slice none 0 0] z34 rfl fun b91 w93 hB_ hC => ?_
          refine s_store (v := .agg #[u75, u76]) hC 0 [u75, u76] [u75, u76] rfl ag34.size rfl rfl rfl rfl (all_c (own_oneC (hC.getM 1 rfl)) (all_c (rep_oneC (Tr.trep _ (hC.getM 2 rfl).1)) rfl)) (Nat.le_of_ble_eq_true rfl) rfl fun w94 hC => ?_
          refine s_as (v := .int .i64 r80) rfl ?_
          refine done ?_
          refine then_norm ?_
          refine wp_seq ?_
          refine wp_seq ?_
          refine cw_region ?_
          refine s_loadA hC 0 [u75, u76] rfl ag34 rfl rfl rfl ?_
          refine s_loadA hC 6 [u5, u6] rfl ag34 rfl rfl rfl ?_
          refine s_call [.agg #[u75, u76], .agg #[u5, u6]] _ Try.func21 rfl rfl rfl (c_laws_eqAlgebra r74 (⟨r4.degrees, r4.images⟩ : Alg) h _ (alg_mk (own_repE (hC.getM 1 rfl)) (Tr.trep _ (hC.getM 2 rfl).1)) (alg_mk (own_repE (hC.getM 7 rfl)) (Tr.trep _ (hC.getM 8 rfl).1))) (fun ret95 w97 hR96 => ?_)
          obtain ⟨r98, rfl, h, hB99⟩ := hR96
          refine ⟨_, rfl, ?_⟩
          replace hC := hC.grow hB99
          refine s_not rfl ?_
          refine s_mv (v := .bool (!r98)) rfl ?_
          refine bsplit (!r98) (fun hb100 => ?_) (fun hb100 => ?_)
          · replace h := ift h (ne_t (not_t hb100))
            refine guardOff (b := true) 4 50 rfl (tr rfl (congrArg _ hb100)) (by decide) ?_
            refine guardOff (b := true) 4 50 rfl (tr rfl (congrArg _ hb100)) (by decide) ?_
            refine guardOff (b := true) 4 50 rfl (tr rfl (congrArg _ hb100)) (by decide) ?_
            refine s_pick (v := .bool true) (b := true) (tr rfl (congrArg _ hb100)) rfl ?_
            refine done ?_
            refine then_norm ?_
            refine cw_true rfl rfl ?_
            refine wp_seq ?_
            refine cw_region ?_
            refine s_as (v := .bool false) rfl ?_
            refine done ?_
            refine then_norm ?_
            refine wp_ret (then_ret ?_)
            refine ret1 (fn := Try.f6) rfl ?_ ⟨false, rfl, h, hC.below⟩ (.inl rfl)
            exact res_tmp rfl
          · replace h := iff_ h (not_not_intro ((not_f hb100)))
            refine guardOn 4 50 rfl rfl hb100 ?_
            refine s_mv (v := .int .i64 r80) rfl ?_
            refine guardOn 4 50 rfl rfl hb100 ?_
            refine s_mv (v := .int .i64 r10) rfl ?_
            refine guardOn 4 50 rfl rfl hb100 ?_
            refine s_neq rfl rfl ?_
            refine s_pick (v := .bool (decide (r80 ≠ r10))) (b := false) (tr rfl (congrArg _ hb100)) rfl ?_
            refine done ?_
            refine then_norm ?_
            refine cw_cond rfl (fun hb101 => ?_) (fun hb101 => ?_)
            · replace h := ift h (ct hb101)
              refine wp_seq ?_
              refine cw_region ?_
              refine s_as (v := .bool false) rfl ?_
              refine done ?_
              refine then_norm ?_
              refine wp_ret (then_ret ?_)
              refine ret1 (fn := Try.f6) rfl ?_ ⟨false, rfl, h, hC.below⟩ (.inl rfl)
              exact res_tmp rfl
            · replace h := iff_ h (cf hb101)
              refine wp_skip ?_
              refine then_norm ?_
              refine wp_seq ?_
              refine cw_region ?_
              refine s_as (v := .int .i64 1) rfl ?_
              refine done ?_
              refine then_norm ?_
              refine wp_seq ?_
              refine cw_region ?_
              refine s_loadA hC 3 [u29, u30] rfl ag34 rfl rfl rfl ?_
              refine s_mv (v := .int .i64 1) rfl ?_
              refine s_call [.agg #[u29, u30], .int .i64 1] _ Try.func23 rfl rfl rfl (c_laws_heldAlgebra (⟨m61.degrees, m61.images⟩ : Alg) 1 h _ (alg_mk (own_repE (hC.getM 4 rfl)) (Tr.trep _ (hC.getM 5 rfl).1))) (fun ret102 w104 hR103 => ?_)
              obtain ⟨r105, rfl, h, hB106⟩ := hR103
              refine ⟨_, rfl, ?_⟩
              replace hC := hC.grow hB106
              refine s_as (v := .int .i64 r105) rfl ?_
              refine done ?_
              refine then_norm ?_
              refine wp_seq ?_
              refine wp_seq ?_
              refine cw_region ?_
              refine s_mv (v := .int .i64 r105) rfl ?_
              refine s_lss rfl rfl ?_
              refine done ?_
              refine then_norm ?_
              refine cw_cond rfl (fun hb107 => ?_) (fun hb107 => ?_)
              · replace h := ift h (ct hb107)
                refine wp_seq ?_
                refine cw_region ?_
                refine s_as (v := .bool false) rfl ?_
                refine done ?_
                refine then_norm ?_
                refine wp_ret (then_ret ?_)
                refine ret1 (fn := Try.f6) rfl ?_ ⟨false, rfl, h, hC.below⟩ (.inl rfl)
                exact res_tmp rfl
              · replace h := iff_ h (cf hb107)
                refine wp_skip ?_
                refine then_norm ?_
                refine wp_seq ?_
                refine wp_seq ?_
                refine cw_region ?_
                refine s_mv (v := .int .i64 r105) rfl ?_
                refine s_mv (v := .int .i64 r59) rfl ?_
                refine s_neq rfl rfl ?_
                refine done ?_
                refine then_norm ?_
                refine cw_cond rfl (fun hb108 => ?_) (fun hb108 => ?_)
                · replace h := ift h (ct hb108)
                  refine wp_seq ?_
                  refine cw_region ?_
                  refine s_as (v := .bool false) rfl ?_
                  refine done ?_
                  refine then_norm ?_
                  refine wp_ret (then_ret ?_)
                  refine ret1 (fn := Try.f6) rfl ?_ ⟨false, rfl, h, hC.below⟩ (.inl rfl)
                  exact res_tmp rfl
                · replace h := iff_ h (cf hb108)
                  refine wp_skip ?_
                  refine then_norm ?_
                  refine wp_seq ?_
                  refine cw_region ?_
                  refine s_as (v := .bool true) rfl ?_
                  refine done ?_
                  refine then_norm ?_
                  refine wp_ret ?_
                  refine ret1 (fn := Try.f6) rfl ?_ ⟨true, rfl, h, hC.below⟩ (.inl rfl)
                  exact res_tmp rfl
end Go.Proofs.Ytjngkbalaipdbaa
