/- Printed by vcgen.py: functions of the program as predicates, and that the machine's calls meet them. -/
import Derived.Test.YtjngkbalaipdbaaGCb
set_option linter.unusedVariables false
set_option linter.unusedSimpArgs false
set_option maxRecDepth 4000
set_option maxHeartbeats 4000000
namespace Go.Proofs.Ytjngkbalaipdbaa
open Go Go.RowKit Vc
def f_spec_MultiplyForms (a0 : List Int) (a1 : Vc.Form) (a2 : Vc.Form) (K : Vc.Form → Int → Prop) : Prop :=
  f_spec_l01Degrees a0 (fun r20 => (if ¬ (r20 = true) then K (⟨[]⟩ : Vc.Form) 1 else f_spec_l01Is a0 a1 (fun r27 => (if ¬ (r27 = true) then K (⟨[]⟩ : Vc.Form) 1 else f_spec_l01Is a0 a2 (fun r34 => (if ¬ (r34 = true) then K (⟨[]⟩ : Vc.Form) 1 else f_spec_l01Times a0 a1 a2 (fun r41 => f_spec_l01Told a0 (⟨r41.terms⟩ : Vc.Form) (fun r59 r64 => K r59 r64))))))))
theorem c_spec_MultiplyForms (a0 : List Int) (a1 : Vc.Form) (a2 : Vc.Form) {u0_0 : Value} {u1_0 : Value} {u2_0 : Value} {fp0 : List Nat} {fp1 : List Nat} {fp2 : List Nat} {K : Vc.Form → Int → Prop} (h : f_spec_MultiplyForms a0 a1 a2 K) (w0 : World) (q0 : ((EI .i64).ty.sl).rep a0 [u0_0] fp0 w0) (q1 : TForm.rep a1 [u1_0] fp1 w0) (q2 : TForm.rep a2 [u2_0] fp2 w0) :
    Calls Try.prog 59 #[u0_0, .agg #[u1_0], .agg #[u2_0]] w0 fun e w' => ∃ (r0 : Vc.Form) (z0_0 : Value) (fz0 : List Nat) (r1 : Int), 
      e = .returned (.tuple #[.agg #[z0_0], .int .i64 r1]) ∧ K r0 r1 ∧ TForm.rep r0 [z0_0] fz0 w' ∧ (∀ b, b ∈ fz0 → w0.heap.size ≤ b ∨ b ∈ (fp0 ++ (fp1 ++ (fp2)))) ∧ Bel w0 w' := by
  unfold f_spec_MultiplyForms at h
  refine calls_of (args := [u0_0, .agg #[u1_0], .agg #[u2_0]]) Try.func59 rfl 32 Try.ntmps59 (Nat.le_of_ble_eq_true rfl) ?_
  have hC := Ctx.start (X := Nox) w0 [Ty.item ((EI .i64).ty.sl) a0 [u0_0] fp0, Ty.item TForm a1 [u1_0] fp1, Ty.item TForm a2 [u2_0] fp2] (by simp only [List.mem_cons, List.not_mem_nil, or_false, forall_eq_or_imp, forall_eq]; exact ⟨q0, q1, q2⟩)
  have hp4 := (hC.getP 1 rfl)
  replace hC := hC.derive 1 rfl (Ty.item ETerm.ty.sl a1.terms [u1_0] fp1) (fun _ => (form_parts hp4)) (fun _ hb_ => hb_)
  have hp6 := (hC.getP 3 rfl)
  replace hC := hC.derive 3 rfl (Ty.item ETerm.ty.sl a2.terms [u2_0] fp2) (fun _ => (form_parts hp6)) (fun _ hb_ => hb_)
  refine wp_seq ?_
  refine cw_region ?_
  refine s_box (v := .agg #[u1_0]) hC [u1_0] rfl rfl fun b8 w10 hB_ hC => ?_
  refine s_box (v := .agg #[u2_0]) hC [u2_0] rfl rfl fun b11 w13 hB_ hC => ?_
  refine s_alloc hC [.slice none 0 0] z51 rfl fun b14 w16 hB_ hC => ?_
  refine s_as (v := .int .i64 0) rfl ?_
  refine done ?_
  refine then_norm ?_
  refine wp_seq ?_
  refine wp_seq ?_
  refine cw_region ?_
  refine s_mv (v := u0_0) rfl ?_
  refine s_call [u0_0] _ Try.func61 rfl rfl rfl (c_spec_l01Degrees a0 h _ (hC.getP 2 rfl)) (fun ret17 w19 hR18 => ?_)
  obtain ⟨r20, rfl, h, hB21⟩ := hR18
  refine ⟨_, rfl, ?_⟩
  replace hC := hC.grow hB21
  refine s_not rfl ?_
  refine s_mv (v := .bool (!r20)) rfl ?_
  refine bsplit (!r20) (fun hb22 => ?_) (fun hb22 => ?_)
  · replace h := ift h (ne_t (not_t hb22))
    refine guardOff (b := true) 3 11 rfl (tr rfl (congrArg _ hb22)) (by decide) ?_
    refine guardOff (b := true) 3 11 rfl (tr rfl (congrArg _ hb22)) (by decide) ?_
    refine guardOff (b := true) 3 11 rfl (tr rfl (congrArg _ hb22)) (by decide) ?_
    refine guardOff (b := true) 3 11 rfl (tr rfl (congrArg _ hb22)) (by decide) ?_
    refine s_pick (v := .bool true) (b := true) (tr rfl (congrArg _ hb22)) rfl ?_
    refine s_mv (v := .bool true) rfl ?_
    refine guardOff (b := true) 9 17 rfl (tr rfl (congrArg _ rfl)) (by decide) ?_
    refine guardOff (b := true) 9 17 rfl (tr rfl (congrArg _ rfl)) (by decide) ?_
    refine guardOff (b := true) 9 17 rfl (tr rfl (congrArg _ rfl)) (by decide) ?_
    refine guardOff (b := true) 9 17 rfl (tr rfl (congrArg _ rfl)) (by decide) ?_
    refine s_pick (v := .bool true) (b := true) rfl rfl ?_
    refine done ?_
    refine then_norm ?_
    refine cw_true rfl rfl ?_
    refine wp_seq ?_
    refine cw_region ?_
    refine s_build [] rfl (bl51   _) ?_
    refine s_store (v := .agg #[.slice none 0 0]) hC 0 [.slice none 0 0] [.slice none 0 0] rfl ag51.size rfl rfl rfl rfl rfl (Nat.le_of_ble_eq_true rfl) rfl fun w23 hC => ?_
    refine s_as (v := .int .i64 1) rfl ?_
    refine done ?_
    refine then_norm ?_
    refine wp_ret (then_ret ?_)
    refine ret2 (fn := Try.f59) rfl ?_ ?_ ⟨(⟨[]⟩ : Vc.Form), .slice none 0 0, [], 1, rfl, h, (form_mk (rep_nil _ _)), (fun b hb => .inl ((fun b hb => absurd hb (by simp)) b hb)), hC.below⟩ (.inl rfl)
    · exact res_cellA hC 0 rfl ag51 rfl rfl
    · exact res_tmp rfl
  · replace h := iff_ h (not_not_intro ((not_f hb22)))
    refine guardOn 3 11 rfl rfl hb22 ?_
    refine s_mv (v := u0_0) rfl ?_
    refine guardOn 3 11 rfl rfl hb22 ?_
    refine s_loadA hC 2 [u1_0] rfl ag51 rfl rfl rfl ?_
    refine guardOn 3 11 rfl rfl hb22 ?_
    refine s_call [u0_0, .agg #[u1_0]] _ Try.func87 rfl rfl rfl (c_spec_l01Is a0 a1 h _ (hC.getP 2 rfl) (form_mk (hC.getP 1 rfl))) (fun ret24 w26 hR25 => ?_)
    obtain ⟨r27, rfl, h, hB28⟩ := hR25
    refine ⟨_, rfl, ?_⟩
    replace hC := hC.grow hB28
    refine guardOn 3 11 rfl rfl hb22 ?_
    refine s_not rfl ?_
    refine s_pick (v := .bool (!r27)) (b := false) (tr rfl (congrArg _ hb22)) rfl ?_
    refine s_mv (v := .bool (!r27)) rfl ?_
    refine bsplit (!r27) (fun hb29 => ?_) (fun hb29 => ?_)
    · replace h := ift h (ne_t (not_t hb29))
      refine guardOff (b := true) 9 17 rfl (tr rfl (congrArg _ hb29)) (by decide) ?_
      refine guardOff (b := true) 9 17 rfl (tr rfl (congrArg _ hb29)) (by decide) ?_
      refine guardOff (b := true) 9 17 rfl (tr rfl (congrArg _ hb29)) (by decide) ?_
      refine guardOff (b := true) 9 17 rfl (tr rfl (congrArg _ hb29)) (by decide) ?_
      refine s_pick (v := .bool true) (b := true) (tr rfl (congrArg _ hb29)) rfl ?_
      refine done ?_
      refine then_norm ?_
      refine cw_true rfl rfl ?_
      refine wp_seq ?_
      refine cw_region ?_
      refine s_build [] rfl (bl51   _) ?_
      refine s_store (v := .agg #[.slice none 0 0]) hC 0 [.slice none 0 0] [.slice none 0 0] rfl ag51.size rfl rfl rfl rfl rfl (Nat.le_of_ble_eq_true rfl) rfl fun w30 hC => ?_
      refine s_as (v := .int .i64 1) rfl ?_
      refine done ?_
      refine then_norm ?_
      refine wp_ret (then_ret ?_)
      refine ret2 (fn := Try.f59) rfl ?_ ?_ ⟨(⟨[]⟩ : Vc.Form), .slice none 0 0, [], 1, rfl, h, (form_mk (rep_nil _ _)), (fun b hb => .inl ((fun b hb => absurd hb (by simp)) b hb)), hC.below⟩ (.inl rfl)
      · exact res_cellA hC 0 rfl ag51 rfl rfl
      · exact res_tmp rfl
    · replace h := iff_ h (not_not_intro ((not_f hb29)))
      refine guardOn 9 17 rfl rfl hb29 ?_
      refine s_mv (v := u0_0) rfl ?_
      refine guardOn 9 17 rfl rfl hb29 ?_
      refine s_loadA hC 1 [u2_0] rfl ag51 rfl rfl rfl ?_
      refine guardOn 9 17 rfl rfl hb29 ?_
      refine s_call [u0_0, .agg #[u2_0]] _ Try.func87 rfl rfl rfl (c_spec_l01Is a0 a2 h _ (hC.getP 2 rfl) (form_mk (hC.getP 0 rfl))) (fun ret31 w33 hR32 => ?_)
      obtain ⟨r34, rfl, h, hB35⟩ := hR32
      refine ⟨_, rfl, ?_⟩
      replace hC := hC.grow hB35
      refine guardOn 9 17 rfl rfl hb29 ?_
      refine s_not rfl ?_
      refine s_pick (v := .bool (!r34)) (b := false) (tr rfl (congrArg _ hb29)) rfl ?_
      refine done ?_
      refine then_norm ?_
      refine cw_cond rfl (fun hb36 => ?_) (fun hb36 => ?_)
      · replace h := ift h (ne_t (not_t hb36))
        refine wp_seq ?_
        refine cw_region ?_
        refine s_build [] rfl (bl51   _) ?_
        refine s_store (v := .agg #[.slice none 0 0]) hC 0 [.slice none 0 0] [.slice none 0 0] rfl ag51.size rfl rfl rfl rfl rfl (Nat.le_of_ble_eq_true rfl) rfl fun w37 hC => ?_
        refine s_as (v := .int .i64 1) rfl ?_
        refine done ?_
        refine then_norm ?_
        refine wp_ret (then_ret ?_)
        refine ret2 (fn := Try.f59) rfl ?_ ?_ ⟨(⟨[]⟩ : Vc.Form), .slice none 0 0, [], 1, rfl, h, (form_mk (rep_nil _ _)), (fun b hb => .inl ((fun b hb => absurd hb (by simp)) b hb)), hC.below⟩ (.inl rfl)
        · exact res_cellA hC 0 rfl ag51 rfl rfl
        · exact res_tmp rfl
      · replace h := iff_ h (not_not_intro ((not_f hb36)))
        refine wp_skip ?_
        refine then_norm ?_
        refine wp_seq ?_
        refine cw_region ?_
        refine s_mv (v := u0_0) rfl ?_
        refine s_mv (v := u0_0) rfl ?_
        refine s_loadA hC 2 [u1_0] rfl ag51 rfl rfl rfl ?_
        refine s_loadA hC 1 [u2_0] rfl ag51 rfl rfl rfl ?_
        refine s_call [u0_0, .agg #[u1_0], .agg #[u2_0]] _ Try.func111 rfl rfl rfl (c_spec_l01Times a0 a1 a2 h _ (hC.getP 2 rfl) (form_mk (hC.getP 1 rfl)) (form_mk (hC.getP 0 rfl))) (fun ret38 w40 hR39 => ?_)
        obtain ⟨r41, u42, f43, rfl, h, hr44, hf45, hB46⟩ := hR39
        refine ⟨_, rfl, ?_⟩
        replace hC := hC.push hB46 (Tr.item (TrForm 93) r41 [u42] f43) hr44 hf45
        obtain ⟨ho48, hf49⟩ := form_split (hC.getM 0 rfl)
        subst hf49
        replace hC := hC.recast (c := own 93 9 u42 r41.terms.length (ETerm.encs r41.terms)) (fun _ h_ => h_) (fun _ => ho48)
        have hs54 := own_fresh hC 0 rfl
        replace hC := hC.thaw 0 rfl (Ty.item ETerm.ty.sl r41.terms [u42] (Option.toList (Value.ownBlock u42))) own_repE (fun _ hb_ => hb_)
        refine s_call [u0_0, .agg #[u42]] _ Try.func88 rfl rfl rfl (c_spec_l01Told a0 (⟨r41.terms⟩ : Vc.Form) h _ (hC.getP 3 rfl) (form_mk (hC.getP 0 rfl))) (fun ret56 w58 hR57 => ?_)
        obtain ⟨r59, u60, f61, r64, rfl, h, hr62, hf63, hB65⟩ := hR57
        refine ⟨_, rfl, ?_⟩
        have hs66 : ∀ b, b ∈ f61 → w0.heap.size ≤ b ∨ b ∈ (fp0 ++ (fp1 ++ (fp2))) := (fun b hb => (hf63 b hb).elim (fun h_ => .inl (Nat.le_trans hC.size h_)) (fun hb => (List.mem_append.1 hb).elim (fun hb => .inr (List.mem_append_left _ hb)) (fun hb => .inl (hs54 b hb))))
        replace hC := hC.pushR hB65 (Ty.item TForm r59 [u60] f61) hr62 (fun b hb => (hf63 b hb).elim .inl (fun hb => .inr ((List.mem_append.1 hb).elim (fun hb => ⟨_, List.mem_of_getElem? (i := 3) rfl, hb⟩) (fun hb => ⟨_, List.mem_of_getElem? (i := 0) rfl, hb⟩))))
        have hp68 := (hC.getP 0 rfl)
        replace hC := hC.derive 0 rfl (Ty.item ETerm.ty.sl r59.terms [u60] f61) (fun _ => (form_parts hp68)) (fun _ hb_ => hb_)
        refine s_ext (v := .agg #[u60]) rfl rfl ?_
        refine s_ext (v := .int .i64 r64) rfl rfl ?_
        refine s_store (v := .agg #[u60]) hC 0 [u60] [u60] rfl ag51.size rfl rfl rfl rfl (all_c (rep_oneC (hC.getP 0 rfl)) rfl) (Nat.le_of_ble_eq_true rfl) rfl fun w70 hC => ?_
        refine s_as (v := .int .i64 r64) rfl ?_
        refine done ?_
        refine then_norm ?_
        refine wp_ret ?_
        refine ret2 (fn := Try.f59) rfl ?_ ?_ ⟨r59, u60, f61, r64, rfl, h, (form_mk (hC.getP 0 rfl)), (fun b hb => hs66 b hb), hC.below⟩ (.inl rfl)
        · exact res_cellA hC 0 rfl ag51 rfl rfl
        · exact res_tmp rfl
def f_laws_szTermS (a0 : List Term) (a1 : Int) (K : Int → Prop) : Prop :=
  (if IntKind.i64.wrap (a1 - (a0.length : Int)) < 0 then K (-1) else K (IntKind.i64.wrap (a1 - (a0.length : Int))))
theorem c_laws_szTermS (a0 : List Term) (a1 : Int) {u0_0 : Value} {fp0 : List Nat} {K : Int → Prop} (h : f_laws_szTermS a0 a1 K) (w0 : World) (q0 : ETerm.ty.sl.rep a0 [u0_0] fp0 w0) :
    Calls Try.prog 86 #[u0_0, .int .i64 a1] w0 fun e w' => ∃ (r0 : Int), 
      e = .returned (.int .i64 r0) ∧ K r0 ∧ Bel w0 w' := by
  unfold f_laws_szTermS at h
  refine calls_of (args := [u0_0, .int .i64 a1]) Try.func86 rfl 12 Try.ntmps86 (Nat.le_of_ble_eq_true rfl) ?_
  have hC := Ctx.start (X := Nox) w0 [Ty.item ETerm.ty.sl a0 [u0_0] fp0] (by simp only [List.mem_cons, List.not_mem_nil, or_false, forall_eq_or_imp, forall_eq]; exact q0)
  refine wp_seq ?_
  refine cw_region ?_
  refine s_as (v := .int .i64 0) rfl ?_
  refine done ?_
  refine then_norm ?_
  refine wp_seq ?_
  refine cw_region ?_
  refine s_mv (v := .int .i64 a1) rfl ?_
  refine s_mv (v := u0_0) rfl ?_
  obtain ⟨Ad2, c3, hv4⟩ := sl_len (hC.getP 0 rfl)
  refine s_len Try.underlying58 (tr rfl hv4) ?_
  refine s_sub rfl rfl ?_
  refine s_as (v := .int .i64 (IntKind.i64.wrap (a1 - (a0.length : Int)))) rfl ?_
  refine done ?_
  refine then_norm ?_
  refine wp_seq ?_
  refine wp_seq ?_
  refine cw_region ?_
  refine s_mv (v := .int .i64 (IntKind.i64.wrap (a1 - (a0.length : Int)))) rfl ?_
  refine s_lss rfl rfl ?_
  refine done ?_
  refine then_norm ?_
  refine cw_cond rfl (fun hb5 => ?_) (fun hb5 => ?_)
  · replace h := ift h (ct hb5)
    refine wp_seq ?_
    refine cw_region ?_
    refine s_as (v := .int .i64 (-1)) rfl ?_
    refine done ?_
    refine then_norm ?_
    refine wp_ret (then_ret ?_)
    refine ret1 (fn := Try.f86) rfl ?_ ⟨(-1), rfl, h, hC.below⟩ (.inl rfl)
    exact res_tmp rfl
  · replace h := iff_ h (cf hb5)
    refine wp_skip ?_
    refine then_norm ?_
    refine wp_seq ?_
    refine cw_region ?_
    refine s_mv (v := .int .i64 (IntKind.i64.wrap (a1 - (a0.length : Int)))) rfl ?_
    refine s_as (v := .int .i64 (IntKind.i64.wrap (a1 - (a0.length : Int)))) rfl ?_
    refine done ?_
    refine then_norm ?_
    refine wp_ret ?_
    refine ret1 (fn := Try.f86) rfl ?_ ⟨IntKind.i64.wrap (a1 - (a0.length : Int)), rfl, h, hC.below⟩ (.inl rfl)
    exact res_tmp rfl
def f_laws_szForm (a0 : Vc.Form) (a1 : Int) (K : Int → Prop) : Prop :=
  f_laws_szTermS a0.terms a1 (fun r10 => (if r10 < 0 then K (-1) else K r10))
theorem c_laws_szForm (a0 : Vc.Form) (a1 : Int) {u0_0 : Value} {fp0 : List Nat} {K : Int → Prop} (h : f_laws_szForm a0 a1 K) (w0 : World) (q0 : TForm.rep a0 [u0_0] fp0 w0) :
    Calls Try.prog 39 #[.agg #[u0_0], .int .i64 a1] w0 fun e w' => ∃ (r0 : Int), 
      e = .returned (.int .i64 r0) ∧ K r0 ∧ Bel w0 w' := by
  unfold f_laws_szForm at h
  refine calls_of (args := [.agg #[u0_0], .int .i64 a1]) Try.func39 rfl 12 Try.ntmps39 (Nat.le_of_ble_eq_true rfl) ?_
  have hC := Ctx.start (X := Nox) w0 [Ty.item TForm a0 [u0_0] fp0] (by simp only [List.mem_cons, List.not_mem_nil, or_false, forall_eq_or_imp, forall_eq]; exact q0)
  have hp2 := (hC.getP 0 rfl)
  replace hC := hC.derive 0 rfl (Ty.item ETerm.ty.sl a0.terms [u0_0] fp0) (fun _ => (form_parts hp2)) (fun _ hb_ => hb_)
  refine wp_seq ?_
  refine cw_region ?_
  refine s_box (v := .agg #[u0_0]) hC [u0_0] rfl rfl fun b4 w6 hB_ hC => ?_
  refine s_as (v := .int .i64 0) rfl ?_
  refine done ?_
  refine then_norm ?_
  refine wp_seq ?_
  refine cw_region ?_
  refine s_faddrB 0 Try.underlying60 rfl sc58.size rfl rfl ?_
  refine s_loadS hC 0 (u0_0) rfl sc58 rfl rfl ?_
  refine s_mv (v := .int .i64 a1) rfl ?_
  refine s_call [u0_0, .int .i64 a1] _ Try.func86 rfl rfl rfl (c_laws_szTermS a0.terms a1 h _ (hC.getP 0 rfl)) (fun ret7 w9 hR8 => ?_)
  obtain ⟨r10, rfl, h, hB11⟩ := hR8
  refine ⟨_, rfl, ?_⟩
  replace hC := hC.grow hB11
  refine s_as (v := .int .i64 r10) rfl ?_
  refine done ?_
  refine then_norm ?_
  refine wp_seq ?_
  refine wp_seq ?_
  refine cw_region ?_
  refine s_mv (v := .int .i64 r10) rfl ?_
  refine s_lss rfl rfl ?_
  refine done ?_
  refine then_norm ?_
  refine cw_cond rfl (fun hb12 => ?_) (fun hb12 => ?_)
  · replace h := ift h (ct hb12)
    refine wp_seq ?_
    refine cw_region ?_
    refine s_as (v := .int .i64 (-1)) rfl ?_
    refine done ?_
    refine then_norm ?_
    refine wp_ret (then_ret ?_)
    refine ret1 (fn := Try.f39) rfl ?_ ⟨(-1), rfl, h, hC.below⟩ (.inl rfl)
    exact res_tmp rfl
  · replace h := iff_ h (cf hb12)
    refine wp_skip ?_
    refine then_norm ?_
    refine wp_seq ?_
    refine cw_region ?_
    refine s_mv (v := .int .i64 r10) rfl ?_
    refine s_as (v := .int .i64 r10) rfl ?_
    refine done ?_
    refine then_norm ?_
    refine wp_ret ?_
    refine ret1 (fn := Try.f39) rfl ?_ ⟨r10, rfl, h, hC.below⟩ (.inl rfl)
    exact res_tmp rfl
end Go.Proofs.Ytjngkbalaipdbaa
