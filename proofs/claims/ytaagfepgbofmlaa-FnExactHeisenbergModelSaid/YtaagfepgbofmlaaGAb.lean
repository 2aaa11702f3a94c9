/- Printed by vcgen.py: functions of the program as predicates, and that the machine's calls meet them. -/
import Derived.Test.YtaagfepgbofmlaaGAa
set_option linter.unusedVariables false
set_option linter.unusedSimpArgs false
set_option maxRecDepth 4000
set_option maxHeartbeats 4000000
namespace Go.Proofs.Ytaagfepgbofmlaa
open Go Go.RowKit Vc
def f_impl_power_compare (a0 : A8) (a1 : A8) (K : Int → Prop) : Prop :=
 forN (fun i17 (s18 : Unit) next19 => (if a0.get i17 ≠ a1.get i17 then K (IntKind.i64.wrap ((a1.get i17) - (a0.get i17))) else next19 ())) (fun (s18 : Unit) => K 0) 8 0 ()
theorem c_impl_power_compare (a0 : A8) (a1 : A8)  {K : Int → Prop} (h : f_impl_power_compare a0 a1 K) (w0 : World)  :
  Calls Try.prog 142 #[.agg (List.toArray (A8.enc .i64 a0)), .agg (List.toArray (A8.enc .i64 a1))] w0 fun e w' => ∃ (r0 : Int), 
   e = .returned (.int .i64 r0) ∧ K r0 ∧ Bel w0 w' := by
 unfold f_impl_power_compare at h
 refine calls_of (args := [.agg (List.toArray (A8.enc .i64 a0)), .agg (List.toArray (A8.enc .i64 a1))]) Try.func142 rfl 24 Try.ntmps142 (Nat.le_of_ble_eq_true rfl) ?_
 have hC := Ctx.start (X := Nox) w0 [] (by simp)
 refine sr ?_
 refine s_box (v := .agg (List.toArray (A8.enc .i64 a0))) hC (A8.enc .i64 a0) rfl rfl fun b1 w3 hB_ hC => ?_
 refine s_box (v := .agg (List.toArray (A8.enc .i64 a1))) hC (A8.enc .i64 a1) rfl rfl fun b4 w6 hB_ hC => ?_
 refine s_as (v := .int .i64 0) rfl ?_
 refine dn ?_
 refine wp_seq ?_
 refine sr ?_
 refine s_mv (v := .int .i64 0) rfl ?_
 refine dn ?_
 refine wp_block ?_
 refine loopN (S := Unit) _ _ (fun i17 s18 e_ w_ => Slots e_ [(2, .pointer (some ⟨b1, 0, none⟩)), (3, .pointer (some ⟨b4, 0, none⟩)), (4, .int .i64 0), (6, .int .i64 (i17 : Int))] ∧ Ctx Nox w0 w_ [blk b4 101 (A8.enc .i64 a1), blk b1 101 (A8.enc .i64 a0)] []) 8 ?_ ?_ (s0 := ()) ?_ h
 ·clear hC h
  rintro i17 s18 e_ w23 next19 K20 hi22 ⟨hS_, hC⟩ h hK21
  refine sr ?_
  refine s_lss (sx hS_ 3 rfl) rfl ?_
  refine dn ?_
  refine wp_seq ?_
  refine cw_true rfl (decide_eq_true (by omega)) ?_
  refine wp_skip ?_
  refine then_norm ?_
  refine wp_seq ?_
  refine wp_block ?_
  refine sr ?_
  refine s_mv (v := .int .i64 (i17 : Int)) (sx hS_ 3 rfl) ?_
  refine s_as (v := .int .i64 (i17 : Int)) rfl ?_
  refine dn ?_
  refine wp_seq ?_
  refine cw_draw 6 mixed [0, 1, 3, 0, 8, 24, 63] [1, 2, 4, 5] [0, 3] (by kernel_rfl) (by kernel_rfl) (by kernel_rfl) (fun hM25 hM26 w24 hB_ => ?_)
  replace hC := hC.grow hB_
  refine aF 0 (.int .i64 (i17 : Int)) rfl rfl (hM26 0 rfl) (rfl) (fun _ => by exact r_mv (v := .int .i64 (i17 : Int)) rfl) (dbits 7 1) ?_
  refine aL 1 (.pointer (some ⟨b1, i17, none⟩)) rfl rfl (hM25 1 rfl) (rfl) (fun _ hB_ => by exact r_iaddrB i17 Try.underlying101 sc3.size (sx hS_ 0 rfl) rfl (Int.natCast_nonneg _) (by omega) (by omega)) (dbits 7 3) ?_
  refine aL 2 (.int .i64 (a0.get i17)) rfl rfl (hM25 2 rfl) (rfl) (fun _ hB_ => by exact r_loadS (hC.grow hB_) 1 (.int .i64 (a0.get i17)) rfl sc3 rfl (A8.enc_get _ _ hi22)) (dbits 7 7) ?_
  refine aF 3 (.int .i64 (i17 : Int)) rfl rfl (hM26 3 rfl) (rfl) (fun _ => by exact r_mv (v := .int .i64 (i17 : Int)) rfl) (dbits 7 15) ?_
  refine aL 4 (.pointer (some ⟨b4, i17, none⟩)) rfl rfl (hM25 4 rfl) (rfl) (fun _ hB_ => by exact r_iaddrB i17 Try.underlying101 sc3.size (sx hS_ 1 rfl) rfl (Int.natCast_nonneg _) (by omega) (by omega)) (dbits 7 31) ?_
  refine aL 5 (.int .i64 (a1.get i17)) rfl rfl (hM25 5 rfl) (rfl) (fun _ hB_ => by exact r_loadS (hC.grow hB_) 0 (.int .i64 (a1.get i17)) rfl sc3 rfl (A8.enc_get _ _ hi22)) (dbits 7 63) ?_
  refine ae_tail 6 (by decide) (by decide) (by kernel_rfl) (by kernel_rfl) rfl ?_
  refine s_neq rfl rfl ?_
  refine done ?_
  refine qn_norm ?_
  refine then_norm ?_
  refine cw_cond rfl (fun hb27 => ?_) (fun hb27 => ?_)
  ·replace h := ift h (ct hb27)
   refine wp_seq ?_
   refine cw_draw 6 mixed [0, 1, 3, 0, 8, 24, 63, 127] [1, 2, 4, 5] [0, 3] (by kernel_rfl) (by kernel_rfl) (by kernel_rfl) (fun hM29 hM30 w28 hB_ => ?_)
   replace hC := hC.grow hB_
   refine aF 0 (.int .i64 (i17 : Int)) rfl rfl (hM30 0 rfl) (rfl) (fun _ => by exact r_mv (v := .int .i64 (i17 : Int)) rfl) (dbits 8 1) ?_
   refine aL 1 (.pointer (some ⟨b4, i17, none⟩)) rfl rfl (hM29 1 rfl) (rfl) (fun _ hB_ => by exact r_iaddrB i17 Try.underlying101 sc3.size (sx hS_ 1 rfl) rfl (Int.natCast_nonneg _) (by omega) (by omega)) (dbits 8 3) ?_
   refine aL 2 (.int .i64 (a1.get i17)) rfl rfl (hM29 2 rfl) (rfl) (fun _ hB_ => by exact r_loadS (hC.grow hB_) 0 (.int .i64 (a1.get i17)) rfl sc3 rfl (A8.enc_get _ _ hi22)) (dbits 8 7) ?_
   refine aF 3 (.int .i64 (i17 : Int)) rfl rfl (hM30 3 rfl) (rfl) (fun _ => by exact r_mv (v := .int .i64 (i17 : Int)) rfl) (dbits 8 15) ?_
   refine aL 4 (.pointer (some ⟨b1, i17, none⟩)) rfl rfl (hM29 4 rfl) (rfl) (fun _ hB_ => by exact r_iaddrB i17 Try.underlying101 sc3.size (sx hS_ 0 rfl) rfl (Int.natCast_nonneg _) (by omega) (by omega)) (dbits 8 31) ?_
   refine aL 5 (.int .i64 (a0.get i17)) rfl rfl (hM29 5 rfl) (rfl) (fun _ hB_ => by exact r_loadS (hC.grow hB_) 1 (.int .i64 (a0.get i17)) rfl sc3 rfl (A8.enc_get _ _ hi22)) (dbits 8 63) ?_
   refine ae_tail 6 (by decide) (by decide) (by kernel_rfl) (by kernel_rfl) rfl ?_
   refine s_sub rfl rfl ?_
   refine s_as (v := .int .i64 (IntKind.i64.wrap ((a1.get i17) - (a0.get i17)))) rfl ?_
   refine done ?_
   refine qn_norm ?_
   refine then_norm ?_
   refine wp_ret (blk_ret (then_ret (then_ret (blk_ret (then_ret ?_)))))
   refine ret1 (fn := Try.f142) rfl ?_ ⟨IntKind.i64.wrap ((a1.get i17) - (a0.get i17)), rfl, h, hC.below⟩ (.inl rfl)
   exact res_tmp rfl
  ·replace h := iff_ h (cf hb27)
   refine wp_skip ?_
   refine blk_norm ?_
   refine then_norm ?_
   refine cw_region ?_
   refine s_add (sx hS_ 3 rfl) rfl ?_
   refine s_mv (v := .int .i64 (IntKind.i64.wrap ((i17 : Int) + 1))) rfl ?_
   refine done ?_
   exact hK21 () _ _ ⟨(sk (sx hS_ 0 rfl) (sk (sx hS_ 1 rfl) (sk (sx hS_ 2 rfl) (sk (tr rfl (congrArg _ (wrap64_nat hi22 (by decide)))) sn)))), hC⟩ h
 ·clear hC h
  rintro s18 e_ w31 K20 ⟨hS_, hC⟩ h
  refine sr ?_
  refine s_lss (sx hS_ 3 rfl) rfl ?_
  refine dn ?_
  refine wp_seq ?_
  refine cw_false rfl (decide_eq_false (by omega)) ?_
  refine wp_exit (then_exit (then_exit (exit_in ?_)))
  refine then_norm ?_
  refine sr ?_
  refine s_as (v := .int .i64 0) rfl ?_
  refine dn ?_
  refine wp_ret ?_
  refine ret1 (fn := Try.f142) rfl ?_ ⟨0, rfl, h, hC.below⟩ (.inl rfl)
  exact res_tmp rfl
 ·skip
  exact ⟨(sk rfl (sk rfl (sk rfl (sk rfl sn)))), hC⟩
theorem pw_law : Cmp Try.prog Try.sortPow_ren (EA .i64) OkP pcmp 142 := ⟨Try.sortPow, ⟨_, OkP.zero⟩, ag101, pcmp_swo, ⟨_, Try.func142, rfl, rfl⟩, fun a b ha hb w => by
 refine (c_impl_power_compare a b (K := fun r => r = pcmp a b) (cmpText_meets (K := fun r => r = pcmp a b) ha hb rfl) w).mono ?_
 rintro e w' ⟨r, rfl, rfl, hB⟩
 exact ⟨rfl, hB⟩⟩
def f_impl_sum_powers (a0 : List (A8 × Int)) (K : List A8 → Prop) : Prop :=
 mapP (fun (q13 : A8 × Int) (s55 : (List A8)) next57 => (Room (s55.length + 1) 64 ∧ next57 (s55 ++ [q13.1]))) (fun (s55 : (List A8)) => SortP OkP pcmp s55 (fun xs66 => K xs66)) a0.length a0 []
theorem c_impl_sum_powers (a0 : List (A8 × Int)) {b0 : Nat} {K : List A8 → Prop} (h : f_impl_sum_powers a0 K) (w0 : World) (q0 : (mapI (kvA .i64) (vvI .i64) b0 a0).holds w0) :
  Calls Try.prog 124 #[.map (some b0)] w0 fun e w' => ∃ (r0 : List A8) (z0_0 : Value) (fz0 : List Nat), 
   e = .returned (z0_0) ∧ K r0 ∧ (Tr.item (Tr.sl 101 ((EA .i64).tr)) r0 [z0_0] fz0).holds w' ∧ (∀ b, b ∈ fz0 → w0.heap.size ≤ b) ∧ Bel w0 w' := by
 unfold f_impl_sum_powers at h
 refine calls_of (args := [.map (some b0)]) Try.func124 rfl 19 Try.ntmps124 (Nat.le_of_ble_eq_true rfl) ?_
 have hC := Ctx.start (X := Nox) w0 [mapI (kvA .i64) (vvI .i64) b0 a0] (by simp only [List.mem_cons, List.not_mem_nil, or_false, forall_eq_or_imp, forall_eq]; exact q0)
 refine sr ?_
 refine s_as (v := .slice none 0 0) rfl ?_
 refine dn ?_
 refine sr ?_
 refine s_bslice (sz := 8) hC [] ((EA .i64).encs []) rfl (fun _ => bs121_0  _) rfl (by decide) fun b2 w3 hB_ hC => ?_
 refine s_as (v := .slice (some ⟨b2, 0, none⟩) 0 0) rfl ?_
 refine dn ?_
 refine wp_seq ?_
 refine sr ?_
 refine s_mv (v := .map (some b0)) rfl ?_
 refine s_range hC 0 rfl Try.underlying99 rfl fun r5 es6 ck7 w12 hB_ hn8 hbn9 hC => ?_
 refine dn ?_
 refine wp_block ?_
 refine loopM (S := (List A8)) _ _ (fun l15 s55 e_ w_ => ∃ (v56 : Value), ∃ (la17 : Option MapEntry), Slots e_ [(2, .slice none 0 0), (3, v56), (7, .pointer (some ⟨r5, 0, none⟩))] ∧ Ctx Nox w0 w_ [itI (kvA .i64) (vvI .i64) r5 b0 es6 ck7 la17 l15, own 101 8 v56 s55.length ((EA .i64).encs s55)] [mapE b0 es6 ck7, mapI (kvA .i64) (vvI .i64) b0 a0]) ?_ (l0 := a0) (s0 := []) ?_ h
 ·clear hC h
  rintro l15 s55 e_ w60 next57 K58 ⟨v56, la17, hS_, hC⟩ h hK59
  refine sr ?_
  refine s_next hC 0 0 rfl rfl hn8 hbn9 (sx hS_ 2 rfl) (fun hr61 => ?_) (fun q13 l14 ent62 w65 hp16 hk63 hv64 hC => ?_)
  ·replace h := h.1 hr61
   refine s_ext (v := .bool false) rfl rfl ?_
   refine dn ?_
   refine wp_seq ?_
   refine cw_false rfl rfl ?_
   refine wp_exit (then_exit (then_exit (exit_in ?_)))
   refine then_norm ?_
   refine sr ?_
   refine s_mv (v := v56) (sx hS_ 1 rfl) ?_
   refine s_sort hC 1 pw_law rfl rfl Try.func151 rfl rfl rfl rfl h fun xs66 w67 h hC => ?_
   refine dn ?_
   refine sr ?_
   refine s_mv (v := v56) (sx hS_ 1 rfl) ?_
   refine s_as (v := v56) rfl ?_
   refine dn ?_
   refine wp_ret ?_
   refine ret1 (fn := Try.f124) rfl ?_ ⟨xs66, v56, (Option.toList (Value.ownBlock v56)), rfl, h, (own_item (hC.getM 1 rfl)), (own_fresh hC 1 rfl), hC.below⟩ (.inl rfl)
   exact res_tmp rfl
  ·replace h := h.2 q13 l14 hp16
   refine s_ext (v := .bool true) rfl rfl ?_
   refine dn ?_
   refine wp_seq ?_
   refine cw_true rfl rfl ?_
   refine wp_skip ?_
   refine then_norm ?_
   refine wp_block ?_
   refine sr ?_
   refine s_entry hC 0 0 q13 rfl rfl hn8 (sx hS_ 2 rfl) hk63 hv64 ?_
   refine s_ext (v := .agg (List.toArray (A8.enc .i64 q13.1))) rfl rfl ?_
   refine s_alloc hC (A8.enc .i64 A8.zero) z101 rfl fun b68 w70 hB_ hC => ?_
   refine s_store (v := .agg (List.toArray (A8.enc .i64 q13.1))) hC 0 (A8.enc .i64 q13.1) (A8.enc .i64 q13.1) rfl ag101.size rfl rfl rfl rfl rfl (Nat.le_of_ble_eq_true rfl) rfl fun w71 hC => ?_
   refine dn ?_
   refine cw_region ?_
   refine s_mv (v := v56) (sx hS_ 1 rfl) ?_
   refine s_loadA hC 0 (A8.enc .i64 q13.1) rfl ag101 rfl rfl rfl ?_
   refine s_bslice (sz := 8) hC [(0, .agg (List.toArray (A8.enc .i64 q13.1)))] ((EA .i64).encs [q13.1]) rfl (fun _ => bs121_1 q13.1 _) rfl (by decide) fun b72 w73 hB_ hC => ?_
   obtain ⟨hm77, h⟩ := h
   refine s_app hC 3 Try.underlying121 el101 rfl (by decide) (by decide) rfl (own_rdr (hC.getM 0 rfl)) (fun q hq => Enc.encs_one' (E := (EA .i64)) _ q hq) rfl rfl hm77 fun v75 w76 hC => ?_
   replace hC := own_re hC 3 ((s55 ++ [q13.1]).length) ((EA .i64).encs (s55 ++ [q13.1])) rfl (by simp) (by first | (simp [Enc.encs_append]; done) | simp [Enc.encs_append, Enc.encs])
   refine s_as (v := v75) rfl ?_
   refine done ?_
   refine blk_norm ?_
   replace hC := hC.sM [2, 3] (M' := [itI (kvA .i64) (vvI .i64) r5 b0 es6 ck7 (some ent62) l14, own 101 8 v75 ((s55 ++ [q13.1]).length) ((EA .i64).encs (s55 ++ [q13.1]))]) (by decide) rfl
   exact hK59 q13 l14 (s55 ++ [q13.1]) _ _ hp16 ⟨v75, (some ent62), (sk (sx hS_ 0 rfl) (sk rfl (sk (sx hS_ 2 rfl) sn))), hC⟩ h
 ·skip
  exact ⟨.slice (some ⟨b2, 0, none⟩) 0 0, none, (sk rfl (sk rfl (sk rfl sn))), hC⟩
def f_impl_sum_form (a0 : List (A8 × Int)) (K : Vc.Form → Int → Prop) : Prop :=
 (if (a0.length : Int) > 400 then K (⟨[]⟩ : Vc.Form) 3 else f_impl_sum_powers a0 (fun r14 => forN (fun i168 (s169 : (List Term)) next173 => forN (fun i221 (s222 : A8) next223 => (if (r14.getD i168 default).get i221 > 20 then K (⟨[]⟩ : Vc.Form) 3 else next223 (s222.set i221 (IntKind.u8.wrap ((r14.getD i168 default).get i221))))) (fun (s222 : A8) => (Room (s169.length + 1) 16 ∧ next173 (s169 ++ [(⟨s222, (mget a0 (r14.getD i168 default)).getD 0⟩ : Term)]))) 8 0 A8.zero) (fun (s169 : (List Term)) => K (⟨s169⟩ : Vc.Form) 0) r14.length 0 []))
theorem c_impl_sum_form (a0 : List (A8 × Int)) {b0 : Nat} {K : Vc.Form → Int → Prop} (h : f_impl_sum_form a0 K) (w0 : World) (q0 : (mapI (kvA .i64) (vvI .i64) b0 a0).holds w0) :
  Calls Try.prog 73 #[.map (some b0)] w0 fun e w' => ∃ (r0 : Vc.Form) (z0_0 : Value) (fz0 : List Nat) (r1 : Int), 
   e = .returned (.tuple #[.agg #[z0_0], .int .i64 r1]) ∧ K r0 r1 ∧ (Tr.item (TrForm 114) r0 [z0_0] fz0).holds w' ∧ (∀ b, b ∈ fz0 → w0.heap.size ≤ b) ∧ Bel w0 w' := by
 unfold f_impl_sum_form at h
 refine calls_of (args := [.map (some b0)]) Try.func73 rfl 48 Try.ntmps73 (Nat.le_of_ble_eq_true rfl) ?_
 have hC := Ctx.start (X := Nox) w0 [mapI (kvA .i64) (vvI .i64) b0 a0] (by simp only [List.mem_cons, List.not_mem_nil, or_false, forall_eq_or_imp, forall_eq]; exact q0)
 refine sr ?_
 refine s_alloc hC [.slice none 0 0] z95 rfl fun b2 w4 hB_ hC => ?_
 refine s_as (v := .int .i64 0) rfl ?_
 refine dn ?_
 refine wp_seq ?_
 refine sr ?_
 refine s_mv (v := .map (some b0)) rfl ?_
 refine s_maplen (hC.getP 0 rfl) Try.underlying99 rfl rfl ?_
 refine s_gtr rfl rfl ?_
 refine dn ?_
 refine cw_cond rfl (fun hb5 => ?_) (fun hb5 => ?_)
 ·replace h := ift h (ct hb5)
  refine sr ?_
  refine s_build [] rfl (bl95   _) ?_
  refine s_store (v := .agg #[.slice none 0 0]) hC 0 [.slice none 0 0] [.slice none 0 0] rfl ag95.size rfl rfl rfl rfl rfl (Nat.le_of_ble_eq_true rfl) rfl fun w6 hC => ?_
  refine s_as (v := .int .i64 3) rfl ?_
  refine dn ?_
  refine wp_ret (then_ret ?_)
  refine ret2 (fn := Try.f73) rfl ?_ ?_ ⟨(⟨[]⟩ : Vc.Form), .slice none 0 0, [], 3, rfl, h, (form_join (nil_item _ _ _)), (fun b hb => absurd hb (by simp)), hC.below⟩ (.inl rfl)
  ·exact res_cellA hC 0 rfl ag95 rfl rfl
  ·exact res_tmp rfl
 ·replace h := iff_ h (cf hb5)
  refine wp_skip ?_
  refine then_norm ?_
  refine sr ?_
  refine s_build [] rfl (bl95   _) ?_
  refine s_alloc hC [.slice none 0 0] z95 rfl fun b7 w9 hB_ hC => ?_
  refine s_store (v := .agg #[.slice none 0 0]) hC 0 [.slice none 0 0] [.slice none 0 0] rfl ag95.size rfl rfl rfl rfl rfl (Nat.le_of_ble_eq_true rfl) rfl fun w10 hC => ?_
  refine dn ?_
  refine wp_seq ?_
  refine sr ?_
  refine s_mv (v := .map (some b0)) rfl ?_
  refine s_call [.map (some b0)] _ Try.func124 rfl rfl rfl (c_impl_sum_powers a0 h _ (hC.getP 0 rfl)) (fun ret11 w13 hR12 => ?_)
  obtain ⟨r14, u15, f16, rfl, h, hr17, hf18, hB19⟩ := hR12
  refine ⟨_, rfl, ?_⟩
  replace hC := hC.push hB19 (Tr.item (Tr.sl 101 ((EA .i64).tr)) r14 [u15] f16) hr17 hf18
  obtain ⟨ho21, hf22⟩ := flat_tr (hC.getM 0 rfl).1
  subst hf22
  replace hC := hC.recast (c := own 101 8 u15 r14.length ((EA .i64).encs r14)) (fun _ h_ => h_) (fun _ => ho21)
  obtain ⟨Ad24, c25, hv26⟩ := own_form (hC.getM 0 rfl)
  refine s_len Try.underlying121 (tr rfl hv26) ?_
  refine s_mv (v := .int .i64 0) rfl ?_
  refine dn ?_
  refine wp_block ?_
  have hN172 : r14.length ≤ 9223372036854775807 := own_max (hC.getM 0 rfl)
  refine loopN (S := (List Term)) _ _ (fun i168 s169 e_ w_ => ∃ (v170 : Value), Slots e_ [(0, .map (some b0)), (2, .pointer (some ⟨b2, 0, none⟩)), (3, .int .i64 0), (4, .pointer (some ⟨b7, 0, none⟩)), (16, u15), (17, .int .i64 (r14.length : Int)), (18, .int .i64 (i168 : Int))] ∧ Ctx Nox w0 w_ [own 114 9 v170 s169.length (ETerm.encs s169), own 101 8 u15 r14.length ((EA .i64).encs r14), blk b7 95 [v170], blk b2 95 [.slice none 0 0]] [mapI (kvA .i64) (vvI .i64) b0 a0]) r14.length ?_ ?_ (s0 := []) ?_ h
  ·clear hC h
   rintro i168 s169 e_ w177 next173 K174 hi176 ⟨v170, hS_, hC⟩ h hK175
   refine sr ?_
   refine s_lss (sx hS_ 6 rfl) (sx hS_ 5 rfl) ?_
   refine dn ?_
   refine wp_seq ?_
   refine cw_true rfl (decide_eq_true (by omega)) ?_
   refine wp_skip ?_
   refine then_norm ?_
   refine wp_seq ?_
   refine wp_block ?_
   refine sr ?_
   obtain ⟨Ad178, c179, hv180⟩ := own_formE (hC.getM 1 rfl) (Nat.lt_of_le_of_lt (Nat.zero_le _) hi176)
   refine s_iaddrO (i168 * 8) Try.underlying121 ag101.size (tr (sx hS_ 4 rfl) hv180) (sx hS_ 6 rfl) (Int.natCast_nonneg _) (Int.ofNat_lt.2 hi176) rfl ?_
   refine s_loadCA (A8.enc .i64 (r14.getD i168 default)) (own_cellsE (hC.getM 1 rfl) hv180 i168 hi176) ag101 rfl rfl ?_
   refine s_alloc hC (A8.enc .i64 A8.zero) z101 rfl fun b181 w183 hB_ hC => ?_
   refine s_store (v := .agg (List.toArray (A8.enc .i64 (r14.getD i168 default)))) hC 0 (A8.enc .i64 (r14.getD i168 default)) (A8.enc .i64 (r14.getD i168 default)) rfl ag101.size rfl rfl rfl rfl rfl (Nat.le_of_ble_eq_true rfl) rfl fun w184 hC => ?_
   refine dn ?_
   refine sr ?_
   refine s_build [] rfl (bl49   _) ?_
   refine s_alloc hC (A8.enc .u8 A8.zero) z49 rfl fun b185 w187 hB_ hC => ?_
   refine s_store (v := .agg (List.toArray (A8.enc .u8 A8.zero))) hC 0 (A8.enc .u8 A8.zero) (A8.enc .u8 A8.zero) rfl ag49.size rfl rfl rfl rfl rfl (Nat.le_of_ble_eq_true rfl) rfl fun w188 hC => ?_
   refine dn ?_
   refine wp_seq ?_
   refine sr ?_
   refine s_loadA hC 1 (A8.enc .i64 (r14.getD i168 default)) rfl ag101 rfl rfl rfl ?_
   refine s_mv (v := .int .i64 0) rfl ?_
   refine dn ?_
   refine wp_block ?_
   refine loopN (S := A8) _ _ (fun i221 s222 e_ w_ => Slots e_ [(0, .map (some b0)), (2, .pointer (some ⟨b2, 0, none⟩)), (3, .int .i64 0), (4, .pointer (some ⟨b7, 0, none⟩)), (6, .pointer (some ⟨b181, 0, none⟩)), (7, .pointer (some ⟨b185, 0, none⟩)), (16, u15), (17, .int .i64 (r14.length : Int)), (18, .int .i64 (i168 : Int)), (19, .bool (decide ((i168 : Int) < (r14.length : Int)))), (20, .pointer (some ⟨Ad178, i168 * 8, none⟩)), (21, .agg (List.toArray (A8.enc .i64 (r14.getD i168 default)))), (22, .agg (List.toArray (A8.enc .u8 A8.zero))), (23, .agg (List.toArray (A8.enc .i64 (r14.getD i168 default)))), (24, .int .i64 (i221 : Int))] ∧ Ctx Nox w0 w_ [blk b185 49 (A8.enc .u8 s222), blk b181 101 (A8.enc .i64 (r14.getD i168 default)), own 114 9 v170 s169.length (ETerm.encs s169), own 101 8 u15 r14.length ((EA .i64).encs r14), blk b7 95 [v170], blk b2 95 [.slice none 0 0]] [mapI (kvA .i64) (vvI .i64) b0 a0]) 8 ?_ ?_ (s0 := A8.zero) ?_ h
   ·clear hC h
    rintro i221 s222 e_ w227 next223 K224 hi226 ⟨hS_, hC⟩ h hK225
    refine sr ?_
    refine s_lss (sx hS_ 14 rfl) rfl ?_
    refine dn ?_
    refine wp_seq ?_
    refine cw_true rfl (decide_eq_true (by omega)) ?_
    refine wp_skip ?_
    refine then_norm ?_
    refine wp_seq ?_
    refine wp_block ?_
    refine sr ?_
    refine s_mv (v := .int .i64 (i221 : Int)) (sx hS_ 14 rfl) ?_
    refine s_index (.int .i64 ((r14.getD i168 default).get i221)) Try.underlying101 (sx hS_ 13 rfl) (sx hS_ 14 rfl) (Int.natCast_nonneg _) (by omega) sc3 (A8.enc_get _ _ hi226) ?_
    refine s_as (v := .int .i64 (i221 : Int)) rfl ?_
    refine s_as (v := .int .i64 ((r14.getD i168 default).get i221)) rfl ?_
    refine dn ?_
    refine wp_seq ?_
    refine sr ?_
    refine s_mv (v := .int .i64 ((r14.getD i168 default).get i221)) rfl ?_
    refine s_gtr rfl rfl ?_
    refine dn ?_
    refine cw_cond rfl (fun hb228 => ?_) (fun hb228 => ?_)
    ·replace h := ift h (ct hb228)
     refine sr ?_
     refine s_build [] rfl (bl95   _) ?_
     refine s_store (v := .agg #[.slice none 0 0]) hC 5 [.slice none 0 0] [.slice none 0 0] rfl ag95.size (sx hS_ 1 rfl) rfl rfl rfl rfl (Nat.le_of_ble_eq_true rfl) rfl fun w229 hC => ?_
     refine s_as (v := .int .i64 3) rfl ?_
     refine dn ?_
     refine wp_ret (then_ret (blk_ret (then_ret (then_ret (blk_ret (then_ret (blk_ret (then_ret (then_ret (blk_ret (then_ret ?_)))))))))))
     refine ret2 (fn := Try.f73) rfl ?_ ?_ ⟨(⟨[]⟩ : Vc.Form), .slice none 0 0, [], 3, rfl, h, (form_join (nil_item _ _ _)), (fun b hb => absurd hb (by simp)), hC.below⟩ (.inl rfl)
     ·exact res_cellA hC 5 rfl ag95 (sx hS_ 1 rfl) rfl
     ·exact res_tmp rfl
    ·replace h := iff_ h (cf hb228)
     refine wp_skip ?_
     refine then_norm ?_
     refine cw_region ?_
     refine s_mv (v := .int .i64 (i221 : Int)) rfl ?_
     refine s_mv (v := .int .i64 ((r14.getD i168 default).get i221)) rfl ?_
     refine s_conv Try.underlying3 Try.underlying5 rfl ?_
     refine s_iaddrB i221 Try.underlying49 sc5.size (sx hS_ 5 rfl) rfl (Int.natCast_nonneg _) (by omega) (by omega) ?_
     refine s_store (v := .int .u8 (IntKind.u8.wrap ((r14.getD i168 default).get i221))) hC 0 [.int .u8 (IntKind.u8.wrap ((r14.getD i168 default).get i221))] (A8.enc .u8 (s222.set i221 (IntKind.u8.wrap ((r14.getD i168 default).get i221)))) rfl sc5.size rfl rfl rfl rfl rfl hi226 (A8.enc_set _ _ _ hi226) fun w230 hC => ?_
     refine done ?_
     refine blk_norm ?_
     refine then_norm ?_
     refine cw_region ?_
     refine s_add (sx hS_ 14 rfl) rfl ?_
     refine s_mv (v := .int .i64 (IntKind.i64.wrap ((i221 : Int) + 1))) rfl ?_
     refine done ?_
     exact hK225 (s222.set i221 (IntKind.u8.wrap ((r14.getD i168 default).get i221))) _ _ ⟨(sk (sx hS_ 0 rfl) (sk (sx hS_ 1 rfl) (sk (sx hS_ 2 rfl) (sk (sx hS_ 3 rfl) (sk (sx hS_ 4 rfl) (sk (sx hS_ 5 rfl) (sk (sx hS_ 6 rfl) (sk (sx hS_ 7 rfl) (sk (sx hS_ 8 rfl) (sk (sx hS_ 9 rfl) (sk (sx hS_ 10 rfl) (sk (sx hS_ 11 rfl) (sk (sx hS_ 12 rfl) (sk (sx hS_ 13 rfl) (sk (tr rfl (congrArg _ (wrap64_nat hi226 (by decide)))) sn))))))))))))))), hC⟩ h
   ·clear hC h
    rintro s222 e_ w231 K224 ⟨hS_, hC⟩ h
    refine sr ?_
    refine s_lss (sx hS_ 14 rfl) rfl ?_
    refine dn ?_
    refine wp_seq ?_
    refine cw_false rfl (decide_eq_false (by omega)) ?_
    refine wp_exit (then_exit (then_exit (exit_in ?_)))
    refine then_norm ?_
    refine cw_draw 8 mixed [0, 1, 0, 0, 0, 24, 60, 124, 255, 511, 1023] [1, 2, 4, 5, 6] [0, 3] (by kernel_rfl) (by kernel_rfl) (by kernel_rfl) (fun hM233 hM234 w232 hB_ => ?_)
    replace hC := hC.grow hB_
    refine aF 0 (.pointer (some ⟨b7, 0, none⟩)) rfl rfl (hM234 0 rfl) (rfl) (fun _ => by exact r_faddrB 0 Try.underlying95 rfl sc93.size (sx hS_ 3 rfl) rfl) (dbits 11 1) ?_
    refine aL 1 (v170) rfl rfl (hM233 1 rfl) (rfl) (fun _ hB_ => by exact r_loadS (hC.grow hB_) 4 (v170) rfl sc93 rfl rfl) (dbits 11 3) ?_
    refine aL 2 (.agg (List.toArray (A8.enc .u8 s222))) rfl rfl (hM233 2 rfl) (rfl) (fun _ hB_ => by exact r_loadA (hC.grow hB_) 0 (A8.enc .u8 s222) rfl ag49 (sx hS_ 5 rfl) rfl rfl) (dbits 11 7) ?_
    refine aF 3 (.map (some b0)) rfl rfl (hM234 3 rfl) (rfl) (fun _ => by exact r_mv (v := .map (some b0)) (sx hS_ 0 rfl)) (dbits 11 15) ?_
    refine aL 4 (.agg (List.toArray (A8.enc .i64 (r14.getD i168 default)))) rfl rfl (hM233 4 rfl) (rfl) (fun _ hB_ => by exact r_loadA (hC.grow hB_) 1 (A8.enc .i64 (r14.getD i168 default)) rfl ag101 (sx hS_ 4 rfl) rfl rfl) (dbits 11 31) ?_
    refine aL 5 (.int .i64 ((mget a0 (r14.getD i168 default)).getD 0)) rfl rfl (hM233 5 rfl) (rfl) (fun _ hB_ => by exact r_lookup (r14.getD i168 default) 0 ((hC.grow hB_).getP 0 rfl) kt101 Try.underlying99 z2 rfl rfl) (dbits 11 63) ?_
    refine aL 6 (.agg (List.toArray (Term.enc (⟨s222, (mget a0 (r14.getD i168 default)).getD 0⟩ : Term)))) rfl rfl (hM233 6 rfl) (rfl) (fun _ hB_ => by exact r_build [(0, .agg (List.toArray (A8.enc .u8 s222))), (1, .int .i64 ((mget a0 (r14.getD i168 default)).getD 0))] rfl (bl114_0flat_1int s222 ((mget a0 (r14.getD i168 default)).getD 0)  _)) (dbits 11 127) ?_
    refine aO 7 rfl ?_
    refine s_bslice (sz := 9) hC [(0, .agg (List.toArray (Term.enc (⟨s222, (mget a0 (r14.getD i168 default)).getD 0⟩ : Term))))] (ETerm.encs [(⟨s222, (mget a0 (r14.getD i168 default)).getD 0⟩ : Term)]) rfl (fun _ => bs93_1 (⟨s222, (mget a0 (r14.getD i168 default)).getD 0⟩ : Term) _) rfl (by decide) fun b235 w236 hB_ hC => ?_
    refine done ?_
    refine aK (by assumption) (dbits 11 255) ?_
    refine ae_tail 8 (by decide) (by decide) (by kernel_rfl) (by kernel_rfl) rfl ?_
    obtain ⟨hm240, h⟩ := h
    refine s_app hC 3 Try.underlying93 el114 rfl (by decide) (by decide) rfl (own_rdr (hC.getM 0 rfl)) (fun q hq => Enc.encs_one' (E := ETerm) _ q hq) rfl rfl hm240 fun v238 w239 hC => ?_
    replace hC := own_re hC 3 ((s169 ++ [(⟨s222, (mget a0 (r14.getD i168 default)).getD 0⟩ : Term)]).length) (ETerm.encs (s169 ++ [(⟨s222, (mget a0 (r14.getD i168 default)).getD 0⟩ : Term)])) rfl (by simp) (by first | (simp [Enc.encs_append]; done) | simp [Enc.encs_append, Enc.encs])
    refine s_faddrB 0 Try.underlying95 rfl sc93.size (sx hS_ 3 rfl) rfl ?_
    refine s_store (v := v238) hC 5 [v238] [v238] rfl sc93.size rfl rfl (own_cellsV (hC.getM 3 rfl)) rfl (all_c (own_oneC (hC.getM 3 rfl)) rfl) (Nat.le_of_ble_eq_true rfl) rfl fun w241 hC => ?_
    refine done ?_
    refine qn_norm ?_
    refine blk_norm ?_
    refine then_norm ?_
    refine cw_region ?_
    refine s_add (sx hS_ 8 rfl) rfl ?_
    refine s_mv (v := .int .i64 (IntKind.i64.wrap ((i168 : Int) + 1))) rfl ?_
    refine done ?_
    replace hC := hC.sM [3, 4, 5, 6] (M' := [own 114 9 v238 ((s169 ++ [(⟨s222, (mget a0 (r14.getD i168 default)).getD 0⟩ : Term)]).length) (ETerm.encs (s169 ++ [(⟨s222, (mget a0 (r14.getD i168 default)).getD 0⟩ : Term)])), own 101 8 u15 r14.length ((EA .i64).encs r14), blk b7 95 [v238], blk b2 95 [.slice none 0 0]]) (by decide) rfl
    exact hK175 (s169 ++ [(⟨s222, (mget a0 (r14.getD i168 default)).getD 0⟩ : Term)]) _ _ ⟨v238, (sk (sx hS_ 0 rfl) (sk (sx hS_ 1 rfl) (sk (sx hS_ 2 rfl) (sk (sx hS_ 3 rfl) (sk (sx hS_ 6 rfl) (sk (sx hS_ 7 rfl) (sk (tr rfl (congrArg _ (wrap64_nat hi176 hN172))) sn))))))), hC⟩ h
   ·skip
    exact ⟨(sk (sx hS_ 0 rfl) (sk (sx hS_ 1 rfl) (sk (sx hS_ 2 rfl) (sk (sx hS_ 3 rfl) (sk rfl (sk rfl (sk (sx hS_ 4 rfl) (sk (sx hS_ 5 rfl) (sk (sx hS_ 6 rfl) (sk rfl (sk rfl (sk rfl (sk rfl (sk rfl (sk rfl sn))))))))))))))), hC⟩
  ·clear hC h
   rintro s169 e_ w242 K174 ⟨v170, hS_, hC⟩ h
   refine sr ?_
   refine s_lss (sx hS_ 6 rfl) (sx hS_ 5 rfl) ?_
   refine dn ?_
   refine wp_seq ?_
   refine cw_false rfl (decide_eq_false (by omega)) ?_
   refine wp_exit (then_exit (then_exit (exit_in ?_)))
   refine then_norm ?_
   refine sr ?_
   refine s_loadA hC 2 [v170] rfl ag95 (sx hS_ 3 rfl) rfl rfl ?_
   refine s_store (v := .agg #[v170]) hC 3 [v170] [v170] rfl ag95.size (sx hS_ 1 rfl) rfl rfl rfl (all_c (own_oneC (hC.getM 0 rfl)) rfl) (Nat.le_of_ble_eq_true rfl) rfl fun w243 hC => ?_
   refine s_as (v := .int .i64 0) rfl ?_
   refine dn ?_
   refine wp_ret ?_
   refine ret2 (fn := Try.f73) rfl ?_ ?_ ⟨(⟨s169⟩ : Vc.Form), v170, (Option.toList (Value.ownBlock v170)), 0, rfl, h, (form_join (own_item (hC.getM 0 rfl))), (own_fresh hC 0 rfl), hC.below⟩ (.inl rfl)
   ·exact res_cellA hC 3 rfl ag95 (sx hS_ 1 rfl) rfl
   ·exact res_tmp rfl
  ·skip
   replace hC := hC.pushNil 114 9
   exact ⟨.slice none 0 0, (sk rfl (sk rfl (sk rfl (sk rfl (sk rfl (sk rfl (sk rfl sn))))))), hC⟩
def f_impl_within (a0 : Int) (a1 : Int) (a2 : Int) (K : Bool → Prop) : Prop :=
 (if a0 ≥ a1 then K (decide (a0 ≤ a2)) else K false)
theorem c_impl_within (a0 : Int) (a1 : Int) (a2 : Int)  {K : Bool → Prop} (h : f_impl_within a0 a1 a2 K) (w0 : World)  :
  Calls Try.prog 48 #[.int .i64 a0, .int .i64 a1, .int .i64 a2] w0 fun e w' => ∃ (r0 : Bool), 
   e = .returned (.bool r0) ∧ K r0 ∧ Bel w0 w' := by
 unfold f_impl_within at h
 refine calls_of (args := [.int .i64 a0, .int .i64 a1, .int .i64 a2]) Try.func48 rfl 15 Try.ntmps48 (Nat.le_of_ble_eq_true rfl) ?_
 have hC := Ctx.start (X := Nox) w0 [] (by simp)
 refine sr ?_
 refine s_as (v := .bool false) rfl ?_
 refine dn ?_
 refine sr ?_
 refine s_mv (v := .int .i64 a0) rfl ?_
 refine s_mv (v := .int .i64 a1) rfl ?_
 refine s_geq rfl rfl ?_
 refine s_mv (v := .bool (decide (a0 ≥ a1))) rfl ?_
 refine bsplit (decide (a0 ≥ a1)) (fun hb1 => ?_) (fun hb1 => ?_)
 ·replace h := ift h (ct hb1)
  refine guardOn 3 10 rfl rfl hb1 ?_
  refine s_mv (v := .int .i64 a0) rfl ?_
  refine guardOn 3 10 rfl rfl hb1 ?_
  refine s_mv (v := .int .i64 a2) rfl ?_
  refine guardOn 3 10 rfl rfl hb1 ?_
  refine s_leq rfl rfl ?_
  refine s_pick (v := .bool (decide (a0 ≤ a2))) (b := true) (tr rfl (congrArg _ hb1)) rfl ?_
  refine s_as (v := .bool (decide (a0 ≤ a2))) rfl ?_
  refine dn ?_
  refine wp_ret ?_
  refine ret1 (fn := Try.f48) rfl ?_ ⟨decide (a0 ≤ a2), rfl, h, hC.below⟩ (.inl rfl)
  exact res_tmp rfl
 ·replace h := iff_ h (cf hb1)
  refine guardOff (b := false) 3 10 rfl (tr rfl (congrArg _ hb1)) (by decide) ?_
  refine guardOff (b := false) 3 10 rfl (tr rfl (congrArg _ hb1)) (by decide) ?_
  refine guardOff (b := false) 3 10 rfl (tr rfl (congrArg _ hb1)) (by decide) ?_
  refine s_pick (v := .bool false) (b := false) (tr rfl (congrArg _ hb1)) rfl ?_
  refine s_as (v := .bool false) rfl ?_
  refine dn ?_
  refine wp_ret ?_
  refine ret1 (fn := Try.f48) rfl ?_ ⟨false, rfl, h, hC.below⟩ (.inl rfl)
  exact res_tmp rfl
end Go.Proofs.Ytaagfepgbofmlaa
