/- Printed by vcgen.py: functions of the program as predicates, and that the machine's calls meet them. -/
import Derived.Test.YtgfmflmhcfkldaaGC
import Derived.KernelRfl
set_option linter.unusedVariables false
set_option linter.unusedSimpArgs false
set_option maxRecDepth 4000
set_option maxHeartbeats 4000000
namespace Go.Proofs.Ytgfmflmhcfkldaa
open Go Go.RowKit Vc
theorem bs29_0 (w : World) : (Instr.buildSlice 29 0 #[]).run Try.prog w = .ok (.slice (some ⟨w.heap.size, 0, none⟩) 0 0) (w.alloc (.cells (List.toArray []) 46)) := by kernel_rfl
theorem bsr29_1_s (x0 : Value) (hx0 : IsSl x0) (w : World) : (Instr.buildSlice 29 1 #[(0, .agg #[x0])]).run Try.prog w = .ok (.slice (some ⟨w.heap.size, 0, none⟩) 1 1) (w.alloc (.cells (List.toArray [x0]) 46)) := by obtain ⟨_, _, _, rfl⟩ := hx0; kernel_rfl
theorem ag25 : AggT Try.prog 25 2 := ⟨⟨_, Try.underlying25, rfl⟩, by kernel_rfl⟩
def f_spec_l04Generator (a0 : Int) (K : Vc.Form → Prop) : Prop :=
 ((0 ≤ a0 ∧ a0 < 8) ∧ f_spec_l01Single (A8.zero.set a0.toNat 1) 1 (fun r14 => K r14))
theorem c_spec_l04Generator (a0 : Int)  {K : Vc.Form → Prop} (h : f_spec_l04Generator a0 K) (w0 : World)  :
  Calls Try.prog 78 #[.int .i64 a0] w0 fun e w' => ∃ (r0 : Vc.Form) (z0_0 : Value) (fz0 : List Nat), 
   e = .returned (.agg #[z0_0]) ∧ K r0 ∧ (Tr.item (TrForm 86) r0 [z0_0] fz0).holds w' ∧ (∀ b, b ∈ fz0 → w0.heap.size ≤ b) ∧ Bel w0 w' := by
 unfold f_spec_l04Generator at h
 refine calls_of (args := [.int .i64 a0]) Try.func78 rfl 9 Try.ntmps78 (Nat.le_of_ble_eq_true rfl) ?_
 have hC := Ctx.start (X := Nox) w0 [] (by simp)
 refine sr ?_
 refine s_alloc hC [.slice none 0 0] z46 rfl fun b1 w3 hB_ hC => ?_
 refine dn ?_
 refine sr ?_
 refine s_build [] rfl (bl84   _) ?_
 refine s_alloc hC (A8.enc .u8 A8.zero) z84 rfl fun b4 w6 hB_ hC => ?_
 refine s_store (v := .agg (List.toArray (A8.enc .u8 A8.zero))) hC 0 (A8.enc .u8 A8.zero) (A8.enc .u8 A8.zero) rfl ag84.size rfl rfl rfl rfl rfl (Nat.le_of_ble_eq_true rfl) rfl fun w7 hC => ?_
 refine dn ?_
 refine sr ?_
 refine s_mv (v := .int .i64 a0) rfl ?_
 obtain ⟨⟨h0_8, h1_9⟩, h⟩ := h
 refine s_iaddrB a0.toNat Try.underlying84 sc5.size rfl rfl h0_8 h1_9 (by omega) ?_
 refine s_store (v := .int .u8 1) hC 0 [.int .u8 1] (A8.enc .u8 (A8.zero.set a0.toNat 1)) rfl sc5.size rfl rfl rfl rfl rfl (show a0.toNat < 8 by omega) (A8.enc_set _ _ _ (show a0.toNat < 8 by omega)) fun w10 hC => ?_
 refine dn ?_
 refine sr ?_
 refine s_loadA hC 0 (A8.enc .u8 (A8.zero.set a0.toNat 1)) rfl ag84 rfl rfl rfl ?_
 refine s_call [.agg (List.toArray (A8.enc .u8 (A8.zero.set a0.toNat 1))), .int .i64 1] _ Try.func102 rfl rfl rfl (c_spec_l01Single (A8.zero.set a0.toNat 1) 1 h _) (fun ret11 w13 hR12 => ?_)
 obtain ⟨r14, u15, f16, rfl, h, hr17, hf18, hB19⟩ := hR12
 refine ⟨_, rfl, ?_⟩
 replace hC := hC.push hB19 (Tr.item (TrForm 86) r14 [u15] f16) hr17 hf18
 obtain ⟨ho21, hf22⟩ := form_split (hC.getM 0 rfl)
 subst hf22
 replace hC := hC.recast (c := own 86 9 u15 r14.terms.length (ETerm.encs r14.terms)) (fun _ h_ => h_) (fun _ => ho21)
 refine s_store (v := .agg #[u15]) hC 2 [u15] [u15] rfl ag46.size rfl rfl rfl rfl (all_c (own_oneC (hC.getM 0 rfl)) rfl) (Nat.le_of_ble_eq_true rfl) rfl fun w24 hC => ?_
 refine dn ?_
 refine wp_ret ?_
 refine ret1 (fn := Try.f78) rfl ?_ ⟨r14, u15, (Option.toList (Value.ownBlock u15)), rfl, h, (form_join (own_item (hC.getM 0 rfl))), (own_fresh hC 0 rfl), hC.below⟩ (.inl rfl)
 exact res_cellA hC 2 rfl ag46 rfl rfl
def f_spec_IdentityMap (a0 : Alg) (K : List Vc.Form → Int → Prop) : Prop :=
 f_spec_l02Is a0 (fun r11 => (if ¬ (r11 = true) then K [] 1 else whileP (fun (s73 : (List Vc.Form) × Int) next76 => (if s73.2 < (a0.degrees.length : Int) then f_spec_l04Generator s73.2 (fun r87 => (Room (s73.1.length + 1) 24 ∧ next76 (s73.1 ++ [r87], IntKind.i64.wrap (s73.2 + 1)))) else K s73.1 0)) ([], 0)))
theorem c_spec_IdentityMap (a0 : Alg) {u0_0 : Value} {u0_1 : Value} {fp0 : List Nat} {K : List Vc.Form → Int → Prop} (h : f_spec_IdentityMap a0 K) (w0 : World) (q0 : TAlg.rep a0 [u0_0, u0_1] fp0 w0) :
  Calls Try.prog 40 #[.agg #[u0_0, u0_1]] w0 fun e w' => ∃ (r0 : List Vc.Form) (z0_0 : Value) (fz0 : List Nat) (r1 : Int), 
   e = .returned (.tuple #[z0_0, .int .i64 r1]) ∧ K r0 r1 ∧ (Tr.item (Tr.sl 46 (TrForm 86)) r0 [z0_0] fz0).holds w' ∧ (∀ b, b ∈ fz0 → w0.heap.size ≤ b) ∧ Bel w0 w' := by
 unfold f_spec_IdentityMap at h
 refine calls_of (args := [.agg #[u0_0, u0_1]]) Try.func40 rfl 23 Try.ntmps40 (Nat.le_of_ble_eq_true rfl) ?_
 have hC := Ctx.start (X := Nox) w0 [Ty.item TAlg a0 [u0_0, u0_1] fp0] (by simp only [List.mem_cons, List.not_mem_nil, or_false, forall_eq_or_imp, forall_eq]; exact q0)
 have hp2 := (hC.getP 0 rfl)
 replace hC := hC.derive 0 rfl (Ty.item ((EI .i64).ty.sl) a0.degrees [u0_0] fp0) (fun _ => (alg_parts hp2).1) (fun _ hb_ => hb_)
 replace hC := hC.derive 1 rfl (Ty.item TForm.sl a0.images [u0_1] fp0) (fun _ => (alg_parts hp2).2) (fun _ hb_ => hb_)
 refine sr ?_
 refine s_box (v := .agg #[u0_0, u0_1]) hC [u0_0, u0_1] rfl rfl fun b5 w7 hB_ hC => ?_
 refine s_as (v := .slice none 0 0) rfl ?_
 refine s_as (v := .int .i64 0) rfl ?_
 refine dn ?_
 refine wp_seq ?_
 refine sr ?_
 refine s_loadA hC 0 [u0_0, u0_1] rfl ag31 rfl rfl rfl ?_
 refine s_call [.agg #[u0_0, u0_1]] _ Try.func47 rfl rfl rfl (c_spec_l02Is a0 h _ (alg_mk (hC.getP 1 rfl) (hC.getP 0 rfl))) (fun ret8 w10 hR9 => ?_)
 obtain ⟨r11, rfl, h, hB12⟩ := hR9
 refine ⟨_, rfl, ?_⟩
 replace hC := hC.grow hB12
 refine s_not rfl ?_
 refine dn ?_
 refine cw_cond rfl (fun hb13 => ?_) (fun hb13 => ?_)
 ·replace h := ift h (ne_t (not_t hb13))
  refine sr ?_
  refine s_as (v := .slice none 0 0) rfl ?_
  refine s_as (v := .int .i64 1) rfl ?_
  refine dn ?_
  refine wp_ret (then_ret ?_)
  refine ret2 (fn := Try.f40) rfl ?_ ?_ ⟨[], .slice none 0 0, [], 1, rfl, h, (nil_item _ _ _), (fun b hb => absurd hb (by simp)), hC.below⟩ (.inl rfl)
  ·exact res_tmp rfl
  ·exact res_tmp rfl
 ·replace h := iff_ h (not_not_intro ((not_f hb13)))
  refine wp_skip ?_
  refine then_norm ?_
  refine sr ?_
  refine s_bslice (sz := 1) hC [] [] rfl (fun _ => bs29_0 _) rfl (by decide) fun b14 w15 hB_ hC => ?_
  replace hC := hC.pushM0 (forest (TrForm 86) ([] : List Vc.Form) [] []) (forest_nil _ _) rfl
  replace hC := hC.gather (c := Tr.item (Tr.sl 46 (TrForm 86)) [] [.slice (some ⟨b14, 0, none⟩) 0 0] ((Option.toList (Value.ownBlock (.slice (some ⟨b14, 0, none⟩) 0 0))) ++ ([] : List (List Nat)).flatten)) (fun x_ hx_ => (List.mem_append.1 hx_).symm) (fun h1_ h2_ hd_ => forest_up h2_ h1_ (fun b_ hb_ hb2_ => hd_ b_ hb2_ hb_))
  refine s_as (v := .slice (some ⟨b14, 0, none⟩) 0 0) rfl ?_
  refine dn ?_
  refine wp_seq ?_
  refine sr ?_
  refine s_as (v := .int .i64 0) rfl ?_
  refine dn ?_
  refine wp_block ?_
  refine loopW (S := (List Vc.Form) × Int) _ (fun s73 e_ w_ => ∃ (v74 : Value), ∃ (f75 : List Nat), Slots e_ [(1, .pointer (some ⟨b5, 0, none⟩)), (2, .slice none 0 0), (3, .int .i64 0), (4, v74), (5, .int .i64 s73.2)] ∧ Ctx Nox w0 w_ [Tr.item (Tr.sl 46 (TrForm 86)) s73.1 [v74] f75, blk b5 31 [u0_0, u0_1]] [Ty.item TForm.sl a0.images [u0_1] fp0, Ty.item ((EI .i64).ty.sl) a0.degrees [u0_0] fp0, Ty.item TAlg a0 [u0_0, u0_1] fp0]) ?_ (s0 := ([], 0)) ?_ h
  ·clear hC h
   rintro s73 e_ w79 next76 K77 ⟨v74, f75, hS_, hC⟩ h hK78
   refine wp_seq ?_
   refine sr ?_
   refine s_mv (v := .int .i64 s73.2) (sx hS_ 4 rfl) ?_
   refine s_faddrB 0 Try.underlying31 rfl sc22.size (sx hS_ 0 rfl) rfl ?_
   refine s_loadS hC 1 (u0_0) rfl sc22 rfl rfl ?_
   obtain ⟨Ad80, c81, hv82⟩ := sl_len (hC.getP 1 rfl)
   refine s_len Try.underlying22 (tr rfl hv82) ?_
   refine s_lss rfl rfl ?_
   refine dn ?_
   refine cw_cond rfl (fun hb83 => ?_) (fun hb83 => ?_)
   ·replace h := ift h (ct hb83)
    refine wp_skip ?_
    refine then_norm ?_
    refine wp_seq ?_
    refine wp_block ?_
    refine cw_region ?_
    refine s_mv (v := v74) (sx hS_ 3 rfl) ?_
    refine s_mv (v := .int .i64 s73.2) (sx hS_ 4 rfl) ?_
    refine s_call [.int .i64 s73.2] _ Try.func78 rfl rfl rfl (c_spec_l04Generator s73.2 h _) (fun ret84 w86 hR85 => ?_)
    obtain ⟨r87, u88, f89, rfl, h, hr90, hf91, hB92⟩ := hR85
    refine ⟨_, rfl, ?_⟩
    replace hC := hC.push hB92 (Tr.item (TrForm 86) r87 [u88] f89) hr90 hf91
    obtain ⟨ho94, hf95⟩ := form_split (hC.getM 0 rfl)
    subst hf95
    replace hC := hC.recast (c := own 86 9 u88 r87.terms.length (ETerm.encs r87.terms)) (fun _ h_ => h_) (fun _ => ho94)
    refine s_bslice (sz := 1) hC [(0, .agg #[u88])] [u88] rfl (fun _ => bsr29_1_s u88 (own_isSl (hC.getM 0 rfl)) _) rfl (by decide) fun b97 w98 hB_ hC => ?_
    replace hC := hC.pushM0 (forest (TrForm 86) [] [] []) (forest_nil _ _) rfl
    replace hC := hC.sel [2, 0, 1, 3, 4] [0, 1, 2] (M' := [own 86 9 u88 r87.terms.length (ETerm.encs r87.terms), forest (TrForm 86) [] [] [], own 46 1 (.slice (some ⟨b97, 0, none⟩) 1 1) 1 [u88], Tr.item (Tr.sl 46 (TrForm 86)) s73.1 [v74] f75, blk b5 31 [u0_0, u0_1]]) (Ps' := [Ty.item TForm.sl a0.images [u0_1] fp0, Ty.item ((EI .i64).ty.sl) a0.degrees [u0_0] fp0, Ty.item TAlg a0 [u0_0, u0_1] fp0]) (by decide) rfl rfl
    replace hC := hC.gather (c := forest (TrForm 86) [r87] [u88] [(Option.toList (Value.ownBlock u88))]) (fun x_ hx_ => forest_mem hx_) (fun h1_ h2_ hd_ => forest_cons (c := [u88]) (form_join (own_item h1_)) h2_ hd_)
    replace hC := hC.sel [1, 0, 2, 3] [0, 1, 2] (M' := [own 46 1 (.slice (some ⟨b97, 0, none⟩) 1 1) 1 [u88], forest (TrForm 86) [r87] [u88] [(Option.toList (Value.ownBlock u88))], Tr.item (Tr.sl 46 (TrForm 86)) s73.1 [v74] f75, blk b5 31 [u0_0, u0_1]]) (Ps' := [Ty.item TForm.sl a0.images [u0_1] fp0, Ty.item ((EI .i64).ty.sl) a0.degrees [u0_0] fp0, Ty.item TAlg a0 [u0_0, u0_1] fp0]) (by decide) rfl rfl
    replace hC := hC.gather (c := Tr.item (Tr.sl 46 (TrForm 86)) [r87] [.slice (some ⟨b97, 0, none⟩) 1 1] ((Option.toList (Value.ownBlock (.slice (some ⟨b97, 0, none⟩) 1 1))) ++ ([(Option.toList (Value.ownBlock u88))] : List (List Nat)).flatten)) (fun x_ hx_ => List.mem_append.1 hx_) (fun h1_ h2_ hd_ => forest_up h1_ h2_ hd_)
    replace hC := hC.sel [1, 0, 2] [0, 1, 2] (M' := [Tr.item (Tr.sl 46 (TrForm 86)) s73.1 [v74] f75, Tr.item (Tr.sl 46 (TrForm 86)) [r87] [.slice (some ⟨b97, 0, none⟩) 1 1] ((Option.toList (Value.ownBlock (.slice (some ⟨b97, 0, none⟩) 1 1))) ++ ([(Option.toList (Value.ownBlock u88))] : List (List Nat)).flatten), blk b5 31 [u0_0, u0_1]]) (Ps' := [Ty.item TForm.sl a0.images [u0_1] fp0, Ty.item ((EI .i64).ty.sl) a0.degrees [u0_0] fp0, Ty.item TAlg a0 [u0_0, u0_1] fp0]) (by decide) rfl rfl
    obtain ⟨hm105, h⟩ := h
    refine s_appT hC Try.underlying29 el46 rfl (by decide) (by decide) rfl rfl hm105 fun v102 f104 w103 hC => ?_
    refine s_as (v := v102) rfl ?_
    refine done ?_
    refine blk_norm ?_
    refine then_norm ?_
    refine cw_region ?_
    refine s_mv (v := .int .i64 s73.2) (sx hS_ 4 rfl) ?_
    refine s_add rfl rfl ?_
    refine s_as (v := .int .i64 (IntKind.i64.wrap (s73.2 + 1))) rfl ?_
    refine done ?_
    exact hK78 (s73.1 ++ [r87], IntKind.i64.wrap (s73.2 + 1)) _ _ ⟨v102, f104, (sk (sx hS_ 0 rfl) (sk (sx hS_ 1 rfl) (sk (sx hS_ 2 rfl) (sk rfl (sk rfl sn))))), hC⟩ h
   ·replace h := iff_ h (cf hb83)
    refine wp_exit (then_exit (then_exit (exit_in ?_)))
    refine then_norm ?_
    refine sr ?_
    refine s_mv (v := v74) (sx hS_ 3 rfl) ?_
    refine s_as (v := v74) rfl ?_
    refine s_as (v := .int .i64 0) rfl ?_
    refine dn ?_
    refine wp_ret ?_
    refine ret2 (fn := Try.f40) rfl ?_ ?_ ⟨s73.1, v74, f75, 0, rfl, h, (hC.getM 0 rfl), (tr_fresh hC 0 rfl), hC.below⟩ (.inl rfl)
    ·exact res_tmp rfl
    ·exact res_tmp rfl
  ·skip
   exact ⟨.slice (some ⟨b14, 0, none⟩) 0 0, ((Option.toList (Value.ownBlock (.slice (some ⟨b14, 0, none⟩) 0 0))) ++ ([] : List (List Nat)).flatten), (sk rfl (sk rfl (sk rfl (sk rfl (sk rfl sn))))), hC⟩
def f_impl_generator (a0 : Int) (K : A8 → Prop) : Prop :=
 ((0 ≤ a0 ∧ a0 < 8) ∧ K (A8.zero.set a0.toNat 1))
theorem c_impl_generator (a0 : Int)  {K : A8 → Prop} (h : f_impl_generator a0 K) (w0 : World)  :
  Calls Try.prog 128 #[.int .i64 a0] w0 fun e w' => ∃ (r0 : A8), 
   e = .returned (.agg (List.toArray (A8.enc .i64 r0))) ∧ K r0 ∧ Bel w0 w' := by
 unfold f_impl_generator at h
 refine calls_of (args := [.int .i64 a0]) Try.func128 rfl 8 Try.ntmps128 (Nat.le_of_ble_eq_true rfl) ?_
 have hC := Ctx.start (X := Nox) w0 [] (by simp)
 refine sr ?_
 refine s_alloc hC (A8.enc .i64 A8.zero) z94 rfl fun b1 w3 hB_ hC => ?_
 refine dn ?_
 refine sr ?_
 refine s_build [] rfl (bl94   _) ?_
 refine s_alloc hC (A8.enc .i64 A8.zero) z94 rfl fun b4 w6 hB_ hC => ?_
 refine s_store (v := .agg (List.toArray (A8.enc .i64 A8.zero))) hC 0 (A8.enc .i64 A8.zero) (A8.enc .i64 A8.zero) rfl ag94.size rfl rfl rfl rfl rfl (Nat.le_of_ble_eq_true rfl) rfl fun w7 hC => ?_
 refine dn ?_
 refine sr ?_
 refine s_mv (v := .int .i64 a0) rfl ?_
 obtain ⟨⟨h0_8, h1_9⟩, h⟩ := h
 refine s_iaddrB a0.toNat Try.underlying94 sc3.size rfl rfl h0_8 h1_9 (by omega) ?_
 refine s_store (v := .int .i64 1) hC 0 [.int .i64 1] (A8.enc .i64 (A8.zero.set a0.toNat 1)) rfl sc3.size rfl rfl rfl rfl rfl (show a0.toNat < 8 by omega) (A8.enc_set _ _ _ (show a0.toNat < 8 by omega)) fun w10 hC => ?_
 refine dn ?_
 refine sr ?_
 refine s_loadA hC 0 (A8.enc .i64 (A8.zero.set a0.toNat 1)) rfl ag94 rfl rfl rfl ?_
 refine s_store (v := .agg (List.toArray (A8.enc .i64 (A8.zero.set a0.toNat 1)))) hC 1 (A8.enc .i64 (A8.zero.set a0.toNat 1)) (A8.enc .i64 (A8.zero.set a0.toNat 1)) rfl ag94.size rfl rfl rfl rfl rfl (Nat.le_of_ble_eq_true rfl) rfl fun w11 hC => ?_
 refine dn ?_
 refine wp_ret ?_
 refine ret1 (fn := Try.f128) rfl ?_ ⟨A8.zero.set a0.toNat 1, rfl, h, hC.below⟩ (.inl rfl)
 exact res_cellA hC 1 rfl ag94 rfl rfl
def f_impl_generatorForm (a0 : Int) (a1 : Int) (K : Vc.Form → Prop) : Prop :=
 f_impl_generator a0 (fun r10 => f_impl_sum_form (mset ([] : List (A8 × Int)) r10 a1) (fun r16 r21 => K r16))
theorem c_impl_generatorForm (a0 : Int) (a1 : Int)  {K : Vc.Form → Prop} (h : f_impl_generatorForm a0 a1 K) (w0 : World)  :
  Calls Try.prog 112 #[.int .i64 a0, .int .i64 a1] w0 fun e w' => ∃ (r0 : Vc.Form) (z0_0 : Value) (fz0 : List Nat), 
   e = .returned (.agg #[z0_0]) ∧ K r0 ∧ (Tr.item (TrForm 86) r0 [z0_0] fz0).holds w' ∧ (∀ b, b ∈ fz0 → w0.heap.size ≤ b) ∧ Bel w0 w' := by
 unfold f_impl_generatorForm at h
 refine calls_of (args := [.int .i64 a0, .int .i64 a1]) Try.func112 rfl 17 Try.ntmps112 (Nat.le_of_ble_eq_true rfl) ?_
 have hC := Ctx.start (X := Nox) w0 [] (by simp)
 refine sr ?_
 refine s_alloc hC [.slice none 0 0] z46 rfl fun b1 w3 hB_ hC => ?_
 refine dn ?_
 refine sr ?_
 refine s_makeMap hC (kvA .i64) (vvI .i64) fun b4 w6 hB_ hC => ?_
 refine s_mv (v := .int .i64 a0) rfl ?_
 refine s_call [.int .i64 a0] _ Try.func128 rfl rfl rfl (c_impl_generator a0 h _) (fun ret7 w9 hR8 => ?_)
 obtain ⟨r10, rfl, h, hB11⟩ := hR8
 refine ⟨_, rfl, ?_⟩
 replace hC := hC.grow hB11
 refine s_mv (v := .int .i64 a1) rfl ?_
 refine s_mapset hC 0 r10 a1 rfl kt94 Try.underlying104 rfl rfl rfl (fun w12 hC => ?_) (.inr rfl)
 refine s_mv (v := .map (some b4)) rfl ?_
 refine s_call [.map (some b4)] _ Try.func73 rfl rfl rfl (c_impl_sum_form (mset ([] : List (A8 × Int)) r10 a1) h _ (hC.getM 0 rfl)) (fun ret13 w15 hR14 => ?_)
 obtain ⟨r16, u17, f18, r21, rfl, h, hr19, hf20, hB22⟩ := hR14
 refine ⟨_, rfl, ?_⟩
 replace hC := hC.push hB22 (Tr.item (TrForm 86) r16 [u17] f18) hr19 hf20
 obtain ⟨ho24, hf25⟩ := form_split (hC.getM 0 rfl)
 subst hf25
 replace hC := hC.recast (c := own 86 9 u17 r16.terms.length (ETerm.encs r16.terms)) (fun _ h_ => h_) (fun _ => ho24)
 refine s_mv (v := .tuple #[.agg #[u17], .int .i64 r21]) rfl ?_
 refine s_ext (v := .agg #[u17]) rfl rfl ?_
 refine s_ext (v := .int .i64 r21) rfl rfl ?_
 refine s_alloc hC [.slice none 0 0] z46 rfl fun b27 w29 hB_ hC => ?_
 refine s_store (v := .agg #[u17]) hC 0 [u17] [u17] rfl ag46.size rfl rfl rfl rfl (all_c (own_oneC (hC.getM 1 rfl)) rfl) (Nat.le_of_ble_eq_true rfl) rfl fun w30 hC => ?_
 refine s_as (v := .int .i64 r21) rfl ?_
 refine dn ?_
 refine sr ?_
 refine s_loadA hC 0 [u17] rfl ag46 rfl rfl rfl ?_
 refine s_store (v := .agg #[u17]) hC 3 [u17] [u17] rfl ag46.size rfl rfl rfl rfl (all_c (own_oneC (hC.getM 1 rfl)) rfl) (Nat.le_of_ble_eq_true rfl) rfl fun w31 hC => ?_
 refine dn ?_
 refine wp_ret ?_
 refine ret1 (fn := Try.f112) rfl ?_ ⟨r16, u17, (Option.toList (Value.ownBlock u17)), rfl, h, (form_join (own_item (hC.getM 1 rfl))), (own_fresh hC 1 rfl), hC.below⟩ (.inl rfl)
 exact res_cellA hC 3 rfl ag46 rfl rfl
def f_impl_generators (a0 : Int) (a1 : Int) (K : List Vc.Form → Prop) : Prop :=
 whileP (fun (s54 : (List Vc.Form) × Int) next57 => (if s54.2 < a1 then f_impl_generatorForm (IntKind.i64.wrap (a0 + s54.2)) 1 (fun r65 => (Room (s54.1.length + 1) 24 ∧ next57 (s54.1 ++ [r65], IntKind.i64.wrap (s54.2 + 1)))) else K s54.1)) ([], 0)
theorem c_impl_generators (a0 : Int) (a1 : Int)  {K : List Vc.Form → Prop} (h : f_impl_generators a0 a1 K) (w0 : World)  :
  Calls Try.prog 79 #[.int .i64 a0, .int .i64 a1] w0 fun e w' => ∃ (r0 : List Vc.Form) (z0_0 : Value) (fz0 : List Nat), 
   e = .returned (z0_0) ∧ K r0 ∧ (Tr.item (Tr.sl 46 (TrForm 86)) r0 [z0_0] fz0).holds w' ∧ (∀ b, b ∈ fz0 → w0.heap.size ≤ b) ∧ Bel w0 w' := by
 unfold f_impl_generators at h
 refine calls_of (args := [.int .i64 a0, .int .i64 a1]) Try.func79 rfl 21 Try.ntmps79 (Nat.le_of_ble_eq_true rfl) ?_
 have hC := Ctx.start (X := Nox) w0 [] (by simp)
 refine sr ?_
 refine s_as (v := .slice none 0 0) rfl ?_
 refine dn ?_
 refine sr ?_
 refine s_bslice (sz := 1) hC [] [] rfl (fun _ => bs29_0 _) rfl (by decide) fun b1 w2 hB_ hC => ?_
 replace hC := hC.pushM0 (forest (TrForm 86) ([] : List Vc.Form) [] []) (forest_nil _ _) rfl
 replace hC := hC.gather (c := Tr.item (Tr.sl 46 (TrForm 86)) [] [.slice (some ⟨b1, 0, none⟩) 0 0] ((Option.toList (Value.ownBlock (.slice (some ⟨b1, 0, none⟩) 0 0))) ++ ([] : List (List Nat)).flatten)) (fun x_ hx_ => (List.mem_append.1 hx_).symm) (fun h1_ h2_ hd_ => forest_up h2_ h1_ (fun b_ hb_ hb2_ => hd_ b_ hb2_ hb_))
 refine s_as (v := .slice (some ⟨b1, 0, none⟩) 0 0) rfl ?_
 refine dn ?_
 refine wp_seq ?_
 refine sr ?_
 refine s_mv (v := .int .i64 a1) rfl ?_
 refine s_mv (v := .int .i64 0) rfl ?_
 refine dn ?_
 refine wp_block ?_
 refine loopW (S := (List Vc.Form) × Int) _ (fun s54 e_ w_ => ∃ (v55 : Value), ∃ (f56 : List Nat), Slots e_ [(0, .int .i64 a0), (4, .slice none 0 0), (5, v55), (8, .int .i64 a1), (9, .int .i64 s54.2)] ∧ Ctx Nox w0 w_ [Tr.item (Tr.sl 46 (TrForm 86)) s54.1 [v55] f56] []) ?_ (s0 := ([], 0)) ?_ h
 ·clear hC h
  rintro s54 e_ w60 next57 K58 ⟨v55, f56, hS_, hC⟩ h hK59
  refine sr ?_
  refine s_lss (sx hS_ 4 rfl) (sx hS_ 3 rfl) ?_
  refine dn ?_
  refine wp_seq ?_
  refine cw_cond rfl (fun hb61 => ?_) (fun hb61 => ?_)
  ·replace h := ift h (ct hb61)
   refine wp_skip ?_
   refine then_norm ?_
   refine wp_seq ?_
   refine wp_block ?_
   refine sr ?_
   refine s_mv (v := .int .i64 s54.2) (sx hS_ 4 rfl) ?_
   refine s_as (v := .int .i64 s54.2) rfl ?_
   refine dn ?_
   refine cw_region ?_
   refine s_mv (v := v55) (sx hS_ 2 rfl) ?_
   refine s_mv (v := .int .i64 a0) (sx hS_ 0 rfl) ?_
   refine s_mv (v := .int .i64 s54.2) rfl ?_
   refine s_add rfl rfl ?_
   refine s_call [.int .i64 (IntKind.i64.wrap (a0 + s54.2)), .int .i64 1] _ Try.func112 rfl rfl rfl (c_impl_generatorForm (IntKind.i64.wrap (a0 + s54.2)) 1 h _) (fun ret62 w64 hR63 => ?_)
   obtain ⟨r65, u66, f67, rfl, h, hr68, hf69, hB70⟩ := hR63
   refine ⟨_, rfl, ?_⟩
   replace hC := hC.push hB70 (Tr.item (TrForm 86) r65 [u66] f67) hr68 hf69
   obtain ⟨ho72, hf73⟩ := form_split (hC.getM 0 rfl)
   subst hf73
   replace hC := hC.recast (c := own 86 9 u66 r65.terms.length (ETerm.encs r65.terms)) (fun _ h_ => h_) (fun _ => ho72)
   refine s_bslice (sz := 1) hC [(0, .agg #[u66])] [u66] rfl (fun _ => bsr29_1_s u66 (own_isSl (hC.getM 0 rfl)) _) rfl (by decide) fun b75 w76 hB_ hC => ?_
   replace hC := hC.pushM0 (forest (TrForm 86) [] [] []) (forest_nil _ _) rfl
   replace hC := hC.sel [2, 0, 1, 3] [] (M' := [own 86 9 u66 r65.terms.length (ETerm.encs r65.terms), forest (TrForm 86) [] [] [], own 46 1 (.slice (some ⟨b75, 0, none⟩) 1 1) 1 [u66], Tr.item (Tr.sl 46 (TrForm 86)) s54.1 [v55] f56]) (Ps' := []) (by decide) rfl rfl
   replace hC := hC.gather (c := forest (TrForm 86) [r65] [u66] [(Option.toList (Value.ownBlock u66))]) (fun x_ hx_ => forest_mem hx_) (fun h1_ h2_ hd_ => forest_cons (c := [u66]) (form_join (own_item h1_)) h2_ hd_)
   replace hC := hC.sel [1, 0, 2] [] (M' := [own 46 1 (.slice (some ⟨b75, 0, none⟩) 1 1) 1 [u66], forest (TrForm 86) [r65] [u66] [(Option.toList (Value.ownBlock u66))], Tr.item (Tr.sl 46 (TrForm 86)) s54.1 [v55] f56]) (Ps' := []) (by decide) rfl rfl
   replace hC := hC.gather (c := Tr.item (Tr.sl 46 (TrForm 86)) [r65] [.slice (some ⟨b75, 0, none⟩) 1 1] ((Option.toList (Value.ownBlock (.slice (some ⟨b75, 0, none⟩) 1 1))) ++ ([(Option.toList (Value.ownBlock u66))] : List (List Nat)).flatten)) (fun x_ hx_ => List.mem_append.1 hx_) (fun h1_ h2_ hd_ => forest_up h1_ h2_ hd_)
   replace hC := hC.sel [1, 0] [] (M' := [Tr.item (Tr.sl 46 (TrForm 86)) s54.1 [v55] f56, Tr.item (Tr.sl 46 (TrForm 86)) [r65] [.slice (some ⟨b75, 0, none⟩) 1 1] ((Option.toList (Value.ownBlock (.slice (some ⟨b75, 0, none⟩) 1 1))) ++ ([(Option.toList (Value.ownBlock u66))] : List (List Nat)).flatten)]) (Ps' := []) (by decide) rfl rfl
   obtain ⟨hm83, h⟩ := h
   refine s_appT hC Try.underlying29 el46 rfl (by decide) (by decide) rfl rfl hm83 fun v80 f82 w81 hC => ?_
   refine s_as (v := v80) rfl ?_
   refine done ?_
   refine blk_norm ?_
   refine then_norm ?_
   refine cw_region ?_
   refine s_add (sx hS_ 4 rfl) rfl ?_
   refine s_mv (v := .int .i64 (IntKind.i64.wrap (s54.2 + 1))) rfl ?_
   refine done ?_
   exact hK59 (s54.1 ++ [r65], IntKind.i64.wrap (s54.2 + 1)) _ _ ⟨v80, f82, (sk (sx hS_ 0 rfl) (sk (sx hS_ 1 rfl) (sk rfl (sk (sx hS_ 3 rfl) (sk rfl sn))))), hC⟩ h
  ·replace h := iff_ h (cf hb61)
   refine wp_exit (then_exit (then_exit (exit_in ?_)))
   refine then_norm ?_
   refine sr ?_
   refine s_mv (v := v55) (sx hS_ 2 rfl) ?_
   refine s_as (v := v55) rfl ?_
   refine dn ?_
   refine wp_ret ?_
   refine ret1 (fn := Try.f79) rfl ?_ ⟨s54.1, v55, f56, rfl, h, (hC.getM 0 rfl), (tr_fresh hC 0 rfl), hC.below⟩ (.inl rfl)
   exact res_tmp rfl
 ·skip
  exact ⟨.slice (some ⟨b1, 0, none⟩) 0 0, ((Option.toList (Value.ownBlock (.slice (some ⟨b1, 0, none⟩) 0 0))) ++ ([] : List (List Nat)).flatten), (sk rfl (sk rfl (sk rfl (sk rfl (sk rfl sn))))), hC⟩
def f_impl_IdentityMap (a0 : Alg) (K : List Vc.Form → Int → Prop) : Prop :=
 f_impl_algebraCode a0 [] (fun r11 => (if r11 ≠ 0 then K [] r11 else f_impl_generators 0 (a0.degrees.length : Int) (fun r20 => K r20 0)))
theorem c_impl_IdentityMap (a0 : Alg) {u0_0 : Value} {u0_1 : Value} {fp0 : List Nat} {K : List Vc.Form → Int → Prop} (h : f_impl_IdentityMap a0 K) (w0 : World) (q0 : TAlg.rep a0 [u0_0, u0_1] fp0 w0) :
  Calls Try.prog 41 #[.agg #[u0_0, u0_1]] w0 fun e w' => ∃ (r0 : List Vc.Form) (z0_0 : Value) (fz0 : List Nat) (r1 : Int), 
   e = .returned (.tuple #[z0_0, .int .i64 r1]) ∧ K r0 r1 ∧ (Tr.item (Tr.sl 46 (TrForm 86)) r0 [z0_0] fz0).holds w' ∧ (∀ b, b ∈ fz0 → w0.heap.size ≤ b) ∧ Bel w0 w' := by
 unfold f_impl_IdentityMap at h
 refine calls_of (args := [.agg #[u0_0, u0_1]]) Try.func41 rfl 13 Try.ntmps41 (Nat.le_of_ble_eq_true rfl) ?_
 have hC := Ctx.start (X := Nox) w0 [Ty.item TAlg a0 [u0_0, u0_1] fp0] (by simp only [List.mem_cons, List.not_mem_nil, or_false, forall_eq_or_imp, forall_eq]; exact q0)
 have hp2 := (hC.getP 0 rfl)
 replace hC := hC.derive 0 rfl (Ty.item ((EI .i64).ty.sl) a0.degrees [u0_0] fp0) (fun _ => (alg_parts hp2).1) (fun _ hb_ => hb_)
 replace hC := hC.derive 1 rfl (Ty.item TForm.sl a0.images [u0_1] fp0) (fun _ => (alg_parts hp2).2) (fun _ hb_ => hb_)
 refine sr ?_
 refine s_box (v := .agg #[u0_0, u0_1]) hC [u0_0, u0_1] rfl rfl fun b5 w7 hB_ hC => ?_
 refine s_as (v := .slice none 0 0) rfl ?_
 refine s_as (v := .int .i64 0) rfl ?_
 refine dn ?_
 refine wp_seq ?_
 refine sr ?_
 refine s_call [.pointer (some ⟨b5, 0, none⟩), .slice none 0 0] _ Try.func50 rfl rfl rfl (c_impl_algebraCode a0 [] h _ (alg_mk (hC.getP 1 rfl) (hC.getP 0 rfl)) (hC.getM 0 rfl) (rep_nil _ _)) (fun ret8 w10 hR9 => ?_)
 obtain ⟨r11, rfl, h, hB12⟩ := hR9
 refine ⟨_, rfl, ?_⟩
 replace hC := hC.grow hB12
 refine s_as (v := .int .i64 r11) rfl ?_
 refine dn ?_
 refine sr ?_
 refine s_mv (v := .int .i64 r11) rfl ?_
 refine s_neq rfl rfl ?_
 refine dn ?_
 refine cw_cond rfl (fun hb13 => ?_) (fun hb13 => ?_)
 ·replace h := ift h (ct hb13)
  refine sr ?_
  refine s_mv (v := .int .i64 r11) rfl ?_
  refine s_as (v := .slice none 0 0) rfl ?_
  refine s_as (v := .int .i64 r11) rfl ?_
  refine dn ?_
  refine wp_ret (then_ret ?_)
  refine ret2 (fn := Try.f41) rfl ?_ ?_ ⟨[], .slice none 0 0, [], r11, rfl, h, (nil_item _ _ _), (fun b hb => absurd hb (by simp)), hC.below⟩ (.inl rfl)
  ·exact res_tmp rfl
  ·exact res_tmp rfl
 ·replace h := iff_ h (cf hb13)
  refine wp_skip ?_
  refine then_norm ?_
  refine sr ?_
  refine s_faddrB 0 Try.underlying31 rfl sc22.size rfl rfl ?_
  refine s_loadS hC 0 (u0_0) rfl sc22 rfl rfl ?_
  obtain ⟨Ad14, c15, hv16⟩ := sl_len (hC.getP 1 rfl)
  refine s_len Try.underlying22 (tr rfl hv16) ?_
  refine s_call [.int .i64 0, .int .i64 (a0.degrees.length : Int)] _ Try.func79 rfl rfl rfl (c_impl_generators 0 (a0.degrees.length : Int) h _) (fun ret17 w19 hR18 => ?_)
  obtain ⟨r20, u21, f22, rfl, h, hr23, hf24, hB25⟩ := hR18
  refine ⟨_, rfl, ?_⟩
  replace hC := hC.push hB25 (Tr.item (Tr.sl 46 (TrForm 86)) r20 [u21] f22) hr23 hf24
  refine s_as (v := u21) rfl ?_
  refine s_as (v := .int .i64 0) rfl ?_
  refine dn ?_
  refine wp_ret ?_
  refine ret2 (fn := Try.f41) rfl ?_ ?_ ⟨r20, u21, f22, 0, rfl, h, (hC.getM 0 rfl), (tr_fresh hC 0 rfl), hC.below⟩ (.inl rfl)
  ·exact res_tmp rfl
  ·exact res_tmp rfl
def f_laws_heldFormS (a0 : List Vc.Form) (a1 : Int) (K : Int → Prop) : Prop :=
 forN (fun i47 (s48 : Int) next50 => f_laws_heldTermS ((a0.getD i47 default).terms) s48 (fun r70 => (if r70 < 0 then K (-1) else next50 r70))) (fun (s48 : Int) => K s48) a0.length 0 a1
theorem c_laws_heldFormS (a0 : List Vc.Form) (a1 : Int) {u0_0 : Value} {fp0 : List Nat} {K : Int → Prop} (h : f_laws_heldFormS a0 a1 K) (w0 : World) (q0 : TForm.sl.rep a0 [u0_0] fp0 w0) :
  Calls Try.prog 44 #[u0_0, .int .i64 a1] w0 fun e w' => ∃ (r0 : Int), 
   e = .returned (.int .i64 r0) ∧ K r0 ∧ Bel w0 w' := by
 unfold f_laws_heldFormS at h
 refine calls_of (args := [u0_0, .int .i64 a1]) Try.func44 rfl 22 Try.ntmps44 (Nat.le_of_ble_eq_true rfl) ?_
 have hC := Ctx.start (X := Nox) w0 [Ty.item TForm.sl a0 [u0_0] fp0] (by simp only [List.mem_cons, List.not_mem_nil, or_false, forall_eq_or_imp, forall_eq]; exact q0)
 refine sr ?_
 refine s_as (v := .int .i64 0) rfl ?_
 refine dn ?_
 refine wp_seq ?_
 refine sr ?_
 refine s_as (v := .int .i64 0) rfl ?_
 refine dn ?_
 refine wp_block ?_
 have hN49 : a0.length ≤ 9223372036854775807 := sl_max (hC.getP 0 rfl)
 refine loopN (S := Int) _ _ (fun i47 s48 e_ w_ => Slots e_ [(0, u0_0), (1, .int .i64 s48), (4, .int .i64 0), (5, .int .i64 (i47 : Int))] ∧ Ctx Nox w0 w_ [] [Ty.item TForm.sl a0 [u0_0] fp0]) a0.length ?_ ?_ (s0 := a1) ?_ h
 ·clear hC h
  rintro i47 s48 e_ w54 next50 K51 hi53 ⟨hS_, hC⟩ h hK52
  refine wp_seq ?_
  refine sr ?_
  refine s_mv (v := .int .i64 (i47 : Int)) (sx hS_ 3 rfl) ?_
  refine s_mv (v := u0_0) (sx hS_ 0 rfl) ?_
  obtain ⟨Ad55, c56, hv57⟩ := sl_len (hC.getP 0 rfl)
  refine s_len Try.underlying29 (tr rfl hv57) ?_
  refine s_lss rfl rfl ?_
  refine dn ?_
  refine cw_true rfl (decide_eq_true (by omega)) ?_
  refine wp_skip ?_
  refine then_norm ?_
  refine wp_seq ?_
  refine wp_block ?_
  refine sr ?_
  refine s_mv (v := u0_0) (sx hS_ 0 rfl) ?_
  refine s_mv (v := .int .i64 (i47 : Int)) (sx hS_ 3 rfl) ?_
  obtain ⟨Ad58, c59, hv60⟩ := sl_form (hC.getP 0 rfl) i47 hi53
  refine s_iaddrS (len := a0.length) Try.underlying29 ag46.size (tr rfl hv60) rfl (Int.natCast_nonneg _) (Int.ofNat_lt.2 hi53) ?_
  refine s_faddrS (i47 * 1 + 0) Try.underlying46 rfl sc44.size rfl rfl ?_
  obtain ⟨cs_, hl62, hc63, hr64⟩ := sl_cells (hC.getP 0 rfl) hv60 i47 hi53
  obtain ⟨u61, rfl⟩ := List.length_eq_one_iff.1 hl62
  clear hl62
  rw [getD_eq _ _ hi53] at hr64
  have hp65 := hr64
  replace hC := hC.derive 0 rfl (Ty.item ETerm.ty.sl ((a0.getD i47 default).terms) [u61] fp0) (fun _ => (form_parts hp65)) (fun _ hb_ => hb_)
  refine s_loadCS (u61) (cells_subS (o := 0) (k := 1) hc63 rfl) sc44 rfl ?_
  refine s_mv (v := .int .i64 s48) (sx hS_ 1 rfl) ?_
  refine s_call [u61, .int .i64 s48] _ Try.func77 rfl rfl rfl (c_laws_heldTermS ((a0.getD i47 default).terms) s48 h _ (hC.getP 0 rfl)) (fun ret67 w69 hR68 => ?_)
  obtain ⟨r70, rfl, h, hB71⟩ := hR68
  refine ⟨_, rfl, ?_⟩
  replace hC := hC.grow hB71
  refine s_as (v := .int .i64 r70) rfl ?_
  refine dn ?_
  refine sr ?_
  refine s_mv (v := .int .i64 r70) rfl ?_
  refine s_lss rfl rfl ?_
  refine dn ?_
  refine cw_cond rfl (fun hb72 => ?_) (fun hb72 => ?_)
  ·replace h := ift h (ct hb72)
   refine sr ?_
   refine s_as (v := .int .i64 (-1)) rfl ?_
   refine dn ?_
   refine wp_ret (blk_ret (then_ret (then_ret (blk_ret (then_ret ?_)))))
   refine ret1 (fn := Try.f44) rfl ?_ ⟨(-1), rfl, h, hC.below⟩ (.inl rfl)
   exact res_tmp rfl
  ·replace h := iff_ h (cf hb72)
   refine wp_skip ?_
   refine blk_norm ?_
   refine then_norm ?_
   refine cw_region ?_
   refine s_mv (v := .int .i64 (i47 : Int)) (sx hS_ 3 rfl) ?_
   refine s_add rfl rfl ?_
   refine s_as (v := .int .i64 (IntKind.i64.wrap ((i47 : Int) + 1))) rfl ?_
   refine done ?_
   replace hC := hC.sel [] [1] (M' := []) (Ps' := [Ty.item TForm.sl a0 [u0_0] fp0]) (by decide) rfl rfl
   exact hK52 r70 _ _ ⟨(sk (sx hS_ 0 rfl) (sk rfl (sk (sx hS_ 2 rfl) (sk (tr rfl (congrArg _ (wrap64_nat hi53 hN49))) sn)))), hC⟩ h
 ·clear hC h
  rintro s48 e_ w73 K51 ⟨hS_, hC⟩ h
  refine wp_seq ?_
  refine sr ?_
  refine s_mv (v := .int .i64 (a0.length : Int)) (sx hS_ 3 rfl) ?_
  refine s_mv (v := u0_0) (sx hS_ 0 rfl) ?_
  obtain ⟨Ad74, c75, hv76⟩ := sl_len (hC.getP 0 rfl)
  refine s_len Try.underlying29 (tr rfl hv76) ?_
  refine s_lss rfl rfl ?_
  refine dn ?_
  refine cw_false rfl (decide_eq_false (by omega)) ?_
  refine wp_exit (then_exit (then_exit (exit_in ?_)))
  refine then_norm ?_
  refine sr ?_
  refine s_mv (v := .int .i64 s48) (sx hS_ 1 rfl) ?_
  refine s_as (v := .int .i64 s48) rfl ?_
  refine dn ?_
  refine wp_ret ?_
  refine ret1 (fn := Try.f44) rfl ?_ ⟨s48, rfl, h, hC.below⟩ (.inl rfl)
  exact res_tmp rfl
 ·skip
  exact ⟨(sk rfl (sk rfl (sk rfl (sk rfl sn)))), hC⟩
def f_laws_markInt64S (a0 : List Int) (a1 : Int) (K : Int → List Int → Prop) : Prop :=
 whileP (fun (s49 : (List Int) × Int × Int) next50 => (if s49.2.2 < (s49.1.length : Int) then ((0 ≤ s49.2.2 ∧ s49.2.2 < (s49.1.length : Int)) ∧ next50 (s49.1.set s49.2.2.toNat s49.2.1, IntKind.i64.wrap (s49.2.1 + 1), IntKind.i64.wrap (s49.2.2 + 1))) else K s49.2.1 s49.1)) (a0, a1, 0)
theorem c_laws_markInt64S (a0 : List Int) (a1 : Int) {u0_0 : Value} {K : Int → List Int → Prop} (h : f_laws_markInt64S a0 a1 K) (w0 : World) (qw0 : (own 2 1 u0_0 a0.length ((EI .i64).encs a0)).holds w0) :
  Calls Try.prog 75 #[u0_0, .int .i64 a1] w0 fun e w' => ∃ (r0 : Int) (mw : List Int), 
   e = .returned (.int .i64 r0) ∧ K r0 mw ∧ (own 2 1 u0_0 mw.length ((EI .i64).encs mw)).holds w' ∧ BelO ((Option.toList (Value.ownBlock u0_0))) w0 w' := by
 unfold f_laws_markInt64S at h
 refine calls_of (args := [u0_0, .int .i64 a1]) Try.func75 rfl 19 Try.ntmps75 (Nat.le_of_ble_eq_true rfl) ?_
 have hC := Ctx.startL w0 ((Option.toList (Value.ownBlock u0_0))) [own 2 1 u0_0 a0.length ((EI .i64).encs a0)] [] (by simp only [List.mem_cons, List.not_mem_nil, or_false, forall_eq_or_imp, forall_eq]; exact qw0) (by simp) (by simp only [List.mem_cons, List.not_mem_nil, or_false, forall_eq_or_imp, forall_eq]; exact fun b hb => hb) (List.pairwise_singleton _ _) (by simp)
 refine sr ?_
 refine s_as (v := .int .i64 0) rfl ?_
 refine dn ?_
 refine wp_seq ?_
 refine sr ?_
 refine s_as (v := .int .i64 0) rfl ?_
 refine dn ?_
 refine wp_block ?_
 refine loopW (S := (List Int) × Int × Int) _ (fun s49 e_ w_ => Slots e_ [(0, u0_0), (1, .int .i64 s49.2.1), (4, .int .i64 0), (5, .int .i64 s49.2.2)] ∧ Ctx (fun c_ => c_ ∈ (Option.toList (Value.ownBlock u0_0))) w0 w_ [own 2 1 u0_0 s49.1.length ((EI .i64).encs s49.1)] []) ?_ (s0 := (a0, a1, 0)) ?_ h
 ·clear hC h
  rintro s49 e_ w53 next50 K51 ⟨hS_, hC⟩ h hK52
  refine wp_seq ?_
  refine sr ?_
  refine s_mv (v := .int .i64 s49.2.2) (sx hS_ 3 rfl) ?_
  refine s_mv (v := u0_0) (sx hS_ 0 rfl) ?_
  obtain ⟨Ad54, c55, hv56⟩ := own_form (hC.getM 0 rfl)
  refine s_len Try.underlying22 (tr rfl hv56) ?_
  refine s_lss rfl rfl ?_
  refine dn ?_
  refine cw_cond rfl (fun hb57 => ?_) (fun hb57 => ?_)
  ·replace h := ift h (ct hb57)
   refine wp_skip ?_
   refine then_norm ?_
   refine wp_seq ?_
   refine wp_block ?_
   refine sr ?_
   refine s_mv (v := u0_0) (sx hS_ 0 rfl) ?_
   refine s_mv (v := .int .i64 s49.2.2) (sx hS_ 3 rfl) ?_
   refine s_mv (v := .int .i64 s49.2.1) (sx hS_ 1 rfl) ?_
   obtain ⟨⟨h0_58, h1_59⟩, h⟩ := h
   obtain ⟨Ad60, c61, hv62⟩ := own_formE (hC.getM 0 rfl) (Nat.lt_of_le_of_lt (Nat.zero_le _) (show s49.2.2.toNat < s49.1.length by omega))
   refine s_iaddrO (s49.2.2.toNat * 1) Try.underlying22 sc2.size (tr rfl hv62) rfl h0_58 h1_59 rfl ?_
   refine s_storeO (v := .int .i64 s49.2.1) hC 0 [.int .i64 s49.2.1] ((EI .i64).encs (s49.1.set s49.2.2.toNat s49.2.1)) rfl hv62 sc2.size rfl rfl rfl rfl rfl (by rw [Enc.encs_len]; exact seg_le (sz := 1) (show s49.2.2.toNat < s49.1.length by omega)) (encs_set _ _ _ (show s49.2.2.toNat < s49.1.length by omega)) fun w63 hC => ?_
   replace hC := own_re hC 0 ((s49.1.set s49.2.2.toNat s49.2.1).length) ((EI .i64).encs (s49.1.set s49.2.2.toNat s49.2.1)) rfl (by simp) rfl
   refine dn ?_
   refine cw_region ?_
   refine s_mv (v := .int .i64 s49.2.1) (sx hS_ 1 rfl) ?_
   refine s_add rfl rfl ?_
   refine s_as (v := .int .i64 (IntKind.i64.wrap (s49.2.1 + 1))) rfl ?_
   refine done ?_
   refine blk_norm ?_
   refine then_norm ?_
   refine cw_region ?_
   refine s_mv (v := .int .i64 s49.2.2) (sx hS_ 3 rfl) ?_
   refine s_add rfl rfl ?_
   refine s_as (v := .int .i64 (IntKind.i64.wrap (s49.2.2 + 1))) rfl ?_
   refine done ?_
   exact hK52 (s49.1.set s49.2.2.toNat s49.2.1, IntKind.i64.wrap (s49.2.1 + 1), IntKind.i64.wrap (s49.2.2 + 1)) _ _ ⟨(sk (sx hS_ 0 rfl) (sk rfl (sk (sx hS_ 2 rfl) (sk rfl sn)))), hC⟩ h
  ·replace h := iff_ h (cf hb57)
   refine wp_exit (then_exit (then_exit (exit_in ?_)))
   refine then_norm ?_
   refine sr ?_
   refine s_mv (v := .int .i64 s49.2.1) (sx hS_ 1 rfl) ?_
   refine s_as (v := .int .i64 s49.2.1) rfl ?_
   refine dn ?_
   refine wp_ret ?_
   refine ret1 (fn := Try.f75) rfl ?_ ⟨s49.2.1, s49.1, rfl, h, (hC.getM 0 rfl), hC.belO⟩ (.inl rfl)
   exact res_tmp rfl
 ·skip
  exact ⟨(sk rfl (sk rfl (sk rfl (sk rfl sn)))), hC⟩
def f_laws_markFormS (a0 : List Vc.Form) (a1 : Int) (K : Int → List Vc.Form → Prop) : Prop :=
 whileP (fun (s129 : (List Vc.Form) × Int × Int) next130 => (if s129.2.2 < (s129.1.length : Int) then ((0 ≤ s129.2.2 ∧ s129.2.2 < (s129.1.length : Int)) ∧ f_laws_markTermS ((s129.1.getD s129.2.2.toNat default).terms) s129.2.1 (fun r160 m162 => next130 (s129.1.set s129.2.2.toNat (⟨m162⟩ : Vc.Form), r160, IntKind.i64.wrap (s129.2.2 + 1)))) else K s129.2.1 s129.1)) (a0, a1, 0)
theorem c_laws_markFormS (a0 : List Vc.Form) (a1 : Int) {u0_0 : Value} {fp0_0 : List Nat} {K : Int → List Vc.Form → Prop} (h : f_laws_markFormS a0 a1 K) (w0 : World) (qw0 : (Tr.item (Tr.sl 46 (TrForm 86)) a0 [u0_0] fp0_0).holds w0) :
  Calls Try.prog 43 #[u0_0, .int .i64 a1] w0 fun e w' => ∃ (r0 : Int) (mw : List Vc.Form), 
   e = .returned (.int .i64 r0) ∧ K r0 mw ∧ (Tr.item (Tr.sl 46 (TrForm 86)) mw [u0_0] fp0_0).holds w' ∧ BelO (fp0_0) w0 w' := by
 unfold f_laws_markFormS at h
 refine calls_of (args := [u0_0, .int .i64 a1]) Try.func43 rfl 20 Try.ntmps43 (Nat.le_of_ble_eq_true rfl) ?_
 have hC := Ctx.startL w0 (fp0_0) [Tr.item (Tr.sl 46 (TrForm 86)) a0 [u0_0] fp0_0] [] (by simp only [List.mem_cons, List.not_mem_nil, or_false, forall_eq_or_imp, forall_eq]; exact qw0) (by simp) (by simp only [List.mem_cons, List.not_mem_nil, or_false, forall_eq_or_imp, forall_eq]; exact fun b hb => hb) (List.pairwise_singleton _ _) (by simp)
 refine sr ?_
 refine s_as (v := .int .i64 0) rfl ?_
 refine dn ?_
 refine wp_seq ?_
 refine sr ?_
 refine s_as (v := .int .i64 0) rfl ?_
 refine dn ?_
 refine wp_block ?_
 refine loopW (S := (List Vc.Form) × Int × Int) _ (fun s129 e_ w_ => Slots e_ [(0, u0_0), (1, .int .i64 s129.2.1), (4, .int .i64 0), (5, .int .i64 s129.2.2)] ∧ Ctx (fun c_ => c_ ∈ fp0_0) w0 w_ [Tr.item (Tr.sl 46 (TrForm 86)) s129.1 [u0_0] fp0_0] []) ?_ (s0 := (a0, a1, 0)) ?_ h
 ·clear hC h
  rintro s129 e_ w133 next130 K131 ⟨hS_, hC⟩ h hK132
  refine wp_seq ?_
  refine sr ?_
  refine s_mv (v := .int .i64 s129.2.2) (sx hS_ 3 rfl) ?_
  refine s_mv (v := u0_0) (sx hS_ 0 rfl) ?_
  obtain ⟨Ad134, c135, hv136⟩ := tr_form (hC.getM 0 rfl)
  refine s_len Try.underlying29 (tr rfl hv136) ?_
  refine s_lss rfl rfl ?_
  refine dn ?_
  refine cw_cond rfl (fun hb137 => ?_) (fun hb137 => ?_)
  ·replace h := ift h (ct hb137)
   refine wp_skip ?_
   refine then_norm ?_
   refine wp_seq ?_
   refine wp_block ?_
   refine cw_region ?_
   refine s_mv (v := u0_0) (sx hS_ 0 rfl) ?_
   refine s_mv (v := .int .i64 s129.2.2) (sx hS_ 3 rfl) ?_
   obtain ⟨⟨h0_138, h1_139⟩, h⟩ := h
   obtain ⟨cs143, f144, ⟨g145, cap146, hv147, hcell148⟩, hin149, hsub150, hout151⟩ := tr_focus (hC.getM 0 rfl) s129.2.2.toNat (show s129.2.2.toNat < s129.1.length by omega)
   refine s_iaddrO (s129.2.2.toNat * 1) Try.underlying29 ag46.size (tr rfl hv147) rfl h0_138 h1_139 rfl ?_
   refine s_faddrB (s129.2.2.toNat * 1 + 0) Try.underlying46 rfl sc44.size rfl rfl ?_
   obtain ⟨u152, rfl⟩ := List.length_eq_one_iff.1 (show cs143.length = 1 from ((TrForm 86)).ty.len (Tr.trep _ hin149.1))
   have hin156 := hin149; rw [getD_eq _ _ (show s129.2.2.toNat < s129.1.length by omega)] at hin156
   obtain ⟨ho154, hf155⟩ := flat_tr (show (Tr.sl 86 ETerm.tr).tree ((s129.1.getD s129.2.2.toNat default).terms) [u152] f144 _ from hin156.1)
   subst hf155
   refine s_loadCS (u152) (cells_subO (o := 0) (k := 1) hcell148 rfl) sc44 rfl ?_
   refine s_mv (v := .int .i64 s129.2.1) (sx hS_ 1 rfl) ?_
   refine s_call [u152, .int .i64 s129.2.1] _ Try.func76 rfl rfl rfl (c_laws_markTermS ((s129.1.getD s129.2.2.toNat default).terms) s129.2.1 h _ ho154) (fun ret157 w159 hR158 => ?_)
   obtain ⟨r160, m162, rfl, h, hm163, hB161⟩ := hR158
   refine ⟨_, rfl, ?_⟩
   replace hC := hC.turn 0 (jt := Tr.item (Tr.sl 46 (TrForm 86)) (s129.1.set s129.2.2.toNat (⟨m162⟩ : Vc.Form)) [u0_0] fp0_0) rfl hB161.os hB161.tape hB161.output hB161.size hB161.drawn (fun c_ hc_ hn_ => hB161.old c_ hc_ (fun h_ => hn_ (hsub150 c_ h_))) (hout151 (⟨m162⟩ : Vc.Form) _ (tr_flat hm163) hB161) (fun b_ hb_ => .inl hb_)
   refine s_as (v := .int .i64 r160) rfl ?_
   refine done ?_
   refine blk_norm ?_
   refine then_norm ?_
   refine cw_region ?_
   refine s_mv (v := .int .i64 s129.2.2) (sx hS_ 3 rfl) ?_
   refine s_add rfl rfl ?_
   refine s_as (v := .int .i64 (IntKind.i64.wrap (s129.2.2 + 1))) rfl ?_
   refine done ?_
   exact hK132 (s129.1.set s129.2.2.toNat (⟨m162⟩ : Vc.Form), r160, IntKind.i64.wrap (s129.2.2 + 1)) _ _ ⟨(sk (sx hS_ 0 rfl) (sk rfl (sk (sx hS_ 2 rfl) (sk rfl sn)))), hC⟩ h
  ·replace h := iff_ h (cf hb137)
   refine wp_exit (then_exit (then_exit (exit_in ?_)))
   refine then_norm ?_
   refine sr ?_
   refine s_mv (v := .int .i64 s129.2.1) (sx hS_ 1 rfl) ?_
   refine s_as (v := .int .i64 s129.2.1) rfl ?_
   refine dn ?_
   refine wp_ret ?_
   refine ret1 (fn := Try.f43) rfl ?_ ⟨s129.2.1, s129.1, rfl, h, (hC.getM 0 rfl), hC.belO⟩ (.inl rfl)
   exact res_tmp rfl
 ·skip
  exact ⟨(sk rfl (sk rfl (sk rfl (sk rfl sn)))), hC⟩
def f_laws_markAlgebra (a0 : Alg) (a1 : Int) (K : Int → Alg → Prop) : Prop :=
 f_laws_markInt64S a0.degrees a1 (fun r9 m11 => f_laws_markFormS a0.images r9 (fun r16 m18 => K r16 (⟨m11, m18⟩ : Alg)))
theorem c_laws_markAlgebra (a0 : Alg) (a1 : Int) {u0_0 : Value} {u0_1 : Value} {fp0_1 : List Nat} {K : Int → Alg → Prop} (h : f_laws_markAlgebra a0 a1 K) (w0 : World) (qw0 : (own 2 1 u0_0 a0.degrees.length ((EI .i64).encs a0.degrees)).holds w0) (qw1 : (Tr.item (Tr.sl 46 (TrForm 86)) a0.images [u0_1] fp0_1).holds w0) (dw0_1 : ∀ x, x ∈ (Option.toList (Value.ownBlock u0_0)) → x ∉ fp0_1) :
  Calls Try.prog 37 #[.agg #[u0_0, u0_1], .int .i64 a1] w0 fun e w' => ∃ (r0 : Int) (mw : Alg), 
   e = .returned (.int .i64 r0) ∧ K r0 mw ∧ (own 2 1 u0_0 mw.degrees.length ((EI .i64).encs mw.degrees)).holds w' ∧ (Tr.item (Tr.sl 46 (TrForm 86)) mw.images [u0_1] fp0_1).holds w' ∧ BelO ((Option.toList (Value.ownBlock u0_0)) ++ fp0_1) w0 w' := by
 unfold f_laws_markAlgebra at h
 refine calls_of (args := [.agg #[u0_0, u0_1], .int .i64 a1]) Try.func37 rfl 14 Try.ntmps37 (Nat.le_of_ble_eq_true rfl) ?_
 have hC := Ctx.startL w0 ((Option.toList (Value.ownBlock u0_0)) ++ fp0_1) [own 2 1 u0_0 a0.degrees.length ((EI .i64).encs a0.degrees), Tr.item (Tr.sl 46 (TrForm 86)) a0.images [u0_1] fp0_1] [] (by simp only [List.mem_cons, List.not_mem_nil, or_false, forall_eq_or_imp, forall_eq]; exact ⟨qw0, qw1⟩) (by simp) (by simp only [List.mem_cons, List.not_mem_nil, or_false, forall_eq_or_imp, forall_eq]; exact ⟨fun b hb => (List.mem_append_left _ hb), fun b hb => (List.mem_append_right _ hb)⟩) (List.pairwise_cons.2 ⟨(by simp only [List.mem_cons, List.not_mem_nil, or_false, forall_eq_or_imp, forall_eq]; exact dw0_1), (List.pairwise_singleton _ _)⟩) (by simp)
 refine sr ?_
 refine s_box (v := .agg #[u0_0, u0_1]) hC [u0_0, u0_1] rfl rfl fun b3 w5 hB_ hC => ?_
 refine s_as (v := .int .i64 0) rfl ?_
 refine dn ?_
 refine sr ?_
 refine s_faddrB 0 Try.underlying31 rfl sc22.size rfl rfl ?_
 refine s_loadS hC 0 (u0_0) rfl sc22 rfl rfl ?_
 refine s_mv (v := .int .i64 a1) rfl ?_
 refine s_call [u0_0, .int .i64 a1] _ Try.func75 rfl rfl rfl (c_laws_markInt64S a0.degrees a1 h _ (hC.getM 1 rfl)) (fun ret6 w8 hR7 => ?_)
 obtain ⟨r9, m11, rfl, h, hm12, hB10⟩ := hR7
 refine ⟨_, rfl, ?_⟩
 replace hC := hC.turnL hB10 (M' := [blk b3 31 [u0_0, u0_1], own 2 1 u0_0 m11.length ((EI .i64).encs m11), Tr.item (Tr.sl 46 (TrForm 86)) a0.images [u0_1] fp0_1]) rfl (fun x_ hx_ => ⟨_, List.mem_of_getElem? (i := 1) rfl, hx_⟩) (by simp only [List.mem_cons, List.not_mem_nil, or_false, forall_eq_or_imp, forall_eq]; exact ⟨(hC.stay 0 rfl hB10 (fun x_ hq_ hx_ => hC.mm 0 1 rfl rfl (by decide) x_ hq_ hx_)), hm12, (hC.stay 2 rfl hB10 (fun x_ hq_ hx_ => hC.mm 2 1 rfl rfl (by decide) x_ hq_ hx_))⟩)
 refine s_as (v := .int .i64 r9) rfl ?_
 refine dn ?_
 refine sr ?_
 refine s_faddrB 1 Try.underlying31 rfl sc29.size rfl rfl ?_
 refine s_loadS hC 0 (u0_1) rfl sc29 rfl rfl ?_
 refine s_mv (v := .int .i64 r9) rfl ?_
 refine s_call [u0_1, .int .i64 r9] _ Try.func43 rfl rfl rfl (c_laws_markFormS a0.images r9 h _ (hC.getM 2 rfl)) (fun ret13 w15 hR14 => ?_)
 obtain ⟨r16, m18, rfl, h, hm19, hB17⟩ := hR14
 refine ⟨_, rfl, ?_⟩
 replace hC := hC.turnL hB17 (M' := [blk b3 31 [u0_0, u0_1], own 2 1 u0_0 m11.length ((EI .i64).encs m11), Tr.item (Tr.sl 46 (TrForm 86)) m18 [u0_1] fp0_1]) rfl (fun x_ hx_ => ⟨_, List.mem_of_getElem? (i := 2) rfl, hx_⟩) (by simp only [List.mem_cons, List.not_mem_nil, or_false, forall_eq_or_imp, forall_eq]; exact ⟨(hC.stay 0 rfl hB17 (fun x_ hq_ hx_ => hC.mm 0 2 rfl rfl (by decide) x_ hq_ hx_)), (hC.stay 1 rfl hB17 (fun x_ hq_ hx_ => hC.mm 1 2 rfl rfl (by decide) x_ hq_ hx_)), hm19⟩)
 refine s_as (v := .int .i64 r16) rfl ?_
 refine dn ?_
 refine sr ?_
 refine s_mv (v := .int .i64 r16) rfl ?_
 refine s_as (v := .int .i64 r16) rfl ?_
 refine dn ?_
 refine wp_ret ?_
 refine ret1 (fn := Try.f37) rfl ?_ ⟨r16, (⟨m11, m18⟩ : Alg), rfl, h, (hC.getM 1 rfl), (hC.getM 2 rfl), hC.belO⟩ (.inl rfl)
 exact res_tmp rfl
def f_laws_FnExactIdentityMap (a0 : Alg) (K : Bool → Prop) : Prop :=
 f_laws_szAlgebra a0 1048576 (fun r11 => (if r11 < 0 then K true else f_laws_toAlgebra a0 (fun r17 => f_spec_IdentityMap r17 (fun r36 r41 => f_laws_toAlgebra a0 (fun r48 => f_impl_IdentityMap r48 (fun r71 r76 => f_laws_eqFormS r71 r36 (fun r83 => (if ¬ (r83 = true) then K false else (if r76 ≠ r41 then K false else f_laws_toAlgebra a0 (fun r93 => f_laws_eqAlgebra r48 r93 (fun r112 => (if ¬ (r112 = true) then K false else f_laws_markAlgebra r48 1 (fun r118 m120 => (if r118 < 0 then K false else f_laws_eqFormS r71 r36 (fun r127 => (if ¬ (r127 = true) then K false else f_laws_markFormS r71 1 (fun r133 m135 => f_laws_heldFormS m135 1 (fun r140 => (if r140 < 0 then K false else (if r140 ≠ r133 then K false else f_laws_toAlgebra (⟨a0.degrees, a0.images⟩ : Alg) (fun r147 => f_impl_IdentityMap r147 (fun r166 r171 => f_laws_eqFormS r166 r36 (fun r178 => (if ¬ (r178 = true) then K false else (if r171 ≠ r41 then K false else f_laws_heldFormS m135 1 (fun r185 => (if r185 < 0 then K false else (if r185 ≠ r133 then K false else K true))))))))))))))))))))))))))))
theorem c_laws_FnExactIdentityMap (a0 : Alg) {u0_0 : Value} {u0_1 : Value} {fp0 : List Nat} {K : Bool → Prop} (h : f_laws_FnExactIdentityMap a0 K) (w0 : World) (q0 : TAlg.rep a0 [u0_0, u0_1] fp0 w0) :
  Calls Try.prog 10 #[.agg #[u0_0, u0_1]] w0 fun e w' => ∃ (r0 : Bool), 
   e = .returned (.bool r0) ∧ K r0 ∧ Bel w0 w' := by
 unfold f_laws_FnExactIdentityMap at h
 refine calls_of (args := [.agg #[u0_0, u0_1]]) Try.func10 rfl 96 Try.ntmps10 (Nat.le_of_ble_eq_true rfl) ?_
 have hC := Ctx.start (X := Nox) w0 [Ty.item TAlg a0 [u0_0, u0_1] fp0] (by simp only [List.mem_cons, List.not_mem_nil, or_false, forall_eq_or_imp, forall_eq]; exact q0)
 have hp2 := (hC.getP 0 rfl)
 replace hC := hC.derive 0 rfl (Ty.item ((EI .i64).ty.sl) a0.degrees [u0_0] fp0) (fun _ => (alg_parts hp2).1) (fun _ hb_ => hb_)
 replace hC := hC.derive 1 rfl (Ty.item TForm.sl a0.images [u0_1] fp0) (fun _ => (alg_parts hp2).2) (fun _ hb_ => hb_)
 refine sr ?_
 refine s_box (v := .agg #[u0_0, u0_1]) hC [u0_0, u0_1] rfl rfl fun b5 w7 hB_ hC => ?_
 refine s_as (v := .bool false) rfl ?_
 refine dn ?_
 refine sr ?_
 refine s_as (v := .int .i64 1048576) rfl ?_
 refine dn ?_
 refine sr ?_
 refine s_loadA hC 0 [u0_0, u0_1] rfl ag25 rfl rfl rfl ?_
 refine s_mv (v := .int .i64 1048576) rfl ?_
 refine s_call [.agg #[u0_0, u0_1], .int .i64 1048576] _ Try.func11 rfl rfl rfl (c_laws_szAlgebra a0 1048576 h _ (alg_mk (hC.getP 1 rfl) (hC.getP 0 rfl))) (fun ret8 w10 hR9 => ?_)
 obtain ⟨r11, rfl, h, hB12⟩ := hR9
 refine ⟨_, rfl, ?_⟩
 replace hC := hC.grow hB12
 refine s_as (v := .int .i64 r11) rfl ?_
 refine dn ?_
 refine wp_seq ?_
 refine sr ?_
 refine s_mv (v := .int .i64 r11) rfl ?_
 refine s_lss rfl rfl ?_
 refine dn ?_
 refine cw_cond rfl (fun hb13 => ?_) (fun hb13 => ?_)
 ·replace h := ift h (ct hb13)
  refine sr ?_
  refine s_as (v := .bool true) rfl ?_
  refine dn ?_
  refine wp_ret (then_ret ?_)
  refine ret1 (fn := Try.f10) rfl ?_ ⟨true, rfl, h, hC.below⟩ (.inl rfl)
  exact res_tmp rfl
 ·replace h := iff_ h (cf hb13)
  refine wp_skip ?_
  refine then_norm ?_
  refine sr ?_
  refine s_loadA hC 0 [u0_0, u0_1] rfl ag25 rfl rfl rfl ?_
  refine s_call [.agg #[u0_0, u0_1]] _ Try.func13 rfl rfl rfl (c_laws_toAlgebra a0 h _ (alg_mk (hC.getP 1 rfl) (hC.getP 0 rfl))) (fun ret14 w16 hR15 => ?_)
  obtain ⟨r17, u18, u19, f20, rfl, h, hr21, hf22, hB23⟩ := hR15
  refine ⟨_, rfl, ?_⟩
  replace hC := hC.push hB23 (Tr.item (TrAlg 2 86 46) r17 [u18, u19] f20) hr21 hf22
  obtain ⟨f25, ho26, ho27, hs28, hs29, hd30⟩ := alg_split (hC.getM 0 rfl)
  replace hC := hC.split (a := own 2 1 u18 r17.degrees.length ((EI .i64).encs r17.degrees)) (b := Tr.item (Tr.sl 46 (TrForm 86)) r17.images [u19] f25) hs28 hs29 ⟨ho26, ho27, hd30⟩
  refine s_call [.agg #[u18, u19]] _ Try.func40 rfl rfl rfl (c_spec_IdentityMap r17 h _ (alg_mk (own_repE (hC.getM 0 rfl)) (Tr.trep _ (hC.getM 1 rfl).1))) (fun ret33 w35 hR34 => ?_)
  obtain ⟨r36, u37, f38, r41, rfl, h, hr39, hf40, hB42⟩ := hR34
  refine ⟨_, rfl, ?_⟩
  replace hC := hC.push hB42 (Tr.item (Tr.sl 46 (TrForm 86)) r36 [u37] f38) hr39 hf40
  refine s_mv (v := .tuple #[u37, .int .i64 r41]) rfl ?_
  refine s_ext (v := u37) rfl rfl ?_
  refine s_ext (v := .int .i64 r41) rfl rfl ?_
  refine s_as (v := u37) rfl ?_
  refine s_as (v := .int .i64 r41) rfl ?_
  refine dn ?_
  refine sr ?_
  refine s_loadA hC 3 [u0_0, u0_1] rfl ag25 rfl rfl rfl ?_
  refine s_call [.agg #[u0_0, u0_1]] _ Try.func13 rfl rfl rfl (c_laws_toAlgebra a0 h _ (alg_mk (hC.getP 1 rfl) (hC.getP 0 rfl))) (fun ret45 w47 hR46 => ?_)
  obtain ⟨r48, u49, u50, f51, rfl, h, hr52, hf53, hB54⟩ := hR46
  refine ⟨_, rfl, ?_⟩
  replace hC := hC.push hB54 (Tr.item (TrAlg 2 86 46) r48 [u49, u50] f51) hr52 hf53
  obtain ⟨f56, ho57, ho58, hs59, hs60, hd61⟩ := alg_split (hC.getM 0 rfl)
  replace hC := hC.split (a := own 2 1 u49 r48.degrees.length ((EI .i64).encs r48.degrees)) (b := Tr.item (Tr.sl 46 (TrForm 86)) r48.images [u50] f56) hs59 hs60 ⟨ho57, ho58, hd61⟩
  refine s_alloc hC [.slice none 0 0, .slice none 0 0] z31 rfl fun b64 w66 hB_ hC => ?_
  refine s_store (v := .agg #[u49, u50]) hC 0 [u49, u50] [u49, u50] rfl ag31.size rfl rfl rfl rfl (all_c (own_oneC (hC.getM 1 rfl)) (all_c (rep_oneC (Tr.trep _ (hC.getM 2 rfl).1)) rfl)) (Nat.le_of_ble_eq_true rfl) rfl fun w67 hC => ?_
  refine dn ?_
  refine sr ?_
  refine s_loadA hC 0 [u49, u50] rfl ag31 rfl rfl rfl ?_
  refine s_call [.agg #[u49, u50]] _ Try.func41 rfl rfl rfl (c_impl_IdentityMap r48 h _ (alg_mk (own_repE (hC.getM 1 rfl)) (Tr.trep _ (hC.getM 2 rfl).1))) (fun ret68 w70 hR69 => ?_)
  obtain ⟨r71, u72, f73, r76, rfl, h, hr74, hf75, hB77⟩ := hR69
  refine ⟨_, rfl, ?_⟩
  replace hC := hC.push hB77 (Tr.item (Tr.sl 46 (TrForm 86)) r71 [u72] f73) hr74 hf75
  refine s_mv (v := .tuple #[u72, .int .i64 r76]) rfl ?_
  refine s_ext (v := u72) rfl rfl ?_
  refine s_ext (v := .int .i64 r76) rfl rfl ?_
  refine s_as (v := u72) rfl ?_
  refine s_as (v := .int .i64 r76) rfl ?_
  refine dn ?_
  refine wp_seq ?_
  refine sr ?_
  refine s_mv (v := u72) rfl ?_
  refine s_mv (v := u37) rfl ?_
  refine s_call [u72, u37] _ Try.func42 rfl rfl rfl (c_laws_eqFormS r71 r36 h _ (Tr.trep _ (hC.getM 0 rfl).1) (Tr.trep _ (hC.getM 4 rfl).1)) (fun ret80 w82 hR81 => ?_)
  obtain ⟨r83, rfl, h, hB84⟩ := hR81
  refine ⟨_, rfl, ?_⟩
  replace hC := hC.grow hB84
  refine s_not rfl ?_
  refine s_mv (v := .bool (!r83)) rfl ?_
  refine bsplit (!r83) (fun hb85 => ?_) (fun hb85 => ?_)
  ·replace h := ift h (ne_t (not_t hb85))
   refine guardOff (b := true) 4 36 rfl (tr rfl (congrArg _ hb85)) (by decide) ?_
   refine guardOff (b := true) 4 36 rfl (tr rfl (congrArg _ hb85)) (by decide) ?_
   refine guardOff (b := true) 4 36 rfl (tr rfl (congrArg _ hb85)) (by decide) ?_
   refine s_pick (v := .bool true) (b := true) (tr rfl (congrArg _ hb85)) rfl ?_
   refine dn ?_
   refine cw_true rfl rfl ?_
   refine sr ?_
   refine s_as (v := .bool false) rfl ?_
   refine dn ?_
   refine wp_ret (then_ret ?_)
   refine ret1 (fn := Try.f10) rfl ?_ ⟨false, rfl, h, hC.below⟩ (.inl rfl)
   exact res_tmp rfl
  ·replace h := iff_ h (not_not_intro ((not_f hb85)))
   refine guardOn 4 36 rfl rfl hb85 ?_
   refine s_mv (v := .int .i64 r76) rfl ?_
   refine guardOn 4 36 rfl rfl hb85 ?_
   refine s_mv (v := .int .i64 r41) rfl ?_
   refine guardOn 4 36 rfl rfl hb85 ?_
   refine s_neq rfl rfl ?_
   refine s_pick (v := .bool (decide (r76 ≠ r41))) (b := false) (tr rfl (congrArg _ hb85)) rfl ?_
   refine dn ?_
   refine cw_cond rfl (fun hb86 => ?_) (fun hb86 => ?_)
   ·replace h := ift h (ct hb86)
    refine sr ?_
    refine s_as (v := .bool false) rfl ?_
    refine dn ?_
    refine wp_ret (then_ret ?_)
    refine ret1 (fn := Try.f10) rfl ?_ ⟨false, rfl, h, hC.below⟩ (.inl rfl)
    exact res_tmp rfl
   ·replace h := iff_ h (cf hb86)
    refine wp_skip ?_
    refine then_norm ?_
    refine wp_seq ?_
    refine wp_seq ?_
    refine cw_draw 3 mixed [0, 0, 2, 7, 15] [0, 1] [] (by kernel_rfl) (by kernel_rfl) (by kernel_rfl) (fun hM88 hM89 w87 hB_ => ?_)
    replace hC := hC.grow hB_
    refine ae_look belPre 0 (.agg #[u49, u50]) rfl rfl (by kernel_rfl) (hM88 0 rfl) (fun w_ hB_ => .inl ⟨rfl, by exact r_loadA (hC.grow hB_) 1 [u49, u50] rfl ag31 rfl rfl rfl⟩) (listed' := (dbits 5 1)) (by kernel_rfl) ?_
    refine ae_look belPre 1 (.agg #[u0_0, u0_1]) rfl rfl (by kernel_rfl) (hM88 1 rfl) (fun w_ hB_ => .inl ⟨rfl, by exact r_loadA (hC.grow hB_) 7 [u0_0, u0_1] rfl ag25 rfl rfl rfl⟩) (listed' := (dbits 5 3)) (by kernel_rfl) ?_
    refine ae_one 2 rfl (by kernel_rfl) ?_
    refine s_call [.agg #[u0_0, u0_1]] _ Try.func13 rfl rfl rfl (c_laws_toAlgebra a0 h _ (alg_mk (hC.getP 1 rfl) (hC.getP 0 rfl))) (fun ret90 w92 hR91 => ?_)
    obtain ⟨r93, u94, u95, f96, rfl, h, hr97, hf98, hB99⟩ := hR91
    refine ⟨_, rfl, ?_⟩
    replace hC := hC.push hB99 (Tr.item (TrAlg 2 86 46) r93 [u94, u95] f96) hr97 hf98
    obtain ⟨f101, ho102, ho103, hs104, hs105, hd106⟩ := alg_split (hC.getM 0 rfl)
    replace hC := hC.split (a := own 2 1 u94 r93.degrees.length ((EI .i64).encs r93.degrees)) (b := Tr.item (Tr.sl 46 (TrForm 86)) r93.images [u95] f101) hs104 hs105 ⟨ho102, ho103, hd106⟩
    refine done ?_
    refine ak_intro (by assumption) (listed' := (dbits 5 7)) (by kernel_rfl) ?_
    refine ae_tail 3 (by decide) (by decide) (by kernel_rfl) (by kernel_rfl) rfl ?_
    refine s_call [.agg #[u49, u50], .agg #[u94, u95]] _ Try.func15 rfl rfl rfl (c_laws_eqAlgebra r48 r93 h _ (alg_mk (own_repE (hC.getM 4 rfl)) (Tr.trep _ (hC.getM 5 rfl).1)) (alg_mk (own_repE (hC.getM 0 rfl)) (Tr.trep _ (hC.getM 1 rfl).1))) (fun ret109 w111 hR110 => ?_)
    obtain ⟨r112, rfl, h, hB113⟩ := hR110
    refine ⟨_, rfl, ?_⟩
    replace hC := hC.grow hB113
    refine s_not rfl ?_
    refine done ?_
    refine qn_norm ?_
    refine then_norm ?_
    refine cw_cond rfl (fun hb114 => ?_) (fun hb114 => ?_)
    ·replace h := ift h (ne_t (not_t hb114))
     refine sr ?_
     refine s_as (v := .bool false) rfl ?_
     refine dn ?_
     refine wp_ret (then_ret ?_)
     refine ret1 (fn := Try.f10) rfl ?_ ⟨false, rfl, h, hC.below⟩ (.inl rfl)
     exact res_tmp rfl
    ·replace h := iff_ h (not_not_intro ((not_f hb114)))
     refine wp_skip ?_
     refine then_norm ?_
     refine sr ?_
     refine s_as (v := .int .i64 1) rfl ?_
     refine dn ?_
     refine sr ?_
     refine s_loadA hC 3 [u49, u50] rfl ag31 rfl rfl rfl ?_
     refine s_mv (v := .int .i64 1) rfl ?_
     refine s_call [.agg #[u49, u50], .int .i64 1] _ Try.func37 rfl rfl rfl (c_laws_markAlgebra r48 1 h _ (hC.getM 4 rfl) (hC.getM 5 rfl) (hC.mm 4 5 rfl rfl (by decide))) (fun ret115 w117 hR116 => ?_)
     obtain ⟨r118, m120, rfl, h, hm121, hm122, hB119⟩ := hR116
     refine ⟨_, rfl, ?_⟩
     replace hC := hC.turnL hB119 (M' := [own 2 1 u94 r93.degrees.length ((EI .i64).encs r93.degrees), Tr.item (Tr.sl 46 (TrForm 86)) r93.images [u95] f101, Tr.item (Tr.sl 46 (TrForm 86)) r71 [u72] f73, blk b64 31 [u49, u50], own 2 1 u49 m120.degrees.length ((EI .i64).encs m120.degrees), Tr.item (Tr.sl 46 (TrForm 86)) m120.images [u50] f56, Tr.item (Tr.sl 46 (TrForm 86)) r36 [u37] f38, own 2 1 u18 r17.degrees.length ((EI .i64).encs r17.degrees), Tr.item (Tr.sl 46 (TrForm 86)) r17.images [u19] f25, blk b5 25 [u0_0, u0_1]]) rfl (fun x_ hx_ => (List.mem_append.1 hx_).elim (fun hx_ => ⟨_, List.mem_of_getElem? (i := 4) rfl, hx_⟩) (fun hx_ => ⟨_, List.mem_of_getElem? (i := 5) rfl, hx_⟩)) (by simp only [List.mem_cons, List.not_mem_nil, or_false, forall_eq_or_imp, forall_eq]; exact ⟨(hC.stay 0 rfl hB119 (fun x_ hq_ hx_ => (List.mem_append.1 hx_).elim (fun hx_ => hC.mm 0 4 rfl rfl (by decide) x_ hq_ hx_) (fun hx_ => hC.mm 0 5 rfl rfl (by decide) x_ hq_ hx_))), (hC.stay 1 rfl hB119 (fun x_ hq_ hx_ => (List.mem_append.1 hx_).elim (fun hx_ => hC.mm 1 4 rfl rfl (by decide) x_ hq_ hx_) (fun hx_ => hC.mm 1 5 rfl rfl (by decide) x_ hq_ hx_))), (hC.stay 2 rfl hB119 (fun x_ hq_ hx_ => (List.mem_append.1 hx_).elim (fun hx_ => hC.mm 2 4 rfl rfl (by decide) x_ hq_ hx_) (fun hx_ => hC.mm 2 5 rfl rfl (by decide) x_ hq_ hx_))), (hC.stay 3 rfl hB119 (fun x_ hq_ hx_ => (List.mem_append.1 hx_).elim (fun hx_ => hC.mm 3 4 rfl rfl (by decide) x_ hq_ hx_) (fun hx_ => hC.mm 3 5 rfl rfl (by decide) x_ hq_ hx_))), hm121, hm122, (hC.stay 6 rfl hB119 (fun x_ hq_ hx_ => (List.mem_append.1 hx_).elim (fun hx_ => hC.mm 6 4 rfl rfl (by decide) x_ hq_ hx_) (fun hx_ => hC.mm 6 5 rfl rfl (by decide) x_ hq_ hx_))), (hC.stay 7 rfl hB119 (fun x_ hq_ hx_ => (List.mem_append.1 hx_).elim (fun hx_ => hC.mm 7 4 rfl rfl (by decide) x_ hq_ hx_) (fun hx_ => hC.mm 7 5 rfl rfl (by decide) x_ hq_ hx_))), (hC.stay 8 rfl hB119 (fun x_ hq_ hx_ => (List.mem_append.1 hx_).elim (fun hx_ => hC.mm 8 4 rfl rfl (by decide) x_ hq_ hx_) (fun hx_ => hC.mm 8 5 rfl rfl (by decide) x_ hq_ hx_))), (hC.stay 9 rfl hB119 (fun x_ hq_ hx_ => (List.mem_append.1 hx_).elim (fun hx_ => hC.mm 9 4 rfl rfl (by decide) x_ hq_ hx_) (fun hx_ => hC.mm 9 5 rfl rfl (by decide) x_ hq_ hx_)))⟩)
     refine s_as (v := .int .i64 r118) rfl ?_
     refine dn ?_
     refine wp_seq ?_
     refine sr ?_
     refine s_mv (v := .int .i64 r118) rfl ?_
     refine s_lss rfl rfl ?_
     refine s_mv (v := .bool (decide (r118 < 0))) rfl ?_
     refine bsplit (decide (r118 < 0)) (fun hb123 => ?_) (fun hb123 => ?_)
     ·replace h := ift h (ct hb123)
      refine guardOff (b := true) 2 51 rfl (tr rfl (congrArg _ hb123)) (by decide) ?_
      refine guardOff (b := true) 2 51 rfl (tr rfl (congrArg _ hb123)) (by decide) ?_
      refine guardOff (b := true) 2 51 rfl (tr rfl (congrArg _ hb123)) (by decide) ?_
      refine guardOff (b := true) 2 51 rfl (tr rfl (congrArg _ hb123)) (by decide) ?_
      refine s_pick (v := .bool true) (b := true) (tr rfl (congrArg _ hb123)) rfl ?_
      refine s_mv (v := .bool true) rfl ?_
      refine guardOff (b := true) 8 57 rfl (tr rfl (congrArg _ rfl)) (by decide) ?_
      refine guardOff (b := true) 8 57 rfl (tr rfl (congrArg _ rfl)) (by decide) ?_
      refine guardOff (b := true) 8 57 rfl (tr rfl (congrArg _ rfl)) (by decide) ?_
      refine s_pick (v := .bool true) (b := true) rfl rfl ?_
      refine dn ?_
      refine cw_true rfl rfl ?_
      refine sr ?_
      refine s_as (v := .bool false) rfl ?_
      refine dn ?_
      refine wp_ret (then_ret ?_)
      refine ret1 (fn := Try.f10) rfl ?_ ⟨false, rfl, h, hC.below⟩ (.inl rfl)
      exact res_tmp rfl
     ·replace h := iff_ h (cf hb123)
      refine guardOn 2 51 rfl rfl hb123 ?_
      refine s_mv (v := u72) rfl ?_
      refine guardOn 2 51 rfl rfl hb123 ?_
      refine s_mv (v := u37) rfl ?_
      refine guardOn 2 51 rfl rfl hb123 ?_
      refine s_call [u72, u37] _ Try.func42 rfl rfl rfl (c_laws_eqFormS r71 r36 h _ (Tr.trep _ (hC.getM 2 rfl).1) (Tr.trep _ (hC.getM 6 rfl).1)) (fun ret124 w126 hR125 => ?_)
      obtain ⟨r127, rfl, h, hB128⟩ := hR125
      refine ⟨_, rfl, ?_⟩
      replace hC := hC.grow hB128
      refine guardOn 2 51 rfl rfl hb123 ?_
      refine s_not rfl ?_
      refine s_pick (v := .bool (!r127)) (b := false) (tr rfl (congrArg _ hb123)) rfl ?_
      refine s_mv (v := .bool (!r127)) rfl ?_
      refine bsplit (!r127) (fun hb129 => ?_) (fun hb129 => ?_)
      ·replace h := ift h (ne_t (not_t hb129))
       refine guardOff (b := true) 8 57 rfl (tr rfl (congrArg _ hb129)) (by decide) ?_
       refine guardOff (b := true) 8 57 rfl (tr rfl (congrArg _ hb129)) (by decide) ?_
       refine guardOff (b := true) 8 57 rfl (tr rfl (congrArg _ hb129)) (by decide) ?_
       refine s_pick (v := .bool true) (b := true) (tr rfl (congrArg _ hb129)) rfl ?_
       refine dn ?_
       refine cw_true rfl rfl ?_
       refine sr ?_
       refine s_as (v := .bool false) rfl ?_
       refine dn ?_
       refine wp_ret (then_ret ?_)
       refine ret1 (fn := Try.f10) rfl ?_ ⟨false, rfl, h, hC.below⟩ (.inl rfl)
       exact res_tmp rfl
      ·replace h := iff_ h (not_not_intro ((not_f hb129)))
       refine guardOn 8 57 rfl rfl hb129 ?_
       refine s_mv (v := .int .i64 r76) rfl ?_
       refine guardOn 8 57 rfl rfl hb129 ?_
       refine s_mv (v := .int .i64 r41) rfl ?_
       refine guardOn 8 57 rfl rfl hb129 ?_
       refine s_neq rfl rfl ?_
       refine s_pick (v := .bool (decide (r76 ≠ r41))) (b := false) (tr rfl (congrArg _ hb129)) rfl ?_
       refine dn ?_
       refine cw_false rfl hb86 ?_
       refine wp_skip ?_
       refine then_norm ?_
       refine sr ?_
       refine s_as (v := .int .i64 1) rfl ?_
       refine dn ?_
       refine sr ?_
       refine s_mv (v := u72) rfl ?_
       refine s_mv (v := .int .i64 1) rfl ?_
       refine s_call [u72, .int .i64 1] _ Try.func43 rfl rfl rfl (c_laws_markFormS r71 1 h _ (hC.getM 2 rfl)) (fun ret130 w132 hR131 => ?_)
       obtain ⟨r133, m135, rfl, h, hm136, hB134⟩ := hR131
       refine ⟨_, rfl, ?_⟩
       replace hC := hC.turnL hB134 (M' := [own 2 1 u94 r93.degrees.length ((EI .i64).encs r93.degrees), Tr.item (Tr.sl 46 (TrForm 86)) r93.images [u95] f101, Tr.item (Tr.sl 46 (TrForm 86)) m135 [u72] f73, blk b64 31 [u49, u50], own 2 1 u49 m120.degrees.length ((EI .i64).encs m120.degrees), Tr.item (Tr.sl 46 (TrForm 86)) m120.images [u50] f56, Tr.item (Tr.sl 46 (TrForm 86)) r36 [u37] f38, own 2 1 u18 r17.degrees.length ((EI .i64).encs r17.degrees), Tr.item (Tr.sl 46 (TrForm 86)) r17.images [u19] f25, blk b5 25 [u0_0, u0_1]]) rfl (fun x_ hx_ => ⟨_, List.mem_of_getElem? (i := 2) rfl, hx_⟩) (by simp only [List.mem_cons, List.not_mem_nil, or_false, forall_eq_or_imp, forall_eq]; exact ⟨(hC.stay 0 rfl hB134 (fun x_ hq_ hx_ => hC.mm 0 2 rfl rfl (by decide) x_ hq_ hx_)), (hC.stay 1 rfl hB134 (fun x_ hq_ hx_ => hC.mm 1 2 rfl rfl (by decide) x_ hq_ hx_)), hm136, (hC.stay 3 rfl hB134 (fun x_ hq_ hx_ => hC.mm 3 2 rfl rfl (by decide) x_ hq_ hx_)), (hC.stay 4 rfl hB134 (fun x_ hq_ hx_ => hC.mm 4 2 rfl rfl (by decide) x_ hq_ hx_)), (hC.stay 5 rfl hB134 (fun x_ hq_ hx_ => hC.mm 5 2 rfl rfl (by decide) x_ hq_ hx_)), (hC.stay 6 rfl hB134 (fun x_ hq_ hx_ => hC.mm 6 2 rfl rfl (by decide) x_ hq_ hx_)), (hC.stay 7 rfl hB134 (fun x_ hq_ hx_ => hC.mm 7 2 rfl rfl (by decide) x_ hq_ hx_)), (hC.stay 8 rfl hB134 (fun x_ hq_ hx_ => hC.mm 8 2 rfl rfl (by decide) x_ hq_ hx_)), (hC.stay 9 rfl hB134 (fun x_ hq_ hx_ => hC.mm 9 2 rfl rfl (by decide) x_ hq_ hx_))⟩)
       refine s_as (v := .int .i64 r133) rfl ?_
       refine dn ?_
       refine sr ?_
       refine s_as (v := .int .i64 1) rfl ?_
       refine dn ?_
       refine sr ?_
       refine s_mv (v := u72) rfl ?_
       refine s_mv (v := .int .i64 1) rfl ?_
       refine s_call [u72, .int .i64 1] _ Try.func44 rfl rfl rfl (c_laws_heldFormS m135 1 h _ (Tr.trep _ (hC.getM 2 rfl).1)) (fun ret137 w139 hR138 => ?_)
       obtain ⟨r140, rfl, h, hB141⟩ := hR138
       refine ⟨_, rfl, ?_⟩
       replace hC := hC.grow hB141
       refine s_as (v := .int .i64 r140) rfl ?_
       refine dn ?_
       refine wp_seq ?_
       refine sr ?_
       refine s_mv (v := .int .i64 r140) rfl ?_
       refine s_lss rfl rfl ?_
       refine dn ?_
       refine cw_cond rfl (fun hb142 => ?_) (fun hb142 => ?_)
       ·replace h := ift h (ct hb142)
        refine sr ?_
        refine s_as (v := .bool false) rfl ?_
        refine dn ?_
        refine wp_ret (then_ret ?_)
        refine ret1 (fn := Try.f10) rfl ?_ ⟨false, rfl, h, hC.below⟩ (.inl rfl)
        exact res_tmp rfl
       ·replace h := iff_ h (cf hb142)
        refine wp_skip ?_
        refine then_norm ?_
        refine wp_seq ?_
        refine sr ?_
        refine s_mv (v := .int .i64 r140) rfl ?_
        refine s_mv (v := .int .i64 r133) rfl ?_
        refine s_neq rfl rfl ?_
        refine dn ?_
        refine cw_cond rfl (fun hb143 => ?_) (fun hb143 => ?_)
        ·replace h := ift h (ct hb143)
         refine sr ?_
         refine s_as (v := .bool false) rfl ?_
         refine dn ?_
         refine wp_ret (then_ret ?_)
         refine ret1 (fn := Try.f10) rfl ?_ ⟨false, rfl, h, hC.below⟩ (.inl rfl)
         exact res_tmp rfl
        ·replace h := iff_ h (cf hb143)
         refine wp_skip ?_
         refine then_norm ?_
         refine sr ?_
         refine s_loadA hC 9 [u0_0, u0_1] rfl ag25 rfl rfl rfl ?_
         refine s_call [.agg #[u0_0, u0_1]] _ Try.func13 rfl rfl rfl (c_laws_toAlgebra (⟨a0.degrees, a0.images⟩ : Alg) h _ (alg_mk (hC.getP 1 rfl) (hC.getP 0 rfl))) (fun ret144 w146 hR145 => ?_)
         obtain ⟨r147, u148, u149, f150, rfl, h, hr151, hf152, hB153⟩ := hR145
         refine ⟨_, rfl, ?_⟩
         replace hC := hC.push hB153 (Tr.item (TrAlg 2 86 46) r147 [u148, u149] f150) hr151 hf152
         obtain ⟨f155, ho156, ho157, hs158, hs159, hd160⟩ := alg_split (hC.getM 0 rfl)
         replace hC := hC.split (a := own 2 1 u148 r147.degrees.length ((EI .i64).encs r147.degrees)) (b := Tr.item (Tr.sl 46 (TrForm 86)) r147.images [u149] f155) hs158 hs159 ⟨ho156, ho157, hd160⟩
         refine s_call [.agg #[u148, u149]] _ Try.func41 rfl rfl rfl (c_impl_IdentityMap r147 h _ (alg_mk (own_repE (hC.getM 0 rfl)) (Tr.trep _ (hC.getM 1 rfl).1))) (fun ret163 w165 hR164 => ?_)
         obtain ⟨r166, u167, f168, r171, rfl, h, hr169, hf170, hB172⟩ := hR164
         refine ⟨_, rfl, ?_⟩
         replace hC := hC.push hB172 (Tr.item (Tr.sl 46 (TrForm 86)) r166 [u167] f168) hr169 hf170
         refine s_mv (v := .tuple #[u167, .int .i64 r171]) rfl ?_
         refine s_ext (v := u167) rfl rfl ?_
         refine s_ext (v := .int .i64 r171) rfl rfl ?_
         refine s_as (v := u167) rfl ?_
         refine s_as (v := .int .i64 r171) rfl ?_
         refine dn ?_
         refine wp_seq ?_
         refine sr ?_
         refine s_mv (v := u167) rfl ?_
         refine s_mv (v := u37) rfl ?_
         refine s_call [u167, u37] _ Try.func42 rfl rfl rfl (c_laws_eqFormS r166 r36 h _ (Tr.trep _ (hC.getM 0 rfl).1) (Tr.trep _ (hC.getM 9 rfl).1)) (fun ret175 w177 hR176 => ?_)
         obtain ⟨r178, rfl, h, hB179⟩ := hR176
         refine ⟨_, rfl, ?_⟩
         replace hC := hC.grow hB179
         refine s_not rfl ?_
         refine s_mv (v := .bool (!r178)) rfl ?_
         refine bsplit (!r178) (fun hb180 => ?_) (fun hb180 => ?_)
         ·replace h := ift h (ne_t (not_t hb180))
          refine guardOff (b := true) 4 83 rfl (tr rfl (congrArg _ hb180)) (by decide) ?_
          refine guardOff (b := true) 4 83 rfl (tr rfl (congrArg _ hb180)) (by decide) ?_
          refine guardOff (b := true) 4 83 rfl (tr rfl (congrArg _ hb180)) (by decide) ?_
          refine s_pick (v := .bool true) (b := true) (tr rfl (congrArg _ hb180)) rfl ?_
          refine dn ?_
          refine cw_true rfl rfl ?_
          refine sr ?_
          refine s_as (v := .bool false) rfl ?_
          refine dn ?_
          refine wp_ret (then_ret ?_)
          refine ret1 (fn := Try.f10) rfl ?_ ⟨false, rfl, h, hC.below⟩ (.inl rfl)
          exact res_tmp rfl
         ·replace h := iff_ h (not_not_intro ((not_f hb180)))
          refine guardOn 4 83 rfl rfl hb180 ?_
          refine s_mv (v := .int .i64 r171) rfl ?_
          refine guardOn 4 83 rfl rfl hb180 ?_
          refine s_mv (v := .int .i64 r41) rfl ?_
          refine guardOn 4 83 rfl rfl hb180 ?_
          refine s_neq rfl rfl ?_
          refine s_pick (v := .bool (decide (r171 ≠ r41))) (b := false) (tr rfl (congrArg _ hb180)) rfl ?_
          refine dn ?_
          refine cw_cond rfl (fun hb181 => ?_) (fun hb181 => ?_)
          ·replace h := ift h (ct hb181)
           refine sr ?_
           refine s_as (v := .bool false) rfl ?_
           refine dn ?_
           refine wp_ret (then_ret ?_)
           refine ret1 (fn := Try.f10) rfl ?_ ⟨false, rfl, h, hC.below⟩ (.inl rfl)
           exact res_tmp rfl
          ·replace h := iff_ h (cf hb181)
           refine wp_skip ?_
           refine then_norm ?_
           refine sr ?_
           refine s_as (v := .int .i64 1) rfl ?_
           refine dn ?_
           refine sr ?_
           refine s_mv (v := u72) rfl ?_
           refine s_mv (v := .int .i64 1) rfl ?_
           refine s_call [u72, .int .i64 1] _ Try.func44 rfl rfl rfl (c_laws_heldFormS m135 1 h _ (Tr.trep _ (hC.getM 5 rfl).1)) (fun ret182 w184 hR183 => ?_)
           obtain ⟨r185, rfl, h, hB186⟩ := hR183
           refine ⟨_, rfl, ?_⟩
           replace hC := hC.grow hB186
           refine s_as (v := .int .i64 r185) rfl ?_
           refine dn ?_
           refine wp_seq ?_
           refine sr ?_
           refine s_mv (v := .int .i64 r185) rfl ?_
           refine s_lss rfl rfl ?_
           refine dn ?_
           refine cw_cond rfl (fun hb187 => ?_) (fun hb187 => ?_)
           ·replace h := ift h (ct hb187)
            refine sr ?_
            refine s_as (v := .bool false) rfl ?_
            refine dn ?_
            refine wp_ret (then_ret ?_)
            refine ret1 (fn := Try.f10) rfl ?_ ⟨false, rfl, h, hC.below⟩ (.inl rfl)
            exact res_tmp rfl
           ·replace h := iff_ h (cf hb187)
            refine wp_skip ?_
            refine then_norm ?_
            refine wp_seq ?_
            refine sr ?_
            refine s_mv (v := .int .i64 r185) rfl ?_
            refine s_mv (v := .int .i64 r133) rfl ?_
            refine s_neq rfl rfl ?_
            refine dn ?_
            refine cw_cond rfl (fun hb188 => ?_) (fun hb188 => ?_)
            ·replace h := ift h (ct hb188)
             refine sr ?_
             refine s_as (v := .bool false) rfl ?_
             refine dn ?_
             refine wp_ret (then_ret ?_)
             refine ret1 (fn := Try.f10) rfl ?_ ⟨false, rfl, h, hC.below⟩ (.inl rfl)
             exact res_tmp rfl
            ·replace h := iff_ h (cf hb188)
             refine wp_skip ?_
             refine then_norm ?_
             refine sr ?_
             refine s_as (v := .bool true) rfl ?_
             refine dn ?_
             refine wp_ret ?_
             refine ret1 (fn := Try.f10) rfl ?_ ⟨true, rfl, h, hC.below⟩ (.inl rfl)
             exact res_tmp rfl
end Go.Proofs.Ytgfmflmhcfkldaa
