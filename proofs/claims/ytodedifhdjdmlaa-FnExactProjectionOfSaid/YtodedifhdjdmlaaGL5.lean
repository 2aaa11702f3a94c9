/- Printed by vcgen.py: functions of the program as predicates, and that the machine's calls meet them. -/
import Derived.Test.YtodedifhdjdmlaaGC
import Derived.Test.YtodedifhdjdmlaaVo
import Derived.KernelRfl
set_option linter.unusedVariables false
set_option linter.unusedSimpArgs false
set_option maxRecDepth 4000
set_option maxHeartbeats 4000000
namespace Go.Proofs.Ytodedifhdjdmlaa
open Go Go.RowKit Vc
theorem bsr29_1_n (x0 : Value) (hx0 : IsSl x0) (w : World) : (Instr.buildSlice 29 1 #[(0, .agg #[x0])]).run Try.prog w = .ok (.slice (some ⟨w.heap.size, 0, none⟩) 1 1) (w.alloc (.cells (List.toArray [x0]) 58)) := by obtain ⟨_, _, _, rfl⟩ := hx0; kernel_rfl
theorem ag25 : AggT Try.prog 25 2 := ⟨⟨_, Try.underlying25, rfl⟩, by kernel_rfl⟩
def f_spec_ProjectionOf (a0 : Alg) (a1 : Alg) (a2 : Bool) (K : List Vc.Form → Int → Prop) : Prop :=
 f_spec_l04Pair a0 a1 (fun r18 => (if r18 ≠ 0 then K [] r18 else whileP (fun (s258 : (List Vc.Form) × Int) next261 => (if s258.2 < IntKind.i64.wrap ((a0.degrees.length : Int) + (a1.degrees.length : Int)) then (if s258.2 < (a0.degrees.length : Int) then (if ¬ (a2 = true) then f_spec_l04Generator s258.2 (fun r274 => (Room (s258.1.length + 1) 24 ∧ next261 (s258.1 ++ [r274], IntKind.i64.wrap (s258.2 + 1)))) else (if s258.2 ≥ (a0.degrees.length : Int) then (if a2 = true then f_spec_l04Generator (IntKind.i64.wrap (s258.2 - (a0.degrees.length : Int))) (fun r298 => (Room (s258.1.length + 1) 24 ∧ next261 (s258.1 ++ [r298], IntKind.i64.wrap (s258.2 + 1)))) else (Room (s258.1.length + 1) 24 ∧ next261 (s258.1 ++ [(⟨[]⟩ : Vc.Form)], IntKind.i64.wrap (s258.2 + 1)))) else (Room (s258.1.length + 1) 24 ∧ next261 (s258.1 ++ [(⟨[]⟩ : Vc.Form)], IntKind.i64.wrap (s258.2 + 1))))) else (if s258.2 ≥ (a0.degrees.length : Int) then (if a2 = true then f_spec_l04Generator (IntKind.i64.wrap (s258.2 - (a0.degrees.length : Int))) (fun r340 => (Room (s258.1.length + 1) 24 ∧ next261 (s258.1 ++ [r340], IntKind.i64.wrap (s258.2 + 1)))) else (Room (s258.1.length + 1) 24 ∧ next261 (s258.1 ++ [(⟨[]⟩ : Vc.Form)], IntKind.i64.wrap (s258.2 + 1)))) else (Room (s258.1.length + 1) 24 ∧ next261 (s258.1 ++ [(⟨[]⟩ : Vc.Form)], IntKind.i64.wrap (s258.2 + 1))))) else K s258.1 0)) ([], 0)))
theorem c_spec_ProjectionOf (a0 : Alg) (a1 : Alg) (a2 : Bool) {u0_0 : Value} {u0_1 : Value} {u1_0 : Value} {u1_1 : Value} {fp0 : List Nat} {fp1 : List Nat} {K : List Vc.Form → Int → Prop} (h : f_spec_ProjectionOf a0 a1 a2 K) (w0 : World) (q0 : TAlg.rep a0 [u0_0, u0_1] fp0 w0) (q1 : TAlg.rep a1 [u1_0, u1_1] fp1 w0) :
  Calls Try.prog 20 #[.agg #[u0_0, u0_1], .agg #[u1_0, u1_1], .bool a2] w0 fun e w' => ∃ (r0 : List Vc.Form) (z0_0 : Value) (fz0 : List Nat) (r1 : Int), 
   e = .returned (.tuple #[z0_0, .int .i64 r1]) ∧ K r0 r1 ∧ (Tr.item (Tr.sl 58 (TrForm 83)) r0 [z0_0] fz0).holds w' ∧ (∀ b, b ∈ fz0 → w0.heap.size ≤ b) ∧ Bel w0 w' := by
 unfold f_spec_ProjectionOf at h
 refine calls_of (args := [.agg #[u0_0, u0_1], .agg #[u1_0, u1_1], .bool a2]) Try.func20 rfl 63 Try.ntmps20 (Nat.le_of_ble_eq_true rfl) ?_
 have hC := Ctx.start (X := Nox) w0 [Ty.item TAlg a0 [u0_0, u0_1] fp0, Ty.item TAlg a1 [u1_0, u1_1] fp1] (by simp only [List.mem_cons, List.not_mem_nil, or_false, forall_eq_or_imp, forall_eq]; exact ⟨q0, q1⟩)
 have hp3 := (hC.getP 0 rfl)
 replace hC := hC.derive 0 rfl (Ty.item ((EI .i64).ty.sl) a0.degrees [u0_0] fp0) (fun _ => (alg_parts hp3).1) (fun _ hb_ => hb_)
 replace hC := hC.derive 1 rfl (Ty.item TForm.sl a0.images [u0_1] fp0) (fun _ => (alg_parts hp3).2) (fun _ hb_ => hb_)
 have hp6 := (hC.getP 3 rfl)
 replace hC := hC.derive 3 rfl (Ty.item ((EI .i64).ty.sl) a1.degrees [u1_0] fp1) (fun _ => (alg_parts hp6).1) (fun _ hb_ => hb_)
 replace hC := hC.derive 4 rfl (Ty.item TForm.sl a1.images [u1_1] fp1) (fun _ => (alg_parts hp6).2) (fun _ hb_ => hb_)
 refine sr ?_
 refine s_box (v := .agg #[u0_0, u0_1]) hC [u0_0, u0_1] rfl rfl fun b9 w11 hB_ hC => ?_
 refine s_box (v := .agg #[u1_0, u1_1]) hC [u1_0, u1_1] rfl rfl fun b12 w14 hB_ hC => ?_
 refine s_as (v := .slice none 0 0) rfl ?_
 refine s_as (v := .int .i64 0) rfl ?_
 refine dn ?_
 refine wp_seq ?_
 refine sr ?_
 refine s_loadA hC 1 [u0_0, u0_1] rfl ag31 rfl rfl rfl ?_
 refine s_loadA hC 0 [u1_0, u1_1] rfl ag31 rfl rfl rfl ?_
 refine s_call [.agg #[u0_0, u0_1], .agg #[u1_0, u1_1]] _ Try.func35 rfl rfl rfl (c_spec_l04Pair a0 a1 h _ (alg_mk (hC.getP 3 rfl) (hC.getP 2 rfl)) (alg_mk (hC.getP 1 rfl) (hC.getP 0 rfl))) (fun ret15 w17 hR16 => ?_)
 obtain ⟨r18, rfl, h, hB19⟩ := hR16
 refine ⟨_, rfl, ?_⟩
 replace hC := hC.grow hB19
 refine s_as (v := .int .i64 r18) rfl ?_
 refine dn ?_
 refine sr ?_
 refine s_mv (v := .int .i64 r18) rfl ?_
 refine s_neq rfl rfl ?_
 refine dn ?_
 refine cw_cond rfl (fun hb20 => ?_) (fun hb20 => ?_)
 ·replace h := ift h (ct hb20)
  refine sr ?_
  refine s_mv (v := .int .i64 r18) rfl ?_
  refine s_as (v := .slice none 0 0) rfl ?_
  refine s_as (v := .int .i64 r18) rfl ?_
  refine dn ?_
  refine wp_ret (then_ret ?_)
  refine ret2 (fn := Try.f20) rfl ?_ ?_ ⟨[], .slice none 0 0, [], r18, rfl, h, (nil_item _ _ _), (fun b hb => absurd hb (by simp)), hC.below⟩ (.inl rfl)
  ·exact res_tmp rfl
  ·exact res_tmp rfl
 ·replace h := iff_ h (cf hb20)
  refine wp_skip ?_
  refine then_norm ?_
  refine wp_seq ?_
  refine cw_draw 5 mixed [0, 0, 2, 6, 1, 31] [2, 3] [1, 4] (by kernel_rfl) (by kernel_rfl) (by kernel_rfl) (fun hM22 hM23 w21 hB_ => ?_)
  replace hC := hC.grow hB_
  refine ae_lookF belPre 1 (.pointer (some ⟨b9, 0, none⟩)) rfl rfl (by kernel_rfl) (hM23 1 rfl) (fun w_ => .inl ⟨rfl, by exact r_faddrB 0 Try.underlying31 rfl sc22.size rfl rfl⟩) (listed' := (dbits 6 2)) (by kernel_rfl) ?_
  refine ae_look belPre 2 (u0_0) rfl rfl (by kernel_rfl) (hM22 2 rfl) (fun w_ hB_ => .inl ⟨rfl, by exact r_loadS (hC.grow hB_) 1 (u0_0) rfl sc22 rfl rfl⟩) (listed' := (dbits 6 6)) (by kernel_rfl) ?_
  obtain ⟨Ad24, c25, hv26⟩ := sl_len (hC.getP 3 rfl)
  refine ae_look belPre 3 (.int .i64 (a0.degrees.length : Int)) rfl rfl (by kernel_rfl) (hM22 3 rfl) (fun w_ hB_ => .inl ⟨rfl, by exact r_len Try.underlying22 (by exact tr rfl hv26)⟩) (listed' := (dbits 6 14)) (by kernel_rfl) ?_
  refine ae_one 0 rfl (by kernel_rfl) ?_
  refine s_bslice (sz := 1) hC [] [] rfl (fun _ => bs29_0 _) rfl (by decide) fun b27 w28 hB_ hC => ?_
  replace hC := hC.pushM0 (forest (TrForm 83) ([] : List Vc.Form) [] []) (forest_nil _ _) rfl
  replace hC := hC.gather (c := Tr.item (Tr.sl 58 (TrForm 83)) [] [.slice (some ⟨b27, 0, none⟩) 0 0] ((Option.toList (Value.ownBlock (.slice (some ⟨b27, 0, none⟩) 0 0))) ++ ([] : List (List Nat)).flatten)) (fun x_ hx_ => (List.mem_append.1 hx_).symm) (fun h1_ h2_ hd_ => forest_up h2_ h1_ (fun b_ hb_ hb2_ => hd_ b_ hb2_ hb_))
  refine done ?_
  refine ak_intro (by assumption) (listed' := (dbits 6 15)) (by kernel_rfl) ?_
  refine ae_lookF belPre 4 (.slice (some ⟨b27, 0, none⟩) 0 0) rfl rfl (by kernel_rfl) (hM23 4 rfl) (fun w_ => .inl ⟨rfl, by exact r_as (v := .slice (some ⟨b27, 0, none⟩) 0 0) rfl⟩) (listed' := (dbits 6 31)) (by kernel_rfl) ?_
  refine ae_tail 5 (by decide) (by decide) (by kernel_rfl) (by kernel_rfl) rfl ?_
  refine s_as (v := .int .i64 (a0.degrees.length : Int)) rfl ?_
  refine done ?_
  refine qn_norm ?_
  refine then_norm ?_
  refine wp_seq ?_
  refine sr ?_
  refine s_as (v := .int .i64 0) rfl ?_
  refine dn ?_
  refine wp_block ?_
  refine loopW (S := (List Vc.Form) × Int) _ (fun s258 e_ w_ => ∃ (v259 : Value), ∃ (f260 : List Nat), Slots e_ [(2, .bool a2), (4, .pointer (some ⟨b12, 0, none⟩)), (6, .slice none 0 0), (7, .int .i64 0), (9, v259), (10, .int .i64 (a0.degrees.length : Int)), (11, .int .i64 s258.2)] ∧ Ctx Nox w0 w_ [Tr.item (Tr.sl 58 (TrForm 83)) s258.1 [v259] f260, blk b12 31 [u1_0, u1_1]] [Ty.item TForm.sl a1.images [u1_1] fp1, Ty.item ((EI .i64).ty.sl) a1.degrees [u1_0] fp1, Ty.item TForm.sl a0.images [u0_1] fp0, Ty.item ((EI .i64).ty.sl) a0.degrees [u0_0] fp0, Ty.item TAlg a0 [u0_0, u0_1] fp0, Ty.item TAlg a1 [u1_0, u1_1] fp1]) ?_ (s0 := ([], 0)) ?_ h
  ·clear hC h
   rintro s258 e_ w264 next261 K262 ⟨v259, f260, hS_, hC⟩ h hK263
   refine wp_seq ?_
   refine sr ?_
   refine s_mv (v := .int .i64 s258.2) (sx hS_ 6 rfl) ?_
   refine s_mv (v := .int .i64 (a0.degrees.length : Int)) (sx hS_ 5 rfl) ?_
   refine s_faddrB 0 Try.underlying31 rfl sc22.size (sx hS_ 1 rfl) rfl ?_
   refine s_loadS hC 1 (u1_0) rfl sc22 rfl rfl ?_
   obtain ⟨Ad265, c266, hv267⟩ := sl_len (hC.getP 1 rfl)
   refine s_len Try.underlying22 (tr rfl hv267) ?_
   refine s_add rfl rfl ?_
   refine s_lss rfl rfl ?_
   refine dn ?_
   refine cw_cond rfl (fun hb268 => ?_) (fun hb268 => ?_)
   ·replace h := ift h (ct hb268)
    refine wp_skip ?_
    refine then_norm ?_
    refine wp_seq ?_
    refine wp_block ?_
    refine wp_block ?_
    refine sr ?_
    refine s_mv (v := .int .i64 s258.2) (sx hS_ 6 rfl) ?_
    refine s_mv (v := .int .i64 (a0.degrees.length : Int)) (sx hS_ 5 rfl) ?_
    refine s_lss rfl rfl ?_
    refine s_mv (v := .bool (decide (s258.2 < (a0.degrees.length : Int)))) rfl ?_
    refine bsplit (decide (s258.2 < (a0.degrees.length : Int))) (fun hb269 => ?_) (fun hb269 => ?_)
    ·replace h := ift h (ct hb269)
     refine guardOn 3 39 rfl rfl hb269 ?_
     refine s_mv (v := .bool a2) (sx hS_ 0 rfl) ?_
     refine guardOn 3 39 rfl rfl hb269 ?_
     refine s_not rfl ?_
     refine s_pick (v := .bool (!a2)) (b := true) (tr rfl (congrArg _ hb269)) rfl ?_
     refine s_as (v := .bool (!a2)) rfl ?_
     refine dn ?_
     refine cw_cond rfl (fun hb270 => ?_) (fun hb270 => ?_)
     ·replace h := ift h (ne_t (not_t hb270))
      refine cw_region ?_
      refine s_mv (v := v259) (sx hS_ 4 rfl) ?_
      refine s_mv (v := .int .i64 s258.2) (sx hS_ 6 rfl) ?_
      refine s_call [.int .i64 s258.2] _ Try.func36 rfl rfl rfl (c_spec_l04Generator s258.2 h _) (fun ret271 w273 hR272 => ?_)
      obtain ⟨r274, u275, f276, rfl, h, hr277, hf278, hB279⟩ := hR272
      refine ⟨_, rfl, ?_⟩
      replace hC := hC.push hB279 (Tr.item (TrForm 83) r274 [u275] f276) hr277 hf278
      obtain ⟨ho281, hf282⟩ := form_split (hC.getM 0 rfl)
      subst hf282
      replace hC := hC.recast (c := own 83 9 u275 r274.terms.length (ETerm.encs r274.terms)) (fun _ h_ => h_) (fun _ => ho281)
      refine s_bslice (sz := 1) hC [(0, .agg #[u275])] [u275] rfl (fun _ => bsr29_1_s u275 (own_isSl (hC.getM 0 rfl)) _) rfl (by decide) fun b284 w285 hB_ hC => ?_
      replace hC := hC.pushM0 (forest (TrForm 83) [] [] []) (forest_nil _ _) rfl
      replace hC := hC.sel [2, 0, 1, 3, 4] [0, 1, 2, 3, 4, 5] (M' := [own 83 9 u275 r274.terms.length (ETerm.encs r274.terms), forest (TrForm 83) [] [] [], own 58 1 (.slice (some ⟨b284, 0, none⟩) 1 1) 1 [u275], Tr.item (Tr.sl 58 (TrForm 83)) s258.1 [v259] f260, blk b12 31 [u1_0, u1_1]]) (Ps' := [Ty.item TForm.sl a1.images [u1_1] fp1, Ty.item ((EI .i64).ty.sl) a1.degrees [u1_0] fp1, Ty.item TForm.sl a0.images [u0_1] fp0, Ty.item ((EI .i64).ty.sl) a0.degrees [u0_0] fp0, Ty.item TAlg a0 [u0_0, u0_1] fp0, Ty.item TAlg a1 [u1_0, u1_1] fp1]) (by decide) rfl rfl
      replace hC := hC.gather (c := forest (TrForm 83) [r274] [u275] [(Option.toList (Value.ownBlock u275))]) (fun x_ hx_ => forest_mem hx_) (fun h1_ h2_ hd_ => forest_cons (c := [u275]) (form_join (own_item h1_)) h2_ hd_)
      replace hC := hC.sel [1, 0, 2, 3] [0, 1, 2, 3, 4, 5] (M' := [own 58 1 (.slice (some ⟨b284, 0, none⟩) 1 1) 1 [u275], forest (TrForm 83) [r274] [u275] [(Option.toList (Value.ownBlock u275))], Tr.item (Tr.sl 58 (TrForm 83)) s258.1 [v259] f260, blk b12 31 [u1_0, u1_1]]) (Ps' := [Ty.item TForm.sl a1.images [u1_1] fp1, Ty.item ((EI .i64).ty.sl) a1.degrees [u1_0] fp1, Ty.item TForm.sl a0.images [u0_1] fp0, Ty.item ((EI .i64).ty.sl) a0.degrees [u0_0] fp0, Ty.item TAlg a0 [u0_0, u0_1] fp0, Ty.item TAlg a1 [u1_0, u1_1] fp1]) (by decide) rfl rfl
      replace hC := hC.gather (c := Tr.item (Tr.sl 58 (TrForm 83)) [r274] [.slice (some ⟨b284, 0, none⟩) 1 1] ((Option.toList (Value.ownBlock (.slice (some ⟨b284, 0, none⟩) 1 1))) ++ ([(Option.toList (Value.ownBlock u275))] : List (List Nat)).flatten)) (fun x_ hx_ => List.mem_append.1 hx_) (fun h1_ h2_ hd_ => forest_up h1_ h2_ hd_)
      replace hC := hC.sel [1, 0, 2] [0, 1, 2, 3, 4, 5] (M' := [Tr.item (Tr.sl 58 (TrForm 83)) s258.1 [v259] f260, Tr.item (Tr.sl 58 (TrForm 83)) [r274] [.slice (some ⟨b284, 0, none⟩) 1 1] ((Option.toList (Value.ownBlock (.slice (some ⟨b284, 0, none⟩) 1 1))) ++ ([(Option.toList (Value.ownBlock u275))] : List (List Nat)).flatten), blk b12 31 [u1_0, u1_1]]) (Ps' := [Ty.item TForm.sl a1.images [u1_1] fp1, Ty.item ((EI .i64).ty.sl) a1.degrees [u1_0] fp1, Ty.item TForm.sl a0.images [u0_1] fp0, Ty.item ((EI .i64).ty.sl) a0.degrees [u0_0] fp0, Ty.item TAlg a0 [u0_0, u0_1] fp0, Ty.item TAlg a1 [u1_0, u1_1] fp1]) (by decide) rfl rfl
      obtain ⟨hm292, h⟩ := h
      refine s_appT hC Try.underlying29 el58 rfl (by decide) (by decide) rfl rfl hm292 fun v289 f291 w290 hC => ?_
      refine s_as (v := v289) rfl ?_
      refine done ?_
      refine blk_norm ?_
      refine blk_norm ?_
      refine then_norm ?_
      refine cw_region ?_
      refine s_mv (v := .int .i64 s258.2) (sx hS_ 6 rfl) ?_
      refine s_add rfl rfl ?_
      refine s_as (v := .int .i64 (IntKind.i64.wrap (s258.2 + 1))) rfl ?_
      refine done ?_
      exact hK263 (s258.1 ++ [r274], IntKind.i64.wrap (s258.2 + 1)) _ _ ⟨v289, f291, (sk (sx hS_ 0 rfl) (sk (sx hS_ 1 rfl) (sk (sx hS_ 2 rfl) (sk (sx hS_ 3 rfl) (sk rfl (sk (sx hS_ 5 rfl) (sk rfl sn))))))), hC⟩ h
     ·replace h := iff_ h (not_not_intro ((not_f hb270)))
      refine sr ?_
      refine s_mv (v := .int .i64 s258.2) (sx hS_ 6 rfl) ?_
      refine s_mv (v := .int .i64 (a0.degrees.length : Int)) (sx hS_ 5 rfl) ?_
      refine s_geq rfl rfl ?_
      refine s_mv (v := .bool (decide (s258.2 ≥ (a0.degrees.length : Int)))) rfl ?_
      refine bsplit (decide (s258.2 ≥ (a0.degrees.length : Int))) (fun hb293 => ?_) (fun hb293 => ?_)
      ·replace h := ift h (ct hb293)
       refine guardOn 3 52 rfl rfl hb293 ?_
       refine s_mv (v := .bool a2) (sx hS_ 0 rfl) ?_
       refine s_pick (v := .bool a2) (b := true) (tr rfl (congrArg _ hb293)) rfl ?_
       refine s_as (v := .bool a2) rfl ?_
       refine dn ?_
       refine cw_cond rfl (fun hb294 => ?_) (fun hb294 => ?_)
       ·replace h := ift h (hb294)
        refine cw_region ?_
        refine s_mv (v := v259) (sx hS_ 4 rfl) ?_
        refine s_mv (v := .int .i64 s258.2) (sx hS_ 6 rfl) ?_
        refine s_mv (v := .int .i64 (a0.degrees.length : Int)) (sx hS_ 5 rfl) ?_
        refine s_sub rfl rfl ?_
        refine s_call [.int .i64 (IntKind.i64.wrap (s258.2 - (a0.degrees.length : Int)))] _ Try.func36 rfl rfl rfl (c_spec_l04Generator (IntKind.i64.wrap (s258.2 - (a0.degrees.length : Int))) h _) (fun ret295 w297 hR296 => ?_)
        obtain ⟨r298, u299, f300, rfl, h, hr301, hf302, hB303⟩ := hR296
        refine ⟨_, rfl, ?_⟩
        replace hC := hC.push hB303 (Tr.item (TrForm 83) r298 [u299] f300) hr301 hf302
        obtain ⟨ho305, hf306⟩ := form_split (hC.getM 0 rfl)
        subst hf306
        replace hC := hC.recast (c := own 83 9 u299 r298.terms.length (ETerm.encs r298.terms)) (fun _ h_ => h_) (fun _ => ho305)
        refine s_bslice (sz := 1) hC [(0, .agg #[u299])] [u299] rfl (fun _ => bsr29_1_s u299 (own_isSl (hC.getM 0 rfl)) _) rfl (by decide) fun b308 w309 hB_ hC => ?_
        replace hC := hC.pushM0 (forest (TrForm 83) [] [] []) (forest_nil _ _) rfl
        replace hC := hC.sel [2, 0, 1, 3, 4] [0, 1, 2, 3, 4, 5] (M' := [own 83 9 u299 r298.terms.length (ETerm.encs r298.terms), forest (TrForm 83) [] [] [], own 58 1 (.slice (some ⟨b308, 0, none⟩) 1 1) 1 [u299], Tr.item (Tr.sl 58 (TrForm 83)) s258.1 [v259] f260, blk b12 31 [u1_0, u1_1]]) (Ps' := [Ty.item TForm.sl a1.images [u1_1] fp1, Ty.item ((EI .i64).ty.sl) a1.degrees [u1_0] fp1, Ty.item TForm.sl a0.images [u0_1] fp0, Ty.item ((EI .i64).ty.sl) a0.degrees [u0_0] fp0, Ty.item TAlg a0 [u0_0, u0_1] fp0, Ty.item TAlg a1 [u1_0, u1_1] fp1]) (by decide) rfl rfl
        replace hC := hC.gather (c := forest (TrForm 83) [r298] [u299] [(Option.toList (Value.ownBlock u299))]) (fun x_ hx_ => forest_mem hx_) (fun h1_ h2_ hd_ => forest_cons (c := [u299]) (form_join (own_item h1_)) h2_ hd_)
        replace hC := hC.sel [1, 0, 2, 3] [0, 1, 2, 3, 4, 5] (M' := [own 58 1 (.slice (some ⟨b308, 0, none⟩) 1 1) 1 [u299], forest (TrForm 83) [r298] [u299] [(Option.toList (Value.ownBlock u299))], Tr.item (Tr.sl 58 (TrForm 83)) s258.1 [v259] f260, blk b12 31 [u1_0, u1_1]]) (Ps' := [Ty.item TForm.sl a1.images [u1_1] fp1, Ty.item ((EI .i64).ty.sl) a1.degrees [u1_0] fp1, Ty.item TForm.sl a0.images [u0_1] fp0, Ty.item ((EI .i64).ty.sl) a0.degrees [u0_0] fp0, Ty.item TAlg a0 [u0_0, u0_1] fp0, Ty.item TAlg a1 [u1_0, u1_1] fp1]) (by decide) rfl rfl
        replace hC := hC.gather (c := Tr.item (Tr.sl 58 (TrForm 83)) [r298] [.slice (some ⟨b308, 0, none⟩) 1 1] ((Option.toList (Value.ownBlock (.slice (some ⟨b308, 0, none⟩) 1 1))) ++ ([(Option.toList (Value.ownBlock u299))] : List (List Nat)).flatten)) (fun x_ hx_ => List.mem_append.1 hx_) (fun h1_ h2_ hd_ => forest_up h1_ h2_ hd_)
        replace hC := hC.sel [1, 0, 2] [0, 1, 2, 3, 4, 5] (M' := [Tr.item (Tr.sl 58 (TrForm 83)) s258.1 [v259] f260, Tr.item (Tr.sl 58 (TrForm 83)) [r298] [.slice (some ⟨b308, 0, none⟩) 1 1] ((Option.toList (Value.ownBlock (.slice (some ⟨b308, 0, none⟩) 1 1))) ++ ([(Option.toList (Value.ownBlock u299))] : List (List Nat)).flatten), blk b12 31 [u1_0, u1_1]]) (Ps' := [Ty.item TForm.sl a1.images [u1_1] fp1, Ty.item ((EI .i64).ty.sl) a1.degrees [u1_0] fp1, Ty.item TForm.sl a0.images [u0_1] fp0, Ty.item ((EI .i64).ty.sl) a0.degrees [u0_0] fp0, Ty.item TAlg a0 [u0_0, u0_1] fp0, Ty.item TAlg a1 [u1_0, u1_1] fp1]) (by decide) rfl rfl
        obtain ⟨hm316, h⟩ := h
        refine s_appT hC Try.underlying29 el58 rfl (by decide) (by decide) rfl rfl hm316 fun v313 f315 w314 hC => ?_
        refine s_as (v := v313) rfl ?_
        refine done ?_
        refine blk_norm ?_
        refine blk_norm ?_
        refine then_norm ?_
        refine cw_region ?_
        refine s_mv (v := .int .i64 s258.2) (sx hS_ 6 rfl) ?_
        refine s_add rfl rfl ?_
        refine s_as (v := .int .i64 (IntKind.i64.wrap (s258.2 + 1))) rfl ?_
        refine done ?_
        exact hK263 (s258.1 ++ [r298], IntKind.i64.wrap (s258.2 + 1)) _ _ ⟨v313, f315, (sk (sx hS_ 0 rfl) (sk (sx hS_ 1 rfl) (sk (sx hS_ 2 rfl) (sk (sx hS_ 3 rfl) (sk rfl (sk (sx hS_ 5 rfl) (sk rfl sn))))))), hC⟩ h
       ·replace h := iff_ h (ne_t hb294)
        refine cw_region ?_
        refine s_mv (v := v259) (sx hS_ 4 rfl) ?_
        refine s_build [] rfl (bl58   _) ?_
        refine s_bslice (sz := 1) hC [(0, .agg #[.slice none 0 0])] [.slice none 0 0] rfl (fun _ => bsr29_1_n (.slice none 0 0) ⟨_, _, _, rfl⟩ _) rfl (by decide) fun b317 w318 hB_ hC => ?_
        replace hC := hC.pushM0 (forest (TrForm 83) [] [] []) (forest_nil _ _) rfl
        replace hC := hC.recast (c := forest (TrForm 83) [(⟨[]⟩ : Vc.Form)] [.slice none 0 0] [[]]) (fun x_ hx_ => hx_) (fun h_ => forest_cons (c := [.slice none 0 0]) (form_join (nil_item _ _ _)) h_ (by simp))
        replace hC := hC.sel [1, 0, 2, 3] [0, 1, 2, 3, 4, 5] (M' := [own 58 1 (.slice (some ⟨b317, 0, none⟩) 1 1) 1 [.slice none 0 0], forest (TrForm 83) [(⟨[]⟩ : Vc.Form)] [.slice none 0 0] [[]], Tr.item (Tr.sl 58 (TrForm 83)) s258.1 [v259] f260, blk b12 31 [u1_0, u1_1]]) (Ps' := [Ty.item TForm.sl a1.images [u1_1] fp1, Ty.item ((EI .i64).ty.sl) a1.degrees [u1_0] fp1, Ty.item TForm.sl a0.images [u0_1] fp0, Ty.item ((EI .i64).ty.sl) a0.degrees [u0_0] fp0, Ty.item TAlg a0 [u0_0, u0_1] fp0, Ty.item TAlg a1 [u1_0, u1_1] fp1]) (by decide) rfl rfl
        replace hC := hC.gather (c := Tr.item (Tr.sl 58 (TrForm 83)) [(⟨[]⟩ : Vc.Form)] [.slice (some ⟨b317, 0, none⟩) 1 1] ((Option.toList (Value.ownBlock (.slice (some ⟨b317, 0, none⟩) 1 1))) ++ ([[]] : List (List Nat)).flatten)) (fun x_ hx_ => List.mem_append.1 hx_) (fun h1_ h2_ hd_ => forest_up h1_ h2_ hd_)
        replace hC := hC.sel [1, 0, 2] [0, 1, 2, 3, 4, 5] (M' := [Tr.item (Tr.sl 58 (TrForm 83)) s258.1 [v259] f260, Tr.item (Tr.sl 58 (TrForm 83)) [(⟨[]⟩ : Vc.Form)] [.slice (some ⟨b317, 0, none⟩) 1 1] ((Option.toList (Value.ownBlock (.slice (some ⟨b317, 0, none⟩) 1 1))) ++ ([[]] : List (List Nat)).flatten), blk b12 31 [u1_0, u1_1]]) (Ps' := [Ty.item TForm.sl a1.images [u1_1] fp1, Ty.item ((EI .i64).ty.sl) a1.degrees [u1_0] fp1, Ty.item TForm.sl a0.images [u0_1] fp0, Ty.item ((EI .i64).ty.sl) a0.degrees [u0_0] fp0, Ty.item TAlg a0 [u0_0, u0_1] fp0, Ty.item TAlg a1 [u1_0, u1_1] fp1]) (by decide) rfl rfl
        obtain ⟨hm325, h⟩ := h
        refine s_appT hC Try.underlying29 el58 rfl (by decide) (by decide) rfl rfl hm325 fun v322 f324 w323 hC => ?_
        refine s_as (v := v322) rfl ?_
        refine done ?_
        refine blk_norm ?_
        refine blk_norm ?_
        refine then_norm ?_
        refine cw_region ?_
        refine s_mv (v := .int .i64 s258.2) (sx hS_ 6 rfl) ?_
        refine s_add rfl rfl ?_
        refine s_as (v := .int .i64 (IntKind.i64.wrap (s258.2 + 1))) rfl ?_
        refine done ?_
        exact hK263 (s258.1 ++ [(⟨[]⟩ : Vc.Form)], IntKind.i64.wrap (s258.2 + 1)) _ _ ⟨v322, f324, (sk (sx hS_ 0 rfl) (sk (sx hS_ 1 rfl) (sk (sx hS_ 2 rfl) (sk (sx hS_ 3 rfl) (sk rfl (sk (sx hS_ 5 rfl) (sk rfl sn))))))), hC⟩ h
      ·replace h := iff_ h (cf hb293)
       refine guardOff (b := false) 3 52 rfl (tr rfl (congrArg _ hb293)) (by decide) ?_
       refine s_pick (v := .bool false) (b := false) (tr rfl (congrArg _ hb293)) rfl ?_
       refine s_as (v := .bool false) rfl ?_
       refine dn ?_
       refine cw_false rfl rfl ?_
       refine cw_region ?_
       refine s_mv (v := v259) (sx hS_ 4 rfl) ?_
       refine s_build [] rfl (bl58   _) ?_
       refine s_bslice (sz := 1) hC [(0, .agg #[.slice none 0 0])] [.slice none 0 0] rfl (fun _ => bsr29_1_n (.slice none 0 0) ⟨_, _, _, rfl⟩ _) rfl (by decide) fun b326 w327 hB_ hC => ?_
       replace hC := hC.pushM0 (forest (TrForm 83) [] [] []) (forest_nil _ _) rfl
       replace hC := hC.recast (c := forest (TrForm 83) [(⟨[]⟩ : Vc.Form)] [.slice none 0 0] [[]]) (fun x_ hx_ => hx_) (fun h_ => forest_cons (c := [.slice none 0 0]) (form_join (nil_item _ _ _)) h_ (by simp))
       replace hC := hC.sel [1, 0, 2, 3] [0, 1, 2, 3, 4, 5] (M' := [own 58 1 (.slice (some ⟨b326, 0, none⟩) 1 1) 1 [.slice none 0 0], forest (TrForm 83) [(⟨[]⟩ : Vc.Form)] [.slice none 0 0] [[]], Tr.item (Tr.sl 58 (TrForm 83)) s258.1 [v259] f260, blk b12 31 [u1_0, u1_1]]) (Ps' := [Ty.item TForm.sl a1.images [u1_1] fp1, Ty.item ((EI .i64).ty.sl) a1.degrees [u1_0] fp1, Ty.item TForm.sl a0.images [u0_1] fp0, Ty.item ((EI .i64).ty.sl) a0.degrees [u0_0] fp0, Ty.item TAlg a0 [u0_0, u0_1] fp0, Ty.item TAlg a1 [u1_0, u1_1] fp1]) (by decide) rfl rfl
       replace hC := hC.gather (c := Tr.item (Tr.sl 58 (TrForm 83)) [(⟨[]⟩ : Vc.Form)] [.slice (some ⟨b326, 0, none⟩) 1 1] ((Option.toList (Value.ownBlock (.slice (some ⟨b326, 0, none⟩) 1 1))) ++ ([[]] : List (List Nat)).flatten)) (fun x_ hx_ => List.mem_append.1 hx_) (fun h1_ h2_ hd_ => forest_up h1_ h2_ hd_)
       replace hC := hC.sel [1, 0, 2] [0, 1, 2, 3, 4, 5] (M' := [Tr.item (Tr.sl 58 (TrForm 83)) s258.1 [v259] f260, Tr.item (Tr.sl 58 (TrForm 83)) [(⟨[]⟩ : Vc.Form)] [.slice (some ⟨b326, 0, none⟩) 1 1] ((Option.toList (Value.ownBlock (.slice (some ⟨b326, 0, none⟩) 1 1))) ++ ([[]] : List (List Nat)).flatten), blk b12 31 [u1_0, u1_1]]) (Ps' := [Ty.item TForm.sl a1.images [u1_1] fp1, Ty.item ((EI .i64).ty.sl) a1.degrees [u1_0] fp1, Ty.item TForm.sl a0.images [u0_1] fp0, Ty.item ((EI .i64).ty.sl) a0.degrees [u0_0] fp0, Ty.item TAlg a0 [u0_0, u0_1] fp0, Ty.item TAlg a1 [u1_0, u1_1] fp1]) (by decide) rfl rfl
       obtain ⟨hm334, h⟩ := h
       refine s_appT hC Try.underlying29 el58 rfl (by decide) (by decide) rfl rfl hm334 fun v331 f333 w332 hC => ?_
       refine s_as (v := v331) rfl ?_
       refine done ?_
       refine blk_norm ?_
       refine blk_norm ?_
       refine then_norm ?_
       refine cw_region ?_
       refine s_mv (v := .int .i64 s258.2) (sx hS_ 6 rfl) ?_
       refine s_add rfl rfl ?_
       refine s_as (v := .int .i64 (IntKind.i64.wrap (s258.2 + 1))) rfl ?_
       refine done ?_
       exact hK263 (s258.1 ++ [(⟨[]⟩ : Vc.Form)], IntKind.i64.wrap (s258.2 + 1)) _ _ ⟨v331, f333, (sk (sx hS_ 0 rfl) (sk (sx hS_ 1 rfl) (sk (sx hS_ 2 rfl) (sk (sx hS_ 3 rfl) (sk rfl (sk (sx hS_ 5 rfl) (sk rfl sn))))))), hC⟩ h
    ·replace h := iff_ h (cf hb269)
     refine guardOff (b := false) 3 39 rfl (tr rfl (congrArg _ hb269)) (by decide) ?_
     refine guardOff (b := false) 3 39 rfl (tr rfl (congrArg _ hb269)) (by decide) ?_
     refine s_pick (v := .bool false) (b := false) (tr rfl (congrArg _ hb269)) rfl ?_
     refine s_as (v := .bool false) rfl ?_
     refine dn ?_
     refine cw_false rfl rfl ?_
     refine sr ?_
     refine s_mv (v := .int .i64 s258.2) (sx hS_ 6 rfl) ?_
     refine s_mv (v := .int .i64 (a0.degrees.length : Int)) (sx hS_ 5 rfl) ?_
     refine s_geq rfl rfl ?_
     refine s_mv (v := .bool (decide (s258.2 ≥ (a0.degrees.length : Int)))) rfl ?_
     refine bsplit (decide (s258.2 ≥ (a0.degrees.length : Int))) (fun hb335 => ?_) (fun hb335 => ?_)
     ·replace h := ift h (ct hb335)
      refine guardOn 3 52 rfl rfl hb335 ?_
      refine s_mv (v := .bool a2) (sx hS_ 0 rfl) ?_
      refine s_pick (v := .bool a2) (b := true) (tr rfl (congrArg _ hb335)) rfl ?_
      refine s_as (v := .bool a2) rfl ?_
      refine dn ?_
      refine cw_cond rfl (fun hb336 => ?_) (fun hb336 => ?_)
      ·replace h := ift h (hb336)
       refine cw_region ?_
       refine s_mv (v := v259) (sx hS_ 4 rfl) ?_
       refine s_mv (v := .int .i64 s258.2) (sx hS_ 6 rfl) ?_
       refine s_mv (v := .int .i64 (a0.degrees.length : Int)) (sx hS_ 5 rfl) ?_
       refine s_sub rfl rfl ?_
       refine s_call [.int .i64 (IntKind.i64.wrap (s258.2 - (a0.degrees.length : Int)))] _ Try.func36 rfl rfl rfl (c_spec_l04Generator (IntKind.i64.wrap (s258.2 - (a0.degrees.length : Int))) h _) (fun ret337 w339 hR338 => ?_)
       obtain ⟨r340, u341, f342, rfl, h, hr343, hf344, hB345⟩ := hR338
       refine ⟨_, rfl, ?_⟩
       replace hC := hC.push hB345 (Tr.item (TrForm 83) r340 [u341] f342) hr343 hf344
       obtain ⟨ho347, hf348⟩ := form_split (hC.getM 0 rfl)
       subst hf348
       replace hC := hC.recast (c := own 83 9 u341 r340.terms.length (ETerm.encs r340.terms)) (fun _ h_ => h_) (fun _ => ho347)
       refine s_bslice (sz := 1) hC [(0, .agg #[u341])] [u341] rfl (fun _ => bsr29_1_s u341 (own_isSl (hC.getM 0 rfl)) _) rfl (by decide) fun b350 w351 hB_ hC => ?_
       replace hC := hC.pushM0 (forest (TrForm 83) [] [] []) (forest_nil _ _) rfl
       replace hC := hC.sel [2, 0, 1, 3, 4] [0, 1, 2, 3, 4, 5] (M' := [own 83 9 u341 r340.terms.length (ETerm.encs r340.terms), forest (TrForm 83) [] [] [], own 58 1 (.slice (some ⟨b350, 0, none⟩) 1 1) 1 [u341], Tr.item (Tr.sl 58 (TrForm 83)) s258.1 [v259] f260, blk b12 31 [u1_0, u1_1]]) (Ps' := [Ty.item TForm.sl a1.images [u1_1] fp1, Ty.item ((EI .i64).ty.sl) a1.degrees [u1_0] fp1, Ty.item TForm.sl a0.images [u0_1] fp0, Ty.item ((EI .i64).ty.sl) a0.degrees [u0_0] fp0, Ty.item TAlg a0 [u0_0, u0_1] fp0, Ty.item TAlg a1 [u1_0, u1_1] fp1]) (by decide) rfl rfl
       replace hC := hC.gather (c := forest (TrForm 83) [r340] [u341] [(Option.toList (Value.ownBlock u341))]) (fun x_ hx_ => forest_mem hx_) (fun h1_ h2_ hd_ => forest_cons (c := [u341]) (form_join (own_item h1_)) h2_ hd_)
       replace hC := hC.sel [1, 0, 2, 3] [0, 1, 2, 3, 4, 5] (M' := [own 58 1 (.slice (some ⟨b350, 0, none⟩) 1 1) 1 [u341], forest (TrForm 83) [r340] [u341] [(Option.toList (Value.ownBlock u341))], Tr.item (Tr.sl 58 (TrForm 83)) s258.1 [v259] f260, blk b12 31 [u1_0, u1_1]]) (Ps' := [Ty.item TForm.sl a1.images [u1_1] fp1, Ty.item ((EI .i64).ty.sl) a1.degrees [u1_0] fp1, Ty.item TForm.sl a0.images [u0_1] fp0, Ty.item ((EI .i64).ty.sl) a0.degrees [u0_0] fp0, Ty.item TAlg a0 [u0_0, u0_1] fp0, Ty.item TAlg a1 [u1_0, u1_1] fp1]) (by decide) rfl rfl
       replace hC := hC.gather (c := Tr.item (Tr.sl 58 (TrForm 83)) [r340] [.slice (some ⟨b350, 0, none⟩) 1 1] ((Option.toList (Value.ownBlock (.slice (some ⟨b350, 0, none⟩) 1 1))) ++ ([(Option.toList (Value.ownBlock u341))] : List (List Nat)).flatten)) (fun x_ hx_ => List.mem_append.1 hx_) (fun h1_ h2_ hd_ => forest_up h1_ h2_ hd_)
       replace hC := hC.sel [1, 0, 2] [0, 1, 2, 3, 4, 5] (M' := [Tr.item (Tr.sl 58 (TrForm 83)) s258.1 [v259] f260, Tr.item (Tr.sl 58 (TrForm 83)) [r340] [.slice (some ⟨b350, 0, none⟩) 1 1] ((Option.toList (Value.ownBlock (.slice (some ⟨b350, 0, none⟩) 1 1))) ++ ([(Option.toList (Value.ownBlock u341))] : List (List Nat)).flatten), blk b12 31 [u1_0, u1_1]]) (Ps' := [Ty.item TForm.sl a1.images [u1_1] fp1, Ty.item ((EI .i64).ty.sl) a1.degrees [u1_0] fp1, Ty.item TForm.sl a0.images [u0_1] fp0, Ty.item ((EI .i64).ty.sl) a0.degrees [u0_0] fp0, Ty.item TAlg a0 [u0_0, u0_1] fp0, Ty.item TAlg a1 [u1_0, u1_1] fp1]) (by decide) rfl rfl
       obtain ⟨hm358, h⟩ := h
       refine s_appT hC Try.underlying29 el58 rfl (by decide) (by decide) rfl rfl hm358 fun v355 f357 w356 hC => ?_
       refine s_as (v := v355) rfl ?_
       refine done ?_
       refine blk_norm ?_
       refine blk_norm ?_
       refine then_norm ?_
       refine cw_region ?_
       refine s_mv (v := .int .i64 s258.2) (sx hS_ 6 rfl) ?_
       refine s_add rfl rfl ?_
       refine s_as (v := .int .i64 (IntKind.i64.wrap (s258.2 + 1))) rfl ?_
       refine done ?_
       exact hK263 (s258.1 ++ [r340], IntKind.i64.wrap (s258.2 + 1)) _ _ ⟨v355, f357, (sk (sx hS_ 0 rfl) (sk (sx hS_ 1 rfl) (sk (sx hS_ 2 rfl) (sk (sx hS_ 3 rfl) (sk rfl (sk (sx hS_ 5 rfl) (sk rfl sn))))))), hC⟩ h
      ·replace h := iff_ h (ne_t hb336)
       refine cw_region ?_
       refine s_mv (v := v259) (sx hS_ 4 rfl) ?_
       refine s_build [] rfl (bl58   _) ?_
       refine s_bslice (sz := 1) hC [(0, .agg #[.slice none 0 0])] [.slice none 0 0] rfl (fun _ => bsr29_1_n (.slice none 0 0) ⟨_, _, _, rfl⟩ _) rfl (by decide) fun b359 w360 hB_ hC => ?_
       replace hC := hC.pushM0 (forest (TrForm 83) [] [] []) (forest_nil _ _) rfl
       replace hC := hC.recast (c := forest (TrForm 83) [(⟨[]⟩ : Vc.Form)] [.slice none 0 0] [[]]) (fun x_ hx_ => hx_) (fun h_ => forest_cons (c := [.slice none 0 0]) (form_join (nil_item _ _ _)) h_ (by simp))
       replace hC := hC.sel [1, 0, 2, 3] [0, 1, 2, 3, 4, 5] (M' := [own 58 1 (.slice (some ⟨b359, 0, none⟩) 1 1) 1 [.slice none 0 0], forest (TrForm 83) [(⟨[]⟩ : Vc.Form)] [.slice none 0 0] [[]], Tr.item (Tr.sl 58 (TrForm 83)) s258.1 [v259] f260, blk b12 31 [u1_0, u1_1]]) (Ps' := [Ty.item TForm.sl a1.images [u1_1] fp1, Ty.item ((EI .i64).ty.sl) a1.degrees [u1_0] fp1, Ty.item TForm.sl a0.images [u0_1] fp0, Ty.item ((EI .i64).ty.sl) a0.degrees [u0_0] fp0, Ty.item TAlg a0 [u0_0, u0_1] fp0, Ty.item TAlg a1 [u1_0, u1_1] fp1]) (by decide) rfl rfl
       replace hC := hC.gather (c := Tr.item (Tr.sl 58 (TrForm 83)) [(⟨[]⟩ : Vc.Form)] [.slice (some ⟨b359, 0, none⟩) 1 1] ((Option.toList (Value.ownBlock (.slice (some ⟨b359, 0, none⟩) 1 1))) ++ ([[]] : List (List Nat)).flatten)) (fun x_ hx_ => List.mem_append.1 hx_) (fun h1_ h2_ hd_ => forest_up h1_ h2_ hd_)
       replace hC := hC.sel [1, 0, 2] [0, 1, 2, 3, 4, 5] (M' := [Tr.item (Tr.sl 58 (TrForm 83)) s258.1 [v259] f260, Tr.item (Tr.sl 58 (TrForm 83)) [(⟨[]⟩ : Vc.Form)] [.slice (some ⟨b359, 0, none⟩) 1 1] ((Option.toList (Value.ownBlock (.slice (some ⟨b359, 0, none⟩) 1 1))) ++ ([[]] : List (List Nat)).flatten), blk b12 31 [u1_0, u1_1]]) (Ps' := [Ty.item TForm.sl a1.images [u1_1] fp1, Ty.item ((EI .i64).ty.sl) a1.degrees [u1_0] fp1, Ty.item TForm.sl a0.images [u0_1] fp0, Ty.item ((EI .i64).ty.sl) a0.degrees [u0_0] fp0, Ty.item TAlg a0 [u0_0, u0_1] fp0, Ty.item TAlg a1 [u1_0, u1_1] fp1]) (by decide) rfl rfl
       obtain ⟨hm367, h⟩ := h
       refine s_appT hC Try.underlying29 el58 rfl (by decide) (by decide) rfl rfl hm367 fun v364 f366 w365 hC => ?_
       refine s_as (v := v364) rfl ?_
       refine done ?_
       refine blk_norm ?_
       refine blk_norm ?_
       refine then_norm ?_
       refine cw_region ?_
       refine s_mv (v := .int .i64 s258.2) (sx hS_ 6 rfl) ?_
       refine s_add rfl rfl ?_
       refine s_as (v := .int .i64 (IntKind.i64.wrap (s258.2 + 1))) rfl ?_
       refine done ?_
       exact hK263 (s258.1 ++ [(⟨[]⟩ : Vc.Form)], IntKind.i64.wrap (s258.2 + 1)) _ _ ⟨v364, f366, (sk (sx hS_ 0 rfl) (sk (sx hS_ 1 rfl) (sk (sx hS_ 2 rfl) (sk (sx hS_ 3 rfl) (sk rfl (sk (sx hS_ 5 rfl) (sk rfl sn))))))), hC⟩ h
     ·replace h := iff_ h (cf hb335)
      refine guardOff (b := false) 3 52 rfl (tr rfl (congrArg _ hb335)) (by decide) ?_
      refine s_pick (v := .bool false) (b := false) (tr rfl (congrArg _ hb335)) rfl ?_
      refine s_as (v := .bool false) rfl ?_
      refine dn ?_
      refine cw_false rfl rfl ?_
      refine cw_region ?_
      refine s_mv (v := v259) (sx hS_ 4 rfl) ?_
      refine s_build [] rfl (bl58   _) ?_
      refine s_bslice (sz := 1) hC [(0, .agg #[.slice none 0 0])] [.slice none 0 0] rfl (fun _ => bsr29_1_n (.slice none 0 0) ⟨_, _, _, rfl⟩ _) rfl (by decide) fun b368 w369 hB_ hC => ?_
      replace hC := hC.pushM0 (forest (TrForm 83) [] [] []) (forest_nil _ _) rfl
      replace hC := hC.recast (c := forest (TrForm 83) [(⟨[]⟩ : Vc.Form)] [.slice none 0 0] [[]]) (fun x_ hx_ => hx_) (fun h_ => forest_cons (c := [.slice none 0 0]) (form_join (nil_item _ _ _)) h_ (by simp))
      replace hC := hC.sel [1, 0, 2, 3] [0, 1, 2, 3, 4, 5] (M' := [own 58 1 (.slice (some ⟨b368, 0, none⟩) 1 1) 1 [.slice none 0 0], forest (TrForm 83) [(⟨[]⟩ : Vc.Form)] [.slice none 0 0] [[]], Tr.item (Tr.sl 58 (TrForm 83)) s258.1 [v259] f260, blk b12 31 [u1_0, u1_1]]) (Ps' := [Ty.item TForm.sl a1.images [u1_1] fp1, Ty.item ((EI .i64).ty.sl) a1.degrees [u1_0] fp1, Ty.item TForm.sl a0.images [u0_1] fp0, Ty.item ((EI .i64).ty.sl) a0.degrees [u0_0] fp0, Ty.item TAlg a0 [u0_0, u0_1] fp0, Ty.item TAlg a1 [u1_0, u1_1] fp1]) (by decide) rfl rfl
      replace hC := hC.gather (c := Tr.item (Tr.sl 58 (TrForm 83)) [(⟨[]⟩ : Vc.Form)] [.slice (some ⟨b368, 0, none⟩) 1 1] ((Option.toList (Value.ownBlock (.slice (some ⟨b368, 0, none⟩) 1 1))) ++ ([[]] : List (List Nat)).flatten)) (fun x_ hx_ => List.mem_append.1 hx_) (fun h1_ h2_ hd_ => forest_up h1_ h2_ hd_)
      replace hC := hC.sel [1, 0, 2] [0, 1, 2, 3, 4, 5] (M' := [Tr.item (Tr.sl 58 (TrForm 83)) s258.1 [v259] f260, Tr.item (Tr.sl 58 (TrForm 83)) [(⟨[]⟩ : Vc.Form)] [.slice (some ⟨b368, 0, none⟩) 1 1] ((Option.toList (Value.ownBlock (.slice (some ⟨b368, 0, none⟩) 1 1))) ++ ([[]] : List (List Nat)).flatten), blk b12 31 [u1_0, u1_1]]) (Ps' := [Ty.item TForm.sl a1.images [u1_1] fp1, Ty.item ((EI .i64).ty.sl) a1.degrees [u1_0] fp1, Ty.item TForm.sl a0.images [u0_1] fp0, Ty.item ((EI .i64).ty.sl) a0.degrees [u0_0] fp0, Ty.item TAlg a0 [u0_0, u0_1] fp0, Ty.item TAlg a1 [u1_0, u1_1] fp1]) (by decide) rfl rfl
      obtain ⟨hm376, h⟩ := h
      refine s_appT hC Try.underlying29 el58 rfl (by decide) (by decide) rfl rfl hm376 fun v373 f375 w374 hC => ?_
      refine s_as (v := v373) rfl ?_
      refine done ?_
      refine blk_norm ?_
      refine blk_norm ?_
      refine then_norm ?_
      refine cw_region ?_
      refine s_mv (v := .int .i64 s258.2) (sx hS_ 6 rfl) ?_
      refine s_add rfl rfl ?_
      refine s_as (v := .int .i64 (IntKind.i64.wrap (s258.2 + 1))) rfl ?_
      refine done ?_
      exact hK263 (s258.1 ++ [(⟨[]⟩ : Vc.Form)], IntKind.i64.wrap (s258.2 + 1)) _ _ ⟨v373, f375, (sk (sx hS_ 0 rfl) (sk (sx hS_ 1 rfl) (sk (sx hS_ 2 rfl) (sk (sx hS_ 3 rfl) (sk rfl (sk (sx hS_ 5 rfl) (sk rfl sn))))))), hC⟩ h
   ·replace h := iff_ h (cf hb268)
    refine wp_exit (then_exit (then_exit (exit_in ?_)))
    refine then_norm ?_
    refine sr ?_
    refine s_mv (v := v259) (sx hS_ 4 rfl) ?_
    refine s_as (v := v259) rfl ?_
    refine s_as (v := .int .i64 0) rfl ?_
    refine dn ?_
    refine wp_ret ?_
    refine ret2 (fn := Try.f20) rfl ?_ ?_ ⟨s258.1, v259, f260, 0, rfl, h, (hC.getM 0 rfl), (tr_fresh hC 0 rfl), hC.below⟩ (.inl rfl)
    ·exact res_tmp rfl
    ·exact res_tmp rfl
  ·skip
   replace hC := hC.sel [0, 1] [0, 1, 2, 3, 4, 5] (M' := [Tr.item (Tr.sl 58 (TrForm 83)) [] [.slice (some ⟨b27, 0, none⟩) 0 0] ((Option.toList (Value.ownBlock (.slice (some ⟨b27, 0, none⟩) 0 0))) ++ ([] : List (List Nat)).flatten), blk b12 31 [u1_0, u1_1]]) (Ps' := [Ty.item TForm.sl a1.images [u1_1] fp1, Ty.item ((EI .i64).ty.sl) a1.degrees [u1_0] fp1, Ty.item TForm.sl a0.images [u0_1] fp0, Ty.item ((EI .i64).ty.sl) a0.degrees [u0_0] fp0, Ty.item TAlg a0 [u0_0, u0_1] fp0, Ty.item TAlg a1 [u1_0, u1_1] fp1]) (by decide) rfl rfl
   exact ⟨.slice (some ⟨b27, 0, none⟩) 0 0, ((Option.toList (Value.ownBlock (.slice (some ⟨b27, 0, none⟩) 0 0))) ++ ([] : List (List Nat)).flatten), (sk rfl (sk rfl (sk rfl (sk rfl (sk rfl (sk rfl (sk rfl sn))))))), hC⟩
def f_impl_ProjectionOf (a0 : Alg) (a1 : Alg) (a2 : Bool) (K : List Vc.Form → Int → Prop) : Prop :=
 f_impl_pairCode a0 a1 (fun r18 => (if r18 ≠ 0 then K [] r18 else (if a2 = true then (((0 ≤ (a0.degrees.length : Int) ∧ (a0.degrees.length : Int) * 24 ≤ 281474976710656) ∧ f_impl_generators 0 (a1.degrees.length : Int) (fun r77 => (Room ((List.replicate ((a0.degrees.length : Int).toNat) ((⟨[]⟩ : Vc.Form) : Vc.Form)).length + r77.length) 24 ∧ K ((List.replicate ((a0.degrees.length : Int).toNat) ((⟨[]⟩ : Vc.Form) : Vc.Form)) ++ r77) 0))) ∧ f_impl_generators 0 (a1.degrees.length : Int) (fun r92 => ((0 ≤ (a0.degrees.length : Int) ∧ (a0.degrees.length : Int) * 24 ≤ 281474976710656) ∧ (Room ((List.replicate ((a0.degrees.length : Int).toNat) ((⟨[]⟩ : Vc.Form) : Vc.Form)).length + r92.length) 24 ∧ K ((List.replicate ((a0.degrees.length : Int).toNat) ((⟨[]⟩ : Vc.Form) : Vc.Form)) ++ r92) 0)))) else f_impl_generators 0 (a0.degrees.length : Int) (fun r120 => (Room (r120.length + a1.degrees.length) 24 ∧ K (r120 ++ List.replicate a1.degrees.length ((⟨[]⟩ : Vc.Form) : Vc.Form)) 0)))))
theorem c_impl_ProjectionOf (a0 : Alg) (a1 : Alg) (a2 : Bool) {u0_0 : Value} {u0_1 : Value} {u1_0 : Value} {u1_1 : Value} {fp0 : List Nat} {fp1 : List Nat} {K : List Vc.Form → Int → Prop} (h : f_impl_ProjectionOf a0 a1 a2 K) (w0 : World) (q0 : TAlg.rep a0 [u0_0, u0_1] fp0 w0) (q1 : TAlg.rep a1 [u1_0, u1_1] fp1 w0) :
  Calls Try.prog 21 #[.agg #[u0_0, u0_1], .agg #[u1_0, u1_1], .bool a2] w0 fun e w' => ∃ (r0 : List Vc.Form) (z0_0 : Value) (fz0 : List Nat) (r1 : Int), 
   e = .returned (.tuple #[z0_0, .int .i64 r1]) ∧ K r0 r1 ∧ (Tr.item (Tr.sl 58 (TrForm 83)) r0 [z0_0] fz0).holds w' ∧ (∀ b, b ∈ fz0 → w0.heap.size ≤ b) ∧ Bel w0 w' := by
 unfold f_impl_ProjectionOf at h
 refine calls_of (args := [.agg #[u0_0, u0_1], .agg #[u1_0, u1_1], .bool a2]) Try.func21 rfl 31 Try.ntmps21 (Nat.le_of_ble_eq_true rfl) ?_
 have hC := Ctx.start (X := Nox) w0 [Ty.item TAlg a0 [u0_0, u0_1] fp0, Ty.item TAlg a1 [u1_0, u1_1] fp1] (by simp only [List.mem_cons, List.not_mem_nil, or_false, forall_eq_or_imp, forall_eq]; exact ⟨q0, q1⟩)
 have hp3 := (hC.getP 0 rfl)
 replace hC := hC.derive 0 rfl (Ty.item ((EI .i64).ty.sl) a0.degrees [u0_0] fp0) (fun _ => (alg_parts hp3).1) (fun _ hb_ => hb_)
 replace hC := hC.derive 1 rfl (Ty.item TForm.sl a0.images [u0_1] fp0) (fun _ => (alg_parts hp3).2) (fun _ hb_ => hb_)
 have hp6 := (hC.getP 3 rfl)
 replace hC := hC.derive 3 rfl (Ty.item ((EI .i64).ty.sl) a1.degrees [u1_0] fp1) (fun _ => (alg_parts hp6).1) (fun _ hb_ => hb_)
 replace hC := hC.derive 4 rfl (Ty.item TForm.sl a1.images [u1_1] fp1) (fun _ => (alg_parts hp6).2) (fun _ hb_ => hb_)
 refine sr ?_
 refine s_box (v := .agg #[u0_0, u0_1]) hC [u0_0, u0_1] rfl rfl fun b9 w11 hB_ hC => ?_
 refine s_box (v := .agg #[u1_0, u1_1]) hC [u1_0, u1_1] rfl rfl fun b12 w14 hB_ hC => ?_
 refine s_as (v := .slice none 0 0) rfl ?_
 refine s_as (v := .int .i64 0) rfl ?_
 refine dn ?_
 refine wp_seq ?_
 refine sr ?_
 refine s_call [.pointer (some ⟨b9, 0, none⟩), .pointer (some ⟨b12, 0, none⟩)] _ Try.func37 rfl rfl rfl (c_impl_pairCode a0 a1 h _ (alg_mk (hC.getP 3 rfl) (hC.getP 2 rfl)) (hC.getM 1 rfl) (alg_mk (hC.getP 1 rfl) (hC.getP 0 rfl)) (hC.getM 0 rfl)) (fun ret15 w17 hR16 => ?_)
 obtain ⟨r18, rfl, h, hB19⟩ := hR16
 refine ⟨_, rfl, ?_⟩
 replace hC := hC.grow hB19
 refine s_as (v := .int .i64 r18) rfl ?_
 refine dn ?_
 refine sr ?_
 refine s_mv (v := .int .i64 r18) rfl ?_
 refine s_neq rfl rfl ?_
 refine dn ?_
 refine cw_cond rfl (fun hb20 => ?_) (fun hb20 => ?_)
 ·replace h := ift h (ct hb20)
  refine sr ?_
  refine s_mv (v := .int .i64 r18) rfl ?_
  refine s_as (v := .slice none 0 0) rfl ?_
  refine s_as (v := .int .i64 r18) rfl ?_
  refine dn ?_
  refine wp_ret (then_ret ?_)
  refine ret2 (fn := Try.f21) rfl ?_ ?_ ⟨[], .slice none 0 0, [], r18, rfl, h, (nil_item _ _ _), (fun b hb => absurd hb (by simp)), hC.below⟩ (.inl rfl)
  ·exact res_tmp rfl
  ·exact res_tmp rfl
 ·replace h := iff_ h (cf hb20)
  refine wp_skip ?_
  refine then_norm ?_
  refine wp_seq ?_
  refine sr ?_
  refine s_mv (v := .bool a2) rfl ?_
  refine dn ?_
  refine cw_cond rfl (fun hb21 => ?_) (fun hb21 => ?_)
  ·replace h := ift h (hb21)
   refine wp_seq ?_
   refine cw_draw 8 mixed [0, 1, 3, 7, 0, 16, 48, 112, 255, 511, 1023] [1, 2, 5, 6] [0, 4] (by kernel_rfl) (by kernel_rfl) (by kernel_rfl) (fun hM23 hM24 w22 hB_ => ?_)
   replace hC := hC.grow hB_
   refine ae_lookF belPre 0 (.pointer (some ⟨b9, 0, none⟩)) rfl rfl (by kernel_rfl) (hM24 0 rfl) (fun w_ => .inl ⟨rfl, by exact r_faddrB 0 Try.underlying31 rfl sc22.size rfl rfl⟩) (listed' := (dbits 11 1)) (by kernel_rfl) ?_
   refine ae_look belPre 1 (u0_0) rfl rfl (by kernel_rfl) (hM23 1 rfl) (fun w_ hB_ => .inl ⟨rfl, by exact r_loadS (hC.grow hB_) 1 (u0_0) rfl sc22 rfl rfl⟩) (listed' := (dbits 11 3)) (by kernel_rfl) ?_
   obtain ⟨Ad25, c26, hv27⟩ := sl_len (hC.getP 3 rfl)
   refine ae_look belPre 2 (.int .i64 (a0.degrees.length : Int)) rfl rfl (by kernel_rfl) (hM23 2 rfl) (fun w_ hB_ => .inl ⟨rfl, by exact r_len Try.underlying22 (by exact tr rfl hv27)⟩) (listed' := (dbits 11 7)) (by kernel_rfl) ?_
   refine ae_lookF belPre 4 (.pointer (some ⟨b12, 0, none⟩)) rfl rfl (by kernel_rfl) (hM24 4 rfl) (fun w_ => .inl ⟨rfl, by exact r_faddrB 0 Try.underlying31 rfl sc22.size rfl rfl⟩) (listed' := (dbits 11 23)) (by kernel_rfl) ?_
   refine ae_look belPre 5 (u1_0) rfl rfl (by kernel_rfl) (hM23 5 rfl) (fun w_ hB_ => .inl ⟨rfl, by exact r_loadS (hC.grow hB_) 0 (u1_0) rfl sc22 rfl rfl⟩) (listed' := (dbits 11 55)) (by kernel_rfl) ?_
   obtain ⟨Ad28, c29, hv30⟩ := sl_len (hC.getP 1 rfl)
   refine ae_look belPre 6 (.int .i64 (a1.degrees.length : Int)) rfl rfl (by kernel_rfl) (hM23 6 rfl) (fun w_ hB_ => .inl ⟨rfl, by exact r_len Try.underlying22 (by exact tr rfl hv30)⟩) (listed' := (dbits 11 119)) (by kernel_rfl) ?_
   refine ae_join (fun e_ w_ => ∃ (r38 : List Vc.Form), ∃ (v46 : Value), ∃ (f48 : List Nat), Slots e_ [(3, .pointer (some ⟨b9, 0, none⟩)), (4, .pointer (some ⟨b12, 0, none⟩)), (6, v46), (7, .int .i64 0)] ∧ Ctx Nox w0 w_ [Tr.item (Tr.sl 58 (TrForm 83)) ((List.replicate ((a0.degrees.length : Int).toNat) ((⟨[]⟩ : Vc.Form) : Vc.Form)) ++ r38) [v46] f48, blk b12 31 [u1_0, u1_1], blk b9 31 [u0_0, u0_1]] [Ty.item TForm.sl a1.images [u1_1] fp1, Ty.item ((EI .i64).ty.sl) a1.degrees [u1_0] fp1, Ty.item TForm.sl a0.images [u0_1] fp0, Ty.item ((EI .i64).ty.sl) a0.degrees [u0_0] fp0, Ty.item TAlg a0 [u0_0, u0_1] fp0, Ty.item TAlg a1 [u1_0, u1_1] fp1] ∧ (K ((List.replicate ((a0.degrees.length : Int).toNat) ((⟨[]⟩ : Vc.Form) : Vc.Form)) ++ r38) 0)) ?_ ?_
   ·clear hC h
    rintro e_ w69 ⟨r38, v46, f48, hS_, hC, h⟩
    refine then_norm ?_
    refine wp_ret (then_ret ?_)
    refine ret2 (fn := Try.f21) rfl ?_ ?_ ⟨(List.replicate ((a0.degrees.length : Int).toNat) ((⟨[]⟩ : Vc.Form) : Vc.Form)) ++ r38, v46, f48, 0, rfl, h, (hC.getM 0 rfl), (tr_fresh hC 0 rfl), hC.below⟩ (.inl rfl)
    ·exact res_tmp (sx hS_ 2 rfl)
    ·exact res_tmp (sx hS_ 3 rfl)
   refine ae_two 3 7 rfl rfl (by kernel_rfl) ?_ ?_
   ·skip
    replace h := h.1
    obtain ⟨hm72, h⟩ := h
    refine s_make (sz := 1) hC (List.replicate ((a0.degrees.length : Int).toNat) (.slice none 0 0)) Try.underlying29 el58 (tr rfl (congrArg (Value.int .i64) (Int.toNat_of_nonneg hm72.1).symm)) (tr rfl (congrArg (Value.int .i64) (Int.toNat_of_nonneg hm72.1).symm)) (by omega) (by omega) (made_nil _) fun v70 w71 hB_ hC => ?_
    replace hC := hC.pushM0 (forest (TrForm 83) (List.replicate ((a0.degrees.length : Int).toNat) ((⟨[]⟩ : Vc.Form) : Vc.Form)) (List.replicate ((a0.degrees.length : Int).toNat) (.slice none 0 0)) (List.replicate ((a0.degrees.length : Int).toNat) [])) (forest_rep (form_join (nil_item _ _ _)) rfl _) (flat_rep _)
    replace hC := hC.gather (c := Tr.item (Tr.sl 58 (TrForm 83)) (List.replicate ((a0.degrees.length : Int).toNat) ((⟨[]⟩ : Vc.Form) : Vc.Form)) [v70] ((Option.toList (Value.ownBlock v70)) ++ (List.replicate ((a0.degrees.length : Int).toNat) ([] : List Nat)).flatten)) (fun x_ hx_ => (List.mem_append.1 hx_).symm) (fun h1_ h2_ hd_ => forest_up (by rw [List.length_replicate]; exact h2_) h1_ (fun b_ hb_ hb2_ => hd_ b_ hb2_ hb_))
    refine done ?_
    refine ak_intro (by assumption) (listed' := (dbits 11 127)) (by kernel_rfl) ?_
    refine ae_one 7 rfl (by kernel_rfl) ?_
    refine s_call [.int .i64 0, .int .i64 (a1.degrees.length : Int)] _ Try.func38 rfl rfl rfl (c_impl_generators 0 (a1.degrees.length : Int) h _) (fun ret74 w76 hR75 => ?_)
    obtain ⟨r77, u78, f79, rfl, h, hr80, hf81, hB82⟩ := hR75
    refine ⟨_, rfl, ?_⟩
    replace hC := hC.push hB82 (Tr.item (Tr.sl 58 (TrForm 83)) r77 [u78] f79) hr80 hf81
    refine done ?_
    refine ak_intro (by assumption) (listed' := (dbits 11 255)) (by kernel_rfl) ?_
    refine ae_tail 8 (by decide) (by decide) (by kernel_rfl) (by kernel_rfl) rfl ?_
    replace hC := hC.sel [1, 0, 2, 3] [0, 1, 2, 3, 4, 5] (M' := [Tr.item (Tr.sl 58 (TrForm 83)) (List.replicate ((a0.degrees.length : Int).toNat) ((⟨[]⟩ : Vc.Form) : Vc.Form)) [v70] ((Option.toList (Value.ownBlock v70)) ++ (List.replicate ((a0.degrees.length : Int).toNat) ([] : List Nat)).flatten), Tr.item (Tr.sl 58 (TrForm 83)) r77 [u78] f79, blk b12 31 [u1_0, u1_1], blk b9 31 [u0_0, u0_1]]) (Ps' := [Ty.item TForm.sl a1.images [u1_1] fp1, Ty.item ((EI .i64).ty.sl) a1.degrees [u1_0] fp1, Ty.item TForm.sl a0.images [u0_1] fp0, Ty.item ((EI .i64).ty.sl) a0.degrees [u0_0] fp0, Ty.item TAlg a0 [u0_0, u0_1] fp0, Ty.item TAlg a1 [u1_0, u1_1] fp1]) (by decide) rfl rfl
    obtain ⟨hm88, h⟩ := h
    refine s_appT hC Try.underlying29 el58 rfl (by decide) (by decide) rfl rfl hm88 fun v85 f87 w86 hC => ?_
    refine s_as (v := v85) rfl ?_
    refine s_as (v := .int .i64 0) rfl ?_
    refine done ?_
    refine qn_norm ?_
    exact ⟨rfl, _, rfl, ⟨r77, v85, f87, (sk rfl (sk rfl (sk rfl (sk rfl sn)))), hC, h⟩⟩
   ·skip
    replace h := h.2
    refine s_call [.int .i64 0, .int .i64 (a1.degrees.length : Int)] _ Try.func38 rfl rfl rfl (c_impl_generators 0 (a1.degrees.length : Int) h _) (fun ret89 w91 hR90 => ?_)
    obtain ⟨r92, u93, f94, rfl, h, hr95, hf96, hB97⟩ := hR90
    refine ⟨_, rfl, ?_⟩
    replace hC := hC.push hB97 (Tr.item (Tr.sl 58 (TrForm 83)) r92 [u93] f94) hr95 hf96
    refine done ?_
    refine ak_intro (by assumption) (listed' := (dbits 11 247)) (by kernel_rfl) ?_
    refine ae_one 3 rfl (by kernel_rfl) ?_
    obtain ⟨hm102, h⟩ := h
    refine s_make (sz := 1) hC (List.replicate ((a0.degrees.length : Int).toNat) (.slice none 0 0)) Try.underlying29 el58 (tr rfl (congrArg (Value.int .i64) (Int.toNat_of_nonneg hm102.1).symm)) (tr rfl (congrArg (Value.int .i64) (Int.toNat_of_nonneg hm102.1).symm)) (by omega) (by omega) (made_nil _) fun v100 w101 hB_ hC => ?_
    replace hC := hC.pushM0 (forest (TrForm 83) (List.replicate ((a0.degrees.length : Int).toNat) ((⟨[]⟩ : Vc.Form) : Vc.Form)) (List.replicate ((a0.degrees.length : Int).toNat) (.slice none 0 0)) (List.replicate ((a0.degrees.length : Int).toNat) [])) (forest_rep (form_join (nil_item _ _ _)) rfl _) (flat_rep _)
    replace hC := hC.gather (c := Tr.item (Tr.sl 58 (TrForm 83)) (List.replicate ((a0.degrees.length : Int).toNat) ((⟨[]⟩ : Vc.Form) : Vc.Form)) [v100] ((Option.toList (Value.ownBlock v100)) ++ (List.replicate ((a0.degrees.length : Int).toNat) ([] : List Nat)).flatten)) (fun x_ hx_ => (List.mem_append.1 hx_).symm) (fun h1_ h2_ hd_ => forest_up (by rw [List.length_replicate]; exact h2_) h1_ (fun b_ hb_ hb2_ => hd_ b_ hb2_ hb_))
    refine done ?_
    refine ak_intro (by assumption) (listed' := (dbits 11 255)) (by kernel_rfl) ?_
    refine ae_tail 8 (by decide) (by decide) (by kernel_rfl) (by kernel_rfl) rfl ?_
    obtain ⟨hm107, h⟩ := h
    refine s_appT hC Try.underlying29 el58 rfl (by decide) (by decide) rfl rfl hm107 fun v104 f106 w105 hC => ?_
    refine s_as (v := v104) rfl ?_
    refine s_as (v := .int .i64 0) rfl ?_
    refine done ?_
    refine qn_norm ?_
    exact ⟨rfl, _, rfl, ⟨r92, v104, f106, (sk rfl (sk rfl (sk rfl (sk rfl sn)))), hC, h⟩⟩
  ·replace h := iff_ h (ne_t hb21)
   refine wp_skip ?_
   refine then_norm ?_
   refine wp_seq ?_
   refine cw_draw 7 mixed [0, 1, 3, 7, 0, 16, 48, 127, 255, 511] [1, 2, 5, 6] [0, 4] (by kernel_rfl) (by kernel_rfl) (by kernel_rfl) (fun hM109 hM110 w108 hB_ => ?_)
   replace hC := hC.grow hB_
   refine ae_lookF belPre 0 (.pointer (some ⟨b9, 0, none⟩)) rfl rfl (by kernel_rfl) (hM110 0 rfl) (fun w_ => .inl ⟨rfl, by exact r_faddrB 0 Try.underlying31 rfl sc22.size rfl rfl⟩) (listed' := (dbits 10 1)) (by kernel_rfl) ?_
   refine ae_look belPre 1 (u0_0) rfl rfl (by kernel_rfl) (hM109 1 rfl) (fun w_ hB_ => .inl ⟨rfl, by exact r_loadS (hC.grow hB_) 1 (u0_0) rfl sc22 rfl rfl⟩) (listed' := (dbits 10 3)) (by kernel_rfl) ?_
   obtain ⟨Ad111, c112, hv113⟩ := sl_len (hC.getP 3 rfl)
   refine ae_look belPre 2 (.int .i64 (a0.degrees.length : Int)) rfl rfl (by kernel_rfl) (hM109 2 rfl) (fun w_ hB_ => .inl ⟨rfl, by exact r_len Try.underlying22 (by exact tr rfl hv113)⟩) (listed' := (dbits 10 7)) (by kernel_rfl) ?_
   refine ae_lookF belPre 4 (.pointer (some ⟨b12, 0, none⟩)) rfl rfl (by kernel_rfl) (hM110 4 rfl) (fun w_ => .inl ⟨rfl, by exact r_faddrB 0 Try.underlying31 rfl sc22.size rfl rfl⟩) (listed' := (dbits 10 23)) (by kernel_rfl) ?_
   refine ae_look belPre 5 (u1_0) rfl rfl (by kernel_rfl) (hM109 5 rfl) (fun w_ hB_ => .inl ⟨rfl, by exact r_loadS (hC.grow hB_) 0 (u1_0) rfl sc22 rfl rfl⟩) (listed' := (dbits 10 55)) (by kernel_rfl) ?_
   obtain ⟨Ad114, c115, hv116⟩ := sl_len (hC.getP 1 rfl)
   refine ae_look belPre 6 (.int .i64 (a1.degrees.length : Int)) rfl rfl (by kernel_rfl) (hM109 6 rfl) (fun w_ hB_ => .inl ⟨rfl, by exact r_len Try.underlying22 (by exact tr rfl hv116)⟩) (listed' := (dbits 10 119)) (by kernel_rfl) ?_
   refine ae_one 3 rfl (by kernel_rfl) ?_
   refine s_call [.int .i64 0, .int .i64 (a0.degrees.length : Int)] _ Try.func38 rfl rfl rfl (c_impl_generators 0 (a0.degrees.length : Int) h _) (fun ret117 w119 hR118 => ?_)
   obtain ⟨r120, u121, f122, rfl, h, hr123, hf124, hB125⟩ := hR118
   refine ⟨_, rfl, ?_⟩
   replace hC := hC.push hB125 (Tr.item (Tr.sl 58 (TrForm 83)) r120 [u121] f122) hr123 hf124
   refine done ?_
   refine ak_intro (by assumption) (listed' := (dbits 10 127)) (by kernel_rfl) ?_
   refine ae_tail 7 (by decide) (by decide) (by kernel_rfl) (by kernel_rfl) rfl ?_
   obtain ⟨hm131, h⟩ := h
   refine s_appZ hC Try.underlying29 Try.underlying3 el58 rfl rfl (by decide) rfl (fun w_ => form_join (nil_item _ _ _)) rfl rfl hm131 fun v128 f130 w129 hC => ?_
   refine s_as (v := v128) rfl ?_
   refine s_as (v := .int .i64 0) rfl ?_
   refine done ?_
   refine qn_norm ?_
   refine then_norm ?_
   refine wp_ret ?_
   refine ret2 (fn := Try.f21) rfl ?_ ?_ ⟨r120 ++ List.replicate a1.degrees.length ((⟨[]⟩ : Vc.Form) : Vc.Form), v128, f130, 0, rfl, h, (hC.getM 0 rfl), (tr_fresh hC 0 rfl), hC.below⟩ (.inl rfl)
   ·exact res_tmp rfl
   ·exact res_tmp rfl
def f_laws_FnExactProjectionOf (a0 : Alg) (a1 : Alg) (a2 : Bool) (K : Bool → Prop) : Prop :=
 f_laws_szAlgebra a0 1048576 (fun r18 => (if r18 < 0 then K true else f_laws_szAlgebra a1 r18 (fun r24 => (if r24 < 0 then K true else f_laws_toAlgebra a0 (fun r33 => f_laws_toAlgebra a1 (fun r52 => f_spec_ProjectionOf r33 r52 a2 (fun r71 r76 => f_laws_toAlgebra a0 (fun r83 => f_laws_toAlgebra a1 (fun r106 => f_impl_ProjectionOf r83 r106 a2 (fun r129 r134 => f_laws_eqFormS r129 r71 (fun r141 => (if ¬ (r141 = true) then K false else (if r134 ≠ r76 then K false else f_laws_toAlgebra a0 (fun r151 => f_laws_eqAlgebra r83 r151 (fun r170 => (if ¬ (r170 = true) then K false else f_laws_toAlgebra a1 (fun r179 => f_laws_eqAlgebra r106 r179 (fun r198 => (if ¬ (r198 = true) then K false else f_laws_markAlgebra r83 1 (fun r204 m206 => f_laws_markAlgebra (⟨r106.degrees, r106.images⟩ : Alg) r204 (fun r212 m214 => (if r212 < 0 then K false else f_laws_eqFormS r129 r71 (fun r221 => (if ¬ (r221 = true) then K false else f_laws_markFormS r129 1 (fun r227 m229 => f_laws_heldFormS m229 1 (fun r234 => (if r234 < 0 then K false else (if r234 ≠ r227 then K false else f_laws_toAlgebra (⟨a0.degrees, a0.images⟩ : Alg) (fun r244 => f_laws_toAlgebra (⟨a1.degrees, a1.images⟩ : Alg) (fun r263 => f_impl_ProjectionOf r244 r263 a2 (fun r282 r287 => f_laws_eqFormS r282 r71 (fun r294 => (if ¬ (r294 = true) then K false else (if r287 ≠ r76 then K false else f_laws_heldFormS m229 1 (fun r301 => (if r301 < 0 then K false else (if r301 ≠ r227 then K false else K true)))))))))))))))))))))))))))))))))))))
theorem c_laws_FnExactProjectionOf (a0 : Alg) (a1 : Alg) (a2 : Bool) {u0_0 : Value} {u0_1 : Value} {u1_0 : Value} {u1_1 : Value} {fp0 : List Nat} {fp1 : List Nat} {K : Bool → Prop} (h : f_laws_FnExactProjectionOf a0 a1 a2 K) (w0 : World) (q0 : TAlg.rep a0 [u0_0, u0_1] fp0 w0) (q1 : TAlg.rep a1 [u1_0, u1_1] fp1 w0) :
  Calls Try.prog 5 #[.agg #[u0_0, u0_1], .agg #[u1_0, u1_1], .bool a2] w0 fun e w' => ∃ (r0 : Bool), 
   e = .returned (.bool r0) ∧ K r0 ∧ Bel w0 w' := by
 unfold f_laws_FnExactProjectionOf at h
 refine calls_of (args := [.agg #[u0_0, u0_1], .agg #[u1_0, u1_1], .bool a2]) Try.func5 rfl 124 Try.ntmps5 (Nat.le_of_ble_eq_true rfl) ?_
 have hC := Ctx.start (X := Nox) w0 [Ty.item TAlg a0 [u0_0, u0_1] fp0, Ty.item TAlg a1 [u1_0, u1_1] fp1] (by simp only [List.mem_cons, List.not_mem_nil, or_false, forall_eq_or_imp, forall_eq]; exact ⟨q0, q1⟩)
 have hp3 := (hC.getP 0 rfl)
 replace hC := hC.derive 0 rfl (Ty.item ((EI .i64).ty.sl) a0.degrees [u0_0] fp0) (fun _ => (alg_parts hp3).1) (fun _ hb_ => hb_)
 replace hC := hC.derive 1 rfl (Ty.item TForm.sl a0.images [u0_1] fp0) (fun _ => (alg_parts hp3).2) (fun _ hb_ => hb_)
 have hp6 := (hC.getP 3 rfl)
 replace hC := hC.derive 3 rfl (Ty.item ((EI .i64).ty.sl) a1.degrees [u1_0] fp1) (fun _ => (alg_parts hp6).1) (fun _ hb_ => hb_)
 replace hC := hC.derive 4 rfl (Ty.item TForm.sl a1.images [u1_1] fp1) (fun _ => (alg_parts hp6).2) (fun _ hb_ => hb_)
 refine sr ?_
 refine s_box (v := .agg #[u0_0, u0_1]) hC [u0_0, u0_1] rfl rfl fun b9 w11 hB_ hC => ?_
 refine s_box (v := .agg #[u1_0, u1_1]) hC [u1_0, u1_1] rfl rfl fun b12 w14 hB_ hC => ?_
 refine s_as (v := .bool false) rfl ?_
 refine dn ?_
 refine sr ?_
 refine s_as (v := .int .i64 1048576) rfl ?_
 refine dn ?_
 refine sr ?_
 refine s_loadA hC 1 [u0_0, u0_1] rfl ag25 rfl rfl rfl ?_
 refine s_mv (v := .int .i64 1048576) rfl ?_
 refine s_call [.agg #[u0_0, u0_1], .int .i64 1048576] _ Try.func6 rfl rfl rfl (c_laws_szAlgebra a0 1048576 h _ (alg_mk (hC.getP 3 rfl) (hC.getP 2 rfl))) (fun ret15 w17 hR16 => ?_)
 obtain ⟨r18, rfl, h, hB19⟩ := hR16
 refine ⟨_, rfl, ?_⟩
 replace hC := hC.grow hB19
 refine s_as (v := .int .i64 r18) rfl ?_
 refine dn ?_
 refine wp_seq ?_
 refine sr ?_
 refine s_mv (v := .int .i64 r18) rfl ?_
 refine s_lss rfl rfl ?_
 refine dn ?_
 refine cw_cond rfl (fun hb20 => ?_) (fun hb20 => ?_)
 ·replace h := ift h (ct hb20)
  refine sr ?_
  refine s_as (v := .bool true) rfl ?_
  refine dn ?_
  refine wp_ret (then_ret ?_)
  refine ret1 (fn := Try.f5) rfl ?_ ⟨true, rfl, h, hC.below⟩ (.inl rfl)
  exact res_tmp rfl
 ·replace h := iff_ h (cf hb20)
  refine wp_skip ?_
  refine then_norm ?_
  refine sr ?_
  refine s_loadA hC 0 [u1_0, u1_1] rfl ag25 rfl rfl rfl ?_
  refine s_mv (v := .int .i64 r18) rfl ?_
  refine s_call [.agg #[u1_0, u1_1], .int .i64 r18] _ Try.func6 rfl rfl rfl (c_laws_szAlgebra a1 r18 h _ (alg_mk (hC.getP 1 rfl) (hC.getP 0 rfl))) (fun ret21 w23 hR22 => ?_)
  obtain ⟨r24, rfl, h, hB25⟩ := hR22
  refine ⟨_, rfl, ?_⟩
  replace hC := hC.grow hB25
  refine s_as (v := .int .i64 r24) rfl ?_
  refine dn ?_
  refine wp_seq ?_
  refine sr ?_
  refine s_mv (v := .int .i64 r24) rfl ?_
  refine s_lss rfl rfl ?_
  refine dn ?_
  refine cw_cond rfl (fun hb26 => ?_) (fun hb26 => ?_)
  ·replace h := ift h (ct hb26)
   refine sr ?_
   refine s_as (v := .bool true) rfl ?_
   refine dn ?_
   refine wp_ret (then_ret ?_)
   refine ret1 (fn := Try.f5) rfl ?_ ⟨true, rfl, h, hC.below⟩ (.inl rfl)
   exact res_tmp rfl
  ·replace h := iff_ h (cf hb26)
   refine wp_skip ?_
   refine then_norm ?_
   refine wp_seq ?_
   refine cw_draw 10 mixed [0, 1, 0, 7, 0, 31, 63, 127, 127, 255, 1023] [0, 2] [4, 6, 7, 8, 9] (by kernel_rfl) (by kernel_rfl) (by kernel_rfl) (fun hM28 hM29 w27 hB_ => ?_)
   replace hC := hC.grow hB_
   refine ae_look belPre 0 (.agg #[u0_0, u0_1]) rfl rfl (by kernel_rfl) (hM28 0 rfl) (fun w_ hB_ => .inl ⟨rfl, by exact r_loadA (hC.grow hB_) 1 [u0_0, u0_1] rfl ag25 rfl rfl rfl⟩) (listed' := (dbits 11 1)) (by kernel_rfl) ?_
   refine ae_look belPre 2 (.agg #[u1_0, u1_1]) rfl rfl (by kernel_rfl) (hM28 2 rfl) (fun w_ hB_ => .inl ⟨rfl, by exact r_loadA (hC.grow hB_) 0 [u1_0, u1_1] rfl ag25 rfl rfl rfl⟩) (listed' := (dbits 11 5)) (by kernel_rfl) ?_
   refine ae_lookF belPre 4 (.bool a2) rfl rfl (by kernel_rfl) (hM29 4 rfl) (fun w_ => .inl ⟨rfl, by exact r_mv (v := .bool a2) rfl⟩) (listed' := (dbits 11 21)) (by kernel_rfl) ?_
   refine ae_one 1 rfl (by kernel_rfl) ?_
   refine s_call [.agg #[u0_0, u0_1]] _ Try.func8 rfl rfl rfl (c_laws_toAlgebra a0 h _ (alg_mk (hC.getP 3 rfl) (hC.getP 2 rfl))) (fun ret30 w32 hR31 => ?_)
   obtain ⟨r33, u34, u35, f36, rfl, h, hr37, hf38, hB39⟩ := hR31
   refine ⟨_, rfl, ?_⟩
   replace hC := hC.push hB39 (Tr.item (TrAlg 2 83 58) r33 [u34, u35] f36) hr37 hf38
   obtain ⟨f41, ho42, ho43, hs44, hs45, hd46⟩ := alg_split (hC.getM 0 rfl)
   replace hC := hC.split (a := own 2 1 u34 r33.degrees.length ((EI .i64).encs r33.degrees)) (b := Tr.item (Tr.sl 58 (TrForm 83)) r33.images [u35] f41) hs44 hs45 ⟨ho42, ho43, hd46⟩
   refine done ?_
   refine ak_intro (by assumption) (listed' := (dbits 11 23)) (by kernel_rfl) ?_
   refine ae_one 3 rfl (by kernel_rfl) ?_
   refine s_call [.agg #[u1_0, u1_1]] _ Try.func8 rfl rfl rfl (c_laws_toAlgebra a1 h _ (alg_mk (hC.getP 1 rfl) (hC.getP 0 rfl))) (fun ret49 w51 hR50 => ?_)
   obtain ⟨r52, u53, u54, f55, rfl, h, hr56, hf57, hB58⟩ := hR50
   refine ⟨_, rfl, ?_⟩
   replace hC := hC.push hB58 (Tr.item (TrAlg 2 83 58) r52 [u53, u54] f55) hr56 hf57
   obtain ⟨f60, ho61, ho62, hs63, hs64, hd65⟩ := alg_split (hC.getM 0 rfl)
   replace hC := hC.split (a := own 2 1 u53 r52.degrees.length ((EI .i64).encs r52.degrees)) (b := Tr.item (Tr.sl 58 (TrForm 83)) r52.images [u54] f60) hs63 hs64 ⟨ho61, ho62, hd65⟩
   refine done ?_
   refine ak_intro (by assumption) (listed' := (dbits 11 31)) (by kernel_rfl) ?_
   refine ae_one 5 rfl (by kernel_rfl) ?_
   refine s_call [.agg #[u34, u35], .agg #[u53, u54], .bool a2] _ Try.func20 rfl rfl rfl (c_spec_ProjectionOf r33 r52 a2 h _ (alg_mk (own_repE (hC.getM 2 rfl)) (Tr.trep _ (hC.getM 3 rfl).1)) (alg_mk (own_repE (hC.getM 0 rfl)) (Tr.trep _ (hC.getM 1 rfl).1))) (fun ret68 w70 hR69 => ?_)
   obtain ⟨r71, u72, f73, r76, rfl, h, hr74, hf75, hB77⟩ := hR69
   refine ⟨_, rfl, ?_⟩
   replace hC := hC.push hB77 (Tr.item (Tr.sl 58 (TrForm 83)) r71 [u72] f73) hr74 hf75
   refine done ?_
   refine ak_intro (by assumption) (listed' := (dbits 11 63)) (by kernel_rfl) ?_
   refine ae_lookF belPre 6 (.tuple #[u72, .int .i64 r76]) rfl rfl (by kernel_rfl) (hM29 6 rfl) (fun w_ => .inl ⟨rfl, by exact r_mv (v := .tuple #[u72, .int .i64 r76]) rfl⟩) (listed' := (dbits 11 127)) (by kernel_rfl) ?_
   refine ae_lookF belPre 7 (u72) rfl rfl (by kernel_rfl) (hM29 7 rfl) (fun w_ => .inl ⟨rfl, by exact r_ext (v := u72) rfl rfl⟩) (listed' := (dbits 11 255)) (by kernel_rfl) ?_
   refine ae_lookF belPre 8 (.int .i64 r76) rfl rfl (by kernel_rfl) (hM29 8 rfl) (fun w_ => .inl ⟨rfl, by exact r_ext (v := .int .i64 r76) rfl rfl⟩) (listed' := (dbits 11 511)) (by kernel_rfl) ?_
   refine ae_lookF belPre 9 (u72) rfl rfl (by kernel_rfl) (hM29 9 rfl) (fun w_ => .inl ⟨rfl, by exact r_as (v := u72) rfl⟩) (listed' := (dbits 11 1023)) (by kernel_rfl) ?_
   refine ae_tail 10 (by decide) (by decide) (by kernel_rfl) (by kernel_rfl) rfl ?_
   refine s_as (v := .int .i64 r76) rfl ?_
   refine done ?_
   refine qn_norm ?_
   refine then_norm ?_
   refine sr ?_
   refine s_loadA hC 6 [u0_0, u0_1] rfl ag25 rfl rfl rfl ?_
   refine s_call [.agg #[u0_0, u0_1]] _ Try.func8 rfl rfl rfl (c_laws_toAlgebra a0 h _ (alg_mk (hC.getP 3 rfl) (hC.getP 2 rfl))) (fun ret80 w82 hR81 => ?_)
   obtain ⟨r83, u84, u85, f86, rfl, h, hr87, hf88, hB89⟩ := hR81
   refine ⟨_, rfl, ?_⟩
   replace hC := hC.push hB89 (Tr.item (TrAlg 2 83 58) r83 [u84, u85] f86) hr87 hf88
   obtain ⟨f91, ho92, ho93, hs94, hs95, hd96⟩ := alg_split (hC.getM 0 rfl)
   replace hC := hC.split (a := own 2 1 u84 r83.degrees.length ((EI .i64).encs r83.degrees)) (b := Tr.item (Tr.sl 58 (TrForm 83)) r83.images [u85] f91) hs94 hs95 ⟨ho92, ho93, hd96⟩
   refine s_alloc hC [.slice none 0 0, .slice none 0 0] z31 rfl fun b99 w101 hB_ hC => ?_
   refine s_store (v := .agg #[u84, u85]) hC 0 [u84, u85] [u84, u85] rfl ag31.size rfl rfl rfl rfl (all_c (own_oneC (hC.getM 1 rfl)) (all_c (rep_oneC (Tr.trep _ (hC.getM 2 rfl).1)) rfl)) (Nat.le_of_ble_eq_true rfl) rfl fun w102 hC => ?_
   refine dn ?_
   refine sr ?_
   refine s_loadA hC 8 [u1_0, u1_1] rfl ag25 rfl rfl rfl ?_
   refine s_call [.agg #[u1_0, u1_1]] _ Try.func8 rfl rfl rfl (c_laws_toAlgebra a1 h _ (alg_mk (hC.getP 1 rfl) (hC.getP 0 rfl))) (fun ret103 w105 hR104 => ?_)
   obtain ⟨r106, u107, u108, f109, rfl, h, hr110, hf111, hB112⟩ := hR104
   refine ⟨_, rfl, ?_⟩
   replace hC := hC.push hB112 (Tr.item (TrAlg 2 83 58) r106 [u107, u108] f109) hr110 hf111
   obtain ⟨f114, ho115, ho116, hs117, hs118, hd119⟩ := alg_split (hC.getM 0 rfl)
   replace hC := hC.split (a := own 2 1 u107 r106.degrees.length ((EI .i64).encs r106.degrees)) (b := Tr.item (Tr.sl 58 (TrForm 83)) r106.images [u108] f114) hs117 hs118 ⟨ho115, ho116, hd119⟩
   refine s_alloc hC [.slice none 0 0, .slice none 0 0] z31 rfl fun b122 w124 hB_ hC => ?_
   refine s_store (v := .agg #[u107, u108]) hC 0 [u107, u108] [u107, u108] rfl ag31.size rfl rfl rfl rfl (all_c (own_oneC (hC.getM 1 rfl)) (all_c (rep_oneC (Tr.trep _ (hC.getM 2 rfl).1)) rfl)) (Nat.le_of_ble_eq_true rfl) rfl fun w125 hC => ?_
   refine dn ?_
   refine sr ?_
   refine s_loadA hC 3 [u84, u85] rfl ag31 rfl rfl rfl ?_
   refine s_loadA hC 0 [u107, u108] rfl ag31 rfl rfl rfl ?_
   refine s_mv (v := .bool a2) rfl ?_
   refine s_call [.agg #[u84, u85], .agg #[u107, u108], .bool a2] _ Try.func21 rfl rfl rfl (c_impl_ProjectionOf r83 r106 a2 h _ (alg_mk (own_repE (hC.getM 4 rfl)) (Tr.trep _ (hC.getM 5 rfl).1)) (alg_mk (own_repE (hC.getM 1 rfl)) (Tr.trep _ (hC.getM 2 rfl).1))) (fun ret126 w128 hR127 => ?_)
   obtain ⟨r129, u130, f131, r134, rfl, h, hr132, hf133, hB135⟩ := hR127
   refine ⟨_, rfl, ?_⟩
   replace hC := hC.push hB135 (Tr.item (Tr.sl 58 (TrForm 83)) r129 [u130] f131) hr132 hf133
   refine s_mv (v := .tuple #[u130, .int .i64 r134]) rfl ?_
   refine s_ext (v := u130) rfl rfl ?_
   refine s_ext (v := .int .i64 r134) rfl rfl ?_
   refine s_as (v := u130) rfl ?_
   refine s_as (v := .int .i64 r134) rfl ?_
   refine dn ?_
   refine wp_seq ?_
   refine sr ?_
   refine s_mv (v := u130) rfl ?_
   refine s_mv (v := u72) rfl ?_
   refine s_call [u130, u72] _ Try.func17 rfl rfl rfl (c_laws_eqFormS r129 r71 h _ (Tr.trep _ (hC.getM 0 rfl).1) (Tr.trep _ (hC.getM 7 rfl).1)) (fun ret138 w140 hR139 => ?_)
   obtain ⟨r141, rfl, h, hB142⟩ := hR139
   refine ⟨_, rfl, ?_⟩
   replace hC := hC.grow hB142
   refine s_not rfl ?_
   refine s_mv (v := .bool (!r141)) rfl ?_
   refine bsplit (!r141) (fun hb143 => ?_) (fun hb143 => ?_)
   ·replace h := ift h (ne_t (not_t hb143))
    refine guardOff (b := true) 4 53 rfl (tr rfl (congrArg _ hb143)) (by decide) ?_
    refine guardOff (b := true) 4 53 rfl (tr rfl (congrArg _ hb143)) (by decide) ?_
    refine guardOff (b := true) 4 53 rfl (tr rfl (congrArg _ hb143)) (by decide) ?_
    refine s_pick (v := .bool true) (b := true) (tr rfl (congrArg _ hb143)) rfl ?_
    refine dn ?_
    refine cw_true rfl rfl ?_
    refine sr ?_
    refine s_as (v := .bool false) rfl ?_
    refine dn ?_
    refine wp_ret (then_ret ?_)
    refine ret1 (fn := Try.f5) rfl ?_ ⟨false, rfl, h, hC.below⟩ (.inl rfl)
    exact res_tmp rfl
   ·replace h := iff_ h (not_not_intro ((not_f hb143)))
    refine guardOn 4 53 rfl rfl hb143 ?_
    refine s_mv (v := .int .i64 r134) rfl ?_
    refine guardOn 4 53 rfl rfl hb143 ?_
    refine s_mv (v := .int .i64 r76) rfl ?_
    refine guardOn 4 53 rfl rfl hb143 ?_
    refine s_neq rfl rfl ?_
    refine s_pick (v := .bool (decide (r134 ≠ r76))) (b := false) (tr rfl (congrArg _ hb143)) rfl ?_
    refine dn ?_
    refine cw_cond rfl (fun hb144 => ?_) (fun hb144 => ?_)
    ·replace h := ift h (ct hb144)
     refine sr ?_
     refine s_as (v := .bool false) rfl ?_
     refine dn ?_
     refine wp_ret (then_ret ?_)
     refine ret1 (fn := Try.f5) rfl ?_ ⟨false, rfl, h, hC.below⟩ (.inl rfl)
     exact res_tmp rfl
    ·replace h := iff_ h (cf hb144)
     refine wp_skip ?_
     refine then_norm ?_
     refine wp_seq ?_
     refine wp_seq ?_
     refine cw_draw 3 mixed [0, 0, 2, 7, 15] [0, 1] [] (by kernel_rfl) (by kernel_rfl) (by kernel_rfl) (fun hM146 hM147 w145 hB_ => ?_)
     replace hC := hC.grow hB_
     refine ae_look belPre 0 (.agg #[u84, u85]) rfl rfl (by kernel_rfl) (hM146 0 rfl) (fun w_ hB_ => .inl ⟨rfl, by exact r_loadA (hC.grow hB_) 4 [u84, u85] rfl ag31 rfl rfl rfl⟩) (listed' := (dbits 5 1)) (by kernel_rfl) ?_
     refine ae_look belPre 1 (.agg #[u0_0, u0_1]) rfl rfl (by kernel_rfl) (hM146 1 rfl) (fun w_ hB_ => .inl ⟨rfl, by exact r_loadA (hC.grow hB_) 13 [u0_0, u0_1] rfl ag25 rfl rfl rfl⟩) (listed' := (dbits 5 3)) (by kernel_rfl) ?_
     refine ae_one 2 rfl (by kernel_rfl) ?_
     refine s_call [.agg #[u0_0, u0_1]] _ Try.func8 rfl rfl rfl (c_laws_toAlgebra a0 h _ (alg_mk (hC.getP 3 rfl) (hC.getP 2 rfl))) (fun ret148 w150 hR149 => ?_)
     obtain ⟨r151, u152, u153, f154, rfl, h, hr155, hf156, hB157⟩ := hR149
     refine ⟨_, rfl, ?_⟩
     replace hC := hC.push hB157 (Tr.item (TrAlg 2 83 58) r151 [u152, u153] f154) hr155 hf156
     obtain ⟨f159, ho160, ho161, hs162, hs163, hd164⟩ := alg_split (hC.getM 0 rfl)
     replace hC := hC.split (a := own 2 1 u152 r151.degrees.length ((EI .i64).encs r151.degrees)) (b := Tr.item (Tr.sl 58 (TrForm 83)) r151.images [u153] f159) hs162 hs163 ⟨ho160, ho161, hd164⟩
     refine done ?_
     refine ak_intro (by assumption) (listed' := (dbits 5 7)) (by kernel_rfl) ?_
     refine ae_tail 3 (by decide) (by decide) (by kernel_rfl) (by kernel_rfl) rfl ?_
     refine s_call [.agg #[u84, u85], .agg #[u152, u153]] _ Try.func11 rfl rfl rfl (c_laws_eqAlgebra r83 r151 h _ (alg_mk (own_repE (hC.getM 7 rfl)) (Tr.trep _ (hC.getM 8 rfl).1)) (alg_mk (own_repE (hC.getM 0 rfl)) (Tr.trep _ (hC.getM 1 rfl).1))) (fun ret167 w169 hR168 => ?_)
     obtain ⟨r170, rfl, h, hB171⟩ := hR168
     refine ⟨_, rfl, ?_⟩
     replace hC := hC.grow hB171
     refine s_not rfl ?_
     refine done ?_
     refine qn_norm ?_
     refine then_norm ?_
     refine cw_cond rfl (fun hb172 => ?_) (fun hb172 => ?_)
     ·replace h := ift h (ne_t (not_t hb172))
      refine sr ?_
      refine s_as (v := .bool false) rfl ?_
      refine dn ?_
      refine wp_ret (then_ret ?_)
      refine ret1 (fn := Try.f5) rfl ?_ ⟨false, rfl, h, hC.below⟩ (.inl rfl)
      exact res_tmp rfl
     ·replace h := iff_ h (not_not_intro ((not_f hb172)))
      refine wp_skip ?_
      refine then_norm ?_
      refine wp_seq ?_
      refine wp_seq ?_
      refine cw_draw 3 mixed [0, 0, 2, 7, 15] [0, 1] [] (by kernel_rfl) (by kernel_rfl) (by kernel_rfl) (fun hM174 hM175 w173 hB_ => ?_)
      replace hC := hC.grow hB_
      refine ae_look belPre 0 (.agg #[u107, u108]) rfl rfl (by kernel_rfl) (hM174 0 rfl) (fun w_ hB_ => .inl ⟨rfl, by exact r_loadA (hC.grow hB_) 3 [u107, u108] rfl ag31 rfl rfl rfl⟩) (listed' := (dbits 5 1)) (by kernel_rfl) ?_
      refine ae_look belPre 1 (.agg #[u1_0, u1_1]) rfl rfl (by kernel_rfl) (hM174 1 rfl) (fun w_ hB_ => .inl ⟨rfl, by exact r_loadA (hC.grow hB_) 14 [u1_0, u1_1] rfl ag25 rfl rfl rfl⟩) (listed' := (dbits 5 3)) (by kernel_rfl) ?_
      refine ae_one 2 rfl (by kernel_rfl) ?_
      refine s_call [.agg #[u1_0, u1_1]] _ Try.func8 rfl rfl rfl (c_laws_toAlgebra a1 h _ (alg_mk (hC.getP 1 rfl) (hC.getP 0 rfl))) (fun ret176 w178 hR177 => ?_)
      obtain ⟨r179, u180, u181, f182, rfl, h, hr183, hf184, hB185⟩ := hR177
      refine ⟨_, rfl, ?_⟩
      replace hC := hC.push hB185 (Tr.item (TrAlg 2 83 58) r179 [u180, u181] f182) hr183 hf184
      obtain ⟨f187, ho188, ho189, hs190, hs191, hd192⟩ := alg_split (hC.getM 0 rfl)
      replace hC := hC.split (a := own 2 1 u180 r179.degrees.length ((EI .i64).encs r179.degrees)) (b := Tr.item (Tr.sl 58 (TrForm 83)) r179.images [u181] f187) hs190 hs191 ⟨ho188, ho189, hd192⟩
      refine done ?_
      refine ak_intro (by assumption) (listed' := (dbits 5 7)) (by kernel_rfl) ?_
      refine ae_tail 3 (by decide) (by decide) (by kernel_rfl) (by kernel_rfl) rfl ?_
      refine s_call [.agg #[u107, u108], .agg #[u180, u181]] _ Try.func11 rfl rfl rfl (c_laws_eqAlgebra r106 r179 h _ (alg_mk (own_repE (hC.getM 6 rfl)) (Tr.trep _ (hC.getM 7 rfl).1)) (alg_mk (own_repE (hC.getM 0 rfl)) (Tr.trep _ (hC.getM 1 rfl).1))) (fun ret195 w197 hR196 => ?_)
      obtain ⟨r198, rfl, h, hB199⟩ := hR196
      refine ⟨_, rfl, ?_⟩
      replace hC := hC.grow hB199
      refine s_not rfl ?_
      refine done ?_
      refine qn_norm ?_
      refine then_norm ?_
      refine cw_cond rfl (fun hb200 => ?_) (fun hb200 => ?_)
      ·replace h := ift h (ne_t (not_t hb200))
       refine sr ?_
       refine s_as (v := .bool false) rfl ?_
       refine dn ?_
       refine wp_ret (then_ret ?_)
       refine ret1 (fn := Try.f5) rfl ?_ ⟨false, rfl, h, hC.below⟩ (.inl rfl)
       exact res_tmp rfl
      ·replace h := iff_ h (not_not_intro ((not_f hb200)))
       refine wp_skip ?_
       refine then_norm ?_
       refine sr ?_
       refine s_as (v := .int .i64 1) rfl ?_
       refine dn ?_
       refine sr ?_
       refine s_loadA hC 8 [u84, u85] rfl ag31 rfl rfl rfl ?_
       refine s_mv (v := .int .i64 1) rfl ?_
       refine s_call [.agg #[u84, u85], .int .i64 1] _ Try.func12 rfl rfl rfl (c_laws_markAlgebra r83 1 h _ (hC.getM 9 rfl) (hC.getM 10 rfl) (hC.mm 9 10 rfl rfl (by decide))) (fun ret201 w203 hR202 => ?_)
       obtain ⟨r204, m206, rfl, h, hm207, hm208, hB205⟩ := hR202
       refine ⟨_, rfl, ?_⟩
       replace hC := hC.turnL hB205 (M' := [own 2 1 u180 r179.degrees.length ((EI .i64).encs r179.degrees), Tr.item (Tr.sl 58 (TrForm 83)) r179.images [u181] f187, own 2 1 u152 r151.degrees.length ((EI .i64).encs r151.degrees), Tr.item (Tr.sl 58 (TrForm 83)) r151.images [u153] f159, Tr.item (Tr.sl 58 (TrForm 83)) r129 [u130] f131, blk b122 31 [u107, u108], own 2 1 u107 r106.degrees.length ((EI .i64).encs r106.degrees), Tr.item (Tr.sl 58 (TrForm 83)) r106.images [u108] f114, blk b99 31 [u84, u85], own 2 1 u84 m206.degrees.length ((EI .i64).encs m206.degrees), Tr.item (Tr.sl 58 (TrForm 83)) m206.images [u85] f91, Tr.item (Tr.sl 58 (TrForm 83)) r71 [u72] f73, own 2 1 u53 r52.degrees.length ((EI .i64).encs r52.degrees), Tr.item (Tr.sl 58 (TrForm 83)) r52.images [u54] f60, own 2 1 u34 r33.degrees.length ((EI .i64).encs r33.degrees), Tr.item (Tr.sl 58 (TrForm 83)) r33.images [u35] f41, blk b12 25 [u1_0, u1_1], blk b9 25 [u0_0, u0_1]]) rfl (fun x_ hx_ => (List.mem_append.1 hx_).elim (fun hx_ => ⟨_, List.mem_of_getElem? (i := 9) rfl, hx_⟩) (fun hx_ => ⟨_, List.mem_of_getElem? (i := 10) rfl, hx_⟩)) (by simp only [List.mem_cons, List.not_mem_nil, or_false, forall_eq_or_imp, forall_eq]; exact ⟨(hC.stay 0 rfl hB205 (fun x_ hq_ hx_ => (List.mem_append.1 hx_).elim (fun hx_ => hC.mm 0 9 rfl rfl (by decide) x_ hq_ hx_) (fun hx_ => hC.mm 0 10 rfl rfl (by decide) x_ hq_ hx_))), (hC.stay 1 rfl hB205 (fun x_ hq_ hx_ => (List.mem_append.1 hx_).elim (fun hx_ => hC.mm 1 9 rfl rfl (by decide) x_ hq_ hx_) (fun hx_ => hC.mm 1 10 rfl rfl (by decide) x_ hq_ hx_))), (hC.stay 2 rfl hB205 (fun x_ hq_ hx_ => (List.mem_append.1 hx_).elim (fun hx_ => hC.mm 2 9 rfl rfl (by decide) x_ hq_ hx_) (fun hx_ => hC.mm 2 10 rfl rfl (by decide) x_ hq_ hx_))), (hC.stay 3 rfl hB205 (fun x_ hq_ hx_ => (List.mem_append.1 hx_).elim (fun hx_ => hC.mm 3 9 rfl rfl (by decide) x_ hq_ hx_) (fun hx_ => hC.mm 3 10 rfl rfl (by decide) x_ hq_ hx_))), (hC.stay 4 rfl hB205 (fun x_ hq_ hx_ => (List.mem_append.1 hx_).elim (fun hx_ => hC.mm 4 9 rfl rfl (by decide) x_ hq_ hx_) (fun hx_ => hC.mm 4 10 rfl rfl (by decide) x_ hq_ hx_))), (hC.stay 5 rfl hB205 (fun x_ hq_ hx_ => (List.mem_append.1 hx_).elim (fun hx_ => hC.mm 5 9 rfl rfl (by decide) x_ hq_ hx_) (fun hx_ => hC.mm 5 10 rfl rfl (by decide) x_ hq_ hx_))), (hC.stay 6 rfl hB205 (fun x_ hq_ hx_ => (List.mem_append.1 hx_).elim (fun hx_ => hC.mm 6 9 rfl rfl (by decide) x_ hq_ hx_) (fun hx_ => hC.mm 6 10 rfl rfl (by decide) x_ hq_ hx_))), (hC.stay 7 rfl hB205 (fun x_ hq_ hx_ => (List.mem_append.1 hx_).elim (fun hx_ => hC.mm 7 9 rfl rfl (by decide) x_ hq_ hx_) (fun hx_ => hC.mm 7 10 rfl rfl (by decide) x_ hq_ hx_))), (hC.stay 8 rfl hB205 (fun x_ hq_ hx_ => (List.mem_append.1 hx_).elim (fun hx_ => hC.mm 8 9 rfl rfl (by decide) x_ hq_ hx_) (fun hx_ => hC.mm 8 10 rfl rfl (by decide) x_ hq_ hx_))), hm207, hm208, (hC.stay 11 rfl hB205 (fun x_ hq_ hx_ => (List.mem_append.1 hx_).elim (fun hx_ => hC.mm 11 9 rfl rfl (by decide) x_ hq_ hx_) (fun hx_ => hC.mm 11 10 rfl rfl (by decide) x_ hq_ hx_))), (hC.stay 12 rfl hB205 (fun x_ hq_ hx_ => (List.mem_append.1 hx_).elim (fun hx_ => hC.mm 12 9 rfl rfl (by decide) x_ hq_ hx_) (fun hx_ => hC.mm 12 10 rfl rfl (by decide) x_ hq_ hx_))), (hC.stay 13 rfl hB205 (fun x_ hq_ hx_ => (List.mem_append.1 hx_).elim (fun hx_ => hC.mm 13 9 rfl rfl (by decide) x_ hq_ hx_) (fun hx_ => hC.mm 13 10 rfl rfl (by decide) x_ hq_ hx_))), (hC.stay 14 rfl hB205 (fun x_ hq_ hx_ => (List.mem_append.1 hx_).elim (fun hx_ => hC.mm 14 9 rfl rfl (by decide) x_ hq_ hx_) (fun hx_ => hC.mm 14 10 rfl rfl (by decide) x_ hq_ hx_))), (hC.stay 15 rfl hB205 (fun x_ hq_ hx_ => (List.mem_append.1 hx_).elim (fun hx_ => hC.mm 15 9 rfl rfl (by decide) x_ hq_ hx_) (fun hx_ => hC.mm 15 10 rfl rfl (by decide) x_ hq_ hx_))), (hC.stay 16 rfl hB205 (fun x_ hq_ hx_ => (List.mem_append.1 hx_).elim (fun hx_ => hC.mm 16 9 rfl rfl (by decide) x_ hq_ hx_) (fun hx_ => hC.mm 16 10 rfl rfl (by decide) x_ hq_ hx_))), (hC.stay 17 rfl hB205 (fun x_ hq_ hx_ => (List.mem_append.1 hx_).elim (fun hx_ => hC.mm 17 9 rfl rfl (by decide) x_ hq_ hx_) (fun hx_ => hC.mm 17 10 rfl rfl (by decide) x_ hq_ hx_)))⟩)
       refine s_as (v := .int .i64 r204) rfl ?_
       refine dn ?_
       refine sr ?_
       refine s_loadA hC 5 [u107, u108] rfl ag31 rfl rfl rfl ?_
       refine s_mv (v := .int .i64 r204) rfl ?_
       refine s_call [.agg #[u107, u108], .int .i64 r204] _ Try.func12 rfl rfl rfl (c_laws_markAlgebra (⟨r106.degrees, r106.images⟩ : Alg) r204 h _ (hC.getM 6 rfl) (hC.getM 7 rfl) (hC.mm 6 7 rfl rfl (by decide))) (fun ret209 w211 hR210 => ?_)
       obtain ⟨r212, m214, rfl, h, hm215, hm216, hB213⟩ := hR210
       refine ⟨_, rfl, ?_⟩
       replace hC := hC.turnL hB213 (M' := [own 2 1 u180 r179.degrees.length ((EI .i64).encs r179.degrees), Tr.item (Tr.sl 58 (TrForm 83)) r179.images [u181] f187, own 2 1 u152 r151.degrees.length ((EI .i64).encs r151.degrees), Tr.item (Tr.sl 58 (TrForm 83)) r151.images [u153] f159, Tr.item (Tr.sl 58 (TrForm 83)) r129 [u130] f131, blk b122 31 [u107, u108], own 2 1 u107 m214.degrees.length ((EI .i64).encs m214.degrees), Tr.item (Tr.sl 58 (TrForm 83)) m214.images [u108] f114, blk b99 31 [u84, u85], own 2 1 u84 m206.degrees.length ((EI .i64).encs m206.degrees), Tr.item (Tr.sl 58 (TrForm 83)) m206.images [u85] f91, Tr.item (Tr.sl 58 (TrForm 83)) r71 [u72] f73, own 2 1 u53 r52.degrees.length ((EI .i64).encs r52.degrees), Tr.item (Tr.sl 58 (TrForm 83)) r52.images [u54] f60, own 2 1 u34 r33.degrees.length ((EI .i64).encs r33.degrees), Tr.item (Tr.sl 58 (TrForm 83)) r33.images [u35] f41, blk b12 25 [u1_0, u1_1], blk b9 25 [u0_0, u0_1]]) rfl (fun x_ hx_ => (List.mem_append.1 hx_).elim (fun hx_ => ⟨_, List.mem_of_getElem? (i := 6) rfl, hx_⟩) (fun hx_ => ⟨_, List.mem_of_getElem? (i := 7) rfl, hx_⟩)) (by simp only [List.mem_cons, List.not_mem_nil, or_false, forall_eq_or_imp, forall_eq]; exact ⟨(hC.stay 0 rfl hB213 (fun x_ hq_ hx_ => (List.mem_append.1 hx_).elim (fun hx_ => hC.mm 0 6 rfl rfl (by decide) x_ hq_ hx_) (fun hx_ => hC.mm 0 7 rfl rfl (by decide) x_ hq_ hx_))), (hC.stay 1 rfl hB213 (fun x_ hq_ hx_ => (List.mem_append.1 hx_).elim (fun hx_ => hC.mm 1 6 rfl rfl (by decide) x_ hq_ hx_) (fun hx_ => hC.mm 1 7 rfl rfl (by decide) x_ hq_ hx_))), (hC.stay 2 rfl hB213 (fun x_ hq_ hx_ => (List.mem_append.1 hx_).elim (fun hx_ => hC.mm 2 6 rfl rfl (by decide) x_ hq_ hx_) (fun hx_ => hC.mm 2 7 rfl rfl (by decide) x_ hq_ hx_))), (hC.stay 3 rfl hB213 (fun x_ hq_ hx_ => (List.mem_append.1 hx_).elim (fun hx_ => hC.mm 3 6 rfl rfl (by decide) x_ hq_ hx_) (fun hx_ => hC.mm 3 7 rfl rfl (by decide) x_ hq_ hx_))), (hC.stay 4 rfl hB213 (fun x_ hq_ hx_ => (List.mem_append.1 hx_).elim (fun hx_ => hC.mm 4 6 rfl rfl (by decide) x_ hq_ hx_) (fun hx_ => hC.mm 4 7 rfl rfl (by decide) x_ hq_ hx_))), (hC.stay 5 rfl hB213 (fun x_ hq_ hx_ => (List.mem_append.1 hx_).elim (fun hx_ => hC.mm 5 6 rfl rfl (by decide) x_ hq_ hx_) (fun hx_ => hC.mm 5 7 rfl rfl (by decide) x_ hq_ hx_))), hm215, hm216, (hC.stay 8 rfl hB213 (fun x_ hq_ hx_ => (List.mem_append.1 hx_).elim (fun hx_ => hC.mm 8 6 rfl rfl (by decide) x_ hq_ hx_) (fun hx_ => hC.mm 8 7 rfl rfl (by decide) x_ hq_ hx_))), (hC.stay 9 rfl hB213 (fun x_ hq_ hx_ => (List.mem_append.1 hx_).elim (fun hx_ => hC.mm 9 6 rfl rfl (by decide) x_ hq_ hx_) (fun hx_ => hC.mm 9 7 rfl rfl (by decide) x_ hq_ hx_))), (hC.stay 10 rfl hB213 (fun x_ hq_ hx_ => (List.mem_append.1 hx_).elim (fun hx_ => hC.mm 10 6 rfl rfl (by decide) x_ hq_ hx_) (fun hx_ => hC.mm 10 7 rfl rfl (by decide) x_ hq_ hx_))), (hC.stay 11 rfl hB213 (fun x_ hq_ hx_ => (List.mem_append.1 hx_).elim (fun hx_ => hC.mm 11 6 rfl rfl (by decide) x_ hq_ hx_) (fun hx_ => hC.mm 11 7 rfl rfl (by decide) x_ hq_ hx_))), (hC.stay 12 rfl hB213 (fun x_ hq_ hx_ => (List.mem_append.1 hx_).elim (fun hx_ => hC.mm 12 6 rfl rfl (by decide) x_ hq_ hx_) (fun hx_ => hC.mm 12 7 rfl rfl (by decide) x_ hq_ hx_))), (hC.stay 13 rfl hB213 (fun x_ hq_ hx_ => (List.mem_append.1 hx_).elim (fun hx_ => hC.mm 13 6 rfl rfl (by decide) x_ hq_ hx_) (fun hx_ => hC.mm 13 7 rfl rfl (by decide) x_ hq_ hx_))), (hC.stay 14 rfl hB213 (fun x_ hq_ hx_ => (List.mem_append.1 hx_).elim (fun hx_ => hC.mm 14 6 rfl rfl (by decide) x_ hq_ hx_) (fun hx_ => hC.mm 14 7 rfl rfl (by decide) x_ hq_ hx_))), (hC.stay 15 rfl hB213 (fun x_ hq_ hx_ => (List.mem_append.1 hx_).elim (fun hx_ => hC.mm 15 6 rfl rfl (by decide) x_ hq_ hx_) (fun hx_ => hC.mm 15 7 rfl rfl (by decide) x_ hq_ hx_))), (hC.stay 16 rfl hB213 (fun x_ hq_ hx_ => (List.mem_append.1 hx_).elim (fun hx_ => hC.mm 16 6 rfl rfl (by decide) x_ hq_ hx_) (fun hx_ => hC.mm 16 7 rfl rfl (by decide) x_ hq_ hx_))), (hC.stay 17 rfl hB213 (fun x_ hq_ hx_ => (List.mem_append.1 hx_).elim (fun hx_ => hC.mm 17 6 rfl rfl (by decide) x_ hq_ hx_) (fun hx_ => hC.mm 17 7 rfl rfl (by decide) x_ hq_ hx_)))⟩)
       refine s_as (v := .int .i64 r212) rfl ?_
       refine dn ?_
       refine wp_seq ?_
       refine sr ?_
       refine s_mv (v := .int .i64 r212) rfl ?_
       refine s_lss rfl rfl ?_
       refine s_mv (v := .bool (decide (r212 < 0))) rfl ?_
       refine bsplit (decide (r212 < 0)) (fun hb217 => ?_) (fun hb217 => ?_)
       ·replace h := ift h (ct hb217)
        refine guardOff (b := true) 2 76 rfl (tr rfl (congrArg _ hb217)) (by decide) ?_
        refine guardOff (b := true) 2 76 rfl (tr rfl (congrArg _ hb217)) (by decide) ?_
        refine guardOff (b := true) 2 76 rfl (tr rfl (congrArg _ hb217)) (by decide) ?_
        refine guardOff (b := true) 2 76 rfl (tr rfl (congrArg _ hb217)) (by decide) ?_
        refine s_pick (v := .bool true) (b := true) (tr rfl (congrArg _ hb217)) rfl ?_
        refine s_mv (v := .bool true) rfl ?_
        refine guardOff (b := true) 8 82 rfl (tr rfl (congrArg _ rfl)) (by decide) ?_
        refine guardOff (b := true) 8 82 rfl (tr rfl (congrArg _ rfl)) (by decide) ?_
        refine guardOff (b := true) 8 82 rfl (tr rfl (congrArg _ rfl)) (by decide) ?_
        refine s_pick (v := .bool true) (b := true) rfl rfl ?_
        refine dn ?_
        refine cw_true rfl rfl ?_
        refine sr ?_
        refine s_as (v := .bool false) rfl ?_
        refine dn ?_
        refine wp_ret (then_ret ?_)
        refine ret1 (fn := Try.f5) rfl ?_ ⟨false, rfl, h, hC.below⟩ (.inl rfl)
        exact res_tmp rfl
       ·replace h := iff_ h (cf hb217)
        refine guardOn 2 76 rfl rfl hb217 ?_
        refine s_mv (v := u130) rfl ?_
        refine guardOn 2 76 rfl rfl hb217 ?_
        refine s_mv (v := u72) rfl ?_
        refine guardOn 2 76 rfl rfl hb217 ?_
        refine s_call [u130, u72] _ Try.func17 rfl rfl rfl (c_laws_eqFormS r129 r71 h _ (Tr.trep _ (hC.getM 4 rfl).1) (Tr.trep _ (hC.getM 11 rfl).1)) (fun ret218 w220 hR219 => ?_)
        obtain ⟨r221, rfl, h, hB222⟩ := hR219
        refine ⟨_, rfl, ?_⟩
        replace hC := hC.grow hB222
        refine guardOn 2 76 rfl rfl hb217 ?_
        refine s_not rfl ?_
        refine s_pick (v := .bool (!r221)) (b := false) (tr rfl (congrArg _ hb217)) rfl ?_
        refine s_mv (v := .bool (!r221)) rfl ?_
        refine bsplit (!r221) (fun hb223 => ?_) (fun hb223 => ?_)
        ·replace h := ift h (ne_t (not_t hb223))
         refine guardOff (b := true) 8 82 rfl (tr rfl (congrArg _ hb223)) (by decide) ?_
         refine guardOff (b := true) 8 82 rfl (tr rfl (congrArg _ hb223)) (by decide) ?_
         refine guardOff (b := true) 8 82 rfl (tr rfl (congrArg _ hb223)) (by decide) ?_
         refine s_pick (v := .bool true) (b := true) (tr rfl (congrArg _ hb223)) rfl ?_
         refine dn ?_
         refine cw_true rfl rfl ?_
         refine sr ?_
         refine s_as (v := .bool false) rfl ?_
         refine dn ?_
         refine wp_ret (then_ret ?_)
         refine ret1 (fn := Try.f5) rfl ?_ ⟨false, rfl, h, hC.below⟩ (.inl rfl)
         exact res_tmp rfl
        ·replace h := iff_ h (not_not_intro ((not_f hb223)))
         refine guardOn 8 82 rfl rfl hb223 ?_
         refine s_mv (v := .int .i64 r134) rfl ?_
         refine guardOn 8 82 rfl rfl hb223 ?_
         refine s_mv (v := .int .i64 r76) rfl ?_
         refine guardOn 8 82 rfl rfl hb223 ?_
         refine s_neq rfl rfl ?_
         refine s_pick (v := .bool (decide (r134 ≠ r76))) (b := false) (tr rfl (congrArg _ hb223)) rfl ?_
         refine dn ?_
         refine cw_false rfl hb144 ?_
         refine wp_skip ?_
         refine then_norm ?_
         refine sr ?_
         refine s_as (v := .int .i64 1) rfl ?_
         refine dn ?_
         refine sr ?_
         refine s_mv (v := u130) rfl ?_
         refine s_mv (v := .int .i64 1) rfl ?_
         refine s_call [u130, .int .i64 1] _ Try.func18 rfl rfl rfl (c_laws_markFormS r129 1 h _ (hC.getM 4 rfl)) (fun ret224 w226 hR225 => ?_)
         obtain ⟨r227, m229, rfl, h, hm230, hB228⟩ := hR225
         refine ⟨_, rfl, ?_⟩
         replace hC := hC.turnL hB228 (M' := [own 2 1 u180 r179.degrees.length ((EI .i64).encs r179.degrees), Tr.item (Tr.sl 58 (TrForm 83)) r179.images [u181] f187, own 2 1 u152 r151.degrees.length ((EI .i64).encs r151.degrees), Tr.item (Tr.sl 58 (TrForm 83)) r151.images [u153] f159, Tr.item (Tr.sl 58 (TrForm 83)) m229 [u130] f131, blk b122 31 [u107, u108], own 2 1 u107 m214.degrees.length ((EI .i64).encs m214.degrees), Tr.item (Tr.sl 58 (TrForm 83)) m214.images [u108] f114, blk b99 31 [u84, u85], own 2 1 u84 m206.degrees.length ((EI .i64).encs m206.degrees), Tr.item (Tr.sl 58 (TrForm 83)) m206.images [u85] f91, Tr.item (Tr.sl 58 (TrForm 83)) r71 [u72] f73, own 2 1 u53 r52.degrees.length ((EI .i64).encs r52.degrees), Tr.item (Tr.sl 58 (TrForm 83)) r52.images [u54] f60, own 2 1 u34 r33.degrees.length ((EI .i64).encs r33.degrees), Tr.item (Tr.sl 58 (TrForm 83)) r33.images [u35] f41, blk b12 25 [u1_0, u1_1], blk b9 25 [u0_0, u0_1]]) rfl (fun x_ hx_ => ⟨_, List.mem_of_getElem? (i := 4) rfl, hx_⟩) (by simp only [List.mem_cons, List.not_mem_nil, or_false, forall_eq_or_imp, forall_eq]; exact ⟨(hC.stay 0 rfl hB228 (fun x_ hq_ hx_ => hC.mm 0 4 rfl rfl (by decide) x_ hq_ hx_)), (hC.stay 1 rfl hB228 (fun x_ hq_ hx_ => hC.mm 1 4 rfl rfl (by decide) x_ hq_ hx_)), (hC.stay 2 rfl hB228 (fun x_ hq_ hx_ => hC.mm 2 4 rfl rfl (by decide) x_ hq_ hx_)), (hC.stay 3 rfl hB228 (fun x_ hq_ hx_ => hC.mm 3 4 rfl rfl (by decide) x_ hq_ hx_)), hm230, (hC.stay 5 rfl hB228 (fun x_ hq_ hx_ => hC.mm 5 4 rfl rfl (by decide) x_ hq_ hx_)), (hC.stay 6 rfl hB228 (fun x_ hq_ hx_ => hC.mm 6 4 rfl rfl (by decide) x_ hq_ hx_)), (hC.stay 7 rfl hB228 (fun x_ hq_ hx_ => hC.mm 7 4 rfl rfl (by decide) x_ hq_ hx_)), (hC.stay 8 rfl hB228 (fun x_ hq_ hx_ => hC.mm 8 4 rfl rfl (by decide) x_ hq_ hx_)), (hC.stay 9 rfl hB228 (fun x_ hq_ hx_ => hC.mm 9 4 rfl rfl (by decide) x_ hq_ hx_)), (hC.stay 10 rfl hB228 (fun x_ hq_ hx_ => hC.mm 10 4 rfl rfl (by decide) x_ hq_ hx_)), (hC.stay 11 rfl hB228 (fun x_ hq_ hx_ => hC.mm 11 4 rfl rfl (by decide) x_ hq_ hx_)), (hC.stay 12 rfl hB228 (fun x_ hq_ hx_ => hC.mm 12 4 rfl rfl (by decide) x_ hq_ hx_)), (hC.stay 13 rfl hB228 (fun x_ hq_ hx_ => hC.mm 13 4 rfl rfl (by decide) x_ hq_ hx_)), (hC.stay 14 rfl hB228 (fun x_ hq_ hx_ => hC.mm 14 4 rfl rfl (by decide) x_ hq_ hx_)), (hC.stay 15 rfl hB228 (fun x_ hq_ hx_ => hC.mm 15 4 rfl rfl (by decide) x_ hq_ hx_)), (hC.stay 16 rfl hB228 (fun x_ hq_ hx_ => hC.mm 16 4 rfl rfl (by decide) x_ hq_ hx_)), (hC.stay 17 rfl hB228 (fun x_ hq_ hx_ => hC.mm 17 4 rfl rfl (by decide) x_ hq_ hx_))⟩)
         refine s_as (v := .int .i64 r227) rfl ?_
         refine dn ?_
         refine sr ?_
         refine s_as (v := .int .i64 1) rfl ?_
         refine dn ?_
         refine sr ?_
         refine s_mv (v := u130) rfl ?_
         refine s_mv (v := .int .i64 1) rfl ?_
         refine s_call [u130, .int .i64 1] _ Try.func19 rfl rfl rfl (c_laws_heldFormS m229 1 h _ (Tr.trep _ (hC.getM 4 rfl).1)) (fun ret231 w233 hR232 => ?_)
         obtain ⟨r234, rfl, h, hB235⟩ := hR232
         refine ⟨_, rfl, ?_⟩
         replace hC := hC.grow hB235
         refine s_as (v := .int .i64 r234) rfl ?_
         refine dn ?_
         refine wp_seq ?_
         refine sr ?_
         refine s_mv (v := .int .i64 r234) rfl ?_
         refine s_lss rfl rfl ?_
         refine dn ?_
         refine cw_cond rfl (fun hb236 => ?_) (fun hb236 => ?_)
         ·replace h := ift h (ct hb236)
          refine sr ?_
          refine s_as (v := .bool false) rfl ?_
          refine dn ?_
          refine wp_ret (then_ret ?_)
          refine ret1 (fn := Try.f5) rfl ?_ ⟨false, rfl, h, hC.below⟩ (.inl rfl)
          exact res_tmp rfl
         ·replace h := iff_ h (cf hb236)
          refine wp_skip ?_
          refine then_norm ?_
          refine wp_seq ?_
          refine sr ?_
          refine s_mv (v := .int .i64 r234) rfl ?_
          refine s_mv (v := .int .i64 r227) rfl ?_
          refine s_neq rfl rfl ?_
          refine dn ?_
          refine cw_cond rfl (fun hb237 => ?_) (fun hb237 => ?_)
          ·replace h := ift h (ct hb237)
           refine sr ?_
           refine s_as (v := .bool false) rfl ?_
           refine dn ?_
           refine wp_ret (then_ret ?_)
           refine ret1 (fn := Try.f5) rfl ?_ ⟨false, rfl, h, hC.below⟩ (.inl rfl)
           exact res_tmp rfl
          ·replace h := iff_ h (cf hb237)
           refine wp_skip ?_
           refine then_norm ?_
           refine wp_seq ?_
           refine cw_draw 10 mixed [0, 1, 0, 7, 0, 31, 63, 127, 127, 255, 1023] [0, 2] [4, 6, 7, 8, 9] (by kernel_rfl) (by kernel_rfl) (by kernel_rfl) (fun hM239 hM240 w238 hB_ => ?_)
           replace hC := hC.grow hB_
           refine ae_look belPre 0 (.agg #[u0_0, u0_1]) rfl rfl (by kernel_rfl) (hM239 0 rfl) (fun w_ hB_ => .inl ⟨rfl, by exact r_loadA (hC.grow hB_) 17 [u0_0, u0_1] rfl ag25 rfl rfl rfl⟩) (listed' := (dbits 11 1)) (by kernel_rfl) ?_
           refine ae_look belPre 2 (.agg #[u1_0, u1_1]) rfl rfl (by kernel_rfl) (hM239 2 rfl) (fun w_ hB_ => .inl ⟨rfl, by exact r_loadA (hC.grow hB_) 16 [u1_0, u1_1] rfl ag25 rfl rfl rfl⟩) (listed' := (dbits 11 5)) (by kernel_rfl) ?_
           refine ae_lookF belPre 4 (.bool a2) rfl rfl (by kernel_rfl) (hM240 4 rfl) (fun w_ => .inl ⟨rfl, by exact r_mv (v := .bool a2) rfl⟩) (listed' := (dbits 11 21)) (by kernel_rfl) ?_
           refine ae_one 1 rfl (by kernel_rfl) ?_
           refine s_call [.agg #[u0_0, u0_1]] _ Try.func8 rfl rfl rfl (c_laws_toAlgebra (⟨a0.degrees, a0.images⟩ : Alg) h _ (alg_mk (hC.getP 3 rfl) (hC.getP 2 rfl))) (fun ret241 w243 hR242 => ?_)
           obtain ⟨r244, u245, u246, f247, rfl, h, hr248, hf249, hB250⟩ := hR242
           refine ⟨_, rfl, ?_⟩
           replace hC := hC.push hB250 (Tr.item (TrAlg 2 83 58) r244 [u245, u246] f247) hr248 hf249
           obtain ⟨f252, ho253, ho254, hs255, hs256, hd257⟩ := alg_split (hC.getM 0 rfl)
           replace hC := hC.split (a := own 2 1 u245 r244.degrees.length ((EI .i64).encs r244.degrees)) (b := Tr.item (Tr.sl 58 (TrForm 83)) r244.images [u246] f252) hs255 hs256 ⟨ho253, ho254, hd257⟩
           refine done ?_
           refine ak_intro (by assumption) (listed' := (dbits 11 23)) (by kernel_rfl) ?_
           refine ae_one 3 rfl (by kernel_rfl) ?_
           refine s_call [.agg #[u1_0, u1_1]] _ Try.func8 rfl rfl rfl (c_laws_toAlgebra (⟨a1.degrees, a1.images⟩ : Alg) h _ (alg_mk (hC.getP 1 rfl) (hC.getP 0 rfl))) (fun ret260 w262 hR261 => ?_)
           obtain ⟨r263, u264, u265, f266, rfl, h, hr267, hf268, hB269⟩ := hR261
           refine ⟨_, rfl, ?_⟩
           replace hC := hC.push hB269 (Tr.item (TrAlg 2 83 58) r263 [u264, u265] f266) hr267 hf268
           obtain ⟨f271, ho272, ho273, hs274, hs275, hd276⟩ := alg_split (hC.getM 0 rfl)
           replace hC := hC.split (a := own 2 1 u264 r263.degrees.length ((EI .i64).encs r263.degrees)) (b := Tr.item (Tr.sl 58 (TrForm 83)) r263.images [u265] f271) hs274 hs275 ⟨ho272, ho273, hd276⟩
           refine done ?_
           refine ak_intro (by assumption) (listed' := (dbits 11 31)) (by kernel_rfl) ?_
           refine ae_one 5 rfl (by kernel_rfl) ?_
           refine s_call [.agg #[u245, u246], .agg #[u264, u265], .bool a2] _ Try.func21 rfl rfl rfl (c_impl_ProjectionOf r244 r263 a2 h _ (alg_mk (own_repE (hC.getM 2 rfl)) (Tr.trep _ (hC.getM 3 rfl).1)) (alg_mk (own_repE (hC.getM 0 rfl)) (Tr.trep _ (hC.getM 1 rfl).1))) (fun ret279 w281 hR280 => ?_)
           obtain ⟨r282, u283, f284, r287, rfl, h, hr285, hf286, hB288⟩ := hR280
           refine ⟨_, rfl, ?_⟩
           replace hC := hC.push hB288 (Tr.item (Tr.sl 58 (TrForm 83)) r282 [u283] f284) hr285 hf286
           refine done ?_
           refine ak_intro (by assumption) (listed' := (dbits 11 63)) (by kernel_rfl) ?_
           refine ae_lookF belPre 6 (.tuple #[u283, .int .i64 r287]) rfl rfl (by kernel_rfl) (hM240 6 rfl) (fun w_ => .inl ⟨rfl, by exact r_mv (v := .tuple #[u283, .int .i64 r287]) rfl⟩) (listed' := (dbits 11 127)) (by kernel_rfl) ?_
           refine ae_lookF belPre 7 (u283) rfl rfl (by kernel_rfl) (hM240 7 rfl) (fun w_ => .inl ⟨rfl, by exact r_ext (v := u283) rfl rfl⟩) (listed' := (dbits 11 255)) (by kernel_rfl) ?_
           refine ae_lookF belPre 8 (.int .i64 r287) rfl rfl (by kernel_rfl) (hM240 8 rfl) (fun w_ => .inl ⟨rfl, by exact r_ext (v := .int .i64 r287) rfl rfl⟩) (listed' := (dbits 11 511)) (by kernel_rfl) ?_
           refine ae_lookF belPre 9 (u283) rfl rfl (by kernel_rfl) (hM240 9 rfl) (fun w_ => .inl ⟨rfl, by exact r_as (v := u283) rfl⟩) (listed' := (dbits 11 1023)) (by kernel_rfl) ?_
           refine ae_tail 10 (by decide) (by decide) (by kernel_rfl) (by kernel_rfl) rfl ?_
           refine s_as (v := .int .i64 r287) rfl ?_
           refine done ?_
           refine qn_norm ?_
           refine then_norm ?_
           refine wp_seq ?_
           refine sr ?_
           refine s_mv (v := u283) rfl ?_
           refine s_mv (v := u72) rfl ?_
           refine s_call [u283, u72] _ Try.func17 rfl rfl rfl (c_laws_eqFormS r282 r71 h _ (Tr.trep _ (hC.getM 0 rfl).1) (Tr.trep _ (hC.getM 16 rfl).1)) (fun ret291 w293 hR292 => ?_)
           obtain ⟨r294, rfl, h, hB295⟩ := hR292
           refine ⟨_, rfl, ?_⟩
           replace hC := hC.grow hB295
           refine s_not rfl ?_
           refine s_mv (v := .bool (!r294)) rfl ?_
           refine bsplit (!r294) (fun hb296 => ?_) (fun hb296 => ?_)
           ·replace h := ift h (ne_t (not_t hb296))
            refine guardOff (b := true) 4 111 rfl (tr rfl (congrArg _ hb296)) (by decide) ?_
            refine guardOff (b := true) 4 111 rfl (tr rfl (congrArg _ hb296)) (by decide) ?_
            refine guardOff (b := true) 4 111 rfl (tr rfl (congrArg _ hb296)) (by decide) ?_
            refine s_pick (v := .bool true) (b := true) (tr rfl (congrArg _ hb296)) rfl ?_
            refine dn ?_
            refine cw_true rfl rfl ?_
            refine sr ?_
            refine s_as (v := .bool false) rfl ?_
            refine dn ?_
            refine wp_ret (then_ret ?_)
            refine ret1 (fn := Try.f5) rfl ?_ ⟨false, rfl, h, hC.below⟩ (.inl rfl)
            exact res_tmp rfl
           ·replace h := iff_ h (not_not_intro ((not_f hb296)))
            refine guardOn 4 111 rfl rfl hb296 ?_
            refine s_mv (v := .int .i64 r287) rfl ?_
            refine guardOn 4 111 rfl rfl hb296 ?_
            refine s_mv (v := .int .i64 r76) rfl ?_
            refine guardOn 4 111 rfl rfl hb296 ?_
            refine s_neq rfl rfl ?_
            refine s_pick (v := .bool (decide (r287 ≠ r76))) (b := false) (tr rfl (congrArg _ hb296)) rfl ?_
            refine dn ?_
            refine cw_cond rfl (fun hb297 => ?_) (fun hb297 => ?_)
            ·replace h := ift h (ct hb297)
             refine sr ?_
             refine s_as (v := .bool false) rfl ?_
             refine dn ?_
             refine wp_ret (then_ret ?_)
             refine ret1 (fn := Try.f5) rfl ?_ ⟨false, rfl, h, hC.below⟩ (.inl rfl)
             exact res_tmp rfl
            ·replace h := iff_ h (cf hb297)
             refine wp_skip ?_
             refine then_norm ?_
             refine sr ?_
             refine s_as (v := .int .i64 1) rfl ?_
             refine dn ?_
             refine sr ?_
             refine s_mv (v := u130) rfl ?_
             refine s_mv (v := .int .i64 1) rfl ?_
             refine s_call [u130, .int .i64 1] _ Try.func19 rfl rfl rfl (c_laws_heldFormS m229 1 h _ (Tr.trep _ (hC.getM 9 rfl).1)) (fun ret298 w300 hR299 => ?_)
             obtain ⟨r301, rfl, h, hB302⟩ := hR299
             refine ⟨_, rfl, ?_⟩
             replace hC := hC.grow hB302
             refine s_as (v := .int .i64 r301) rfl ?_
             refine dn ?_
             refine wp_seq ?_
             refine sr ?_
             refine s_mv (v := .int .i64 r301) rfl ?_
             refine s_lss rfl rfl ?_
             refine dn ?_
             refine cw_cond rfl (fun hb303 => ?_) (fun hb303 => ?_)
             ·replace h := ift h (ct hb303)
              refine sr ?_
              refine s_as (v := .bool false) rfl ?_
              refine dn ?_
              refine wp_ret (then_ret ?_)
              refine ret1 (fn := Try.f5) rfl ?_ ⟨false, rfl, h, hC.below⟩ (.inl rfl)
              exact res_tmp rfl
             ·replace h := iff_ h (cf hb303)
              refine wp_skip ?_
              refine then_norm ?_
              refine wp_seq ?_
              refine sr ?_
              refine s_mv (v := .int .i64 r301) rfl ?_
              refine s_mv (v := .int .i64 r227) rfl ?_
              refine s_neq rfl rfl ?_
              refine dn ?_
              refine cw_cond rfl (fun hb304 => ?_) (fun hb304 => ?_)
              ·replace h := ift h (ct hb304)
               refine sr ?_
               refine s_as (v := .bool false) rfl ?_
               refine dn ?_
               refine wp_ret (then_ret ?_)
               refine ret1 (fn := Try.f5) rfl ?_ ⟨false, rfl, h, hC.below⟩ (.inl rfl)
               exact res_tmp rfl
              ·replace h := iff_ h (cf hb304)
               refine wp_skip ?_
               refine then_norm ?_
               refine sr ?_
               refine s_as (v := .bool true) rfl ?_
               refine dn ?_
               refine wp_ret ?_
               refine ret1 (fn := Try.f5) rfl ?_ ⟨true, rfl, h, hC.below⟩ (.inl rfl)
               exact res_tmp rfl
end Go.Proofs.Ytodedifhdjdmlaa
