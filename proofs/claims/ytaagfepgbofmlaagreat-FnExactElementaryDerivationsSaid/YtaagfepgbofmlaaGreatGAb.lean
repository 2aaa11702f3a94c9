/- Printed by vcgen.py: functions of the program as predicates, and that the machine's calls meet them. -/
import Derived.Test.YtaagfepgbofmlaaGreatGAa
set_option linter.unusedVariables false
set_option linter.unusedSimpArgs false
set_option maxRecDepth 4000
set_option maxHeartbeats 4000000
namespace Go.Proofs.YtaagfepgbofmlaaGreat
open Go Go.RowKit Vc
def f_spec_l02D (a0 : Alg) (a1 : Vc.Form) (K : Vc.Form → Prop) : Prop :=
 whileP (fun (s8748 : (List Term) × Int) next8751 => (if s8748.2 < (a1.terms.length : Int) then ((0 ≤ s8748.2 ∧ s8748.2 < (a1.terms.length : Int)) ∧ whileP (fun (s11656 : (List Term) × Int) next11659 => (if s11656.2 < (a0.degrees.length : Int) then ((0 ≤ s11656.2 ∧ s11656.2 < 8) ∧ (if ((a1.terms.getD s8748.2.toNat default).mono).get s11656.2.toNat = 0 then next11659 (s11656.1, IntKind.i64.wrap (s11656.2 + 1)) else forN (fun i12626 (s12627 : A8 × A8) next12628 => (if (i12626 : Int) ≥ s11656.2 then (if (i12626 : Int) ≤ s11656.2 then next12628 (s12627.1.set i12626 0, s12627.2.set i12626 0) else next12628 (s12627.1.set i12626 0, s12627.2)) else (if (i12626 : Int) ≤ s11656.2 then next12628 (s12627.1, s12627.2.set i12626 0) else next12628 (s12627.1, s12627.2)))) (fun (s12627 : A8 × A8) => ((0 ≤ s11656.2 ∧ s11656.2 < 8) ∧ ((0 ≤ s11656.2 ∧ s11656.2 < 8) ∧ ((0 ≤ s8748.2 ∧ s8748.2 < (a1.terms.length : Int)) ∧ ((0 ≤ s11656.2 ∧ s11656.2 < 8) ∧ f_spec_l01Weight a0.degrees s12627.1 (fun r12662 => (if Int.tmod r12662 2 ≠ 0 then ((0 ≤ s11656.2 ∧ s11656.2 < (a0.images.length : Int)) ∧ f_spec_l01Single (s12627.1.set s11656.2.toNat (IntKind.u8.wrap ((((a1.terms.getD s8748.2.toNat default).mono).get s11656.2.toNat) - 1))) 1 (fun r12808 => f_spec_l01Times a0.degrees r12808 (a0.images.getD s11656.2.toNat default) (fun r12821 => f_spec_l01Single s12627.2 1 (fun r12763 => f_spec_l01Times a0.degrees r12821 r12763 (fun r12776 => f_spec_l01Mod (IntKind.i64.wrap (0 - (IntKind.i64.wrap (((a1.terms.getD s8748.2.toNat default).factor) * (IntKind.i64.wrap (((a1.terms.getD s8748.2.toNat default).mono).get s11656.2.toNat)))))) (fun r12789 => f_spec_l01Add (⟨s11656.1⟩ : Vc.Form) r12776 r12789 (fun r12794 => next11659 (r12794.terms, IntKind.i64.wrap (s11656.2 + 1))))))))) else ((0 ≤ s11656.2 ∧ s11656.2 < (a0.images.length : Int)) ∧ f_spec_l01Single (s12627.1.set s11656.2.toNat (IntKind.u8.wrap ((((a1.terms.getD s8748.2.toNat default).mono).get s11656.2.toNat) - 1))) 1 (fun r13025 => f_spec_l01Times a0.degrees r13025 (a0.images.getD s11656.2.toNat default) (fun r13038 => f_spec_l01Single s12627.2 1 (fun r12980 => f_spec_l01Times a0.degrees r13038 r12980 (fun r12993 => f_spec_l01Mod (IntKind.i64.wrap (((a1.terms.getD s8748.2.toNat default).factor) * (IntKind.i64.wrap (((a1.terms.getD s8748.2.toNat default).mono).get s11656.2.toNat)))) (fun r13006 => f_spec_l01Add (⟨s11656.1⟩ : Vc.Form) r12993 r13006 (fun r13011 => next11659 (r13011.terms, IntKind.i64.wrap (s11656.2 + 1)))))))))))))))) 8 0 ((a1.terms.getD s8748.2.toNat default).mono, (a1.terms.getD s8748.2.toNat default).mono))) else next8751 (s11656.1, IntKind.i64.wrap (s8748.2 + 1)))) (s8748.1, 0)) else K (⟨s8748.1⟩ : Vc.Form))) ([], 0)
theorem c_spec_l02D (a0 : Alg) (a1 : Vc.Form) {u0_0 : Value} {u0_1 : Value} {u1_0 : Value} {fp0 : List Nat} {fp1 : List Nat} {K : Vc.Form → Prop} (h : f_spec_l02D a0 a1 K) (w0 : World) (q0 : TAlg.rep a0 [u0_0, u0_1] fp0 w0) (q1 : TForm.rep a1 [u1_0] fp1 w0) :
  Calls Tryz.prog 71 #[.agg #[u0_0, u0_1], .agg #[u1_0]] w0 fun e w' => ∃ (r0 : Vc.Form) (z0_0 : Value) (fz0 : List Nat), 
   e = .returned (.agg #[z0_0]) ∧ K r0 ∧ (Tr.item (TrForm 162) r0 [z0_0] fz0).holds w' ∧ (∀ b, b ∈ fz0 → w0.heap.size ≤ b) ∧ Bel w0 w' := by
 unfold f_spec_l02D at h
 refine calls_of (args := [.agg #[u0_0, u0_1], .agg #[u1_0]]) Tryz.func71 rfl 103 Tryz.ntmps71 (Nat.le_of_ble_eq_true rfl) ?_
 have hC := Ctx.start (X := Nox) w0 [Ty.item TAlg a0 [u0_0, u0_1] fp0, Ty.item TForm a1 [u1_0] fp1] (by simp only [List.mem_cons, List.not_mem_nil, or_false, forall_eq_or_imp, forall_eq]; exact ⟨q0, q1⟩)
 have hp3 := (hC.getP 0 rfl)
 replace hC := hC.derive 0 rfl (Ty.item ((EI .i64).ty.sl) a0.degrees [u0_0] fp0) (fun _ => (alg_parts hp3).1) (fun _ hb_ => hb_)
 replace hC := hC.derive 1 rfl (Ty.item TForm.sl a0.images [u0_1] fp0) (fun _ => (alg_parts hp3).2) (fun _ hb_ => hb_)
 have hp6 := (hC.getP 3 rfl)
 replace hC := hC.derive 3 rfl (Ty.item ETerm.ty.sl a1.terms [u1_0] fp1) (fun _ => (form_parts hp6)) (fun _ hb_ => hb_)
 refine sr ?_
 refine s_box (v := .agg #[u0_0, u0_1]) hC [u0_0, u0_1] rfl rfl fun b8 w10 hB_ hC => ?_
 refine s_box (v := .agg #[u1_0]) hC [u1_0] rfl rfl fun b11 w13 hB_ hC => ?_
 refine s_alloc hC [.slice none 0 0] z55 rfl fun b14 w16 hB_ hC => ?_
 refine dn ?_
 refine sr ?_
 refine s_build [] rfl (bl55   _) ?_
 refine s_alloc hC [.slice none 0 0] z55 rfl fun b17 w19 hB_ hC => ?_
 refine s_store (v := .agg #[.slice none 0 0]) hC 0 [.slice none 0 0] [.slice none 0 0] rfl ag55.size rfl rfl rfl rfl rfl (Nat.le_of_ble_eq_true rfl) rfl fun w20 hC => ?_
 refine dn ?_
 refine wp_seq ?_
 refine sr ?_
 refine s_as (v := .int .i64 0) rfl ?_
 refine dn ?_
 refine wp_block ?_
 refine loopW (S := (List Term) × Int) _ (fun s8748 e_ w_ => ∃ (v8749 : Value), Slots e_ [(2, .pointer (some ⟨b8, 0, none⟩)), (3, .pointer (some ⟨b11, 0, none⟩)), (4, .pointer (some ⟨b14, 0, none⟩)), (5, .pointer (some ⟨b17, 0, none⟩)), (6, .int .i64 s8748.2)] ∧ Ctx Nox w0 w_ [own 162 9 v8749 s8748.1.length (ETerm.encs s8748.1), blk b17 55 [v8749], blk b14 55 [.slice none 0 0], blk b11 55 [u1_0], blk b8 32 [u0_0, u0_1]] [Ty.item ETerm.ty.sl a1.terms [u1_0] fp1, Ty.item TForm.sl a0.images [u0_1] fp0, Ty.item ((EI .i64).ty.sl) a0.degrees [u0_0] fp0, Ty.item TAlg a0 [u0_0, u0_1] fp0, Ty.item TForm a1 [u1_0] fp1]) ?_ (s0 := ([], 0)) ?_ h
 ·clear hC h
  rintro s8748 e_ w8754 next8751 K8752 ⟨v8749, hS_, hC⟩ h hK8753
  refine wp_seq ?_
  refine sr ?_
  refine s_mv (v := .int .i64 s8748.2) (sx hS_ 4 rfl) ?_
  refine s_faddrB 0 Tryz.underlying55 rfl sc53.size (sx hS_ 1 rfl) rfl ?_
  refine s_loadS hC 3 (u1_0) rfl sc53 rfl rfl ?_
  obtain ⟨Ad8755, c8756, hv8757⟩ := sl_len (hC.getP 0 rfl)
  refine s_len Tryz.underlying53 (tr rfl hv8757) ?_
  refine s_lss rfl rfl ?_
  refine dn ?_
  refine cw_cond rfl (fun hb8758 => ?_) (fun hb8758 => ?_)
  ·replace h := ift h (ct hb8758)
   refine wp_skip ?_
   refine then_norm ?_
   refine wp_seq ?_
   refine wp_block ?_
   refine sr ?_
   refine s_faddrB 0 Tryz.underlying55 rfl sc53.size (sx hS_ 1 rfl) rfl ?_
   refine s_loadS hC 3 (u1_0) rfl sc53 rfl rfl ?_
   refine s_mv (v := .int .i64 s8748.2) (sx hS_ 4 rfl) ?_
   obtain ⟨⟨h0_8759, h1_8760⟩, h⟩ := h
   obtain ⟨Ad8761, c8762, hv8763⟩ := sl_form (hC.getP 0 rfl) s8748.2.toNat (show s8748.2.toNat < a1.terms.length by omega)
   refine s_iaddrS (len := a1.terms.length) Tryz.underlying53 ag162.size (tr rfl hv8763) rfl h0_8759 h1_8760 ?_
   refine s_faddrS (s8748.2.toNat * 9 + 0) Tryz.underlying162 rfl ag136.size rfl rfl ?_
   refine s_loadCA (A8.enc .u8 ((a1.terms.getD s8748.2.toNat default).mono)) (cells_subS (o := 0) (k := 8) (sl_cellsE (hC.getP 0 rfl) hv8763 s8748.2.toNat (show s8748.2.toNat < a1.terms.length by omega)) rfl) ag136 rfl rfl ?_
   refine s_alloc hC (A8.enc .u8 A8.zero) z136 rfl fun b8764 w8766 hB_ hC => ?_
   refine s_store (v := .agg (List.toArray (A8.enc .u8 ((a1.terms.getD s8748.2.toNat default).mono)))) hC 0 (A8.enc .u8 ((a1.terms.getD s8748.2.toNat default).mono)) (A8.enc .u8 ((a1.terms.getD s8748.2.toNat default).mono)) rfl ag136.size rfl rfl rfl rfl rfl (Nat.le_of_ble_eq_true rfl) rfl fun w8767 hC => ?_
   refine dn ?_
   refine sr ?_
   refine s_as (v := .int .i64 0) rfl ?_
   refine dn ?_
   refine wp_block ?_
   refine loopW (S := (List Term) × Int) _ (fun s11656 e_ w_ => ∃ (v11657 : Value), Slots e_ [(2, .pointer (some ⟨b8, 0, none⟩)), (3, .pointer (some ⟨b11, 0, none⟩)), (4, .pointer (some ⟨b14, 0, none⟩)), (5, .pointer (some ⟨b17, 0, none⟩)), (6, .int .i64 s8748.2), (7, .pointer (some ⟨b8764, 0, none⟩)), (8, .int .i64 s11656.2), (16, .int .i64 s8748.2), (17, .pointer (some ⟨b11, 0, none⟩)), (18, u1_0), (19, .int .i64 (a1.terms.length : Int)), (20, .bool (decide (s8748.2 < (a1.terms.length : Int)))), (23, .pointer (some ⟨b11, 0, none⟩)), (24, u1_0), (25, .int .i64 s8748.2), (26, .pointer (some (Ad8761.add (s8748.2.toNat * 9)))), (27, .pointer (some (Ad8761.add (s8748.2.toNat * 9 + 0)))), (28, .agg (List.toArray (A8.enc .u8 ((a1.terms.getD s8748.2.toNat default).mono))))] ∧ Ctx Nox w0 w_ [own 162 9 v11657 s11656.1.length (ETerm.encs s11656.1), blk b8764 136 (A8.enc .u8 ((a1.terms.getD s8748.2.toNat default).mono)), blk b17 55 [v11657], blk b14 55 [.slice none 0 0], blk b11 55 [u1_0], blk b8 32 [u0_0, u0_1]] [Ty.item ETerm.ty.sl a1.terms [u1_0] fp1, Ty.item TForm.sl a0.images [u0_1] fp0, Ty.item ((EI .i64).ty.sl) a0.degrees [u0_0] fp0, Ty.item TAlg a0 [u0_0, u0_1] fp0, Ty.item TForm a1 [u1_0] fp1]) ?_ (s0 := (s8748.1, 0)) ?_ h
   ·clear hC h
    rintro s11656 e_ w11662 next11659 K11660 ⟨v11657, hS_, hC⟩ h hK11661
    refine wp_seq ?_
    refine sr ?_
    refine s_mv (v := .int .i64 s11656.2) (sx hS_ 6 rfl) ?_
    refine s_faddrB 0 Tryz.underlying32 rfl sc22.size (sx hS_ 0 rfl) rfl ?_
    refine s_loadS hC 5 (u0_0) rfl sc22 rfl rfl ?_
    obtain ⟨Ad11663, c11664, hv11665⟩ := sl_len (hC.getP 2 rfl)
    refine s_len Tryz.underlying22 (tr rfl hv11665) ?_
    refine s_lss rfl rfl ?_
    refine dn ?_
    refine cw_cond rfl (fun hb11666 => ?_) (fun hb11666 => ?_)
    ·replace h := ift h (ct hb11666)
     refine wp_skip ?_
     refine then_norm ?_
     refine wp_seq ?_
     refine wp_block ?_
     refine wp_seq ?_
     refine sr ?_
     refine s_mv (v := .int .i64 s11656.2) (sx hS_ 6 rfl) ?_
     obtain ⟨⟨h0_11667, h1_11668⟩, h⟩ := h
     refine s_iaddrB s11656.2.toNat Tryz.underlying136 sc5.size (sx hS_ 5 rfl) rfl h0_11667 h1_11668 (by omega) ?_
     refine s_loadS hC 1 (.int .u8 (((a1.terms.getD s8748.2.toNat default).mono).get s11656.2.toNat)) rfl sc5 rfl (A8.enc_get _ _ (show s11656.2.toNat < 8 by omega)) ?_
     refine s_eql rfl rfl ?_
     refine dn ?_
     refine cw_cond rfl (fun hb11669 => ?_) (fun hb11669 => ?_)
     ·replace h := ift h (ct hb11669)
      refine wp_exit (then_exit (exit_in ?_))
      refine then_norm ?_
      refine cw_region ?_
      refine s_mv (v := .int .i64 s11656.2) (sx hS_ 6 rfl) ?_
      refine s_add rfl rfl ?_
      refine s_as (v := .int .i64 (IntKind.i64.wrap (s11656.2 + 1))) rfl ?_
      refine done ?_
      exact hK11661 (s11656.1, IntKind.i64.wrap (s11656.2 + 1)) _ _ ⟨v11657, (sk (sx hS_ 0 rfl) (sk (sx hS_ 1 rfl) (sk (sx hS_ 2 rfl) (sk (sx hS_ 3 rfl) (sk (sx hS_ 4 rfl) (sk (sx hS_ 5 rfl) (sk rfl (sk (sx hS_ 7 rfl) (sk (sx hS_ 8 rfl) (sk (sx hS_ 9 rfl) (sk (sx hS_ 10 rfl) (sk (sx hS_ 11 rfl) (sk (sx hS_ 12 rfl) (sk (sx hS_ 13 rfl) (sk (sx hS_ 14 rfl) (sk (sx hS_ 15 rfl) (sk (sx hS_ 16 rfl) (sk (sx hS_ 17 rfl) sn)))))))))))))))))), hC⟩ h
     ·replace h := iff_ h (cf hb11669)
      refine wp_skip ?_
      refine then_norm ?_
      refine wp_seq ?_
      refine cw_drawN 5 mixed [0, 0, 0, 0, 13, 31] [0, 1] [] (by kernel_rfl) (by kernel_rfl) (by kernel_rfl) (fun hM11671 hM11672 w11670 hB_ => ?_)
      replace hC := hC.grow hB_
      have hN_ : w11670.heap.size ≤ w11670.heap.size := Nat.le_refl _
      refine ae_look (belNPre _) 0 (.agg (List.toArray (A8.enc .u8 ((a1.terms.getD s8748.2.toNat default).mono)))) rfl rfl (by kernel_rfl) (hM11671 0 rfl) (fun w_ hB_ => .inl ⟨rfl, by exact r_loadA (hC.grow (belN_bel hB_)) 1 (A8.enc .u8 ((a1.terms.getD s8748.2.toNat default).mono)) rfl ag136 (sx hS_ 5 rfl) rfl rfl⟩) (l9 := (dbits 6 1)) (by kernel_rfl) ?_
      refine ae_look (belNPre _) 1 (.agg (List.toArray (A8.enc .u8 ((a1.terms.getD s8748.2.toNat default).mono)))) rfl rfl (by kernel_rfl) (hM11671 1 rfl) (fun w_ hB_ => .inl ⟨rfl, by exact r_loadA (hC.grow (belN_bel hB_)) 1 (A8.enc .u8 ((a1.terms.getD s8748.2.toNat default).mono)) rfl ag136 (sx hS_ 5 rfl) rfl rfl⟩) (l9 := (dbits 6 3)) (by kernel_rfl) ?_
      refine ae_join (fun e_ w_ => ∃ (b11676 : Nat), ∃ (b11673 : Nat), Slots e_ [(2, .pointer (some ⟨b8, 0, none⟩)), (3, .pointer (some ⟨b11, 0, none⟩)), (4, .pointer (some ⟨b14, 0, none⟩)), (5, .pointer (some ⟨b17, 0, none⟩)), (6, .int .i64 s8748.2), (7, .pointer (some ⟨b8764, 0, none⟩)), (8, .int .i64 s11656.2), (9, .pointer (some ⟨b11673, 0, none⟩)), (10, .pointer (some ⟨b11676, 0, none⟩)), (16, .int .i64 s8748.2), (17, .pointer (some ⟨b11, 0, none⟩)), (18, u1_0), (19, .int .i64 (a1.terms.length : Int)), (20, .bool (decide (s8748.2 < (a1.terms.length : Int)))), (23, .pointer (some ⟨b11, 0, none⟩)), (24, u1_0), (25, .int .i64 s8748.2), (26, .pointer (some (Ad8761.add (s8748.2.toNat * 9)))), (27, .pointer (some (Ad8761.add (s8748.2.toNat * 9 + 0)))), (28, .agg (List.toArray (A8.enc .u8 ((a1.terms.getD s8748.2.toNat default).mono)))), (29, .int .i64 s11656.2), (30, .pointer (some ⟨b8, 0, none⟩)), (31, u0_0), (32, .int .i64 (a0.degrees.length : Int)), (33, .bool (decide (s11656.2 < (a0.degrees.length : Int)))), (36, .int .i64 s11656.2), (37, .pointer (some ⟨b8764, s11656.2.toNat, none⟩)), (38, .int .u8 (((a1.terms.getD s8748.2.toNat default).mono).get s11656.2.toNat)), (39, .bool (decide (((a1.terms.getD s8748.2.toNat default).mono).get s11656.2.toNat = 0))), (40, .agg (List.toArray (A8.enc .u8 ((a1.terms.getD s8748.2.toNat default).mono)))), (41, .agg (List.toArray (A8.enc .u8 ((a1.terms.getD s8748.2.toNat default).mono))))] ∧ Ctx Nox w0 w_ [blk b11676 136 (A8.enc .u8 ((a1.terms.getD s8748.2.toNat default).mono)), blk b11673 136 (A8.enc .u8 ((a1.terms.getD s8748.2.toNat default).mono)), own 162 9 v11657 s11656.1.length (ETerm.encs s11656.1), blk b8764 136 (A8.enc .u8 ((a1.terms.getD s8748.2.toNat default).mono)), blk b17 55 [v11657], blk b14 55 [.slice none 0 0], blk b11 55 [u1_0], blk b8 32 [u0_0, u0_1]] [Ty.item ETerm.ty.sl a1.terms [u1_0] fp1, Ty.item TForm.sl a0.images [u0_1] fp0, Ty.item ((EI .i64).ty.sl) a0.degrees [u0_0] fp0, Ty.item TAlg a0 [u0_0, u0_1] fp0, Ty.item TForm a1 [u1_0] fp1] ∧ (forN (fun i12626 (s12627 : A8 × A8) next12628 => (if (i12626 : Int) ≥ s11656.2 then (if (i12626 : Int) ≤ s11656.2 then next12628 (s12627.1.set i12626 0, s12627.2.set i12626 0) else next12628 (s12627.1.set i12626 0, s12627.2)) else (if (i12626 : Int) ≤ s11656.2 then next12628 (s12627.1, s12627.2.set i12626 0) else next12628 (s12627.1, s12627.2)))) (fun (s12627 : A8 × A8) => ((0 ≤ s11656.2 ∧ s11656.2 < 8) ∧ ((0 ≤ s11656.2 ∧ s11656.2 < 8) ∧ ((0 ≤ s8748.2 ∧ s8748.2 < (a1.terms.length : Int)) ∧ ((0 ≤ s11656.2 ∧ s11656.2 < 8) ∧ f_spec_l01Weight a0.degrees s12627.1 (fun r12662 => (if Int.tmod r12662 2 ≠ 0 then ((0 ≤ s11656.2 ∧ s11656.2 < (a0.images.length : Int)) ∧ f_spec_l01Single (s12627.1.set s11656.2.toNat (IntKind.u8.wrap ((((a1.terms.getD s8748.2.toNat default).mono).get s11656.2.toNat) - 1))) 1 (fun r12808 => f_spec_l01Times a0.degrees r12808 (a0.images.getD s11656.2.toNat default) (fun r12821 => f_spec_l01Single s12627.2 1 (fun r12763 => f_spec_l01Times a0.degrees r12821 r12763 (fun r12776 => f_spec_l01Mod (IntKind.i64.wrap (0 - (IntKind.i64.wrap (((a1.terms.getD s8748.2.toNat default).factor) * (IntKind.i64.wrap (((a1.terms.getD s8748.2.toNat default).mono).get s11656.2.toNat)))))) (fun r12789 => f_spec_l01Add (⟨s11656.1⟩ : Vc.Form) r12776 r12789 (fun r12794 => next11659 (r12794.terms, IntKind.i64.wrap (s11656.2 + 1))))))))) else ((0 ≤ s11656.2 ∧ s11656.2 < (a0.images.length : Int)) ∧ f_spec_l01Single (s12627.1.set s11656.2.toNat (IntKind.u8.wrap ((((a1.terms.getD s8748.2.toNat default).mono).get s11656.2.toNat) - 1))) 1 (fun r13025 => f_spec_l01Times a0.degrees r13025 (a0.images.getD s11656.2.toNat default) (fun r13038 => f_spec_l01Single s12627.2 1 (fun r12980 => f_spec_l01Times a0.degrees r13038 r12980 (fun r12993 => f_spec_l01Mod (IntKind.i64.wrap (((a1.terms.getD s8748.2.toNat default).factor) * (IntKind.i64.wrap (((a1.terms.getD s8748.2.toNat default).mono).get s11656.2.toNat)))) (fun r13006 => f_spec_l01Add (⟨s11656.1⟩ : Vc.Form) r12993 r13006 (fun r13011 => next11659 (r13011.terms, IntKind.i64.wrap (s11656.2 + 1)))))))))))))))) 8 0 ((a1.terms.getD s8748.2.toNat default).mono, (a1.terms.getD s8748.2.toNat default).mono))) ?_ ?_
      ·clear hC h
       rintro e_ w11689 ⟨b11676, b11673, hS_, hC, h⟩
       refine then_norm ?_
       refine wp_seq ?_
       refine sr ?_
       refine s_as (v := .int .i64 0) rfl ?_
       refine dn ?_
       refine wp_block ?_
       refine loopN (S := A8 × A8) _ _ (fun i12626 s12627 e_ w_ => Slots e_ [(2, .pointer (some ⟨b8, 0, none⟩)), (3, .pointer (some ⟨b11, 0, none⟩)), (4, .pointer (some ⟨b14, 0, none⟩)), (5, .pointer (some ⟨b17, 0, none⟩)), (6, .int .i64 s8748.2), (7, .pointer (some ⟨b8764, 0, none⟩)), (8, .int .i64 s11656.2), (9, .pointer (some ⟨b11673, 0, none⟩)), (10, .pointer (some ⟨b11676, 0, none⟩)), (11, .int .i64 (i12626 : Int)), (16, .int .i64 s8748.2), (17, .pointer (some ⟨b11, 0, none⟩)), (18, u1_0), (19, .int .i64 (a1.terms.length : Int)), (20, .bool (decide (s8748.2 < (a1.terms.length : Int)))), (23, .pointer (some ⟨b11, 0, none⟩)), (24, u1_0), (25, .int .i64 s8748.2), (26, .pointer (some (Ad8761.add (s8748.2.toNat * 9)))), (27, .pointer (some (Ad8761.add (s8748.2.toNat * 9 + 0)))), (28, .agg (List.toArray (A8.enc .u8 ((a1.terms.getD s8748.2.toNat default).mono)))), (29, .int .i64 s11656.2), (30, .pointer (some ⟨b8, 0, none⟩)), (31, u0_0), (32, .int .i64 (a0.degrees.length : Int)), (33, .bool (decide (s11656.2 < (a0.degrees.length : Int)))), (36, .int .i64 s11656.2), (37, .pointer (some ⟨b8764, s11656.2.toNat, none⟩)), (38, .int .u8 (((a1.terms.getD s8748.2.toNat default).mono).get s11656.2.toNat)), (39, .bool (decide (((a1.terms.getD s8748.2.toNat default).mono).get s11656.2.toNat = 0))), (40, .agg (List.toArray (A8.enc .u8 ((a1.terms.getD s8748.2.toNat default).mono)))), (41, .agg (List.toArray (A8.enc .u8 ((a1.terms.getD s8748.2.toNat default).mono))))] ∧ Ctx Nox w0 w_ [blk b11676 136 (A8.enc .u8 s12627.2), blk b11673 136 (A8.enc .u8 s12627.1), own 162 9 v11657 s11656.1.length (ETerm.encs s11656.1), blk b8764 136 (A8.enc .u8 ((a1.terms.getD s8748.2.toNat default).mono)), blk b17 55 [v11657], blk b14 55 [.slice none 0 0], blk b11 55 [u1_0], blk b8 32 [u0_0, u0_1]] [Ty.item ETerm.ty.sl a1.terms [u1_0] fp1, Ty.item TForm.sl a0.images [u0_1] fp0, Ty.item ((EI .i64).ty.sl) a0.degrees [u0_0] fp0, Ty.item TAlg a0 [u0_0, u0_1] fp0, Ty.item TForm a1 [u1_0] fp1]) 8 ?_ ?_ (s0 := ((a1.terms.getD s8748.2.toNat default).mono, (a1.terms.getD s8748.2.toNat default).mono)) ?_ h
       ·clear hC h
        rintro i12626 s12627 e_ w12632 next12628 K12629 hi12631 ⟨hS_, hC⟩ h hK12630
        refine wp_seq ?_
        refine sr ?_
        refine s_mv (v := .int .i64 (i12626 : Int)) (sx hS_ 9 rfl) ?_
        refine s_lss rfl rfl ?_
        refine dn ?_
        refine cw_true rfl (decide_eq_true (by omega)) ?_
        refine wp_skip ?_
        refine then_norm ?_
        refine wp_seq ?_
        refine wp_block ?_
        refine wp_seq ?_
        refine sr ?_
        refine s_mv (v := .int .i64 (i12626 : Int)) (sx hS_ 9 rfl) ?_
        refine s_mv (v := .int .i64 s11656.2) (sx hS_ 6 rfl) ?_
        refine s_geq rfl rfl ?_
        refine dn ?_
        refine cw_cond rfl (fun hb12633 => ?_) (fun hb12633 => ?_)
        ·replace h := ift h (ct hb12633)
         refine cw_region ?_
         refine s_mv (v := .int .i64 (i12626 : Int)) (sx hS_ 9 rfl) ?_
         refine s_iaddrB i12626 Tryz.underlying136 sc5.size (sx hS_ 7 rfl) rfl (Int.natCast_nonneg _) (by omega) (by omega) ?_
         refine s_store (v := .int .u8 0) hC 1 [.int .u8 0] (A8.enc .u8 (s12627.1.set i12626 0)) rfl sc5.size rfl rfl rfl rfl rfl hi12631 (A8.enc_set _ _ _ hi12631) fun w12634 hC => ?_
         refine dn ?_
         refine sr ?_
         refine s_mv (v := .int .i64 (i12626 : Int)) (sx hS_ 9 rfl) ?_
         refine s_mv (v := .int .i64 s11656.2) (sx hS_ 6 rfl) ?_
         refine s_leq rfl rfl ?_
         refine dn ?_
         refine cw_cond rfl (fun hb12635 => ?_) (fun hb12635 => ?_)
         ·replace h := ift h (ct hb12635)
          refine cw_region ?_
          refine s_mv (v := .int .i64 (i12626 : Int)) (sx hS_ 9 rfl) ?_
          refine s_iaddrB i12626 Tryz.underlying136 sc5.size (sx hS_ 8 rfl) rfl (Int.natCast_nonneg _) (by omega) (by omega) ?_
          refine s_store (v := .int .u8 0) hC 0 [.int .u8 0] (A8.enc .u8 (s12627.2.set i12626 0)) rfl sc5.size rfl rfl rfl rfl rfl hi12631 (A8.enc_set _ _ _ hi12631) fun w12636 hC => ?_
          refine done ?_
          refine blk_norm ?_
          refine then_norm ?_
          refine cw_region ?_
          refine s_mv (v := .int .i64 (i12626 : Int)) (sx hS_ 9 rfl) ?_
          refine s_add rfl rfl ?_
          refine s_as (v := .int .i64 (IntKind.i64.wrap ((i12626 : Int) + 1))) rfl ?_
          refine done ?_
          exact hK12630 (s12627.1.set i12626 0, s12627.2.set i12626 0) _ _ ⟨(sk (sx hS_ 0 rfl) (sk (sx hS_ 1 rfl) (sk (sx hS_ 2 rfl) (sk (sx hS_ 3 rfl) (sk (sx hS_ 4 rfl) (sk (sx hS_ 5 rfl) (sk (sx hS_ 6 rfl) (sk (sx hS_ 7 rfl) (sk (sx hS_ 8 rfl) (sk (tr rfl (congrArg _ (wrap64_nat hi12631 (by decide)))) (sk (sx hS_ 10 rfl) (sk (sx hS_ 11 rfl) (sk (sx hS_ 12 rfl) (sk (sx hS_ 13 rfl) (sk (sx hS_ 14 rfl) (sk (sx hS_ 15 rfl) (sk (sx hS_ 16 rfl) (sk (sx hS_ 17 rfl) (sk (sx hS_ 18 rfl) (sk (sx hS_ 19 rfl) (sk (sx hS_ 20 rfl) (sk (sx hS_ 21 rfl) (sk (sx hS_ 22 rfl) (sk (sx hS_ 23 rfl) (sk (sx hS_ 24 rfl) (sk (sx hS_ 25 rfl) (sk (sx hS_ 26 rfl) (sk (sx hS_ 27 rfl) (sk (sx hS_ 28 rfl) (sk (sx hS_ 29 rfl) (sk (sx hS_ 30 rfl) (sk (sx hS_ 31 rfl) sn)))))))))))))))))))))))))))))))), hC⟩ h
         ·replace h := iff_ h (cf hb12635)
          refine wp_skip ?_
          refine blk_norm ?_
          refine then_norm ?_
          refine cw_region ?_
          refine s_mv (v := .int .i64 (i12626 : Int)) (sx hS_ 9 rfl) ?_
          refine s_add rfl rfl ?_
          refine s_as (v := .int .i64 (IntKind.i64.wrap ((i12626 : Int) + 1))) rfl ?_
          refine done ?_
          exact hK12630 (s12627.1.set i12626 0, s12627.2) _ _ ⟨(sk (sx hS_ 0 rfl) (sk (sx hS_ 1 rfl) (sk (sx hS_ 2 rfl) (sk (sx hS_ 3 rfl) (sk (sx hS_ 4 rfl) (sk (sx hS_ 5 rfl) (sk (sx hS_ 6 rfl) (sk (sx hS_ 7 rfl) (sk (sx hS_ 8 rfl) (sk (tr rfl (congrArg _ (wrap64_nat hi12631 (by decide)))) (sk (sx hS_ 10 rfl) (sk (sx hS_ 11 rfl) (sk (sx hS_ 12 rfl) (sk (sx hS_ 13 rfl) (sk (sx hS_ 14 rfl) (sk (sx hS_ 15 rfl) (sk (sx hS_ 16 rfl) (sk (sx hS_ 17 rfl) (sk (sx hS_ 18 rfl) (sk (sx hS_ 19 rfl) (sk (sx hS_ 20 rfl) (sk (sx hS_ 21 rfl) (sk (sx hS_ 22 rfl) (sk (sx hS_ 23 rfl) (sk (sx hS_ 24 rfl) (sk (sx hS_ 25 rfl) (sk (sx hS_ 26 rfl) (sk (sx hS_ 27 rfl) (sk (sx hS_ 28 rfl) (sk (sx hS_ 29 rfl) (sk (sx hS_ 30 rfl) (sk (sx hS_ 31 rfl) sn)))))))))))))))))))))))))))))))), hC⟩ h
        ·replace h := iff_ h (cf hb12633)
         refine wp_skip ?_
         refine then_norm ?_
         refine sr ?_
         refine s_mv (v := .int .i64 (i12626 : Int)) (sx hS_ 9 rfl) ?_
         refine s_mv (v := .int .i64 s11656.2) (sx hS_ 6 rfl) ?_
         refine s_leq rfl rfl ?_
         refine dn ?_
         refine cw_cond rfl (fun hb12637 => ?_) (fun hb12637 => ?_)
         ·replace h := ift h (ct hb12637)
          refine cw_region ?_
          refine s_mv (v := .int .i64 (i12626 : Int)) (sx hS_ 9 rfl) ?_
          refine s_iaddrB i12626 Tryz.underlying136 sc5.size (sx hS_ 8 rfl) rfl (Int.natCast_nonneg _) (by omega) (by omega) ?_
          refine s_store (v := .int .u8 0) hC 0 [.int .u8 0] (A8.enc .u8 (s12627.2.set i12626 0)) rfl sc5.size rfl rfl rfl rfl rfl hi12631 (A8.enc_set _ _ _ hi12631) fun w12638 hC => ?_
          refine done ?_
          refine blk_norm ?_
          refine then_norm ?_
          refine cw_region ?_
          refine s_mv (v := .int .i64 (i12626 : Int)) (sx hS_ 9 rfl) ?_
          refine s_add rfl rfl ?_
          refine s_as (v := .int .i64 (IntKind.i64.wrap ((i12626 : Int) + 1))) rfl ?_
          refine done ?_
          exact hK12630 (s12627.1, s12627.2.set i12626 0) _ _ ⟨(sk (sx hS_ 0 rfl) (sk (sx hS_ 1 rfl) (sk (sx hS_ 2 rfl) (sk (sx hS_ 3 rfl) (sk (sx hS_ 4 rfl) (sk (sx hS_ 5 rfl) (sk (sx hS_ 6 rfl) (sk (sx hS_ 7 rfl) (sk (sx hS_ 8 rfl) (sk (tr rfl (congrArg _ (wrap64_nat hi12631 (by decide)))) (sk (sx hS_ 10 rfl) (sk (sx hS_ 11 rfl) (sk (sx hS_ 12 rfl) (sk (sx hS_ 13 rfl) (sk (sx hS_ 14 rfl) (sk (sx hS_ 15 rfl) (sk (sx hS_ 16 rfl) (sk (sx hS_ 17 rfl) (sk (sx hS_ 18 rfl) (sk (sx hS_ 19 rfl) (sk (sx hS_ 20 rfl) (sk (sx hS_ 21 rfl) (sk (sx hS_ 22 rfl) (sk (sx hS_ 23 rfl) (sk (sx hS_ 24 rfl) (sk (sx hS_ 25 rfl) (sk (sx hS_ 26 rfl) (sk (sx hS_ 27 rfl) (sk (sx hS_ 28 rfl) (sk (sx hS_ 29 rfl) (sk (sx hS_ 30 rfl) (sk (sx hS_ 31 rfl) sn)))))))))))))))))))))))))))))))), hC⟩ h
         ·replace h := iff_ h (cf hb12637)
          refine wp_skip ?_
          refine blk_norm ?_
          refine then_norm ?_
          refine cw_region ?_
          refine s_mv (v := .int .i64 (i12626 : Int)) (sx hS_ 9 rfl) ?_
          refine s_add rfl rfl ?_
          refine s_as (v := .int .i64 (IntKind.i64.wrap ((i12626 : Int) + 1))) rfl ?_
          refine done ?_
          exact hK12630 (s12627.1, s12627.2) _ _ ⟨(sk (sx hS_ 0 rfl) (sk (sx hS_ 1 rfl) (sk (sx hS_ 2 rfl) (sk (sx hS_ 3 rfl) (sk (sx hS_ 4 rfl) (sk (sx hS_ 5 rfl) (sk (sx hS_ 6 rfl) (sk (sx hS_ 7 rfl) (sk (sx hS_ 8 rfl) (sk (tr rfl (congrArg _ (wrap64_nat hi12631 (by decide)))) (sk (sx hS_ 10 rfl) (sk (sx hS_ 11 rfl) (sk (sx hS_ 12 rfl) (sk (sx hS_ 13 rfl) (sk (sx hS_ 14 rfl) (sk (sx hS_ 15 rfl) (sk (sx hS_ 16 rfl) (sk (sx hS_ 17 rfl) (sk (sx hS_ 18 rfl) (sk (sx hS_ 19 rfl) (sk (sx hS_ 20 rfl) (sk (sx hS_ 21 rfl) (sk (sx hS_ 22 rfl) (sk (sx hS_ 23 rfl) (sk (sx hS_ 24 rfl) (sk (sx hS_ 25 rfl) (sk (sx hS_ 26 rfl) (sk (sx hS_ 27 rfl) (sk (sx hS_ 28 rfl) (sk (sx hS_ 29 rfl) (sk (sx hS_ 30 rfl) (sk (sx hS_ 31 rfl) sn)))))))))))))))))))))))))))))))), hC⟩ h
       ·clear hC h
        rintro s12627 e_ w12639 K12629 ⟨hS_, hC⟩ h
        refine wp_seq ?_
        refine sr ?_
        refine s_mv (v := .int .i64 8) (sx hS_ 9 rfl) ?_
        refine s_lss rfl rfl ?_
        refine dn ?_
        refine cw_false rfl (decide_eq_false (by omega)) ?_
        refine wp_exit (then_exit (then_exit (exit_in ?_)))
        refine then_norm ?_
        refine sr ?_
        refine s_loadA hC 1 (A8.enc .u8 s12627.1) rfl ag136 (sx hS_ 7 rfl) rfl rfl ?_
        refine s_alloc hC (A8.enc .u8 A8.zero) z136 rfl fun b12640 w12642 hB_ hC => ?_
        refine s_store (v := .agg (List.toArray (A8.enc .u8 s12627.1))) hC 0 (A8.enc .u8 s12627.1) (A8.enc .u8 s12627.1) rfl ag136.size rfl rfl rfl rfl rfl (Nat.le_of_ble_eq_true rfl) rfl fun w12643 hC => ?_
        refine dn ?_
        refine sr ?_
        refine s_mv (v := .int .i64 s11656.2) (sx hS_ 6 rfl) ?_
        refine s_mv (v := .int .i64 s11656.2) (sx hS_ 6 rfl) ?_
        obtain ⟨⟨h0_12644, h1_12645⟩, h⟩ := h
        refine s_iaddrB s11656.2.toNat Tryz.underlying136 sc5.size (sx hS_ 5 rfl) rfl h0_12644 h1_12645 (by omega) ?_
        refine s_loadS hC 4 (.int .u8 (((a1.terms.getD s8748.2.toNat default).mono).get s11656.2.toNat)) rfl sc5 rfl (A8.enc_get _ _ (show s11656.2.toNat < 8 by omega)) ?_
        refine s_sub rfl rfl ?_
        obtain ⟨⟨h0_12646, h1_12647⟩, h⟩ := h
        refine s_iaddrB s11656.2.toNat Tryz.underlying136 sc5.size rfl rfl h0_12646 h1_12647 (by omega) ?_
        refine s_store (v := .int .u8 (IntKind.u8.wrap ((((a1.terms.getD s8748.2.toNat default).mono).get s11656.2.toNat) - 1))) hC 0 [.int .u8 (IntKind.u8.wrap ((((a1.terms.getD s8748.2.toNat default).mono).get s11656.2.toNat) - 1))] (A8.enc .u8 (s12627.1.set s11656.2.toNat (IntKind.u8.wrap ((((a1.terms.getD s8748.2.toNat default).mono).get s11656.2.toNat) - 1)))) rfl sc5.size rfl rfl rfl rfl rfl (show s11656.2.toNat < 8 by omega) (A8.enc_set _ _ _ (show s11656.2.toNat < 8 by omega)) fun w12648 hC => ?_
        refine dn ?_
        refine wp_seq ?_
        refine cw_draw 10 mixed [0, 1, 0, 7, 15, 31, 0, 64, 192, 448, 1023, 2047] [1, 3, 5, 7, 8] [0, 2, 4, 6, 9] (by kernel_rfl) (by kernel_rfl) (by kernel_rfl) (fun hM12650 hM12651 w12649 hB_ => ?_)
        replace hC := hC.grow hB_
        refine aF 0 (.pointer (some ⟨b11, 0, none⟩)) rfl rfl (hM12651 0 rfl) (rfl) (fun _ => by exact r_faddrB 0 Tryz.underlying55 rfl sc53.size (sx hS_ 1 rfl) rfl) (dbits 12 1) ?_
        refine aL 1 (u1_0) rfl rfl (hM12650 1 rfl) (rfl) (fun _ hB_ => by exact r_loadS (hC.grow hB_) 7 (u1_0) rfl sc53 rfl rfl) (dbits 12 3) ?_
        refine aF 2 (.int .i64 s8748.2) rfl rfl (hM12651 2 rfl) (rfl) (fun _ => by exact r_mv (v := .int .i64 s8748.2) (sx hS_ 4 rfl)) (dbits 12 7) ?_
        obtain ⟨⟨h0_12652, h1_12653⟩, h⟩ := h
        obtain ⟨Ad12654, c12655, hv12656⟩ := sl_form (hC.getP 0 rfl) s8748.2.toNat (show s8748.2.toNat < a1.terms.length by omega)
        refine aL 3 (.pointer (some (Ad12654.add (s8748.2.toNat * 9)))) rfl rfl (hM12650 3 rfl) (rfl) (fun _ hB_ => by exact r_iaddrS (len := a1.terms.length) Tryz.underlying53 ag162.size (by exact tr rfl hv12656) rfl h0_12652 h1_12653) (dbits 12 15) ?_
        refine aF 4 (.pointer (some (Ad12654.add (s8748.2.toNat * 9 + 8)))) rfl rfl (hM12651 4 rfl) (rfl) (fun _ => by exact r_faddrS (s8748.2.toNat * 9 + 8) Tryz.underlying162 rfl sc2.size rfl rfl) (dbits 12 31) ?_
        refine aL 5 (.int .i64 ((a1.terms.getD s8748.2.toNat default).factor)) rfl rfl (hM12650 5 rfl) (rfl) (fun _ hB_ => by exact r_loadCS (.int .i64 ((a1.terms.getD s8748.2.toNat default).factor)) (cells_subS (o := 8) (k := 1) (sl_cellsE ((hC.grow hB_).getP 0 rfl) hv12656 s8748.2.toNat (show s8748.2.toNat < a1.terms.length by omega)) rfl) sc2 rfl) (dbits 12 63) ?_
        refine aF 6 (.int .i64 s11656.2) rfl rfl (hM12651 6 rfl) (rfl) (fun _ => by exact r_mv (v := .int .i64 s11656.2) (sx hS_ 6 rfl)) (dbits 12 127) ?_
        obtain ⟨⟨h0_12657, h1_12658⟩, h⟩ := h
        refine aL 7 (.pointer (some ⟨b8764, s11656.2.toNat, none⟩)) rfl rfl (hM12650 7 rfl) (rfl) (fun _ hB_ => by exact r_iaddrB s11656.2.toNat Tryz.underlying136 sc5.size (sx hS_ 5 rfl) rfl h0_12657 h1_12658 (by omega)) (dbits 12 255) ?_
        refine aL 8 (.int .u8 (((a1.terms.getD s8748.2.toNat default).mono).get s11656.2.toNat)) rfl rfl (hM12650 8 rfl) (rfl) (fun _ hB_ => by exact r_loadS (hC.grow hB_) 4 (.int .u8 (((a1.terms.getD s8748.2.toNat default).mono).get s11656.2.toNat)) rfl sc5 rfl (A8.enc_get _ _ (show s11656.2.toNat < 8 by omega))) (dbits 12 511) ?_
        refine aF 9 (.int .i64 (IntKind.i64.wrap (((a1.terms.getD s8748.2.toNat default).mono).get s11656.2.toNat))) rfl rfl (hM12651 9 rfl) (rfl) (fun _ => by exact r_conv Tryz.underlying5 Tryz.underlying2 rfl) (dbits 12 1023) ?_
        refine ae_tail 10 (by decide) (by decide) (by kernel_rfl) (by kernel_rfl) rfl ?_
        refine s_mul rfl rfl ?_
        refine s_as (v := .int .i64 (IntKind.i64.wrap (((a1.terms.getD s8748.2.toNat default).factor) * (IntKind.i64.wrap (((a1.terms.getD s8748.2.toNat default).mono).get s11656.2.toNat))))) rfl ?_
        refine done ?_
        refine qn_norm ?_
        refine then_norm ?_
        refine wp_seq ?_
        refine sr ?_
        refine s_faddrB 0 Tryz.underlying32 rfl sc22.size (sx hS_ 0 rfl) rfl ?_
        refine s_loadS hC 8 (u0_0) rfl sc22 rfl rfl ?_
        refine s_loadA hC 2 (A8.enc .u8 s12627.1) rfl ag136 (sx hS_ 7 rfl) rfl rfl ?_
        refine s_call [u0_0, .agg (List.toArray (A8.enc .u8 s12627.1))] _ Tryz.func121 rfl rfl rfl (c_spec_l01Weight a0.degrees s12627.1 h _ (hC.getP 2 rfl)) (fun ret12659 w12661 hR12660 => ?_)
        obtain ⟨r12662, rfl, h, hB12663⟩ := hR12660
        refine ⟨_, rfl, ?_⟩
        replace hC := hC.grow hB12663
        refine s_rem rfl rfl (by decide) ?_
        refine s_neq rfl rfl ?_
        refine dn ?_
        refine cw_cond rfl (fun hb12664 => ?_) (fun hb12664 => ?_)
        ·replace h := ift h (ct hb12664)
         refine cw_region ?_
         refine s_mv (v := .int .i64 (IntKind.i64.wrap (((a1.terms.getD s8748.2.toNat default).factor) * (IntKind.i64.wrap (((a1.terms.getD s8748.2.toNat default).mono).get s11656.2.toNat))))) rfl ?_
         refine s_neg rfl ?_
         refine s_as (v := .int .i64 (IntKind.i64.wrap (0 - (IntKind.i64.wrap (((a1.terms.getD s8748.2.toNat default).factor) * (IntKind.i64.wrap (((a1.terms.getD s8748.2.toNat default).mono).get s11656.2.toNat))))))) rfl ?_
         refine dn ?_
         refine wp_seq ?_
         refine cw_draw 11 mixed [0, 1, 0, 4, 0, 16, 0, 112, 240, 511, 0, 2047] [1, 2, 5, 7, 8] [0, 4, 6] (by kernel_rfl) (by kernel_rfl) (by kernel_rfl) (fun hM12666 hM12667 w12665 hB_ => ?_)
         replace hC := hC.grow hB_
         refine aF 0 (.pointer (some ⟨b8, 0, none⟩)) rfl rfl (hM12667 0 rfl) (rfl) (fun _ => by exact r_faddrB 0 Tryz.underlying32 rfl sc22.size (sx hS_ 0 rfl) rfl) (dbits 12 1) ?_
         refine aL 1 (u0_0) rfl rfl (hM12666 1 rfl) (rfl) (fun _ hB_ => by exact r_loadS (hC.grow hB_) 8 (u0_0) rfl sc22 rfl rfl) (dbits 12 3) ?_
         refine aL 2 (.agg (List.toArray (A8.enc .u8 (s12627.1.set s11656.2.toNat (IntKind.u8.wrap ((((a1.terms.getD s8748.2.toNat default).mono).get s11656.2.toNat) - 1)))))) rfl rfl (hM12666 2 rfl) (rfl) (fun _ hB_ => by exact r_loadA (hC.grow hB_) 0 (A8.enc .u8 (s12627.1.set s11656.2.toNat (IntKind.u8.wrap ((((a1.terms.getD s8748.2.toNat default).mono).get s11656.2.toNat) - 1)))) rfl ag136 rfl rfl rfl) (dbits 12 7) ?_
         refine aF 4 (.pointer (some ⟨b8, 1, none⟩)) rfl rfl (hM12667 4 rfl) (rfl) (fun _ => by exact r_faddrB 1 Tryz.underlying32 rfl sc30.size (sx hS_ 0 rfl) rfl) (dbits 12 23) ?_
         refine aL 5 (u0_1) rfl rfl (hM12666 5 rfl) (rfl) (fun _ hB_ => by exact r_loadS (hC.grow hB_) 8 (u0_1) rfl sc30 rfl rfl) (dbits 12 55) ?_
         refine aF 6 (.int .i64 s11656.2) rfl rfl (hM12667 6 rfl) (rfl) (fun _ => by exact r_mv (v := .int .i64 s11656.2) (sx hS_ 6 rfl)) (dbits 12 119) ?_
         obtain ⟨⟨h0_12668, h1_12669⟩, h⟩ := h
         obtain ⟨Ad12670, c12671, hv12672⟩ := sl_form (hC.getP 1 rfl) s11656.2.toNat (show s11656.2.toNat < a0.images.length by omega)
         refine aL 7 (.pointer (some (Ad12670.add (s11656.2.toNat * 1)))) rfl rfl (hM12666 7 rfl) (rfl) (fun _ hB_ => by exact r_iaddrS (len := a0.images.length) Tryz.underlying30 ag55.size (by exact tr rfl hv12672) rfl h0_12668 h1_12669) (dbits 12 247) ?_
         obtain ⟨cs_, hl12674, hc12675, hr12676⟩ := sl_cells (hC.getP 1 rfl) hv12672 s11656.2.toNat (show s11656.2.toNat < a0.images.length by omega)
         obtain ⟨u12673, rfl⟩ := List.length_eq_one_iff.1 hl12674
         clear hl12674
         rw [getD_eq _ _ (show s11656.2.toNat < a0.images.length by omega)] at hr12676
         have hp12677 := hr12676
         replace hC := hC.derive 1 rfl (Ty.item ETerm.ty.sl ((a0.images.getD s11656.2.toNat default).terms) [u12673] fp0) (fun _ => (form_parts hp12677)) (fun _ hb_ => hb_)
         refine aL 8 (.agg #[u12673]) rfl rfl (hM12666 8 rfl) (rfl) (fun _ hB_ => by exact r_loadCA [u12673] (cellsAt_bel hB_ hc12675) ag55 rfl rfl) (dbits 12 503) ?_
         refine ae_join (fun e_ w_ => ∃ (b12705 : Nat), ∃ (u12696 : Value), ∃ (r12695 : Vc.Form), ∃ (u12683 : Value), ∃ (r12682 : Vc.Form), Slots e_ [(2, .pointer (some ⟨b8, 0, none⟩)), (3, .pointer (some ⟨b11, 0, none⟩)), (4, .pointer (some ⟨b14, 0, none⟩)), (5, .pointer (some ⟨b17, 0, none⟩)), (6, .int .i64 s8748.2), (7, .pointer (some ⟨b8764, 0, none⟩)), (8, .int .i64 s11656.2), (9, .pointer (some ⟨b11673, 0, none⟩)), (10, .pointer (some ⟨b11676, 0, none⟩)), (11, .int .i64 8), (12, .pointer (some ⟨b12640, 0, none⟩)), (13, .int .i64 (IntKind.i64.wrap (0 - (IntKind.i64.wrap (((a1.terms.getD s8748.2.toNat default).factor) * (IntKind.i64.wrap (((a1.terms.getD s8748.2.toNat default).mono).get s11656.2.toNat))))))), (14, .pointer (some ⟨b12705, 0, none⟩)), (16, .int .i64 s8748.2), (17, .pointer (some ⟨b11, 0, none⟩)), (18, u1_0), (19, .int .i64 (a1.terms.length : Int)), (20, .bool (decide (s8748.2 < (a1.terms.length : Int)))), (23, .pointer (some ⟨b11, 0, none⟩)), (24, u1_0), (25, .int .i64 s8748.2), (26, .pointer (some (Ad8761.add (s8748.2.toNat * 9)))), (27, .pointer (some (Ad8761.add (s8748.2.toNat * 9 + 0)))), (28, .agg (List.toArray (A8.enc .u8 ((a1.terms.getD s8748.2.toNat default).mono)))), (29, .int .i64 s11656.2), (30, .pointer (some ⟨b8, 0, none⟩)), (31, u0_0), (32, .int .i64 (a0.degrees.length : Int)), (33, .bool (decide (s11656.2 < (a0.degrees.length : Int)))), (36, .int .i64 s11656.2), (37, .pointer (some ⟨b8764, s11656.2.toNat, none⟩)), (38, .int .u8 (((a1.terms.getD s8748.2.toNat default).mono).get s11656.2.toNat)), (39, .bool (decide (((a1.terms.getD s8748.2.toNat default).mono).get s11656.2.toNat = 0))), (40, .agg (List.toArray (A8.enc .u8 ((a1.terms.getD s8748.2.toNat default).mono)))), (41, .agg (List.toArray (A8.enc .u8 ((a1.terms.getD s8748.2.toNat default).mono)))), (42, .int .i64 8), (43, .bool (decide (8 < 8))), (56, .agg (List.toArray (A8.enc .u8 s12627.1))), (57, .int .i64 s11656.2), (58, .int .i64 s11656.2), (59, .pointer (some ⟨b8764, s11656.2.toNat, none⟩)), (60, .int .u8 (((a1.terms.getD s8748.2.toNat default).mono).get s11656.2.toNat)), (61, .int .u8 (IntKind.u8.wrap ((((a1.terms.getD s8748.2.toNat default).mono).get s11656.2.toNat) - 1))), (62, .pointer (some ⟨b12640, s11656.2.toNat, none⟩)), (63, .pointer (some ⟨b11, 0, none⟩)), (64, u1_0), (65, .int .i64 s8748.2), (66, .pointer (some (Ad12654.add (s8748.2.toNat * 9)))), (67, .pointer (some (Ad12654.add (s8748.2.toNat * 9 + 8)))), (68, .int .i64 ((a1.terms.getD s8748.2.toNat default).factor)), (69, .int .i64 s11656.2), (70, .pointer (some ⟨b8764, s11656.2.toNat, none⟩)), (71, .int .u8 (((a1.terms.getD s8748.2.toNat default).mono).get s11656.2.toNat)), (72, .int .i64 (IntKind.i64.wrap (((a1.terms.getD s8748.2.toNat default).mono).get s11656.2.toNat))), (73, .int .i64 (IntKind.i64.wrap (((a1.terms.getD s8748.2.toNat default).factor) * (IntKind.i64.wrap (((a1.terms.getD s8748.2.toNat default).mono).get s11656.2.toNat))))), (74, .pointer (some ⟨b8, 0, none⟩)), (75, u0_0), (76, .agg (List.toArray (A8.enc .u8 s12627.1))), (77, .int .i64 r12662), (78, .int .i64 (Int.tmod r12662 2)), (79, .bool (decide (Int.tmod r12662 2 ≠ 0))), (80, .int .i64 (IntKind.i64.wrap (((a1.terms.getD s8748.2.toNat default).factor) * (IntKind.i64.wrap (((a1.terms.getD s8748.2.toNat default).mono).get s11656.2.toNat))))), (81, .int .i64 (IntKind.i64.wrap (0 - (IntKind.i64.wrap (((a1.terms.getD s8748.2.toNat default).factor) * (IntKind.i64.wrap (((a1.terms.getD s8748.2.toNat default).mono).get s11656.2.toNat))))))), (82, .pointer (some ⟨b8, 0, none⟩)), (83, u0_0), (84, .agg (List.toArray (A8.enc .u8 (s12627.1.set s11656.2.toNat (IntKind.u8.wrap ((((a1.terms.getD s8748.2.toNat default).mono).get s11656.2.toNat) - 1)))))), (85, .agg #[u12683]), (86, .pointer (some ⟨b8, 1, none⟩)), (87, u0_1), (88, .int .i64 s11656.2), (89, .pointer (some (Ad12670.add (s11656.2.toNat * 1)))), (90, .agg #[u12673]), (91, .agg #[u12696])] ∧ Ctx Nox w0 w_ [blk b12705 55 [u12696], own 162 9 u12696 r12695.terms.length (ETerm.encs r12695.terms), own 162 9 u12683 r12682.terms.length (ETerm.encs r12682.terms), blk b12640 136 (A8.enc .u8 (s12627.1.set s11656.2.toNat (IntKind.u8.wrap ((((a1.terms.getD s8748.2.toNat default).mono).get s11656.2.toNat) - 1)))), blk b11676 136 (A8.enc .u8 s12627.2), blk b11673 136 (A8.enc .u8 s12627.1), own 162 9 v11657 s11656.1.length (ETerm.encs s11656.1), blk b8764 136 (A8.enc .u8 ((a1.terms.getD s8748.2.toNat default).mono)), blk b17 55 [v11657], blk b14 55 [.slice none 0 0], blk b11 55 [u1_0], blk b8 32 [u0_0, u0_1]] [Ty.item ETerm.ty.sl ((a0.images.getD s11656.2.toNat default).terms) [u12673] fp0, Ty.item ETerm.ty.sl a1.terms [u1_0] fp1, Ty.item TForm.sl a0.images [u0_1] fp0, Ty.item ((EI .i64).ty.sl) a0.degrees [u0_0] fp0, Ty.item TAlg a0 [u0_0, u0_1] fp0, Ty.item TForm a1 [u1_0] fp1] ∧ (f_spec_l01Single s12627.2 1 (fun r12763 => f_spec_l01Times a0.degrees r12695 r12763 (fun r12776 => f_spec_l01Mod (IntKind.i64.wrap (0 - (IntKind.i64.wrap (((a1.terms.getD s8748.2.toNat default).factor) * (IntKind.i64.wrap (((a1.terms.getD s8748.2.toNat default).mono).get s11656.2.toNat)))))) (fun r12789 => f_spec_l01Add (⟨s11656.1⟩ : Vc.Form) r12776 r12789 (fun r12794 => next11659 (r12794.terms, IntKind.i64.wrap (s11656.2 + 1)))))))) ?_ ?_
         ·clear hC h
          rintro e_ w12756 ⟨b12705, u12696, r12695, u12683, r12682, hS_, hC, h⟩
          refine then_norm ?_
          refine cw_draw 9 mixed [0, 0, 2, 0, 0, 16, 62, 0, 254, 511, 1023] [0, 2, 3, 4] [1, 7] (by kernel_rfl) (by kernel_rfl) (by kernel_rfl) (fun hM12758 hM12759 w12757 hB_ => ?_)
          replace hC := hC.grow hB_
          refine aL 0 (.agg #[v11657]) rfl rfl (hM12758 0 rfl) (rfl) (fun _ hB_ => by exact r_loadA (hC.grow hB_) 8 [v11657] rfl ag55 (sx hS_ 3 rfl) rfl rfl) (dbits 11 1) ?_
          refine aF 1 (.pointer (some ⟨b8, 0, none⟩)) rfl rfl (hM12759 1 rfl) (rfl) (fun _ => by exact r_faddrB 0 Tryz.underlying32 rfl sc22.size (sx hS_ 0 rfl) rfl) (dbits 11 3) ?_
          refine aL 2 (u0_0) rfl rfl (hM12758 2 rfl) (rfl) (fun _ hB_ => by exact r_loadS (hC.grow hB_) 11 (u0_0) rfl sc22 rfl rfl) (dbits 11 7) ?_
          refine aL 3 (.agg #[u12696]) rfl rfl (hM12758 3 rfl) (rfl) (fun _ hB_ => by exact r_loadA (hC.grow hB_) 0 [u12696] rfl ag55 (sx hS_ 12 rfl) rfl rfl) (dbits 11 15) ?_
          refine aL 4 (.agg (List.toArray (A8.enc .u8 s12627.2))) rfl rfl (hM12758 4 rfl) (rfl) (fun _ hB_ => by exact r_loadA (hC.grow hB_) 4 (A8.enc .u8 s12627.2) rfl ag136 (sx hS_ 8 rfl) rfl rfl) (dbits 11 31) ?_
          refine aF 7 (.int .i64 (IntKind.i64.wrap (0 - (IntKind.i64.wrap (((a1.terms.getD s8748.2.toNat default).factor) * (IntKind.i64.wrap (((a1.terms.getD s8748.2.toNat default).mono).get s11656.2.toNat))))))) rfl rfl (hM12759 7 rfl) (rfl) (fun _ => by exact r_mv (v := .int .i64 (IntKind.i64.wrap (0 - (IntKind.i64.wrap (((a1.terms.getD s8748.2.toNat default).factor) * (IntKind.i64.wrap (((a1.terms.getD s8748.2.toNat default).mono).get s11656.2.toNat))))))) (sx hS_ 11 rfl)) (dbits 11 159) ?_
          refine aO 5 rfl ?_
          refine s_call [.agg (List.toArray (A8.enc .u8 s12627.2)), .int .i64 1] _ Tryz.func95 rfl rfl rfl (c_spec_l01Single s12627.2 1 h _) (fun ret12760 w12762 hR12761 => ?_)
          obtain ⟨r12763, u12764, f12765, rfl, h, hr12766, hf12767, hB12768⟩ := hR12761
          refine ⟨_, rfl, ?_⟩
          replace hC := hC.push hB12768 (Tr.item (TrForm 162) r12763 [u12764] f12765) hr12766 hf12767
          obtain ⟨ho12770, hf12771⟩ := form_split (hC.getM 0 rfl)
          subst hf12771
          replace hC := hC.recast (c := own 162 9 u12764 r12763.terms.length (ETerm.encs r12763.terms)) (fun _ h_ => h_) (fun _ => ho12770)
          refine done ?_
          refine aK (by assumption) (dbits 11 191) ?_
          refine aO 6 rfl ?_
          refine s_call [u0_0, .agg #[u12696], .agg #[u12764]] _ Tryz.func123 rfl rfl rfl (c_spec_l01Times a0.degrees r12695 r12763 h _ (hC.getP 3 rfl) (form_mk (own_repE (hC.getM 2 rfl))) (form_mk (own_repE (hC.getM 0 rfl)))) (fun ret12773 w12775 hR12774 => ?_)
          obtain ⟨r12776, u12777, f12778, rfl, h, hr12779, hf12780, hB12781⟩ := hR12774
          refine ⟨_, rfl, ?_⟩
          replace hC := hC.push hB12781 (Tr.item (TrForm 162) r12776 [u12777] f12778) hr12779 hf12780
          obtain ⟨ho12783, hf12784⟩ := form_split (hC.getM 0 rfl)
          subst hf12784
          replace hC := hC.recast (c := own 162 9 u12777 r12776.terms.length (ETerm.encs r12776.terms)) (fun _ h_ => h_) (fun _ => ho12783)
          refine done ?_
          refine aK (by assumption) (dbits 11 255) ?_
          refine aO 8 rfl ?_
          refine s_call [.int .i64 (IntKind.i64.wrap (0 - (IntKind.i64.wrap (((a1.terms.getD s8748.2.toNat default).factor) * (IntKind.i64.wrap (((a1.terms.getD s8748.2.toNat default).mono).get s11656.2.toNat))))))] _ Tryz.func125 rfl rfl rfl (c_spec_l01Mod (IntKind.i64.wrap (0 - (IntKind.i64.wrap (((a1.terms.getD s8748.2.toNat default).factor) * (IntKind.i64.wrap (((a1.terms.getD s8748.2.toNat default).mono).get s11656.2.toNat)))))) h _) (fun ret12786 w12788 hR12787 => ?_)
          obtain ⟨r12789, rfl, h, hB12790⟩ := hR12787
          refine ⟨_, rfl, ?_⟩
          replace hC := hC.grow hB12790
          refine done ?_
          refine aK (by assumption) (dbits 11 511) ?_
          refine ae_tail 9 (by decide) (by decide) (by kernel_rfl) (by kernel_rfl) rfl ?_
          refine s_call [.agg #[v11657], .agg #[u12777], .int .i64 r12789] _ Tryz.func124 rfl rfl rfl (c_spec_l01Add (⟨s11656.1⟩ : Vc.Form) r12776 r12789 h _ (form_mk (own_repE (hC.getM 8 rfl))) (form_mk (own_repE (hC.getM 0 rfl)))) (fun ret12791 w12793 hR12792 => ?_)
          obtain ⟨r12794, u12795, f12796, rfl, h, hr12797, hf12798, hB12799⟩ := hR12792
          refine ⟨_, rfl, ?_⟩
          replace hC := hC.push hB12799 (Tr.item (TrForm 162) r12794 [u12795] f12796) hr12797 hf12798
          obtain ⟨ho12801, hf12802⟩ := form_split (hC.getM 0 rfl)
          subst hf12802
          replace hC := hC.recast (c := own 162 9 u12795 r12794.terms.length (ETerm.encs r12794.terms)) (fun _ h_ => h_) (fun _ => ho12801)
          refine s_store (v := .agg #[u12795]) hC 11 [u12795] [u12795] rfl ag55.size (sx hS_ 3 rfl) rfl rfl rfl (all_c (own_oneC (hC.getM 0 rfl)) rfl) (Nat.le_of_ble_eq_true rfl) rfl fun w12804 hC => ?_
          refine done ?_
          refine qn_norm ?_
          refine blk_norm ?_
          refine then_norm ?_
          refine cw_region ?_
          refine s_mv (v := .int .i64 s11656.2) (sx hS_ 6 rfl) ?_
          refine s_add rfl rfl ?_
          refine s_as (v := .int .i64 (IntKind.i64.wrap (s11656.2 + 1))) rfl ?_
          refine done ?_
          replace hC := hC.sM [0, 10, 11, 12, 13, 14] (M' := [own 162 9 u12795 r12794.terms.length (ETerm.encs r12794.terms), blk b8764 136 (A8.enc .u8 ((a1.terms.getD s8748.2.toNat default).mono)), blk b17 55 [u12795], blk b14 55 [.slice none 0 0], blk b11 55 [u1_0], blk b8 32 [u0_0, u0_1]]) (by decide) rfl
          replace hC := hC.sP [1, 2, 3, 4, 5] (Ps' := [Ty.item ETerm.ty.sl a1.terms [u1_0] fp1, Ty.item TForm.sl a0.images [u0_1] fp0, Ty.item ((EI .i64).ty.sl) a0.degrees [u0_0] fp0, Ty.item TAlg a0 [u0_0, u0_1] fp0, Ty.item TForm a1 [u1_0] fp1]) rfl
          exact hK11661 (r12794.terms, IntKind.i64.wrap (s11656.2 + 1)) _ _ ⟨u12795, (sk (sx hS_ 0 rfl) (sk (sx hS_ 1 rfl) (sk (sx hS_ 2 rfl) (sk (sx hS_ 3 rfl) (sk (sx hS_ 4 rfl) (sk (sx hS_ 5 rfl) (sk rfl (sk (sx hS_ 13 rfl) (sk (sx hS_ 14 rfl) (sk (sx hS_ 15 rfl) (sk (sx hS_ 16 rfl) (sk (sx hS_ 17 rfl) (sk (sx hS_ 18 rfl) (sk (sx hS_ 19 rfl) (sk (sx hS_ 20 rfl) (sk (sx hS_ 21 rfl) (sk (sx hS_ 22 rfl) (sk (sx hS_ 23 rfl) sn)))))))))))))))))), hC⟩ h
         refine ae_two 3 10 rfl rfl (by kernel_rfl) ?_ ?_
         ·skip
          refine s_call [.agg (List.toArray (A8.enc .u8 (s12627.1.set s11656.2.toNat (IntKind.u8.wrap ((((a1.terms.getD s8748.2.toNat default).mono).get s11656.2.toNat) - 1))))), .int .i64 1] _ Tryz.func95 rfl rfl rfl (c_spec_l01Single (s12627.1.set s11656.2.toNat (IntKind.u8.wrap ((((a1.terms.getD s8748.2.toNat default).mono).get s11656.2.toNat) - 1))) 1 h _) (fun ret12805 w12807 hR12806 => ?_)
          obtain ⟨r12808, u12809, f12810, rfl, h, hr12811, hf12812, hB12813⟩ := hR12806
          refine ⟨_, rfl, ?_⟩
          replace hC := hC.push hB12813 (Tr.item (TrForm 162) r12808 [u12809] f12810) hr12811 hf12812
          obtain ⟨ho12815, hf12816⟩ := form_split (hC.getM 0 rfl)
          subst hf12816
          replace hC := hC.recast (c := own 162 9 u12809 r12808.terms.length (ETerm.encs r12808.terms)) (fun _ h_ => h_) (fun _ => ho12815)
          refine done ?_
          refine aK (by assumption) (dbits 12 511) ?_
          refine ae_two 9 10 rfl rfl (by kernel_rfl) ?_ ?_
          ·skip
           refine s_call [u0_0, .agg #[u12809], .agg #[u12673]] _ Tryz.func123 rfl rfl rfl (c_spec_l01Times a0.degrees r12808 (a0.images.getD s11656.2.toNat default) h _ (hC.getP 3 rfl) (form_mk (own_repE (hC.getM 0 rfl))) (form_mk (hC.getP 0 rfl))) (fun ret12818 w12820 hR12819 => ?_)
           obtain ⟨r12821, u12822, f12823, rfl, h, hr12824, hf12825, hB12826⟩ := hR12819
           refine ⟨_, rfl, ?_⟩
           replace hC := hC.push hB12826 (Tr.item (TrForm 162) r12821 [u12822] f12823) hr12824 hf12825
           obtain ⟨ho12828, hf12829⟩ := form_split (hC.getM 0 rfl)
           subst hf12829
           replace hC := hC.recast (c := own 162 9 u12822 r12821.terms.length (ETerm.encs r12821.terms)) (fun _ h_ => h_) (fun _ => ho12828)
           refine done ?_
           refine aK (by assumption) (dbits 12 1023) ?_
           refine aO 10 rfl ?_
           refine s_alloc hC [.slice none 0 0] z55 rfl fun b12831 w12833 hB_ hC => ?_
           refine done ?_
           refine aK (by assumption) (dbits 12 2047) ?_
           refine ae_tail 11 (by decide) (by decide) (by kernel_rfl) (by kernel_rfl) rfl ?_
           refine s_store (v := .agg #[u12822]) hC 0 [u12822] [u12822] rfl ag55.size rfl rfl rfl rfl (all_c (own_oneC (hC.getM 1 rfl)) rfl) (Nat.le_of_ble_eq_true rfl) rfl fun w12834 hC => ?_
           refine done ?_
           refine qn_norm ?_
           exact ⟨rfl, _, rfl, ⟨b12831, u12822, r12821, u12809, r12808, (sk (sx hS_ 0 rfl) (sk (sx hS_ 1 rfl) (sk (sx hS_ 2 rfl) (sk (sx hS_ 3 rfl) (sk (sx hS_ 4 rfl) (sk (sx hS_ 5 rfl) (sk (sx hS_ 6 rfl) (sk (sx hS_ 7 rfl) (sk (sx hS_ 8 rfl) (sk (sx hS_ 9 rfl) (sk rfl (sk rfl (sk rfl (sk (sx hS_ 10 rfl) (sk (sx hS_ 11 rfl) (sk (sx hS_ 12 rfl) (sk (sx hS_ 13 rfl) (sk (sx hS_ 14 rfl) (sk (sx hS_ 15 rfl) (sk (sx hS_ 16 rfl) (sk (sx hS_ 17 rfl) (sk (sx hS_ 18 rfl) (sk (sx hS_ 19 rfl) (sk (sx hS_ 20 rfl) (sk (sx hS_ 21 rfl) (sk (sx hS_ 22 rfl) (sk (sx hS_ 23 rfl) (sk (sx hS_ 24 rfl) (sk (sx hS_ 25 rfl) (sk (sx hS_ 26 rfl) (sk (sx hS_ 27 rfl) (sk (sx hS_ 28 rfl) (sk (sx hS_ 29 rfl) (sk (sx hS_ 30 rfl) (sk (sx hS_ 31 rfl) (sk rfl (sk rfl (sk rfl (sk rfl (sk rfl (sk rfl (sk rfl (sk rfl (sk rfl (sk rfl (sk rfl (sk rfl (sk rfl (sk rfl (sk rfl (sk rfl (sk rfl (sk rfl (sk rfl (sk rfl (sk rfl (sk rfl (sk rfl (sk rfl (sk rfl (sk rfl (sk rfl (sk rfl (sk rfl (sk rfl (sk rfl (sk rfl (sk rfl (sk rfl (sk rfl (sk rfl (sk rfl (sk rfl sn))))))))))))))))))))))))))))))))))))))))))))))))))))))))))))))))))))))))), hC, h⟩⟩
          ·skip
           refine s_alloc hC [.slice none 0 0] z55 rfl fun b12835 w12837 hB_ hC => ?_
           refine done ?_
           refine aK (by assumption) (dbits 12 1535) ?_
           refine aO 9 rfl ?_
           refine s_call [u0_0, .agg #[u12809], .agg #[u12673]] _ Tryz.func123 rfl rfl rfl (c_spec_l01Times a0.degrees r12808 (a0.images.getD s11656.2.toNat default) h _ (hC.getP 3 rfl) (form_mk (own_repE (hC.getM 1 rfl))) (form_mk (hC.getP 0 rfl))) (fun ret12838 w12840 hR12839 => ?_)
           obtain ⟨r12841, u12842, f12843, rfl, h, hr12844, hf12845, hB12846⟩ := hR12839
           refine ⟨_, rfl, ?_⟩
           replace hC := hC.push hB12846 (Tr.item (TrForm 162) r12841 [u12842] f12843) hr12844 hf12845
           obtain ⟨ho12848, hf12849⟩ := form_split (hC.getM 0 rfl)
           subst hf12849
           replace hC := hC.recast (c := own 162 9 u12842 r12841.terms.length (ETerm.encs r12841.terms)) (fun _ h_ => h_) (fun _ => ho12848)
           refine done ?_
           refine aK (by assumption) (dbits 12 2047) ?_
           refine ae_tail 11 (by decide) (by decide) (by kernel_rfl) (by kernel_rfl) rfl ?_
           refine s_store (v := .agg #[u12842]) hC 1 [u12842] [u12842] rfl ag55.size rfl rfl rfl rfl (all_c (own_oneC (hC.getM 0 rfl)) rfl) (Nat.le_of_ble_eq_true rfl) rfl fun w12851 hC => ?_
           refine done ?_
           refine qn_norm ?_
           replace hC := hC.sM [1, 0, 2, 3, 4, 5, 6, 7, 8, 9, 10, 11] (M' := [blk b12835 55 [u12842], own 162 9 u12842 r12841.terms.length (ETerm.encs r12841.terms), own 162 9 u12809 r12808.terms.length (ETerm.encs r12808.terms), blk b12640 136 (A8.enc .u8 (s12627.1.set s11656.2.toNat (IntKind.u8.wrap ((((a1.terms.getD s8748.2.toNat default).mono).get s11656.2.toNat) - 1)))), blk b11676 136 (A8.enc .u8 s12627.2), blk b11673 136 (A8.enc .u8 s12627.1), own 162 9 v11657 s11656.1.length (ETerm.encs s11656.1), blk b8764 136 (A8.enc .u8 ((a1.terms.getD s8748.2.toNat default).mono)), blk b17 55 [v11657], blk b14 55 [.slice none 0 0], blk b11 55 [u1_0], blk b8 32 [u0_0, u0_1]]) (by decide) rfl
           exact ⟨rfl, _, rfl, ⟨b12835, u12842, r12841, u12809, r12808, (sk (sx hS_ 0 rfl) (sk (sx hS_ 1 rfl) (sk (sx hS_ 2 rfl) (sk (sx hS_ 3 rfl) (sk (sx hS_ 4 rfl) (sk (sx hS_ 5 rfl) (sk (sx hS_ 6 rfl) (sk (sx hS_ 7 rfl) (sk (sx hS_ 8 rfl) (sk (sx hS_ 9 rfl) (sk rfl (sk rfl (sk rfl (sk (sx hS_ 10 rfl) (sk (sx hS_ 11 rfl) (sk (sx hS_ 12 rfl) (sk (sx hS_ 13 rfl) (sk (sx hS_ 14 rfl) (sk (sx hS_ 15 rfl) (sk (sx hS_ 16 rfl) (sk (sx hS_ 17 rfl) (sk (sx hS_ 18 rfl) (sk (sx hS_ 19 rfl) (sk (sx hS_ 20 rfl) (sk (sx hS_ 21 rfl) (sk (sx hS_ 22 rfl) (sk (sx hS_ 23 rfl) (sk (sx hS_ 24 rfl) (sk (sx hS_ 25 rfl) (sk (sx hS_ 26 rfl) (sk (sx hS_ 27 rfl) (sk (sx hS_ 28 rfl) (sk (sx hS_ 29 rfl) (sk (sx hS_ 30 rfl) (sk (sx hS_ 31 rfl) (sk rfl (sk rfl (sk rfl (sk rfl (sk rfl (sk rfl (sk rfl (sk rfl (sk rfl (sk rfl (sk rfl (sk rfl (sk rfl (sk rfl (sk rfl (sk rfl (sk rfl (sk rfl (sk rfl (sk rfl (sk rfl (sk rfl (sk rfl (sk rfl (sk rfl (sk rfl (sk rfl (sk rfl (sk rfl (sk rfl (sk rfl (sk rfl (sk rfl (sk rfl (sk rfl (sk rfl (sk rfl (sk rfl sn))))))))))))))))))))))))))))))))))))))))))))))))))))))))))))))))))))))))), hC, h⟩⟩
         ·skip
          refine s_alloc hC [.slice none 0 0] z55 rfl fun b12852 w12854 hB_ hC => ?_
          refine done ?_
          refine aK (by assumption) (dbits 12 1527) ?_
          refine aO 3 rfl ?_
          refine s_call [.agg (List.toArray (A8.enc .u8 (s12627.1.set s11656.2.toNat (IntKind.u8.wrap ((((a1.terms.getD s8748.2.toNat default).mono).get s11656.2.toNat) - 1))))), .int .i64 1] _ Tryz.func95 rfl rfl rfl (c_spec_l01Single (s12627.1.set s11656.2.toNat (IntKind.u8.wrap ((((a1.terms.getD s8748.2.toNat default).mono).get s11656.2.toNat) - 1))) 1 h _) (fun ret12855 w12857 hR12856 => ?_)
          obtain ⟨r12858, u12859, f12860, rfl, h, hr12861, hf12862, hB12863⟩ := hR12856
          refine ⟨_, rfl, ?_⟩
          replace hC := hC.push hB12863 (Tr.item (TrForm 162) r12858 [u12859] f12860) hr12861 hf12862
          obtain ⟨ho12865, hf12866⟩ := form_split (hC.getM 0 rfl)
          subst hf12866
          replace hC := hC.recast (c := own 162 9 u12859 r12858.terms.length (ETerm.encs r12858.terms)) (fun _ h_ => h_) (fun _ => ho12865)
          refine done ?_
          refine aK (by assumption) (dbits 12 1535) ?_
          refine aO 9 rfl ?_
          refine s_call [u0_0, .agg #[u12859], .agg #[u12673]] _ Tryz.func123 rfl rfl rfl (c_spec_l01Times a0.degrees r12858 (a0.images.getD s11656.2.toNat default) h _ (hC.getP 3 rfl) (form_mk (own_repE (hC.getM 0 rfl))) (form_mk (hC.getP 0 rfl))) (fun ret12868 w12870 hR12869 => ?_)
          obtain ⟨r12871, u12872, f12873, rfl, h, hr12874, hf12875, hB12876⟩ := hR12869
          refine ⟨_, rfl, ?_⟩
          replace hC := hC.push hB12876 (Tr.item (TrForm 162) r12871 [u12872] f12873) hr12874 hf12875
          obtain ⟨ho12878, hf12879⟩ := form_split (hC.getM 0 rfl)
          subst hf12879
          replace hC := hC.recast (c := own 162 9 u12872 r12871.terms.length (ETerm.encs r12871.terms)) (fun _ h_ => h_) (fun _ => ho12878)
          refine done ?_
          refine aK (by assumption) (dbits 12 2047) ?_
          refine ae_tail 11 (by decide) (by decide) (by kernel_rfl) (by kernel_rfl) rfl ?_
          refine s_store (v := .agg #[u12872]) hC 2 [u12872] [u12872] rfl ag55.size rfl rfl rfl rfl (all_c (own_oneC (hC.getM 0 rfl)) rfl) (Nat.le_of_ble_eq_true rfl) rfl fun w12881 hC => ?_
          refine done ?_
          refine qn_norm ?_
          replace hC := hC.sM [2, 0, 1, 3, 4, 5, 6, 7, 8, 9, 10, 11] (M' := [blk b12852 55 [u12872], own 162 9 u12872 r12871.terms.length (ETerm.encs r12871.terms), own 162 9 u12859 r12858.terms.length (ETerm.encs r12858.terms), blk b12640 136 (A8.enc .u8 (s12627.1.set s11656.2.toNat (IntKind.u8.wrap ((((a1.terms.getD s8748.2.toNat default).mono).get s11656.2.toNat) - 1)))), blk b11676 136 (A8.enc .u8 s12627.2), blk b11673 136 (A8.enc .u8 s12627.1), own 162 9 v11657 s11656.1.length (ETerm.encs s11656.1), blk b8764 136 (A8.enc .u8 ((a1.terms.getD s8748.2.toNat default).mono)), blk b17 55 [v11657], blk b14 55 [.slice none 0 0], blk b11 55 [u1_0], blk b8 32 [u0_0, u0_1]]) (by decide) rfl
          exact ⟨rfl, _, rfl, ⟨b12852, u12872, r12871, u12859, r12858, (sk (sx hS_ 0 rfl) (sk (sx hS_ 1 rfl) (sk (sx hS_ 2 rfl) (sk (sx hS_ 3 rfl) (sk (sx hS_ 4 rfl) (sk (sx hS_ 5 rfl) (sk (sx hS_ 6 rfl) (sk (sx hS_ 7 rfl) (sk (sx hS_ 8 rfl) (sk (sx hS_ 9 rfl) (sk rfl (sk rfl (sk rfl (sk (sx hS_ 10 rfl) (sk (sx hS_ 11 rfl) (sk (sx hS_ 12 rfl) (sk (sx hS_ 13 rfl) (sk (sx hS_ 14 rfl) (sk (sx hS_ 15 rfl) (sk (sx hS_ 16 rfl) (sk (sx hS_ 17 rfl) (sk (sx hS_ 18 rfl) (sk (sx hS_ 19 rfl) (sk (sx hS_ 20 rfl) (sk (sx hS_ 21 rfl) (sk (sx hS_ 22 rfl) (sk (sx hS_ 23 rfl) (sk (sx hS_ 24 rfl) (sk (sx hS_ 25 rfl) (sk (sx hS_ 26 rfl) (sk (sx hS_ 27 rfl) (sk (sx hS_ 28 rfl) (sk (sx hS_ 29 rfl) (sk (sx hS_ 30 rfl) (sk (sx hS_ 31 rfl) (sk rfl (sk rfl (sk rfl (sk rfl (sk rfl (sk rfl (sk rfl (sk rfl (sk rfl (sk rfl (sk rfl (sk rfl (sk rfl (sk rfl (sk rfl (sk rfl (sk rfl (sk rfl (sk rfl (sk rfl (sk rfl (sk rfl (sk rfl (sk rfl (sk rfl (sk rfl (sk rfl (sk rfl (sk rfl (sk rfl (sk rfl (sk rfl (sk rfl (sk rfl (sk rfl (sk rfl (sk rfl (sk rfl sn))))))))))))))))))))))))))))))))))))))))))))))))))))))))))))))))))))))))), hC, h⟩⟩
        ·replace h := iff_ h (cf hb12664)
         refine wp_skip ?_
         refine then_norm ?_
         refine wp_seq ?_
         refine cw_draw 11 mixed [0, 1, 0, 4, 0, 16, 0, 112, 240, 511, 0, 2047] [1, 2, 5, 7, 8] [0, 4, 6] (by kernel_rfl) (by kernel_rfl) (by kernel_rfl) (fun hM12883 hM12884 w12882 hB_ => ?_)
         replace hC := hC.grow hB_
         refine aF 0 (.pointer (some ⟨b8, 0, none⟩)) rfl rfl (hM12884 0 rfl) (rfl) (fun _ => by exact r_faddrB 0 Tryz.underlying32 rfl sc22.size (sx hS_ 0 rfl) rfl) (dbits 12 1) ?_
         refine aL 1 (u0_0) rfl rfl (hM12883 1 rfl) (rfl) (fun _ hB_ => by exact r_loadS (hC.grow hB_) 8 (u0_0) rfl sc22 rfl rfl) (dbits 12 3) ?_
         refine aL 2 (.agg (List.toArray (A8.enc .u8 (s12627.1.set s11656.2.toNat (IntKind.u8.wrap ((((a1.terms.getD s8748.2.toNat default).mono).get s11656.2.toNat) - 1)))))) rfl rfl (hM12883 2 rfl) (rfl) (fun _ hB_ => by exact r_loadA (hC.grow hB_) 0 (A8.enc .u8 (s12627.1.set s11656.2.toNat (IntKind.u8.wrap ((((a1.terms.getD s8748.2.toNat default).mono).get s11656.2.toNat) - 1)))) rfl ag136 rfl rfl rfl) (dbits 12 7) ?_
         refine aF 4 (.pointer (some ⟨b8, 1, none⟩)) rfl rfl (hM12884 4 rfl) (rfl) (fun _ => by exact r_faddrB 1 Tryz.underlying32 rfl sc30.size (sx hS_ 0 rfl) rfl) (dbits 12 23) ?_
         refine aL 5 (u0_1) rfl rfl (hM12883 5 rfl) (rfl) (fun _ hB_ => by exact r_loadS (hC.grow hB_) 8 (u0_1) rfl sc30 rfl rfl) (dbits 12 55) ?_
         refine aF 6 (.int .i64 s11656.2) rfl rfl (hM12884 6 rfl) (rfl) (fun _ => by exact r_mv (v := .int .i64 s11656.2) (sx hS_ 6 rfl)) (dbits 12 119) ?_
         obtain ⟨⟨h0_12885, h1_12886⟩, h⟩ := h
         obtain ⟨Ad12887, c12888, hv12889⟩ := sl_form (hC.getP 1 rfl) s11656.2.toNat (show s11656.2.toNat < a0.images.length by omega)
         refine aL 7 (.pointer (some (Ad12887.add (s11656.2.toNat * 1)))) rfl rfl (hM12883 7 rfl) (rfl) (fun _ hB_ => by exact r_iaddrS (len := a0.images.length) Tryz.underlying30 ag55.size (by exact tr rfl hv12889) rfl h0_12885 h1_12886) (dbits 12 247) ?_
         obtain ⟨cs_, hl12891, hc12892, hr12893⟩ := sl_cells (hC.getP 1 rfl) hv12889 s11656.2.toNat (show s11656.2.toNat < a0.images.length by omega)
         obtain ⟨u12890, rfl⟩ := List.length_eq_one_iff.1 hl12891
         clear hl12891
         rw [getD_eq _ _ (show s11656.2.toNat < a0.images.length by omega)] at hr12893
         have hp12894 := hr12893
         replace hC := hC.derive 1 rfl (Ty.item ETerm.ty.sl ((a0.images.getD s11656.2.toNat default).terms) [u12890] fp0) (fun _ => (form_parts hp12894)) (fun _ hb_ => hb_)
         refine aL 8 (.agg #[u12890]) rfl rfl (hM12883 8 rfl) (rfl) (fun _ hB_ => by exact r_loadCA [u12890] (cellsAt_bel hB_ hc12892) ag55 rfl rfl) (dbits 12 503) ?_
         refine ae_join (fun e_ w_ => ∃ (b12922 : Nat), ∃ (u12913 : Value), ∃ (r12912 : Vc.Form), ∃ (u12900 : Value), ∃ (r12899 : Vc.Form), Slots e_ [(2, .pointer (some ⟨b8, 0, none⟩)), (3, .pointer (some ⟨b11, 0, none⟩)), (4, .pointer (some ⟨b14, 0, none⟩)), (5, .pointer (some ⟨b17, 0, none⟩)), (6, .int .i64 s8748.2), (7, .pointer (some ⟨b8764, 0, none⟩)), (8, .int .i64 s11656.2), (9, .pointer (some ⟨b11673, 0, none⟩)), (10, .pointer (some ⟨b11676, 0, none⟩)), (11, .int .i64 8), (12, .pointer (some ⟨b12640, 0, none⟩)), (13, .int .i64 (IntKind.i64.wrap (((a1.terms.getD s8748.2.toNat default).factor) * (IntKind.i64.wrap (((a1.terms.getD s8748.2.toNat default).mono).get s11656.2.toNat))))), (14, .pointer (some ⟨b12922, 0, none⟩)), (16, .int .i64 s8748.2), (17, .pointer (some ⟨b11, 0, none⟩)), (18, u1_0), (19, .int .i64 (a1.terms.length : Int)), (20, .bool (decide (s8748.2 < (a1.terms.length : Int)))), (23, .pointer (some ⟨b11, 0, none⟩)), (24, u1_0), (25, .int .i64 s8748.2), (26, .pointer (some (Ad8761.add (s8748.2.toNat * 9)))), (27, .pointer (some (Ad8761.add (s8748.2.toNat * 9 + 0)))), (28, .agg (List.toArray (A8.enc .u8 ((a1.terms.getD s8748.2.toNat default).mono)))), (29, .int .i64 s11656.2), (30, .pointer (some ⟨b8, 0, none⟩)), (31, u0_0), (32, .int .i64 (a0.degrees.length : Int)), (33, .bool (decide (s11656.2 < (a0.degrees.length : Int)))), (36, .int .i64 s11656.2), (37, .pointer (some ⟨b8764, s11656.2.toNat, none⟩)), (38, .int .u8 (((a1.terms.getD s8748.2.toNat default).mono).get s11656.2.toNat)), (39, .bool (decide (((a1.terms.getD s8748.2.toNat default).mono).get s11656.2.toNat = 0))), (40, .agg (List.toArray (A8.enc .u8 ((a1.terms.getD s8748.2.toNat default).mono)))), (41, .agg (List.toArray (A8.enc .u8 ((a1.terms.getD s8748.2.toNat default).mono)))), (42, .int .i64 8), (43, .bool (decide (8 < 8))), (56, .agg (List.toArray (A8.enc .u8 s12627.1))), (57, .int .i64 s11656.2), (58, .int .i64 s11656.2), (59, .pointer (some ⟨b8764, s11656.2.toNat, none⟩)), (60, .int .u8 (((a1.terms.getD s8748.2.toNat default).mono).get s11656.2.toNat)), (61, .int .u8 (IntKind.u8.wrap ((((a1.terms.getD s8748.2.toNat default).mono).get s11656.2.toNat) - 1))), (62, .pointer (some ⟨b12640, s11656.2.toNat, none⟩)), (63, .pointer (some ⟨b11, 0, none⟩)), (64, u1_0), (65, .int .i64 s8748.2), (66, .pointer (some (Ad12654.add (s8748.2.toNat * 9)))), (67, .pointer (some (Ad12654.add (s8748.2.toNat * 9 + 8)))), (68, .int .i64 ((a1.terms.getD s8748.2.toNat default).factor)), (69, .int .i64 s11656.2), (70, .pointer (some ⟨b8764, s11656.2.toNat, none⟩)), (71, .int .u8 (((a1.terms.getD s8748.2.toNat default).mono).get s11656.2.toNat)), (72, .int .i64 (IntKind.i64.wrap (((a1.terms.getD s8748.2.toNat default).mono).get s11656.2.toNat))), (73, .int .i64 (IntKind.i64.wrap (((a1.terms.getD s8748.2.toNat default).factor) * (IntKind.i64.wrap (((a1.terms.getD s8748.2.toNat default).mono).get s11656.2.toNat))))), (74, .pointer (some ⟨b8, 0, none⟩)), (75, u0_0), (76, .agg (List.toArray (A8.enc .u8 s12627.1))), (77, .int .i64 r12662), (78, .int .i64 (Int.tmod r12662 2)), (79, .bool (decide (Int.tmod r12662 2 ≠ 0))), (82, .pointer (some ⟨b8, 0, none⟩)), (83, u0_0), (84, .agg (List.toArray (A8.enc .u8 (s12627.1.set s11656.2.toNat (IntKind.u8.wrap ((((a1.terms.getD s8748.2.toNat default).mono).get s11656.2.toNat) - 1)))))), (85, .agg #[u12900]), (86, .pointer (some ⟨b8, 1, none⟩)), (87, u0_1), (88, .int .i64 s11656.2), (89, .pointer (some (Ad12887.add (s11656.2.toNat * 1)))), (90, .agg #[u12890]), (91, .agg #[u12913])] ∧ Ctx Nox w0 w_ [blk b12922 55 [u12913], own 162 9 u12913 r12912.terms.length (ETerm.encs r12912.terms), own 162 9 u12900 r12899.terms.length (ETerm.encs r12899.terms), blk b12640 136 (A8.enc .u8 (s12627.1.set s11656.2.toNat (IntKind.u8.wrap ((((a1.terms.getD s8748.2.toNat default).mono).get s11656.2.toNat) - 1)))), blk b11676 136 (A8.enc .u8 s12627.2), blk b11673 136 (A8.enc .u8 s12627.1), own 162 9 v11657 s11656.1.length (ETerm.encs s11656.1), blk b8764 136 (A8.enc .u8 ((a1.terms.getD s8748.2.toNat default).mono)), blk b17 55 [v11657], blk b14 55 [.slice none 0 0], blk b11 55 [u1_0], blk b8 32 [u0_0, u0_1]] [Ty.item ETerm.ty.sl ((a0.images.getD s11656.2.toNat default).terms) [u12890] fp0, Ty.item ETerm.ty.sl a1.terms [u1_0] fp1, Ty.item TForm.sl a0.images [u0_1] fp0, Ty.item ((EI .i64).ty.sl) a0.degrees [u0_0] fp0, Ty.item TAlg a0 [u0_0, u0_1] fp0, Ty.item TForm a1 [u1_0] fp1] ∧ (f_spec_l01Single s12627.2 1 (fun r12980 => f_spec_l01Times a0.degrees r12912 r12980 (fun r12993 => f_spec_l01Mod (IntKind.i64.wrap (((a1.terms.getD s8748.2.toNat default).factor) * (IntKind.i64.wrap (((a1.terms.getD s8748.2.toNat default).mono).get s11656.2.toNat)))) (fun r13006 => f_spec_l01Add (⟨s11656.1⟩ : Vc.Form) r12993 r13006 (fun r13011 => next11659 (r13011.terms, IntKind.i64.wrap (s11656.2 + 1)))))))) ?_ ?_
         ·clear hC h
          rintro e_ w12973 ⟨b12922, u12913, r12912, u12900, r12899, hS_, hC, h⟩
          refine then_norm ?_
          refine cw_draw 9 mixed [0, 0, 2, 0, 0, 16, 62, 0, 254, 511, 1023] [0, 2, 3, 4] [1, 7] (by kernel_rfl) (by kernel_rfl) (by kernel_rfl) (fun hM12975 hM12976 w12974 hB_ => ?_)
          replace hC := hC.grow hB_
          refine aL 0 (.agg #[v11657]) rfl rfl (hM12975 0 rfl) (rfl) (fun _ hB_ => by exact r_loadA (hC.grow hB_) 8 [v11657] rfl ag55 (sx hS_ 3 rfl) rfl rfl) (dbits 11 1) ?_
          refine aF 1 (.pointer (some ⟨b8, 0, none⟩)) rfl rfl (hM12976 1 rfl) (rfl) (fun _ => by exact r_faddrB 0 Tryz.underlying32 rfl sc22.size (sx hS_ 0 rfl) rfl) (dbits 11 3) ?_
          refine aL 2 (u0_0) rfl rfl (hM12975 2 rfl) (rfl) (fun _ hB_ => by exact r_loadS (hC.grow hB_) 11 (u0_0) rfl sc22 rfl rfl) (dbits 11 7) ?_
          refine aL 3 (.agg #[u12913]) rfl rfl (hM12975 3 rfl) (rfl) (fun _ hB_ => by exact r_loadA (hC.grow hB_) 0 [u12913] rfl ag55 (sx hS_ 12 rfl) rfl rfl) (dbits 11 15) ?_
          refine aL 4 (.agg (List.toArray (A8.enc .u8 s12627.2))) rfl rfl (hM12975 4 rfl) (rfl) (fun _ hB_ => by exact r_loadA (hC.grow hB_) 4 (A8.enc .u8 s12627.2) rfl ag136 (sx hS_ 8 rfl) rfl rfl) (dbits 11 31) ?_
          refine aF 7 (.int .i64 (IntKind.i64.wrap (((a1.terms.getD s8748.2.toNat default).factor) * (IntKind.i64.wrap (((a1.terms.getD s8748.2.toNat default).mono).get s11656.2.toNat))))) rfl rfl (hM12976 7 rfl) (rfl) (fun _ => by exact r_mv (v := .int .i64 (IntKind.i64.wrap (((a1.terms.getD s8748.2.toNat default).factor) * (IntKind.i64.wrap (((a1.terms.getD s8748.2.toNat default).mono).get s11656.2.toNat))))) (sx hS_ 11 rfl)) (dbits 11 159) ?_
          refine aO 5 rfl ?_
          refine s_call [.agg (List.toArray (A8.enc .u8 s12627.2)), .int .i64 1] _ Tryz.func95 rfl rfl rfl (c_spec_l01Single s12627.2 1 h _) (fun ret12977 w12979 hR12978 => ?_)
          obtain ⟨r12980, u12981, f12982, rfl, h, hr12983, hf12984, hB12985⟩ := hR12978
          refine ⟨_, rfl, ?_⟩
          replace hC := hC.push hB12985 (Tr.item (TrForm 162) r12980 [u12981] f12982) hr12983 hf12984
          obtain ⟨ho12987, hf12988⟩ := form_split (hC.getM 0 rfl)
          subst hf12988
          replace hC := hC.recast (c := own 162 9 u12981 r12980.terms.length (ETerm.encs r12980.terms)) (fun _ h_ => h_) (fun _ => ho12987)
          refine done ?_
          refine aK (by assumption) (dbits 11 191) ?_
          refine aO 6 rfl ?_
          refine s_call [u0_0, .agg #[u12913], .agg #[u12981]] _ Tryz.func123 rfl rfl rfl (c_spec_l01Times a0.degrees r12912 r12980 h _ (hC.getP 3 rfl) (form_mk (own_repE (hC.getM 2 rfl))) (form_mk (own_repE (hC.getM 0 rfl)))) (fun ret12990 w12992 hR12991 => ?_)
          obtain ⟨r12993, u12994, f12995, rfl, h, hr12996, hf12997, hB12998⟩ := hR12991
          refine ⟨_, rfl, ?_⟩
          replace hC := hC.push hB12998 (Tr.item (TrForm 162) r12993 [u12994] f12995) hr12996 hf12997
          obtain ⟨ho13000, hf13001⟩ := form_split (hC.getM 0 rfl)
          subst hf13001
          replace hC := hC.recast (c := own 162 9 u12994 r12993.terms.length (ETerm.encs r12993.terms)) (fun _ h_ => h_) (fun _ => ho13000)
          refine done ?_
          refine aK (by assumption) (dbits 11 255) ?_
          refine aO 8 rfl ?_
          refine s_call [.int .i64 (IntKind.i64.wrap (((a1.terms.getD s8748.2.toNat default).factor) * (IntKind.i64.wrap (((a1.terms.getD s8748.2.toNat default).mono).get s11656.2.toNat))))] _ Tryz.func125 rfl rfl rfl (c_spec_l01Mod (IntKind.i64.wrap (((a1.terms.getD s8748.2.toNat default).factor) * (IntKind.i64.wrap (((a1.terms.getD s8748.2.toNat default).mono).get s11656.2.toNat)))) h _) (fun ret13003 w13005 hR13004 => ?_)
          obtain ⟨r13006, rfl, h, hB13007⟩ := hR13004
          refine ⟨_, rfl, ?_⟩
          replace hC := hC.grow hB13007
          refine done ?_
          refine aK (by assumption) (dbits 11 511) ?_
          refine ae_tail 9 (by decide) (by decide) (by kernel_rfl) (by kernel_rfl) rfl ?_
          refine s_call [.agg #[v11657], .agg #[u12994], .int .i64 r13006] _ Tryz.func124 rfl rfl rfl (c_spec_l01Add (⟨s11656.1⟩ : Vc.Form) r12993 r13006 h _ (form_mk (own_repE (hC.getM 8 rfl))) (form_mk (own_repE (hC.getM 0 rfl)))) (fun ret13008 w13010 hR13009 => ?_)
          obtain ⟨r13011, u13012, f13013, rfl, h, hr13014, hf13015, hB13016⟩ := hR13009
          refine ⟨_, rfl, ?_⟩
          replace hC := hC.push hB13016 (Tr.item (TrForm 162) r13011 [u13012] f13013) hr13014 hf13015
          obtain ⟨ho13018, hf13019⟩ := form_split (hC.getM 0 rfl)
          subst hf13019
          replace hC := hC.recast (c := own 162 9 u13012 r13011.terms.length (ETerm.encs r13011.terms)) (fun _ h_ => h_) (fun _ => ho13018)
          refine s_store (v := .agg #[u13012]) hC 11 [u13012] [u13012] rfl ag55.size (sx hS_ 3 rfl) rfl rfl rfl (all_c (own_oneC (hC.getM 0 rfl)) rfl) (Nat.le_of_ble_eq_true rfl) rfl fun w13021 hC => ?_
          refine done ?_
          refine qn_norm ?_
          refine blk_norm ?_
          refine then_norm ?_
          refine cw_region ?_
          refine s_mv (v := .int .i64 s11656.2) (sx hS_ 6 rfl) ?_
          refine s_add rfl rfl ?_
          refine s_as (v := .int .i64 (IntKind.i64.wrap (s11656.2 + 1))) rfl ?_
          refine done ?_
          replace hC := hC.sM [0, 10, 11, 12, 13, 14] (M' := [own 162 9 u13012 r13011.terms.length (ETerm.encs r13011.terms), blk b8764 136 (A8.enc .u8 ((a1.terms.getD s8748.2.toNat default).mono)), blk b17 55 [u13012], blk b14 55 [.slice none 0 0], blk b11 55 [u1_0], blk b8 32 [u0_0, u0_1]]) (by decide) rfl
          replace hC := hC.sP [1, 2, 3, 4, 5] (Ps' := [Ty.item ETerm.ty.sl a1.terms [u1_0] fp1, Ty.item TForm.sl a0.images [u0_1] fp0, Ty.item ((EI .i64).ty.sl) a0.degrees [u0_0] fp0, Ty.item TAlg a0 [u0_0, u0_1] fp0, Ty.item TForm a1 [u1_0] fp1]) rfl
          exact hK11661 (r13011.terms, IntKind.i64.wrap (s11656.2 + 1)) _ _ ⟨u13012, (sk (sx hS_ 0 rfl) (sk (sx hS_ 1 rfl) (sk (sx hS_ 2 rfl) (sk (sx hS_ 3 rfl) (sk (sx hS_ 4 rfl) (sk (sx hS_ 5 rfl) (sk rfl (sk (sx hS_ 13 rfl) (sk (sx hS_ 14 rfl) (sk (sx hS_ 15 rfl) (sk (sx hS_ 16 rfl) (sk (sx hS_ 17 rfl) (sk (sx hS_ 18 rfl) (sk (sx hS_ 19 rfl) (sk (sx hS_ 20 rfl) (sk (sx hS_ 21 rfl) (sk (sx hS_ 22 rfl) (sk (sx hS_ 23 rfl) sn)))))))))))))))))), hC⟩ h
         refine ae_two 3 10 rfl rfl (by kernel_rfl) ?_ ?_
         ·skip
          refine s_call [.agg (List.toArray (A8.enc .u8 (s12627.1.set s11656.2.toNat (IntKind.u8.wrap ((((a1.terms.getD s8748.2.toNat default).mono).get s11656.2.toNat) - 1))))), .int .i64 1] _ Tryz.func95 rfl rfl rfl (c_spec_l01Single (s12627.1.set s11656.2.toNat (IntKind.u8.wrap ((((a1.terms.getD s8748.2.toNat default).mono).get s11656.2.toNat) - 1))) 1 h _) (fun ret13022 w13024 hR13023 => ?_)
          obtain ⟨r13025, u13026, f13027, rfl, h, hr13028, hf13029, hB13030⟩ := hR13023
          refine ⟨_, rfl, ?_⟩
          replace hC := hC.push hB13030 (Tr.item (TrForm 162) r13025 [u13026] f13027) hr13028 hf13029
          obtain ⟨ho13032, hf13033⟩ := form_split (hC.getM 0 rfl)
          subst hf13033
          replace hC := hC.recast (c := own 162 9 u13026 r13025.terms.length (ETerm.encs r13025.terms)) (fun _ h_ => h_) (fun _ => ho13032)
          refine done ?_
          refine aK (by assumption) (dbits 12 511) ?_
          refine ae_two 9 10 rfl rfl (by kernel_rfl) ?_ ?_
          ·skip
           refine s_call [u0_0, .agg #[u13026], .agg #[u12890]] _ Tryz.func123 rfl rfl rfl (c_spec_l01Times a0.degrees r13025 (a0.images.getD s11656.2.toNat default) h _ (hC.getP 3 rfl) (form_mk (own_repE (hC.getM 0 rfl))) (form_mk (hC.getP 0 rfl))) (fun ret13035 w13037 hR13036 => ?_)
           obtain ⟨r13038, u13039, f13040, rfl, h, hr13041, hf13042, hB13043⟩ := hR13036
           refine ⟨_, rfl, ?_⟩
           replace hC := hC.push hB13043 (Tr.item (TrForm 162) r13038 [u13039] f13040) hr13041 hf13042
           obtain ⟨ho13045, hf13046⟩ := form_split (hC.getM 0 rfl)
           subst hf13046
           replace hC := hC.recast (c := own 162 9 u13039 r13038.terms.length (ETerm.encs r13038.terms)) (fun _ h_ => h_) (fun _ => ho13045)
           refine done ?_
           refine aK (by assumption) (dbits 12 1023) ?_
           refine aO 10 rfl ?_
           refine s_alloc hC [.slice none 0 0] z55 rfl fun b13048 w13050 hB_ hC => ?_
           refine done ?_
           refine aK (by assumption) (dbits 12 2047) ?_
           refine ae_tail 11 (by decide) (by decide) (by kernel_rfl) (by kernel_rfl) rfl ?_
           refine s_store (v := .agg #[u13039]) hC 0 [u13039] [u13039] rfl ag55.size rfl rfl rfl rfl (all_c (own_oneC (hC.getM 1 rfl)) rfl) (Nat.le_of_ble_eq_true rfl) rfl fun w13051 hC => ?_
           refine done ?_
           refine qn_norm ?_
           exact ⟨rfl, _, rfl, ⟨b13048, u13039, r13038, u13026, r13025, (sk (sx hS_ 0 rfl) (sk (sx hS_ 1 rfl) (sk (sx hS_ 2 rfl) (sk (sx hS_ 3 rfl) (sk (sx hS_ 4 rfl) (sk (sx hS_ 5 rfl) (sk (sx hS_ 6 rfl) (sk (sx hS_ 7 rfl) (sk (sx hS_ 8 rfl) (sk (sx hS_ 9 rfl) (sk rfl (sk rfl (sk rfl (sk (sx hS_ 10 rfl) (sk (sx hS_ 11 rfl) (sk (sx hS_ 12 rfl) (sk (sx hS_ 13 rfl) (sk (sx hS_ 14 rfl) (sk (sx hS_ 15 rfl) (sk (sx hS_ 16 rfl) (sk (sx hS_ 17 rfl) (sk (sx hS_ 18 rfl) (sk (sx hS_ 19 rfl) (sk (sx hS_ 20 rfl) (sk (sx hS_ 21 rfl) (sk (sx hS_ 22 rfl) (sk (sx hS_ 23 rfl) (sk (sx hS_ 24 rfl) (sk (sx hS_ 25 rfl) (sk (sx hS_ 26 rfl) (sk (sx hS_ 27 rfl) (sk (sx hS_ 28 rfl) (sk (sx hS_ 29 rfl) (sk (sx hS_ 30 rfl) (sk (sx hS_ 31 rfl) (sk rfl (sk rfl (sk rfl (sk rfl (sk rfl (sk rfl (sk rfl (sk rfl (sk rfl (sk rfl (sk rfl (sk rfl (sk rfl (sk rfl (sk rfl (sk rfl (sk rfl (sk rfl (sk rfl (sk rfl (sk rfl (sk rfl (sk rfl (sk rfl (sk rfl (sk rfl (sk rfl (sk rfl (sk rfl (sk rfl (sk rfl (sk rfl (sk rfl (sk rfl (sk rfl (sk rfl sn))))))))))))))))))))))))))))))))))))))))))))))))))))))))))))))))))))))), hC, h⟩⟩
          ·skip
           refine s_alloc hC [.slice none 0 0] z55 rfl fun b13052 w13054 hB_ hC => ?_
           refine done ?_
           refine aK (by assumption) (dbits 12 1535) ?_
           refine aO 9 rfl ?_
           refine s_call [u0_0, .agg #[u13026], .agg #[u12890]] _ Tryz.func123 rfl rfl rfl (c_spec_l01Times a0.degrees r13025 (a0.images.getD s11656.2.toNat default) h _ (hC.getP 3 rfl) (form_mk (own_repE (hC.getM 1 rfl))) (form_mk (hC.getP 0 rfl))) (fun ret13055 w13057 hR13056 => ?_)
           obtain ⟨r13058, u13059, f13060, rfl, h, hr13061, hf13062, hB13063⟩ := hR13056
           refine ⟨_, rfl, ?_⟩
           replace hC := hC.push hB13063 (Tr.item (TrForm 162) r13058 [u13059] f13060) hr13061 hf13062
           obtain ⟨ho13065, hf13066⟩ := form_split (hC.getM 0 rfl)
           subst hf13066
           replace hC := hC.recast (c := own 162 9 u13059 r13058.terms.length (ETerm.encs r13058.terms)) (fun _ h_ => h_) (fun _ => ho13065)
           refine done ?_
           refine aK (by assumption) (dbits 12 2047) ?_
           refine ae_tail 11 (by decide) (by decide) (by kernel_rfl) (by kernel_rfl) rfl ?_
           refine s_store (v := .agg #[u13059]) hC 1 [u13059] [u13059] rfl ag55.size rfl rfl rfl rfl (all_c (own_oneC (hC.getM 0 rfl)) rfl) (Nat.le_of_ble_eq_true rfl) rfl fun w13068 hC => ?_
           refine done ?_
           refine qn_norm ?_
           replace hC := hC.sM [1, 0, 2, 3, 4, 5, 6, 7, 8, 9, 10, 11] (M' := [blk b13052 55 [u13059], own 162 9 u13059 r13058.terms.length (ETerm.encs r13058.terms), own 162 9 u13026 r13025.terms.length (ETerm.encs r13025.terms), blk b12640 136 (A8.enc .u8 (s12627.1.set s11656.2.toNat (IntKind.u8.wrap ((((a1.terms.getD s8748.2.toNat default).mono).get s11656.2.toNat) - 1)))), blk b11676 136 (A8.enc .u8 s12627.2), blk b11673 136 (A8.enc .u8 s12627.1), own 162 9 v11657 s11656.1.length (ETerm.encs s11656.1), blk b8764 136 (A8.enc .u8 ((a1.terms.getD s8748.2.toNat default).mono)), blk b17 55 [v11657], blk b14 55 [.slice none 0 0], blk b11 55 [u1_0], blk b8 32 [u0_0, u0_1]]) (by decide) rfl
           exact ⟨rfl, _, rfl, ⟨b13052, u13059, r13058, u13026, r13025, (sk (sx hS_ 0 rfl) (sk (sx hS_ 1 rfl) (sk (sx hS_ 2 rfl) (sk (sx hS_ 3 rfl) (sk (sx hS_ 4 rfl) (sk (sx hS_ 5 rfl) (sk (sx hS_ 6 rfl) (sk (sx hS_ 7 rfl) (sk (sx hS_ 8 rfl) (sk (sx hS_ 9 rfl) (sk rfl (sk rfl (sk rfl (sk (sx hS_ 10 rfl) (sk (sx hS_ 11 rfl) (sk (sx hS_ 12 rfl) (sk (sx hS_ 13 rfl) (sk (sx hS_ 14 rfl) (sk (sx hS_ 15 rfl) (sk (sx hS_ 16 rfl) (sk (sx hS_ 17 rfl) (sk (sx hS_ 18 rfl) (sk (sx hS_ 19 rfl) (sk (sx hS_ 20 rfl) (sk (sx hS_ 21 rfl) (sk (sx hS_ 22 rfl) (sk (sx hS_ 23 rfl) (sk (sx hS_ 24 rfl) (sk (sx hS_ 25 rfl) (sk (sx hS_ 26 rfl) (sk (sx hS_ 27 rfl) (sk (sx hS_ 28 rfl) (sk (sx hS_ 29 rfl) (sk (sx hS_ 30 rfl) (sk (sx hS_ 31 rfl) (sk rfl (sk rfl (sk rfl (sk rfl (sk rfl (sk rfl (sk rfl (sk rfl (sk rfl (sk rfl (sk rfl (sk rfl (sk rfl (sk rfl (sk rfl (sk rfl (sk rfl (sk rfl (sk rfl (sk rfl (sk rfl (sk rfl (sk rfl (sk rfl (sk rfl (sk rfl (sk rfl (sk rfl (sk rfl (sk rfl (sk rfl (sk rfl (sk rfl (sk rfl (sk rfl (sk rfl sn))))))))))))))))))))))))))))))))))))))))))))))))))))))))))))))))))))))), hC, h⟩⟩
         ·skip
          refine s_alloc hC [.slice none 0 0] z55 rfl fun b13069 w13071 hB_ hC => ?_
          refine done ?_
          refine aK (by assumption) (dbits 12 1527) ?_
          refine aO 3 rfl ?_
          refine s_call [.agg (List.toArray (A8.enc .u8 (s12627.1.set s11656.2.toNat (IntKind.u8.wrap ((((a1.terms.getD s8748.2.toNat default).mono).get s11656.2.toNat) - 1))))), .int .i64 1] _ Tryz.func95 rfl rfl rfl (c_spec_l01Single (s12627.1.set s11656.2.toNat (IntKind.u8.wrap ((((a1.terms.getD s8748.2.toNat default).mono).get s11656.2.toNat) - 1))) 1 h _) (fun ret13072 w13074 hR13073 => ?_)
          obtain ⟨r13075, u13076, f13077, rfl, h, hr13078, hf13079, hB13080⟩ := hR13073
          refine ⟨_, rfl, ?_⟩
          replace hC := hC.push hB13080 (Tr.item (TrForm 162) r13075 [u13076] f13077) hr13078 hf13079
          obtain ⟨ho13082, hf13083⟩ := form_split (hC.getM 0 rfl)
          subst hf13083
          replace hC := hC.recast (c := own 162 9 u13076 r13075.terms.length (ETerm.encs r13075.terms)) (fun _ h_ => h_) (fun _ => ho13082)
          refine done ?_
          refine aK (by assumption) (dbits 12 1535) ?_
          refine aO 9 rfl ?_
          refine s_call [u0_0, .agg #[u13076], .agg #[u12890]] _ Tryz.func123 rfl rfl rfl (c_spec_l01Times a0.degrees r13075 (a0.images.getD s11656.2.toNat default) h _ (hC.getP 3 rfl) (form_mk (own_repE (hC.getM 0 rfl))) (form_mk (hC.getP 0 rfl))) (fun ret13085 w13087 hR13086 => ?_)
          obtain ⟨r13088, u13089, f13090, rfl, h, hr13091, hf13092, hB13093⟩ := hR13086
          refine ⟨_, rfl, ?_⟩
          replace hC := hC.push hB13093 (Tr.item (TrForm 162) r13088 [u13089] f13090) hr13091 hf13092
          obtain ⟨ho13095, hf13096⟩ := form_split (hC.getM 0 rfl)
          subst hf13096
          replace hC := hC.recast (c := own 162 9 u13089 r13088.terms.length (ETerm.encs r13088.terms)) (fun _ h_ => h_) (fun _ => ho13095)
          refine done ?_
          refine aK (by assumption) (dbits 12 2047) ?_
          refine ae_tail 11 (by decide) (by decide) (by kernel_rfl) (by kernel_rfl) rfl ?_
          refine s_store (v := .agg #[u13089]) hC 2 [u13089] [u13089] rfl ag55.size rfl rfl rfl rfl (all_c (own_oneC (hC.getM 0 rfl)) rfl) (Nat.le_of_ble_eq_true rfl) rfl fun w13098 hC => ?_
          refine done ?_
          refine qn_norm ?_
          replace hC := hC.sM [2, 0, 1, 3, 4, 5, 6, 7, 8, 9, 10, 11] (M' := [blk b13069 55 [u13089], own 162 9 u13089 r13088.terms.length (ETerm.encs r13088.terms), own 162 9 u13076 r13075.terms.length (ETerm.encs r13075.terms), blk b12640 136 (A8.enc .u8 (s12627.1.set s11656.2.toNat (IntKind.u8.wrap ((((a1.terms.getD s8748.2.toNat default).mono).get s11656.2.toNat) - 1)))), blk b11676 136 (A8.enc .u8 s12627.2), blk b11673 136 (A8.enc .u8 s12627.1), own 162 9 v11657 s11656.1.length (ETerm.encs s11656.1), blk b8764 136 (A8.enc .u8 ((a1.terms.getD s8748.2.toNat default).mono)), blk b17 55 [v11657], blk b14 55 [.slice none 0 0], blk b11 55 [u1_0], blk b8 32 [u0_0, u0_1]]) (by decide) rfl
          exact ⟨rfl, _, rfl, ⟨b13069, u13089, r13088, u13076, r13075, (sk (sx hS_ 0 rfl) (sk (sx hS_ 1 rfl) (sk (sx hS_ 2 rfl) (sk (sx hS_ 3 rfl) (sk (sx hS_ 4 rfl) (sk (sx hS_ 5 rfl) (sk (sx hS_ 6 rfl) (sk (sx hS_ 7 rfl) (sk (sx hS_ 8 rfl) (sk (sx hS_ 9 rfl) (sk rfl (sk rfl (sk rfl (sk (sx hS_ 10 rfl) (sk (sx hS_ 11 rfl) (sk (sx hS_ 12 rfl) (sk (sx hS_ 13 rfl) (sk (sx hS_ 14 rfl) (sk (sx hS_ 15 rfl) (sk (sx hS_ 16 rfl) (sk (sx hS_ 17 rfl) (sk (sx hS_ 18 rfl) (sk (sx hS_ 19 rfl) (sk (sx hS_ 20 rfl) (sk (sx hS_ 21 rfl) (sk (sx hS_ 22 rfl) (sk (sx hS_ 23 rfl) (sk (sx hS_ 24 rfl) (sk (sx hS_ 25 rfl) (sk (sx hS_ 26 rfl) (sk (sx hS_ 27 rfl) (sk (sx hS_ 28 rfl) (sk (sx hS_ 29 rfl) (sk (sx hS_ 30 rfl) (sk (sx hS_ 31 rfl) (sk rfl (sk rfl (sk rfl (sk rfl (sk rfl (sk rfl (sk rfl (sk rfl (sk rfl (sk rfl (sk rfl (sk rfl (sk rfl (sk rfl (sk rfl (sk rfl (sk rfl (sk rfl (sk rfl (sk rfl (sk rfl (sk rfl (sk rfl (sk rfl (sk rfl (sk rfl (sk rfl (sk rfl (sk rfl (sk rfl (sk rfl (sk rfl (sk rfl (sk rfl (sk rfl (sk rfl sn))))))))))))))))))))))))))))))))))))))))))))))))))))))))))))))))))))))), hC, h⟩⟩
       ·skip
        exact ⟨(sk (sx hS_ 0 rfl) (sk (sx hS_ 1 rfl) (sk (sx hS_ 2 rfl) (sk (sx hS_ 3 rfl) (sk (sx hS_ 4 rfl) (sk (sx hS_ 5 rfl) (sk (sx hS_ 6 rfl) (sk (sx hS_ 7 rfl) (sk (sx hS_ 8 rfl) (sk rfl (sk (sx hS_ 9 rfl) (sk (sx hS_ 10 rfl) (sk (sx hS_ 11 rfl) (sk (sx hS_ 12 rfl) (sk (sx hS_ 13 rfl) (sk (sx hS_ 14 rfl) (sk (sx hS_ 15 rfl) (sk (sx hS_ 16 rfl) (sk (sx hS_ 17 rfl) (sk (sx hS_ 18 rfl) (sk (sx hS_ 19 rfl) (sk (sx hS_ 20 rfl) (sk (sx hS_ 21 rfl) (sk (sx hS_ 22 rfl) (sk (sx hS_ 23 rfl) (sk (sx hS_ 24 rfl) (sk (sx hS_ 25 rfl) (sk (sx hS_ 26 rfl) (sk (sx hS_ 27 rfl) (sk (sx hS_ 28 rfl) (sk (sx hS_ 29 rfl) (sk (sx hS_ 30 rfl) sn)))))))))))))))))))))))))))))))), hC⟩
      refine ae_two 2 3 rfl rfl (by kernel_rfl) ?_ ?_
      ·skip
       refine s_allocN hC (A8.enc .u8 A8.zero) z136 rfl fun b13099 w13101 hn_ hB_ hC => ?_
       have hnb_b13099 := Nat.le_trans hN_ hn_
       refine done ?_
       refine ak_introM (belN_of hN_ (by assumption)) hN_ (l9 := (dbits 6 7)) (by kernel_rfl) (fun hN_ => ?_)
       refine aO 3 rfl ?_
       refine s_allocN hC (A8.enc .u8 A8.zero) z136 rfl fun b13102 w13104 hn_ hB_ hC => ?_
       have hnb_b13102 := Nat.le_trans hN_ hn_
       refine done ?_
       refine ak_introM (belN_of hN_ (by assumption)) hN_ (l9 := (dbits 6 15)) (by kernel_rfl) (fun hN_ => ?_)
       refine aO 4 rfl ?_
       refine s_storeN (v := .agg (List.toArray (A8.enc .u8 ((a1.terms.getD s8748.2.toNat default).mono)))) hC 1 (A8.enc .u8 ((a1.terms.getD s8748.2.toNat default).mono)) (A8.enc .u8 ((a1.terms.getD s8748.2.toNat default).mono)) rfl ag136.size rfl rfl rfl rfl rfl (Nat.le_of_ble_eq_true rfl) rfl fun w13105 hBB_ hC => ?_
       refine done ?_
       refine ak_introM (belN_belB hN_ hnb_b13099 hBB_) hN_ (l9 := (dbits 6 31)) (by kernel_rfl) (fun hN_ => ?_)
       refine ae_tail 5 (by decide) (by decide) (by kernel_rfl) (by kernel_rfl) rfl ?_
       refine s_store (v := .agg (List.toArray (A8.enc .u8 ((a1.terms.getD s8748.2.toNat default).mono)))) hC 0 (A8.enc .u8 ((a1.terms.getD s8748.2.toNat default).mono)) (A8.enc .u8 ((a1.terms.getD s8748.2.toNat default).mono)) rfl ag136.size rfl rfl rfl rfl rfl (Nat.le_of_ble_eq_true rfl) rfl fun w13106 hC => ?_
       refine done ?_
       refine qn_norm ?_
       exact ⟨rfl, _, rfl, ⟨b13102, b13099, (sk (sx hS_ 0 rfl) (sk (sx hS_ 1 rfl) (sk (sx hS_ 2 rfl) (sk (sx hS_ 3 rfl) (sk (sx hS_ 4 rfl) (sk (sx hS_ 5 rfl) (sk (sx hS_ 6 rfl) (sk rfl (sk rfl (sk (sx hS_ 7 rfl) (sk (sx hS_ 8 rfl) (sk (sx hS_ 9 rfl) (sk (sx hS_ 10 rfl) (sk (sx hS_ 11 rfl) (sk (sx hS_ 12 rfl) (sk (sx hS_ 13 rfl) (sk (sx hS_ 14 rfl) (sk (sx hS_ 15 rfl) (sk (sx hS_ 16 rfl) (sk (sx hS_ 17 rfl) (sk rfl (sk rfl (sk rfl (sk rfl (sk rfl (sk rfl (sk rfl (sk rfl (sk rfl (sk rfl (sk rfl sn))))))))))))))))))))))))))))))), hC, h⟩⟩
      ·skip
       refine s_allocN hC (A8.enc .u8 A8.zero) z136 rfl fun b13107 w13109 hn_ hB_ hC => ?_
       have hnb_b13107 := Nat.le_trans hN_ hn_
       refine done ?_
       refine ak_introM (belN_of hN_ (by assumption)) hN_ (l9 := (dbits 6 11)) (by kernel_rfl) (fun hN_ => ?_)
       refine aO 2 rfl ?_
       refine s_allocN hC (A8.enc .u8 A8.zero) z136 rfl fun b13110 w13112 hn_ hB_ hC => ?_
       have hnb_b13110 := Nat.le_trans hN_ hn_
       refine done ?_
       refine ak_introM (belN_of hN_ (by assumption)) hN_ (l9 := (dbits 6 15)) (by kernel_rfl) (fun hN_ => ?_)
       refine aO 4 rfl ?_
       refine s_storeN (v := .agg (List.toArray (A8.enc .u8 ((a1.terms.getD s8748.2.toNat default).mono)))) hC 0 (A8.enc .u8 ((a1.terms.getD s8748.2.toNat default).mono)) (A8.enc .u8 ((a1.terms.getD s8748.2.toNat default).mono)) rfl ag136.size rfl rfl rfl rfl rfl (Nat.le_of_ble_eq_true rfl) rfl fun w13113 hBB_ hC => ?_
       refine done ?_
       refine ak_introM (belN_belB hN_ hnb_b13110 hBB_) hN_ (l9 := (dbits 6 31)) (by kernel_rfl) (fun hN_ => ?_)
       refine ae_tail 5 (by decide) (by decide) (by kernel_rfl) (by kernel_rfl) rfl ?_
       refine s_store (v := .agg (List.toArray (A8.enc .u8 ((a1.terms.getD s8748.2.toNat default).mono)))) hC 1 (A8.enc .u8 ((a1.terms.getD s8748.2.toNat default).mono)) (A8.enc .u8 ((a1.terms.getD s8748.2.toNat default).mono)) rfl ag136.size rfl rfl rfl rfl rfl (Nat.le_of_ble_eq_true rfl) rfl fun w13114 hC => ?_
       refine done ?_
       refine qn_norm ?_
       replace hC := hC.sM [1, 0, 2, 3, 4, 5, 6, 7] (M' := [blk b13107 136 (A8.enc .u8 ((a1.terms.getD s8748.2.toNat default).mono)), blk b13110 136 (A8.enc .u8 ((a1.terms.getD s8748.2.toNat default).mono)), own 162 9 v11657 s11656.1.length (ETerm.encs s11656.1), blk b8764 136 (A8.enc .u8 ((a1.terms.getD s8748.2.toNat default).mono)), blk b17 55 [v11657], blk b14 55 [.slice none 0 0], blk b11 55 [u1_0], blk b8 32 [u0_0, u0_1]]) (by decide) rfl
       exact ⟨rfl, _, rfl, ⟨b13107, b13110, (sk (sx hS_ 0 rfl) (sk (sx hS_ 1 rfl) (sk (sx hS_ 2 rfl) (sk (sx hS_ 3 rfl) (sk (sx hS_ 4 rfl) (sk (sx hS_ 5 rfl) (sk (sx hS_ 6 rfl) (sk rfl (sk rfl (sk (sx hS_ 7 rfl) (sk (sx hS_ 8 rfl) (sk (sx hS_ 9 rfl) (sk (sx hS_ 10 rfl) (sk (sx hS_ 11 rfl) (sk (sx hS_ 12 rfl) (sk (sx hS_ 13 rfl) (sk (sx hS_ 14 rfl) (sk (sx hS_ 15 rfl) (sk (sx hS_ 16 rfl) (sk (sx hS_ 17 rfl) (sk rfl (sk rfl (sk rfl (sk rfl (sk rfl (sk rfl (sk rfl (sk rfl (sk rfl (sk rfl (sk rfl sn))))))))))))))))))))))))))))))), hC, h⟩⟩
    ·replace h := iff_ h (cf hb11666)
     refine wp_exit (then_exit (then_exit (exit_in ?_)))
     refine blk_norm ?_
     refine then_norm ?_
     refine cw_region ?_
     refine s_mv (v := .int .i64 s8748.2) (sx hS_ 4 rfl) ?_
     refine s_add rfl rfl ?_
     refine s_as (v := .int .i64 (IntKind.i64.wrap (s8748.2 + 1))) rfl ?_
     refine done ?_
     replace hC := hC.sM [0, 2, 3, 4, 5] (M' := [own 162 9 v11657 s11656.1.length (ETerm.encs s11656.1), blk b17 55 [v11657], blk b14 55 [.slice none 0 0], blk b11 55 [u1_0], blk b8 32 [u0_0, u0_1]]) (by decide) rfl
     exact hK8753 (s11656.1, IntKind.i64.wrap (s8748.2 + 1)) _ _ ⟨v11657, (sk (sx hS_ 0 rfl) (sk (sx hS_ 1 rfl) (sk (sx hS_ 2 rfl) (sk (sx hS_ 3 rfl) (sk rfl sn))))), hC⟩ h
   ·skip
    replace hC := hC.sM [1, 0, 2, 3, 4, 5] (M' := [own 162 9 v8749 s8748.1.length (ETerm.encs s8748.1), blk b8764 136 (A8.enc .u8 ((a1.terms.getD s8748.2.toNat default).mono)), blk b17 55 [v8749], blk b14 55 [.slice none 0 0], blk b11 55 [u1_0], blk b8 32 [u0_0, u0_1]]) (by decide) rfl
    exact ⟨v8749, (sk (sx hS_ 0 rfl) (sk (sx hS_ 1 rfl) (sk (sx hS_ 2 rfl) (sk (sx hS_ 3 rfl) (sk (sx hS_ 4 rfl) (sk rfl (sk rfl (sk rfl (sk rfl (sk rfl (sk rfl (sk rfl (sk rfl (sk rfl (sk rfl (sk rfl (sk rfl (sk rfl sn)))))))))))))))))), hC⟩
  ·replace h := iff_ h (cf hb8758)
   refine wp_exit (then_exit (then_exit (exit_in ?_)))
   refine then_norm ?_
   refine sr ?_
   refine s_loadA hC 1 [v8749] rfl ag55 (sx hS_ 3 rfl) rfl rfl ?_
   refine s_store (v := .agg #[v8749]) hC 2 [v8749] [v8749] rfl ag55.size (sx hS_ 2 rfl) rfl rfl rfl (all_c (own_oneC (hC.getM 0 rfl)) rfl) (Nat.le_of_ble_eq_true rfl) rfl fun w13115 hC => ?_
   refine dn ?_
   refine wp_ret ?_
   refine ret1 (fn := Tryz.f71) rfl ?_ ⟨(⟨s8748.1⟩ : Vc.Form), v8749, (Option.toList (Value.ownBlock v8749)), rfl, h, (form_join (own_item (hC.getM 0 rfl))), (own_fresh hC 0 rfl), hC.below⟩ (.inl rfl)
   exact res_cellA hC 2 rfl ag55 (sx hS_ 2 rfl) rfl
 ·skip
  replace hC := hC.pushNil 162 9
  exact ⟨.slice none 0 0, (sk rfl (sk rfl (sk rfl (sk rfl (sk rfl sn))))), hC⟩
def f_spec_l02Is (a0 : Alg) (K : Bool → Prop) : Prop :=
 f_spec_l01Degrees a0.degrees (fun r11 => (if ¬ (r11 = true) then K false else (if (a0.images.length : Int) ≠ (a0.degrees.length : Int) then K false else whileP (fun (s279 : Int) next280 => (if s279 < (a0.images.length : Int) then ((0 ≤ s279 ∧ s279 < (a0.images.length : Int)) ∧ f_spec_l01Is a0.degrees (a0.images.getD s279.toNat default) (fun r305 => (if ¬ (r305 = true) then K false else ((0 ≤ s279 ∧ s279 < (a0.images.length : Int)) ∧ f_spec_l01Degree a0.degrees (a0.images.getD s279.toNat default) (fun r325 r326 => (if ¬ (r326 = true) then K false else ((0 ≤ s279 ∧ s279 < (a0.images.length : Int)) ∧ (if (((a0.images.getD s279.toNat default).terms).length : Int) > 0 then ((0 ≤ s279 ∧ s279 < (a0.degrees.length : Int)) ∧ (if r325 ≠ IntKind.i64.wrap ((a0.degrees.getD s279.toNat default) + 1) then K false else next280 (IntKind.i64.wrap (s279 + 1)))) else next280 (IntKind.i64.wrap (s279 + 1)))))))))) else whileP (fun (s422 : Int) next423 => (if s422 < (a0.images.length : Int) then ((0 ≤ s422 ∧ s422 < (a0.images.length : Int)) ∧ f_spec_l02D a0 (a0.images.getD s422.toNat default) (fun r448 => (if (r448.terms.length : Int) > 0 then K false else next423 (IntKind.i64.wrap (s422 + 1))))) else K true)) 0)) 0)))
theorem c_spec_l02Is (a0 : Alg) {u0_0 : Value} {u0_1 : Value} {fp0 : List Nat} {K : Bool → Prop} (h : f_spec_l02Is a0 K) (w0 : World) (q0 : TAlg.rep a0 [u0_0, u0_1] fp0 w0) :
  Calls Tryz.prog 92 #[.agg #[u0_0, u0_1]] w0 fun e w' => ∃ (r0 : Bool), 
   e = .returned (.bool r0) ∧ K r0 ∧ Bel w0 w' := by
 unfold f_spec_l02Is at h
 refine calls_of (args := [.agg #[u0_0, u0_1]]) Tryz.func92 rfl 86 Tryz.ntmps92 (Nat.le_of_ble_eq_true rfl) ?_
 have hC := Ctx.start (X := Nox) w0 [Ty.item TAlg a0 [u0_0, u0_1] fp0] (by simp only [List.mem_cons, List.not_mem_nil, or_false, forall_eq_or_imp, forall_eq]; exact q0)
 have hp2 := (hC.getP 0 rfl)
 replace hC := hC.derive 0 rfl (Ty.item ((EI .i64).ty.sl) a0.degrees [u0_0] fp0) (fun _ => (alg_parts hp2).1) (fun _ hb_ => hb_)
 replace hC := hC.derive 1 rfl (Ty.item TForm.sl a0.images [u0_1] fp0) (fun _ => (alg_parts hp2).2) (fun _ hb_ => hb_)
 refine sr ?_
 refine s_box (v := .agg #[u0_0, u0_1]) hC [u0_0, u0_1] rfl rfl fun b5 w7 hB_ hC => ?_
 refine s_as (v := .bool false) rfl ?_
 refine dn ?_
 refine wp_seq ?_
 refine sr ?_
 refine s_faddrB 0 Tryz.underlying32 rfl sc22.size rfl rfl ?_
 refine s_loadS hC 0 (u0_0) rfl sc22 rfl rfl ?_
 refine s_call [u0_0] _ Tryz.func149 rfl rfl rfl (c_spec_l01Degrees a0.degrees h _ (hC.getP 1 rfl)) (fun ret8 w10 hR9 => ?_)
 obtain ⟨r11, rfl, h, hB12⟩ := hR9
 refine ⟨_, rfl, ?_⟩
 replace hC := hC.grow hB12
 refine s_not rfl ?_
 refine s_mv (v := .bool (!r11)) rfl ?_
 refine bsplit (!r11) (fun hb13 => ?_) (fun hb13 => ?_)
 ·replace h := ift h (ne_t (not_t hb13))
  refine guardOff (b := true) 4 11 rfl (tr rfl (congrArg _ hb13)) (by decide) ?_
  refine guardOff (b := true) 4 11 rfl (tr rfl (congrArg _ hb13)) (by decide) ?_
  refine guardOff (b := true) 4 11 rfl (tr rfl (congrArg _ hb13)) (by decide) ?_
  refine guardOff (b := true) 4 11 rfl (tr rfl (congrArg _ hb13)) (by decide) ?_
  refine guardOff (b := true) 4 11 rfl (tr rfl (congrArg _ hb13)) (by decide) ?_
  refine guardOff (b := true) 4 11 rfl (tr rfl (congrArg _ hb13)) (by decide) ?_
  refine guardOff (b := true) 4 11 rfl (tr rfl (congrArg _ hb13)) (by decide) ?_
  refine s_pick (v := .bool true) (b := true) (tr rfl (congrArg _ hb13)) rfl ?_
  refine dn ?_
  refine cw_true rfl rfl ?_
  refine sr ?_
  refine s_as (v := .bool false) rfl ?_
  refine dn ?_
  refine wp_ret (then_ret ?_)
  refine ret1 (fn := Tryz.f92) rfl ?_ ⟨false, rfl, h, hC.below⟩ (.inl rfl)
  exact res_tmp rfl
 ·replace h := iff_ h (not_not_intro ((not_f hb13)))
  refine guardOn 4 11 rfl rfl hb13 ?_
  refine s_faddrB 1 Tryz.underlying32 rfl sc30.size rfl rfl ?_
  refine guardOn 4 11 rfl rfl hb13 ?_
  refine s_loadS hC 0 (u0_1) rfl sc30 rfl rfl ?_
  refine guardOn 4 11 rfl rfl hb13 ?_
  obtain ⟨Ad14, c15, hv16⟩ := sl_len (hC.getP 0 rfl)
  refine s_len Tryz.underlying30 (tr rfl hv16) ?_
  refine guardOn 4 11 rfl rfl hb13 ?_
  refine s_faddrB 0 Tryz.underlying32 rfl sc22.size rfl rfl ?_
  refine guardOn 4 11 rfl rfl hb13 ?_
  refine s_loadS hC 0 (u0_0) rfl sc22 rfl rfl ?_
  refine guardOn 4 11 rfl rfl hb13 ?_
  obtain ⟨Ad17, c18, hv19⟩ := sl_len (hC.getP 1 rfl)
  refine s_len Tryz.underlying22 (tr rfl hv19) ?_
  refine guardOn 4 11 rfl rfl hb13 ?_
  refine s_neq rfl rfl ?_
  refine s_pick (v := .bool (decide ((a0.images.length : Int) ≠ (a0.degrees.length : Int)))) (b := false) (tr rfl (congrArg _ hb13)) rfl ?_
  refine dn ?_
  refine cw_cond rfl (fun hb20 => ?_) (fun hb20 => ?_)
  ·replace h := ift h (ct hb20)
   refine sr ?_
   refine s_as (v := .bool false) rfl ?_
   refine dn ?_
   refine wp_ret (then_ret ?_)
   refine ret1 (fn := Tryz.f92) rfl ?_ ⟨false, rfl, h, hC.below⟩ (.inl rfl)
   exact res_tmp rfl
  ·replace h := iff_ h (cf hb20)
   refine wp_skip ?_
   refine then_norm ?_
   refine wp_seq ?_
   refine sr ?_
   refine s_as (v := .int .i64 0) rfl ?_
   refine dn ?_
   refine wp_block ?_
   refine loopW (S := Int) _ (fun s279 e_ w_ => Slots e_ [(1, .pointer (some ⟨b5, 0, none⟩)), (2, .bool false), (3, .int .i64 s279)] ∧ Ctx Nox w0 w_ [blk b5 32 [u0_0, u0_1]] [Ty.item TForm.sl a0.images [u0_1] fp0, Ty.item ((EI .i64).ty.sl) a0.degrees [u0_0] fp0, Ty.item TAlg a0 [u0_0, u0_1] fp0]) ?_ (s0 := 0) ?_ h
   ·clear hC h
    rintro s279 e_ w283 next280 K281 ⟨hS_, hC⟩ h hK282
    refine wp_seq ?_
    refine sr ?_
    refine s_mv (v := .int .i64 s279) (sx hS_ 2 rfl) ?_
    refine s_faddrB 1 Tryz.underlying32 rfl sc30.size (sx hS_ 0 rfl) rfl ?_
    refine s_loadS hC 0 (u0_1) rfl sc30 rfl rfl ?_
    obtain ⟨Ad284, c285, hv286⟩ := sl_len (hC.getP 0 rfl)
    refine s_len Tryz.underlying30 (tr rfl hv286) ?_
    refine s_lss rfl rfl ?_
    refine dn ?_
    refine cw_cond rfl (fun hb287 => ?_) (fun hb287 => ?_)
    ·replace h := ift h (ct hb287)
     refine wp_skip ?_
     refine then_norm ?_
     refine wp_seq ?_
     refine wp_block ?_
     refine wp_seq ?_
     refine wp_seq ?_
     refine cw_draw 7 mixed [0, 1, 0, 4, 0, 28, 60, 127, 255] [1, 3, 5, 6] [0, 2, 4] (by kernel_rfl) (by kernel_rfl) (by kernel_rfl) (fun hM289 hM290 w288 hB_ => ?_)
     replace hC := hC.grow hB_
     refine aF 0 (.pointer (some ⟨b5, 0, none⟩)) rfl rfl (hM290 0 rfl) (rfl) (fun _ => by exact r_faddrB 0 Tryz.underlying32 rfl sc22.size (sx hS_ 0 rfl) rfl) (dbits 9 1) ?_
     refine aL 1 (u0_0) rfl rfl (hM289 1 rfl) (rfl) (fun _ hB_ => by exact r_loadS (hC.grow hB_) 0 (u0_0) rfl sc22 rfl rfl) (dbits 9 3) ?_
     refine aF 2 (.pointer (some ⟨b5, 1, none⟩)) rfl rfl (hM290 2 rfl) (rfl) (fun _ => by exact r_faddrB 1 Tryz.underlying32 rfl sc30.size (sx hS_ 0 rfl) rfl) (dbits 9 7) ?_
     refine aL 3 (u0_1) rfl rfl (hM289 3 rfl) (rfl) (fun _ hB_ => by exact r_loadS (hC.grow hB_) 0 (u0_1) rfl sc30 rfl rfl) (dbits 9 15) ?_
     refine aF 4 (.int .i64 s279) rfl rfl (hM290 4 rfl) (rfl) (fun _ => by exact r_mv (v := .int .i64 s279) (sx hS_ 2 rfl)) (dbits 9 31) ?_
     obtain ⟨⟨h0_291, h1_292⟩, h⟩ := h
     obtain ⟨Ad293, c294, hv295⟩ := sl_form (hC.getP 0 rfl) s279.toNat (show s279.toNat < a0.images.length by omega)
     refine aL 5 (.pointer (some (Ad293.add (s279.toNat * 1)))) rfl rfl (hM289 5 rfl) (rfl) (fun _ hB_ => by exact r_iaddrS (len := a0.images.length) Tryz.underlying30 ag55.size (by exact tr rfl hv295) rfl h0_291 h1_292) (dbits 9 63) ?_
     obtain ⟨cs_, hl297, hc298, hr299⟩ := sl_cells (hC.getP 0 rfl) hv295 s279.toNat (show s279.toNat < a0.images.length by omega)
     obtain ⟨u296, rfl⟩ := List.length_eq_one_iff.1 hl297
     clear hl297
     rw [getD_eq _ _ (show s279.toNat < a0.images.length by omega)] at hr299
     have hp300 := hr299
     replace hC := hC.derive 0 rfl (Ty.item ETerm.ty.sl ((a0.images.getD s279.toNat default).terms) [u296] fp0) (fun _ => (form_parts hp300)) (fun _ hb_ => hb_)
     refine aL 6 (.agg #[u296]) rfl rfl (hM289 6 rfl) (rfl) (fun _ hB_ => by exact r_loadCA [u296] (cellsAt_bel hB_ hc298) ag55 rfl rfl) (dbits 9 127) ?_
     refine ae_tail 7 (by decide) (by decide) (by kernel_rfl) (by kernel_rfl) rfl ?_
     refine s_call [u0_0, .agg #[u296]] _ Tryz.func120 rfl rfl rfl (c_spec_l01Is a0.degrees (a0.images.getD s279.toNat default) h _ (hC.getP 2 rfl) (form_mk (hC.getP 0 rfl))) (fun ret302 w304 hR303 => ?_)
     obtain ⟨r305, rfl, h, hB306⟩ := hR303
     refine ⟨_, rfl, ?_⟩
     replace hC := hC.grow hB306
     refine s_not rfl ?_
     refine done ?_
     refine qn_norm ?_
     refine then_norm ?_
     refine cw_cond rfl (fun hb307 => ?_) (fun hb307 => ?_)
     ·replace h := ift h (ne_t (not_t hb307))
      refine sr ?_
      refine s_as (v := .bool false) rfl ?_
      refine dn ?_
      refine wp_ret (then_ret (blk_ret (then_ret (then_ret (blk_ret (then_ret ?_))))))
      refine ret1 (fn := Tryz.f92) rfl ?_ ⟨false, rfl, h, hC.below⟩ (.inl rfl)
      exact res_tmp rfl
     ·replace h := iff_ h (not_not_intro ((not_f hb307)))
      refine wp_skip ?_
      refine then_norm ?_
      refine wp_seq ?_
      refine cw_draw 12 mixed [0, 1, 0, 4, 0, 28, 60, 127, 255, 511, 511, 1023, 4095] [1, 3, 5, 6] [0, 2, 4, 8, 9, 10, 11] (by kernel_rfl) (by kernel_rfl) (by kernel_rfl) (fun hM309 hM310 w308 hB_ => ?_)
      replace hC := hC.grow hB_
      refine aF 0 (.pointer (some ⟨b5, 0, none⟩)) rfl rfl (hM310 0 rfl) (rfl) (fun _ => by exact r_faddrB 0 Tryz.underlying32 rfl sc22.size (sx hS_ 0 rfl) rfl) (dbits 13 1) ?_
      refine aL 1 (u0_0) rfl rfl (hM309 1 rfl) (rfl) (fun _ hB_ => by exact r_loadS (hC.grow hB_) 0 (u0_0) rfl sc22 rfl rfl) (dbits 13 3) ?_
      refine aF 2 (.pointer (some ⟨b5, 1, none⟩)) rfl rfl (hM310 2 rfl) (rfl) (fun _ => by exact r_faddrB 1 Tryz.underlying32 rfl sc30.size (sx hS_ 0 rfl) rfl) (dbits 13 7) ?_
      refine aL 3 (u0_1) rfl rfl (hM309 3 rfl) (rfl) (fun _ hB_ => by exact r_loadS (hC.grow hB_) 0 (u0_1) rfl sc30 rfl rfl) (dbits 13 15) ?_
      refine aF 4 (.int .i64 s279) rfl rfl (hM310 4 rfl) (rfl) (fun _ => by exact r_mv (v := .int .i64 s279) (sx hS_ 2 rfl)) (dbits 13 31) ?_
      obtain ⟨⟨h0_311, h1_312⟩, h⟩ := h
      obtain ⟨Ad313, c314, hv315⟩ := sl_form (hC.getP 1 rfl) s279.toNat (show s279.toNat < a0.images.length by omega)
      refine aL 5 (.pointer (some (Ad313.add (s279.toNat * 1)))) rfl rfl (hM309 5 rfl) (rfl) (fun _ hB_ => by exact r_iaddrS (len := a0.images.length) Tryz.underlying30 ag55.size (by exact tr rfl hv315) rfl h0_311 h1_312) (dbits 13 63) ?_
      obtain ⟨cs_, hl317, hc318, hr319⟩ := sl_cells (hC.getP 1 rfl) hv315 s279.toNat (show s279.toNat < a0.images.length by omega)
      obtain ⟨u316, rfl⟩ := List.length_eq_one_iff.1 hl317
      clear hl317
      rw [getD_eq _ _ (show s279.toNat < a0.images.length by omega)] at hr319
      have hp320 := hr319
      replace hC := hC.derive 1 rfl (Ty.item ETerm.ty.sl ((a0.images.getD s279.toNat default).terms) [u316] fp0) (fun _ => (form_parts hp320)) (fun _ hb_ => hb_)
      refine aL 6 (.agg #[u316]) rfl rfl (hM309 6 rfl) (rfl) (fun _ hB_ => by exact r_loadCA [u316] (cellsAt_bel hB_ hc318) ag55 rfl rfl) (dbits 13 127) ?_
      refine aO 7 rfl ?_
      refine s_call [u0_0, .agg #[u316]] _ Tryz.func69 rfl rfl rfl (c_spec_l01Degree a0.degrees (a0.images.getD s279.toNat default) h _ (hC.getP 3 rfl) (form_mk (hC.getP 0 rfl))) (fun ret322 w324 hR323 => ?_)
      obtain ⟨r325, r326, rfl, h, hB327⟩ := hR323
      refine ⟨_, rfl, ?_⟩
      replace hC := hC.grow hB327
      refine done ?_
      refine aK (by assumption) (dbits 13 255) ?_
      refine aF 8 (.tuple #[.int .i64 r325, .bool r326]) rfl rfl (hM310 8 rfl) (rfl) (fun _ => by exact r_mv (v := .tuple #[.int .i64 r325, .bool r326]) rfl) (dbits 13 511) ?_
      refine aF 9 (.int .i64 r325) rfl rfl (hM310 9 rfl) (rfl) (fun _ => by exact r_ext (v := .int .i64 r325) rfl rfl) (dbits 13 1023) ?_
      refine aF 10 (.bool r326) rfl rfl (hM310 10 rfl) (rfl) (fun _ => by exact r_ext (v := .bool r326) rfl rfl) (dbits 13 2047) ?_
      refine aF 11 (.int .i64 r325) rfl rfl (hM310 11 rfl) (rfl) (fun _ => by exact r_as (v := .int .i64 r325) rfl) (dbits 13 4095) ?_
      refine ae_tail 12 (by decide) (by decide) (by kernel_rfl) (by kernel_rfl) rfl ?_
      refine s_as (v := .bool r326) rfl ?_
      refine done ?_
      refine qn_norm ?_
      refine then_norm ?_
      refine sr ?_
      refine s_mv (v := .bool r326) rfl ?_
      refine s_not rfl ?_
      refine s_mv (v := .bool (!r326)) rfl ?_
      refine bsplit (!r326) (fun hb328 => ?_) (fun hb328 => ?_)
      ·replace h := ift h (ne_t (not_t hb328))
       refine guardOff (b := true) 2 49 rfl (tr rfl (congrArg _ hb328)) (by decide) ?_
       refine guardOff (b := true) 2 49 rfl (tr rfl (congrArg _ hb328)) (by decide) ?_
       refine guardOff (b := true) 2 49 rfl (tr rfl (congrArg _ hb328)) (by decide) ?_
       refine guardOff (b := true) 2 49 rfl (tr rfl (congrArg _ hb328)) (by decide) ?_
       refine guardOff (b := true) 2 49 rfl (tr rfl (congrArg _ hb328)) (by decide) ?_
       refine guardOff (b := true) 2 49 rfl (tr rfl (congrArg _ hb328)) (by decide) ?_
       refine guardOff (b := true) 2 49 rfl (tr rfl (congrArg _ hb328)) (by decide) ?_
       refine guardOff (b := true) 2 49 rfl (tr rfl (congrArg _ hb328)) (by decide) ?_
       refine guardOff (b := true) 2 49 rfl (tr rfl (congrArg _ hb328)) (by decide) ?_
       refine guardOffU 11 58 rfl rfl ?_
       refine guardOffU 11 58 rfl rfl ?_
       refine guardOffU 11 58 rfl rfl ?_
       refine guardOffU 11 58 rfl rfl ?_
       refine guardOffU 11 58 rfl rfl ?_
       refine guardOffU 11 58 rfl rfl ?_
       refine guardOffU 11 58 rfl rfl ?_
       refine guardOffU 11 58 rfl rfl ?_
       refine guardOff (b := true) 2 49 rfl (tr rfl (congrArg _ hb328)) (by decide) ?_
       refine s_pick (v := .bool true) (b := true) (tr rfl (congrArg _ hb328)) rfl ?_
       refine dn ?_
       refine cw_true rfl rfl ?_
       refine sr ?_
       refine s_as (v := .bool false) rfl ?_
       refine dn ?_
       refine wp_ret (blk_ret (then_ret (then_ret (blk_ret (then_ret ?_)))))
       refine ret1 (fn := Tryz.f92) rfl ?_ ⟨false, rfl, h, hC.below⟩ (.inl rfl)
       exact res_tmp rfl
      ·replace h := iff_ h (not_not_intro ((not_f hb328)))
       refine guardOn 2 49 rfl rfl hb328 ?_
       refine s_faddrB 1 Tryz.underlying32 rfl sc30.size (sx hS_ 0 rfl) rfl ?_
       refine guardOn 2 49 rfl rfl hb328 ?_
       refine s_loadS hC 0 (u0_1) rfl sc30 rfl rfl ?_
       refine guardOn 2 49 rfl rfl hb328 ?_
       refine s_mv (v := .int .i64 s279) (sx hS_ 2 rfl) ?_
       refine guardOn 2 49 rfl rfl hb328 ?_
       obtain ⟨⟨h0_329, h1_330⟩, h⟩ := h
       obtain ⟨Ad331, c332, hv333⟩ := sl_form (hC.getP 2 rfl) s279.toNat (show s279.toNat < a0.images.length by omega)
       refine s_iaddrS (len := a0.images.length) Tryz.underlying30 ag55.size (tr rfl hv333) rfl h0_329 h1_330 ?_
       refine guardOn 2 49 rfl rfl hb328 ?_
       refine s_faddrS (s279.toNat * 1 + 0) Tryz.underlying55 rfl sc53.size rfl rfl ?_
       refine guardOn 2 49 rfl rfl hb328 ?_
       obtain ⟨cs_, hl335, hc336, hr337⟩ := sl_cells (hC.getP 2 rfl) hv333 s279.toNat (show s279.toNat < a0.images.length by omega)
       obtain ⟨u334, rfl⟩ := List.length_eq_one_iff.1 hl335
       clear hl335
       rw [getD_eq _ _ (show s279.toNat < a0.images.length by omega)] at hr337
       have hp338 := hr337
       replace hC := hC.derive 2 rfl (Ty.item ETerm.ty.sl ((a0.images.getD s279.toNat default).terms) [u334] fp0) (fun _ => (form_parts hp338)) (fun _ hb_ => hb_)
       refine s_loadCS (u334) (cells_subS (o := 0) (k := 1) hc336 rfl) sc53 rfl ?_
       refine guardOn 2 49 rfl rfl hb328 ?_
       obtain ⟨Ad340, c341, hv342⟩ := sl_len (hC.getP 0 rfl)
       refine s_len Tryz.underlying53 (tr rfl hv342) ?_
       refine guardOn 2 49 rfl rfl hb328 ?_
       refine s_gtr rfl rfl ?_
       refine guardOn 2 49 rfl rfl hb328 ?_
       refine s_mv (v := .bool (decide ((((a0.images.getD s279.toNat default).terms).length : Int) > 0))) rfl ?_
       refine bsplit (decide ((((a0.images.getD s279.toNat default).terms).length : Int) > 0)) (fun hb343 => ?_) (fun hb343 => ?_)
       ·replace h := ift h (ct hb343)
        refine guardOn 11 58 rfl rfl hb343 ?_
        refine s_mv (v := .int .i64 r325) rfl ?_
        refine guardOn 11 58 rfl rfl hb343 ?_
        refine s_faddrB 0 Tryz.underlying32 rfl sc22.size (sx hS_ 0 rfl) rfl ?_
        refine guardOn 11 58 rfl rfl hb343 ?_
        refine s_loadS hC 0 (u0_0) rfl sc22 rfl rfl ?_
        refine guardOn 11 58 rfl rfl hb343 ?_
        refine s_mv (v := .int .i64 s279) (sx hS_ 2 rfl) ?_
        refine guardOn 11 58 rfl rfl hb343 ?_
        obtain ⟨⟨h0_344, h1_345⟩, h⟩ := h
        obtain ⟨Ad346, c347, hv348⟩ := sl_form (hC.getP 4 rfl) s279.toNat (show s279.toNat < a0.degrees.length by omega)
        refine s_iaddrS (len := a0.degrees.length) Tryz.underlying22 sc2.size (tr rfl hv348) rfl h0_344 h1_345 ?_
        refine guardOn 11 58 rfl rfl hb343 ?_
        refine s_loadCS (.int .i64 (a0.degrees.getD s279.toNat default)) (sl_cellsE (hC.getP 4 rfl) hv348 s279.toNat (show s279.toNat < a0.degrees.length by omega)) sc2 rfl ?_
        refine guardOn 11 58 rfl rfl hb343 ?_
        refine s_add rfl rfl ?_
        refine guardOn 11 58 rfl rfl hb343 ?_
        refine s_neq rfl rfl ?_
        refine guardOn 2 49 rfl rfl hb328 ?_
        refine s_pick (v := .bool (decide (r325 ≠ IntKind.i64.wrap ((a0.degrees.getD s279.toNat default) + 1)))) (b := true) (tr rfl (congrArg _ hb343)) rfl ?_
        refine s_pick (v := .bool (decide (r325 ≠ IntKind.i64.wrap ((a0.degrees.getD s279.toNat default) + 1)))) (b := false) (tr rfl (congrArg _ hb328)) rfl ?_
        refine dn ?_
        refine cw_cond rfl (fun hb349 => ?_) (fun hb349 => ?_)
        ·replace h := ift h (ct hb349)
         refine sr ?_
         refine s_as (v := .bool false) rfl ?_
         refine dn ?_
         refine wp_ret (blk_ret (then_ret (then_ret (blk_ret (then_ret ?_)))))
         refine ret1 (fn := Tryz.f92) rfl ?_ ⟨false, rfl, h, hC.below⟩ (.inl rfl)
         exact res_tmp rfl
        ·replace h := iff_ h (cf hb349)
         refine wp_skip ?_
         refine blk_norm ?_
         refine then_norm ?_
         refine cw_region ?_
         refine s_mv (v := .int .i64 s279) (sx hS_ 2 rfl) ?_
         refine s_add rfl rfl ?_
         refine s_as (v := .int .i64 (IntKind.i64.wrap (s279 + 1))) rfl ?_
         refine done ?_
         replace hC := hC.sP [3, 4, 5] (Ps' := [Ty.item TForm.sl a0.images [u0_1] fp0, Ty.item ((EI .i64).ty.sl) a0.degrees [u0_0] fp0, Ty.item TAlg a0 [u0_0, u0_1] fp0]) rfl
         exact hK282 (IntKind.i64.wrap (s279 + 1)) _ _ ⟨(sk (sx hS_ 0 rfl) (sk (sx hS_ 1 rfl) (sk rfl sn))), hC⟩ h
       ·replace h := iff_ h (cf hb343)
        refine guardOff (b := false) 11 58 rfl (tr rfl (congrArg _ hb343)) (by decide) ?_
        refine guardOff (b := false) 11 58 rfl (tr rfl (congrArg _ hb343)) (by decide) ?_
        refine guardOff (b := false) 11 58 rfl (tr rfl (congrArg _ hb343)) (by decide) ?_
        refine guardOff (b := false) 11 58 rfl (tr rfl (congrArg _ hb343)) (by decide) ?_
        refine guardOff (b := false) 11 58 rfl (tr rfl (congrArg _ hb343)) (by decide) ?_
        refine guardOff (b := false) 11 58 rfl (tr rfl (congrArg _ hb343)) (by decide) ?_
        refine guardOff (b := false) 11 58 rfl (tr rfl (congrArg _ hb343)) (by decide) ?_
        refine guardOff (b := false) 11 58 rfl (tr rfl (congrArg _ hb343)) (by decide) ?_
        refine guardOn 2 49 rfl rfl hb328 ?_
        refine s_pick (v := .bool false) (b := false) (tr rfl (congrArg _ hb343)) rfl ?_
        refine s_pick (v := .bool false) (b := false) (tr rfl (congrArg _ hb328)) rfl ?_
        refine dn ?_
        refine cw_false rfl rfl ?_
        refine wp_skip ?_
        refine blk_norm ?_
        refine then_norm ?_
        refine cw_region ?_
        refine s_mv (v := .int .i64 s279) (sx hS_ 2 rfl) ?_
        refine s_add rfl rfl ?_
        refine s_as (v := .int .i64 (IntKind.i64.wrap (s279 + 1))) rfl ?_
        refine done ?_
        replace hC := hC.sP [3, 4, 5] (Ps' := [Ty.item TForm.sl a0.images [u0_1] fp0, Ty.item ((EI .i64).ty.sl) a0.degrees [u0_0] fp0, Ty.item TAlg a0 [u0_0, u0_1] fp0]) rfl
        exact hK282 (IntKind.i64.wrap (s279 + 1)) _ _ ⟨(sk (sx hS_ 0 rfl) (sk (sx hS_ 1 rfl) (sk rfl sn))), hC⟩ h
    ·replace h := iff_ h (cf hb287)
     refine wp_exit (then_exit (then_exit (exit_in ?_)))
     refine then_norm ?_
     refine wp_seq ?_
     refine sr ?_
     refine s_as (v := .int .i64 0) rfl ?_
     refine dn ?_
     refine wp_block ?_
     refine loopW (S := Int) _ (fun s422 e_ w_ => Slots e_ [(1, .pointer (some ⟨b5, 0, none⟩)), (2, .bool false), (6, .int .i64 s422)] ∧ Ctx Nox w0 w_ [blk b5 32 [u0_0, u0_1]] [Ty.item TForm.sl a0.images [u0_1] fp0, Ty.item ((EI .i64).ty.sl) a0.degrees [u0_0] fp0, Ty.item TAlg a0 [u0_0, u0_1] fp0]) ?_ (s0 := 0) ?_ h
     ·clear hC h
      rintro s422 e_ w426 next423 K424 ⟨hS_, hC⟩ h hK425
      refine wp_seq ?_
      refine sr ?_
      refine s_mv (v := .int .i64 s422) (sx hS_ 2 rfl) ?_
      refine s_faddrB 1 Tryz.underlying32 rfl sc30.size (sx hS_ 0 rfl) rfl ?_
      refine s_loadS hC 0 (u0_1) rfl sc30 rfl rfl ?_
      obtain ⟨Ad427, c428, hv429⟩ := sl_len (hC.getP 0 rfl)
      refine s_len Tryz.underlying30 (tr rfl hv429) ?_
      refine s_lss rfl rfl ?_
      refine dn ?_
      refine cw_cond rfl (fun hb430 => ?_) (fun hb430 => ?_)
      ·replace h := ift h (ct hb430)
       refine wp_skip ?_
       refine then_norm ?_
       refine wp_seq ?_
       refine wp_block ?_
       refine wp_seq ?_
       refine cw_draw 6 mixed [0, 0, 2, 0, 14, 30, 63, 127, 255, 511] [0, 2, 4, 5] [1, 3] (by kernel_rfl) (by kernel_rfl) (by kernel_rfl) (fun hM432 hM433 w431 hB_ => ?_)
       replace hC := hC.grow hB_
       refine aL 0 (.agg #[u0_0, u0_1]) rfl rfl (hM432 0 rfl) (rfl) (fun _ hB_ => by exact r_loadA (hC.grow hB_) 0 [u0_0, u0_1] rfl ag32 (sx hS_ 0 rfl) rfl rfl) (dbits 10 1) ?_
       refine aF 1 (.pointer (some ⟨b5, 1, none⟩)) rfl rfl (hM433 1 rfl) (rfl) (fun _ => by exact r_faddrB 1 Tryz.underlying32 rfl sc30.size (sx hS_ 0 rfl) rfl) (dbits 10 3) ?_
       refine aL 2 (u0_1) rfl rfl (hM432 2 rfl) (rfl) (fun _ hB_ => by exact r_loadS (hC.grow hB_) 0 (u0_1) rfl sc30 rfl rfl) (dbits 10 7) ?_
       refine aF 3 (.int .i64 s422) rfl rfl (hM433 3 rfl) (rfl) (fun _ => by exact r_mv (v := .int .i64 s422) (sx hS_ 2 rfl)) (dbits 10 15) ?_
       obtain ⟨⟨h0_434, h1_435⟩, h⟩ := h
       obtain ⟨Ad436, c437, hv438⟩ := sl_form (hC.getP 0 rfl) s422.toNat (show s422.toNat < a0.images.length by omega)
       refine aL 4 (.pointer (some (Ad436.add (s422.toNat * 1)))) rfl rfl (hM432 4 rfl) (rfl) (fun _ hB_ => by exact r_iaddrS (len := a0.images.length) Tryz.underlying30 ag55.size (by exact tr rfl hv438) rfl h0_434 h1_435) (dbits 10 31) ?_
       obtain ⟨cs_, hl440, hc441, hr442⟩ := sl_cells (hC.getP 0 rfl) hv438 s422.toNat (show s422.toNat < a0.images.length by omega)
       obtain ⟨u439, rfl⟩ := List.length_eq_one_iff.1 hl440
       clear hl440
       rw [getD_eq _ _ (show s422.toNat < a0.images.length by omega)] at hr442
       have hp443 := hr442
       replace hC := hC.derive 0 rfl (Ty.item ETerm.ty.sl ((a0.images.getD s422.toNat default).terms) [u439] fp0) (fun _ => (form_parts hp443)) (fun _ hb_ => hb_)
       refine aL 5 (.agg #[u439]) rfl rfl (hM432 5 rfl) (rfl) (fun _ hB_ => by exact r_loadCA [u439] (cellsAt_bel hB_ hc441) ag55 rfl rfl) (dbits 10 63) ?_
       refine ae_tail 6 (by decide) (by decide) (by kernel_rfl) (by kernel_rfl) rfl ?_
       refine s_call [.agg #[u0_0, u0_1], .agg #[u439]] _ Tryz.func71 rfl rfl rfl (c_spec_l02D a0 (a0.images.getD s422.toNat default) h _ (alg_mk (hC.getP 2 rfl) (hC.getP 1 rfl)) (form_mk (hC.getP 0 rfl))) (fun ret445 w447 hR446 => ?_)
       obtain ⟨r448, u449, f450, rfl, h, hr451, hf452, hB453⟩ := hR446
       refine ⟨_, rfl, ?_⟩
       replace hC := hC.push hB453 (Tr.item (TrForm 162) r448 [u449] f450) hr451 hf452
       obtain ⟨ho455, hf456⟩ := form_split (hC.getM 0 rfl)
       subst hf456
       replace hC := hC.recast (c := own 162 9 u449 r448.terms.length (ETerm.encs r448.terms)) (fun _ h_ => h_) (fun _ => ho455)
       refine s_fieldS (u449) Tryz.underlying55 rfl sc53 rfl rfl ?_
       obtain ⟨Ad458, c459, hv460⟩ := own_form (hC.getM 0 rfl)
       refine s_len Tryz.underlying53 (tr rfl hv460) ?_
       refine s_gtr rfl rfl ?_
       refine done ?_
       refine qn_norm ?_
       refine then_norm ?_
       refine cw_cond rfl (fun hb461 => ?_) (fun hb461 => ?_)
       ·replace h := ift h (ct hb461)
        refine sr ?_
        refine s_as (v := .bool false) rfl ?_
        refine dn ?_
        refine wp_ret (blk_ret (then_ret (then_ret (blk_ret (then_ret ?_)))))
        refine ret1 (fn := Tryz.f92) rfl ?_ ⟨false, rfl, h, hC.below⟩ (.inl rfl)
        exact res_tmp rfl
       ·replace h := iff_ h (cf hb461)
        refine wp_skip ?_
        refine blk_norm ?_
        refine then_norm ?_
        refine cw_region ?_
        refine s_mv (v := .int .i64 s422) (sx hS_ 2 rfl) ?_
        refine s_add rfl rfl ?_
        refine s_as (v := .int .i64 (IntKind.i64.wrap (s422 + 1))) rfl ?_
        refine done ?_
        replace hC := hC.sM [1] (M' := [blk b5 32 [u0_0, u0_1]]) (by decide) rfl
        replace hC := hC.sP [1, 2, 3] (Ps' := [Ty.item TForm.sl a0.images [u0_1] fp0, Ty.item ((EI .i64).ty.sl) a0.degrees [u0_0] fp0, Ty.item TAlg a0 [u0_0, u0_1] fp0]) rfl
        exact hK425 (IntKind.i64.wrap (s422 + 1)) _ _ ⟨(sk (sx hS_ 0 rfl) (sk (sx hS_ 1 rfl) (sk rfl sn))), hC⟩ h
      ·replace h := iff_ h (cf hb430)
       refine wp_exit (then_exit (then_exit (exit_in ?_)))
       refine then_norm ?_
       refine sr ?_
       refine s_as (v := .bool true) rfl ?_
       refine dn ?_
       refine wp_ret ?_
       refine ret1 (fn := Tryz.f92) rfl ?_ ⟨true, rfl, h, hC.below⟩ (.inl rfl)
       exact res_tmp rfl
     ·skip
      exact ⟨(sk (sx hS_ 0 rfl) (sk (sx hS_ 1 rfl) (sk rfl sn))), hC⟩
   ·skip
    exact ⟨(sk rfl (sk rfl (sk rfl sn))), hC⟩
def f_impl_field (a0 : Int) (K : Int → Prop) : Prop :=
 K (Int.tmod (IntKind.i64.wrap ((Int.tmod a0 10007) + 10007)) 10007)
theorem c_impl_field (a0 : Int)  {K : Int → Prop} (h : f_impl_field a0 K) (w0 : World)  :
  Calls Tryz.prog 187 #[.int .i64 a0] w0 fun e w' => ∃ (r0 : Int), 
   e = .returned (.int .i64 r0) ∧ K r0 ∧ Bel w0 w' := by
 unfold f_impl_field at h
 refine calls_of (args := [.int .i64 a0]) Tryz.func187 rfl 7 Tryz.ntmps187 (Nat.le_of_ble_eq_true rfl) ?_
 have hC := Ctx.start (X := Nox) w0 [] (by simp)
 refine sr ?_
 refine s_as (v := .int .i64 0) rfl ?_
 refine dn ?_
 refine sr ?_
 refine s_mv (v := .int .i64 a0) rfl ?_
 refine s_rem rfl rfl (by decide) ?_
 refine s_add rfl rfl ?_
 refine s_rem rfl rfl (by decide) ?_
 refine s_as (v := .int .i64 (Int.tmod (IntKind.i64.wrap ((Int.tmod a0 10007) + 10007)) 10007)) rfl ?_
 refine dn ?_
 refine wp_ret ?_
 refine ret1 (fn := Tryz.f187) rfl ?_ ⟨Int.tmod (IntKind.i64.wrap ((Int.tmod a0 10007) + 10007)) 10007, rfl, h, hC.below⟩ (.inl rfl)
 exact res_tmp rfl
def f_impl_powerOf (a0 : A8) (K : A8 → Prop) : Prop :=
 forN (fun i21 (s22 : A8) next23 => next23 (s22.set i21 (IntKind.i64.wrap (a0.get i21)))) (fun (s22 : A8) => K s22) 8 0 A8.zero
theorem c_impl_powerOf (a0 : A8)  {K : A8 → Prop} (h : f_impl_powerOf a0 K) (w0 : World)  :
  Calls Tryz.prog 134 #[.agg (List.toArray (A8.enc .u8 a0))] w0 fun e w' => ∃ (r0 : A8), 
   e = .returned (.agg (List.toArray (A8.enc .i64 r0))) ∧ K r0 ∧ Bel w0 w' := by
 unfold f_impl_powerOf at h
 refine calls_of (args := [.agg (List.toArray (A8.enc .u8 a0))]) Tryz.func134 rfl 18 Tryz.ntmps134 (Nat.le_of_ble_eq_true rfl) ?_
 have hC := Ctx.start (X := Nox) w0 [] (by simp)
 refine sr ?_
 refine s_box (v := .agg (List.toArray (A8.enc .u8 a0))) hC (A8.enc .u8 a0) rfl rfl fun b1 w3 hB_ hC => ?_
 refine s_alloc hC (A8.enc .i64 A8.zero) z73 rfl fun b4 w6 hB_ hC => ?_
 refine dn ?_
 refine sr ?_
 refine s_build [] rfl (bl73   _) ?_
 refine s_alloc hC (A8.enc .i64 A8.zero) z73 rfl fun b7 w9 hB_ hC => ?_
 refine s_store (v := .agg (List.toArray (A8.enc .i64 A8.zero))) hC 0 (A8.enc .i64 A8.zero) (A8.enc .i64 A8.zero) rfl ag73.size rfl rfl rfl rfl rfl (Nat.le_of_ble_eq_true rfl) rfl fun w10 hC => ?_
 refine dn ?_
 refine wp_seq ?_
 refine sr ?_
 refine s_loadA hC 2 (A8.enc .u8 a0) rfl ag136 rfl rfl rfl ?_
 refine s_mv (v := .int .i64 0) rfl ?_
 refine dn ?_
 refine wp_block ?_
 refine loopN (S := A8) _ _ (fun i21 s22 e_ w_ => Slots e_ [(2, .pointer (some ⟨b4, 0, none⟩)), (3, .pointer (some ⟨b7, 0, none⟩)), (7, .agg (List.toArray (A8.enc .u8 a0))), (8, .int .i64 (i21 : Int))] ∧ Ctx Nox w0 w_ [blk b7 73 (A8.enc .i64 s22), blk b4 73 (A8.enc .i64 A8.zero)] []) 8 ?_ ?_ (s0 := A8.zero) ?_ h
 ·clear hC h
  rintro i21 s22 e_ w27 next23 K24 hi26 ⟨hS_, hC⟩ h hK25
  refine sr ?_
  refine s_lss (sx hS_ 3 rfl) rfl ?_
  refine dn ?_
  refine wp_seq ?_
  refine cw_true rfl (decide_eq_true (by omega)) ?_
  refine wp_skip ?_
  refine then_norm ?_
  refine wp_seq ?_
  refine wp_block ?_
  refine sr ?_
  refine s_mv (v := .int .i64 (i21 : Int)) (sx hS_ 3 rfl) ?_
  refine s_index (.int .u8 (a0.get i21)) Tryz.underlying136 (sx hS_ 2 rfl) (sx hS_ 3 rfl) (Int.natCast_nonneg _) (by omega) sc5 (A8.enc_get _ _ hi26) ?_
  refine s_as (v := .int .i64 (i21 : Int)) rfl ?_
  refine s_as (v := .int .u8 (a0.get i21)) rfl ?_
  refine dn ?_
  refine cw_region ?_
  refine s_mv (v := .int .i64 (i21 : Int)) rfl ?_
  refine s_mv (v := .int .u8 (a0.get i21)) rfl ?_
  refine s_conv Tryz.underlying5 Tryz.underlying3 rfl ?_
  refine s_iaddrB i21 Tryz.underlying73 sc3.size (sx hS_ 1 rfl) rfl (Int.natCast_nonneg _) (by omega) (by omega) ?_
  refine s_store (v := .int .i64 (IntKind.i64.wrap (a0.get i21))) hC 0 [.int .i64 (IntKind.i64.wrap (a0.get i21))] (A8.enc .i64 (s22.set i21 (IntKind.i64.wrap (a0.get i21)))) rfl sc3.size rfl rfl rfl rfl rfl hi26 (A8.enc_set _ _ _ hi26) fun w28 hC => ?_
  refine done ?_
  refine blk_norm ?_
  refine then_norm ?_
  refine cw_region ?_
  refine s_add (sx hS_ 3 rfl) rfl ?_
  refine s_mv (v := .int .i64 (IntKind.i64.wrap ((i21 : Int) + 1))) rfl ?_
  refine done ?_
  exact hK25 (s22.set i21 (IntKind.i64.wrap (a0.get i21))) _ _ ⟨(sk (sx hS_ 0 rfl) (sk (sx hS_ 1 rfl) (sk (sx hS_ 2 rfl) (sk (tr rfl (congrArg _ (wrap64_nat hi26 (by decide)))) sn)))), hC⟩ h
 ·clear hC h
  rintro s22 e_ w29 K24 ⟨hS_, hC⟩ h
  refine sr ?_
  refine s_lss (sx hS_ 3 rfl) rfl ?_
  refine dn ?_
  refine wp_seq ?_
  refine cw_false rfl (decide_eq_false (by omega)) ?_
  refine wp_exit (then_exit (then_exit (exit_in ?_)))
  refine then_norm ?_
  refine sr ?_
  refine s_loadA hC 0 (A8.enc .i64 s22) rfl ag73 (sx hS_ 1 rfl) rfl rfl ?_
  refine s_store (v := .agg (List.toArray (A8.enc .i64 s22))) hC 1 (A8.enc .i64 s22) (A8.enc .i64 s22) rfl ag73.size (sx hS_ 0 rfl) rfl rfl rfl rfl (Nat.le_of_ble_eq_true rfl) rfl fun w30 hC => ?_
  refine dn ?_
  refine wp_ret ?_
  refine ret1 (fn := Tryz.f134) rfl ?_ ⟨s22, rfl, h, hC.below⟩ (.inl rfl)
  exact res_cellA hC 1 rfl ag73 (sx hS_ 0 rfl) rfl
 ·skip
  replace hC := hC.sM [0, 1] (M' := [blk b7 73 (A8.enc .i64 A8.zero), blk b4 73 (A8.enc .i64 A8.zero)]) (by decide) rfl
  exact ⟨(sk rfl (sk rfl (sk rfl (sk rfl sn)))), hC⟩
def f_impl_power_times (a0 : A8) (a1 : List Int) (a2 : A8) (K : A8 → Int → Prop) : Prop :=
 forN (fun i220 (s221 : Int) next223 => (if Int.tmod (a1.getD i220 default) 2 = 0 then next223 s221 else ((0 ≤ (i220 : Int) ∧ (i220 : Int) < 8) ∧ (if a0.get i220 > 0 then ((0 ≤ (i220 : Int) ∧ (i220 : Int) < 8) ∧ (if a2.get i220 > 0 then K A8.zero 0 else ((0 ≤ (i220 : Int) ∧ (i220 : Int) < 8) ∧ next223 s221))) else ((0 ≤ (i220 : Int) ∧ (i220 : Int) < 8) ∧ (if a2.get i220 > 0 then whileP (fun (s274 : Int × Int) next275 => (if s274.1 < (a1.length : Int) then ((0 ≤ s274.1 ∧ s274.1 < (a1.length : Int)) ∧ ((0 ≤ s274.1 ∧ s274.1 < 8) ∧ next275 (IntKind.i64.wrap (s274.1 + 1), IntKind.i64.wrap (s274.2 + (IntKind.i64.wrap ((Int.tmod (a1.getD s274.1.toNat default) 2) * (a0.get s274.1.toNat))))))) else next223 s274.2)) (IntKind.i64.wrap ((i220 : Int) + 1), s221) else next223 s221)))))) (fun (s221 : Int) => forN (fun i314 (s315 : A8) next316 => next316 (s315.set i314 (IntKind.i64.wrap ((s315.get i314) + (a2.get i314))))) (fun (s315 : A8) => (if Int.tmod s221 2 = 1 then K s315 (-1) else K s315 1)) 8 0 a0) a1.length 0 0
theorem c_impl_power_times (a0 : A8) (a1 : List Int) (a2 : A8) {u1_0 : Value} {fp1 : List Nat} {K : A8 → Int → Prop} (h : f_impl_power_times a0 a1 a2 K) (w0 : World) (q1 : ((EI .i64).ty.sl).rep a1 [u1_0] fp1 w0) :
  Calls Tryz.prog 199 #[.agg (List.toArray (A8.enc .i64 a0)), u1_0, .agg (List.toArray (A8.enc .i64 a2))] w0 fun e w' => ∃ (r0 : A8) (r1 : Int), 
   e = .returned (.tuple #[.agg (List.toArray (A8.enc .i64 r0)), .int .i64 r1]) ∧ K r0 r1 ∧ Bel w0 w' := by
 unfold f_impl_power_times at h
 refine calls_of (args := [.agg (List.toArray (A8.enc .i64 a0)), u1_0, .agg (List.toArray (A8.enc .i64 a2))]) Tryz.func199 rfl 75 Tryz.ntmps199 (Nat.le_of_ble_eq_true rfl) ?_
 have hC := Ctx.start (X := Nox) w0 [Ty.item ((EI .i64).ty.sl) a1 [u1_0] fp1] (by simp only [List.mem_cons, List.not_mem_nil, or_false, forall_eq_or_imp, forall_eq]; exact q1)
 refine sr ?_
 refine s_box (v := .agg (List.toArray (A8.enc .i64 a0))) hC (A8.enc .i64 a0) rfl rfl fun b2 w4 hB_ hC => ?_
 refine s_box (v := .agg (List.toArray (A8.enc .i64 a2))) hC (A8.enc .i64 a2) rfl rfl fun b5 w7 hB_ hC => ?_
 refine s_alloc hC (A8.enc .i64 A8.zero) z73 rfl fun b8 w10 hB_ hC => ?_
 refine s_as (v := .int .i64 0) rfl ?_
 refine dn ?_
 refine sr ?_
 refine s_as (v := .int .i64 0) rfl ?_
 refine dn ?_
 refine wp_seq ?_
 refine sr ?_
 refine s_mv (v := u1_0) rfl ?_
 obtain ⟨Ad11, c12, hv13⟩ := sl_len (hC.getP 0 rfl)
 refine s_len Tryz.underlying22 (tr rfl hv13) ?_
 refine s_mv (v := .int .i64 0) rfl ?_
 refine dn ?_
 refine wp_block ?_
 have hN222 : a1.length ≤ 9223372036854775807 := sl_max (hC.getP 0 rfl)
 refine loopN (S := Int) _ _ (fun i220 s221 e_ w_ => Slots e_ [(1, u1_0), (3, .pointer (some ⟨b2, 0, none⟩)), (5, .pointer (some ⟨b5, 0, none⟩)), (6, .pointer (some ⟨b8, 0, none⟩)), (7, .int .i64 0), (8, .int .i64 s221), (13, u1_0), (14, .int .i64 (a1.length : Int)), (15, .int .i64 (i220 : Int))] ∧ Ctx Nox w0 w_ [blk b8 73 (A8.enc .i64 A8.zero), blk b5 73 (A8.enc .i64 a2), blk b2 73 (A8.enc .i64 a0)] [Ty.item ((EI .i64).ty.sl) a1 [u1_0] fp1]) a1.length ?_ ?_ (s0 := 0) ?_ h
 ·clear hC h
  rintro i220 s221 e_ w227 next223 K224 hi226 ⟨hS_, hC⟩ h hK225
  refine sr ?_
  refine s_lss (sx hS_ 8 rfl) (sx hS_ 7 rfl) ?_
  refine dn ?_
  refine wp_seq ?_
  refine cw_true rfl (decide_eq_true (by omega)) ?_
  refine wp_skip ?_
  refine then_norm ?_
  refine wp_seq ?_
  refine wp_block ?_
  refine sr ?_
  refine s_mv (v := .int .i64 (i220 : Int)) (sx hS_ 8 rfl) ?_
  obtain ⟨Ad228, c229, hv230⟩ := sl_form (hC.getP 0 rfl) i220 hi226
  refine s_iaddrS (len := a1.length) Tryz.underlying22 sc2.size (tr (sx hS_ 6 rfl) hv230) (sx hS_ 8 rfl) (Int.natCast_nonneg _) (Int.ofNat_lt.2 hi226) ?_
  refine s_loadCS (.int .i64 (a1.getD i220 default)) (sl_cellsE (hC.getP 0 rfl) hv230 i220 hi226) sc2 rfl ?_
  refine s_as (v := .int .i64 (i220 : Int)) rfl ?_
  refine s_as (v := .int .i64 (a1.getD i220 default)) rfl ?_
  refine dn ?_
  refine wp_seq ?_
  refine sr ?_
  refine s_mv (v := .int .i64 (a1.getD i220 default)) rfl ?_
  refine s_rem rfl rfl (by decide) ?_
  refine s_eql rfl rfl ?_
  refine dn ?_
  refine cw_cond rfl (fun hb231 => ?_) (fun hb231 => ?_)
  ·replace h := ift h (ct hb231)
   refine wp_exit (then_exit (exit_in ?_))
   refine then_norm ?_
   refine cw_region ?_
   refine s_add (sx hS_ 8 rfl) rfl ?_
   refine s_mv (v := .int .i64 (IntKind.i64.wrap ((i220 : Int) + 1))) rfl ?_
   refine done ?_
   exact hK225 s221 _ _ ⟨(sk (sx hS_ 0 rfl) (sk (sx hS_ 1 rfl) (sk (sx hS_ 2 rfl) (sk (sx hS_ 3 rfl) (sk (sx hS_ 4 rfl) (sk (sx hS_ 5 rfl) (sk (sx hS_ 6 rfl) (sk (sx hS_ 7 rfl) (sk (tr rfl (congrArg _ (wrap64_nat hi226 hN222))) sn))))))))), hC⟩ h
  ·replace h := iff_ h (cf hb231)
   refine wp_skip ?_
   refine then_norm ?_
   refine wp_seq ?_
   refine sr ?_
   refine s_mv (v := .int .i64 (i220 : Int)) rfl ?_
   obtain ⟨⟨h0_232, h1_233⟩, h⟩ := h
   refine s_iaddrB i220 Tryz.underlying73 sc3.size (sx hS_ 1 rfl) rfl h0_232 h1_233 (by omega) ?_
   refine s_loadS hC 2 (.int .i64 (a0.get i220)) rfl sc3 rfl (A8.enc_get _ _ (show i220 < 8 by omega)) ?_
   refine s_gtr rfl rfl ?_
   refine s_mv (v := .bool (decide (a0.get i220 > 0))) rfl ?_
   refine bsplit (decide (a0.get i220 > 0)) (fun hb234 => ?_) (fun hb234 => ?_)
   ·replace h := ift h (ct hb234)
    refine guardOn 4 27 rfl rfl hb234 ?_
    refine s_mv (v := .int .i64 (i220 : Int)) rfl ?_
    refine guardOn 4 27 rfl rfl hb234 ?_
    obtain ⟨⟨h0_235, h1_236⟩, h⟩ := h
    refine s_iaddrB i220 Tryz.underlying73 sc3.size (sx hS_ 2 rfl) rfl h0_235 h1_236 (by omega) ?_
    refine guardOn 4 27 rfl rfl hb234 ?_
    refine s_loadS hC 1 (.int .i64 (a2.get i220)) rfl sc3 rfl (A8.enc_get _ _ (show i220 < 8 by omega)) ?_
    refine guardOn 4 27 rfl rfl hb234 ?_
    refine s_gtr rfl rfl ?_
    refine s_pick (v := .bool (decide (a2.get i220 > 0))) (b := true) (tr rfl (congrArg _ hb234)) rfl ?_
    refine dn ?_
    refine cw_cond rfl (fun hb237 => ?_) (fun hb237 => ?_)
    ·replace h := ift h (ct hb237)
     refine sr ?_
     refine s_build [] rfl (bl73   _) ?_
     refine s_store (v := .agg (List.toArray (A8.enc .i64 A8.zero))) hC 0 (A8.enc .i64 A8.zero) (A8.enc .i64 A8.zero) rfl ag73.size (sx hS_ 3 rfl) rfl rfl rfl rfl (Nat.le_of_ble_eq_true rfl) rfl fun w238 hC => ?_
     refine s_as (v := .int .i64 0) rfl ?_
     refine dn ?_
     refine wp_ret (then_ret (blk_ret (then_ret (then_ret (blk_ret (then_ret ?_))))))
     refine ret2 (fn := Tryz.f199) rfl ?_ ?_ ⟨A8.zero, 0, rfl, h, hC.below⟩ (.inl rfl)
     ·exact res_cellA hC 0 rfl ag73 (sx hS_ 3 rfl) rfl
     ·exact res_tmp rfl
    ·replace h := iff_ h (cf hb237)
     refine wp_skip ?_
     refine then_norm ?_
     refine sr ?_
     refine s_mv (v := .int .i64 (i220 : Int)) rfl ?_
     obtain ⟨⟨h0_239, h1_240⟩, h⟩ := h
     refine s_iaddrB i220 Tryz.underlying73 sc3.size (sx hS_ 2 rfl) rfl h0_239 h1_240 (by omega) ?_
     refine s_loadS hC 1 (.int .i64 (a2.get i220)) rfl sc3 rfl (A8.enc_get _ _ (show i220 < 8 by omega)) ?_
     refine s_gtr rfl rfl ?_
     refine dn ?_
     refine cw_false rfl hb237 ?_
     refine wp_skip ?_
     refine blk_norm ?_
     refine then_norm ?_
     refine cw_region ?_
     refine s_add (sx hS_ 8 rfl) rfl ?_
     refine s_mv (v := .int .i64 (IntKind.i64.wrap ((i220 : Int) + 1))) rfl ?_
     refine done ?_
     exact hK225 s221 _ _ ⟨(sk (sx hS_ 0 rfl) (sk (sx hS_ 1 rfl) (sk (sx hS_ 2 rfl) (sk (sx hS_ 3 rfl) (sk (sx hS_ 4 rfl) (sk (sx hS_ 5 rfl) (sk (sx hS_ 6 rfl) (sk (sx hS_ 7 rfl) (sk (tr rfl (congrArg _ (wrap64_nat hi226 hN222))) sn))))))))), hC⟩ h
   ·replace h := iff_ h (cf hb234)
    refine guardOff (b := false) 4 27 rfl (tr rfl (congrArg _ hb234)) (by decide) ?_
    refine guardOff (b := false) 4 27 rfl (tr rfl (congrArg _ hb234)) (by decide) ?_
    refine guardOff (b := false) 4 27 rfl (tr rfl (congrArg _ hb234)) (by decide) ?_
    refine guardOff (b := false) 4 27 rfl (tr rfl (congrArg _ hb234)) (by decide) ?_
    refine s_pick (v := .bool false) (b := false) (tr rfl (congrArg _ hb234)) rfl ?_
    refine dn ?_
    refine cw_false rfl rfl ?_
    refine wp_skip ?_
    refine then_norm ?_
    refine sr ?_
    refine s_mv (v := .int .i64 (i220 : Int)) rfl ?_
    obtain ⟨⟨h0_241, h1_242⟩, h⟩ := h
    refine s_iaddrB i220 Tryz.underlying73 sc3.size (sx hS_ 2 rfl) rfl h0_241 h1_242 (by omega) ?_
    refine s_loadS hC 1 (.int .i64 (a2.get i220)) rfl sc3 rfl (A8.enc_get _ _ (show i220 < 8 by omega)) ?_
    refine s_gtr rfl rfl ?_
    refine dn ?_
    refine cw_cond rfl (fun hb243 => ?_) (fun hb243 => ?_)
    ·replace h := ift h (ct hb243)
     refine sr ?_
     refine s_mv (v := .int .i64 (i220 : Int)) rfl ?_
     refine s_add rfl rfl ?_
     refine s_as (v := .int .i64 (IntKind.i64.wrap ((i220 : Int) + 1))) rfl ?_
     refine dn ?_
     refine wp_block ?_
     refine loopW (S := Int × Int) _ (fun s274 e_ w_ => Slots e_ [(1, u1_0), (3, .pointer (some ⟨b2, 0, none⟩)), (5, .pointer (some ⟨b5, 0, none⟩)), (6, .pointer (some ⟨b8, 0, none⟩)), (7, .int .i64 0), (8, .int .i64 s274.2), (9, .int .i64 (i220 : Int)), (10, .int .i64 (a1.getD i220 default)), (11, .int .i64 s274.1), (13, u1_0), (14, .int .i64 (a1.length : Int)), (15, .int .i64 (i220 : Int)), (16, .bool (decide ((i220 : Int) < (a1.length : Int)))), (17, .int .i64 (i220 : Int)), (18, .pointer (some (Ad228.add (i220 * 1)))), (19, .int .i64 (a1.getD i220 default)), (20, .int .i64 (a1.getD i220 default)), (21, .int .i64 (Int.tmod (a1.getD i220 default) 2)), (22, .bool (decide (Int.tmod (a1.getD i220 default) 2 = 0))), (23, .int .i64 (i220 : Int)), (24, .pointer (some ⟨b2, i220, none⟩)), (25, .int .i64 (a0.get i220)), (26, .bool (decide (a0.get i220 > 0))), (27, .bool (decide (a0.get i220 > 0))), (32, .bool false), (34, .int .i64 (i220 : Int)), (35, .pointer (some ⟨b5, i220, none⟩)), (36, .int .i64 (a2.get i220)), (37, .bool (decide (a2.get i220 > 0))), (38, .int .i64 (i220 : Int)), (39, .int .i64 (IntKind.i64.wrap ((i220 : Int) + 1)))] ∧ Ctx Nox w0 w_ [blk b8 73 (A8.enc .i64 A8.zero), blk b5 73 (A8.enc .i64 a2), blk b2 73 (A8.enc .i64 a0)] [Ty.item ((EI .i64).ty.sl) a1 [u1_0] fp1]) ?_ (s0 := (IntKind.i64.wrap ((i220 : Int) + 1), s221)) ?_ h
     ·clear hC h
      rintro s274 e_ w278 next275 K276 ⟨hS_, hC⟩ h hK277
      refine wp_seq ?_
      refine sr ?_
      refine s_mv (v := .int .i64 s274.1) (sx hS_ 8 rfl) ?_
      refine s_mv (v := u1_0) (sx hS_ 0 rfl) ?_
      obtain ⟨Ad279, c280, hv281⟩ := sl_len (hC.getP 0 rfl)
      refine s_len Tryz.underlying22 (tr rfl hv281) ?_
      refine s_lss rfl rfl ?_
      refine dn ?_
      refine cw_cond rfl (fun hb282 => ?_) (fun hb282 => ?_)
      ·replace h := ift h (ct hb282)
       refine wp_skip ?_
       refine then_norm ?_
       refine wp_seq ?_
       refine wp_block ?_
       refine cw_draw 10 mixed [0, 0, 0, 6, 14, 30, 0, 64, 192, 510, 1023, 2047] [3, 4, 7, 8] [0, 1, 2, 5, 6, 9] (by kernel_rfl) (by kernel_rfl) (by kernel_rfl) (fun hM284 hM285 w283 hB_ => ?_)
       replace hC := hC.grow hB_
       refine aF 0 (.int .i64 s274.2) rfl rfl (hM285 0 rfl) (rfl) (fun _ => by exact r_mv (v := .int .i64 s274.2) (sx hS_ 5 rfl)) (dbits 12 1) ?_
       refine aF 1 (u1_0) rfl rfl (hM285 1 rfl) (rfl) (fun _ => by exact r_mv (v := u1_0) (sx hS_ 0 rfl)) (dbits 12 3) ?_
       refine aF 2 (.int .i64 s274.1) rfl rfl (hM285 2 rfl) (rfl) (fun _ => by exact r_mv (v := .int .i64 s274.1) (sx hS_ 8 rfl)) (dbits 12 7) ?_
       obtain ⟨⟨h0_286, h1_287⟩, h⟩ := h
       obtain ⟨Ad288, c289, hv290⟩ := sl_form (hC.getP 0 rfl) s274.1.toNat (show s274.1.toNat < a1.length by omega)
       refine aL 3 (.pointer (some (Ad288.add (s274.1.toNat * 1)))) rfl rfl (hM284 3 rfl) (rfl) (fun _ hB_ => by exact r_iaddrS (len := a1.length) Tryz.underlying22 sc2.size (by exact tr rfl hv290) rfl h0_286 h1_287) (dbits 12 15) ?_
       refine aL 4 (.int .i64 (a1.getD s274.1.toNat default)) rfl rfl (hM284 4 rfl) (rfl) (fun _ hB_ => by exact r_loadCS (.int .i64 (a1.getD s274.1.toNat default)) (sl_cellsE ((hC.grow hB_).getP 0 rfl) hv290 s274.1.toNat (show s274.1.toNat < a1.length by omega)) sc2 rfl) (dbits 12 31) ?_
       refine aF 5 (.int .i64 (Int.tmod (a1.getD s274.1.toNat default) 2)) rfl rfl (hM285 5 rfl) (rfl) (fun _ => by exact r_rem rfl rfl (by decide)) (dbits 12 63) ?_
       refine aF 6 (.int .i64 s274.1) rfl rfl (hM285 6 rfl) (rfl) (fun _ => by exact r_mv (v := .int .i64 s274.1) (sx hS_ 8 rfl)) (dbits 12 127) ?_
       obtain ⟨⟨h0_291, h1_292⟩, h⟩ := h
       refine aL 7 (.pointer (some ⟨b2, s274.1.toNat, none⟩)) rfl rfl (hM284 7 rfl) (rfl) (fun _ hB_ => by exact r_iaddrB s274.1.toNat Tryz.underlying73 sc3.size (sx hS_ 1 rfl) rfl h0_291 h1_292 (by omega)) (dbits 12 255) ?_
       refine aL 8 (.int .i64 (a0.get s274.1.toNat)) rfl rfl (hM284 8 rfl) (rfl) (fun _ hB_ => by exact r_loadS (hC.grow hB_) 2 (.int .i64 (a0.get s274.1.toNat)) rfl sc3 rfl (A8.enc_get _ _ (show s274.1.toNat < 8 by omega))) (dbits 12 511) ?_
       refine aF 9 (.int .i64 (IntKind.i64.wrap ((Int.tmod (a1.getD s274.1.toNat default) 2) * (a0.get s274.1.toNat)))) rfl rfl (hM285 9 rfl) (rfl) (fun _ => by exact r_mul rfl rfl) (dbits 12 1023) ?_
       refine ae_tail 10 (by decide) (by decide) (by kernel_rfl) (by kernel_rfl) rfl ?_
       refine s_add rfl rfl ?_
       refine s_as (v := .int .i64 (IntKind.i64.wrap (s274.2 + (IntKind.i64.wrap ((Int.tmod (a1.getD s274.1.toNat default) 2) * (a0.get s274.1.toNat)))))) rfl ?_
       refine done ?_
       refine qn_norm ?_
       refine blk_norm ?_
       refine then_norm ?_
       refine cw_region ?_
       refine s_mv (v := .int .i64 s274.1) (sx hS_ 8 rfl) ?_
       refine s_add rfl rfl ?_
       refine s_as (v := .int .i64 (IntKind.i64.wrap (s274.1 + 1))) rfl ?_
       refine done ?_
       exact hK277 (IntKind.i64.wrap (s274.1 + 1), IntKind.i64.wrap (s274.2 + (IntKind.i64.wrap ((Int.tmod (a1.getD s274.1.toNat default) 2) * (a0.get s274.1.toNat))))) _ _ ⟨(sk (sx hS_ 0 rfl) (sk (sx hS_ 1 rfl) (sk (sx hS_ 2 rfl) (sk (sx hS_ 3 rfl) (sk (sx hS_ 4 rfl) (sk rfl (sk (sx hS_ 6 rfl) (sk (sx hS_ 7 rfl) (sk rfl (sk (sx hS_ 9 rfl) (sk (sx hS_ 10 rfl) (sk (sx hS_ 11 rfl) (sk (sx hS_ 12 rfl) (sk (sx hS_ 13 rfl) (sk (sx hS_ 14 rfl) (sk (sx hS_ 15 rfl) (sk (sx hS_ 16 rfl) (sk (sx hS_ 17 rfl) (sk (sx hS_ 18 rfl) (sk (sx hS_ 19 rfl) (sk (sx hS_ 20 rfl) (sk (sx hS_ 21 rfl) (sk (sx hS_ 22 rfl) (sk (sx hS_ 23 rfl) (sk (sx hS_ 24 rfl) (sk (sx hS_ 25 rfl) (sk (sx hS_ 26 rfl) (sk (sx hS_ 27 rfl) (sk (sx hS_ 28 rfl) (sk (sx hS_ 29 rfl) (sk (sx hS_ 30 rfl) sn))))))))))))))))))))))))))))))), hC⟩ h
      ·replace h := iff_ h (cf hb282)
       refine wp_exit (then_exit (then_exit (exit_in ?_)))
       refine blk_norm ?_
       refine then_norm ?_
       refine cw_region ?_
       refine s_add (sx hS_ 11 rfl) rfl ?_
       refine s_mv (v := .int .i64 (IntKind.i64.wrap ((i220 : Int) + 1))) rfl ?_
       refine done ?_
       exact hK225 s274.2 _ _ ⟨(sk (sx hS_ 0 rfl) (sk (sx hS_ 1 rfl) (sk (sx hS_ 2 rfl) (sk (sx hS_ 3 rfl) (sk (sx hS_ 4 rfl) (sk (sx hS_ 5 rfl) (sk (sx hS_ 9 rfl) (sk (sx hS_ 10 rfl) (sk (tr rfl (congrArg _ (wrap64_nat hi226 hN222))) sn))))))))), hC⟩ h
     ·skip
      exact ⟨(sk (sx hS_ 0 rfl) (sk (sx hS_ 1 rfl) (sk (sx hS_ 2 rfl) (sk (sx hS_ 3 rfl) (sk (sx hS_ 4 rfl) (sk (sx hS_ 5 rfl) (sk rfl (sk rfl (sk rfl (sk (sx hS_ 6 rfl) (sk (sx hS_ 7 rfl) (sk (sx hS_ 8 rfl) (sk rfl (sk rfl (sk rfl (sk rfl (sk rfl (sk rfl (sk rfl (sk rfl (sk rfl (sk rfl (sk rfl (sk rfl (sk rfl (sk rfl (sk rfl (sk rfl (sk rfl (sk rfl (sk rfl sn))))))))))))))))))))))))))))))), hC⟩
    ·replace h := iff_ h (cf hb243)
     refine wp_skip ?_
     refine blk_norm ?_
     refine then_norm ?_
     refine cw_region ?_
     refine s_add (sx hS_ 8 rfl) rfl ?_
     refine s_mv (v := .int .i64 (IntKind.i64.wrap ((i220 : Int) + 1))) rfl ?_
     refine done ?_
     exact hK225 s221 _ _ ⟨(sk (sx hS_ 0 rfl) (sk (sx hS_ 1 rfl) (sk (sx hS_ 2 rfl) (sk (sx hS_ 3 rfl) (sk (sx hS_ 4 rfl) (sk (sx hS_ 5 rfl) (sk (sx hS_ 6 rfl) (sk (sx hS_ 7 rfl) (sk (tr rfl (congrArg _ (wrap64_nat hi226 hN222))) sn))))))))), hC⟩ h
 ·clear hC h
  rintro s221 e_ w293 K224 ⟨hS_, hC⟩ h
  refine sr ?_
  refine s_lss (sx hS_ 8 rfl) (sx hS_ 7 rfl) ?_
  refine dn ?_
  refine wp_seq ?_
  refine cw_false rfl (decide_eq_false (by omega)) ?_
  refine wp_exit (then_exit (then_exit (exit_in ?_)))
  refine then_norm ?_
  refine wp_seq ?_
  refine sr ?_
  refine s_mv (v := .int .i64 0) rfl ?_
  refine dn ?_
  refine wp_block ?_
  refine loopN (S := A8) _ _ (fun i314 s315 e_ w_ => Slots e_ [(3, .pointer (some ⟨b2, 0, none⟩)), (5, .pointer (some ⟨b5, 0, none⟩)), (6, .pointer (some ⟨b8, 0, none⟩)), (7, .int .i64 0), (8, .int .i64 s221), (58, .int .i64 (i314 : Int))] ∧ Ctx Nox w0 w_ [blk b8 73 (A8.enc .i64 A8.zero), blk b5 73 (A8.enc .i64 a2), blk b2 73 (A8.enc .i64 s315)] [Ty.item ((EI .i64).ty.sl) a1 [u1_0] fp1]) 8 ?_ ?_ (s0 := a0) ?_ h
  ·clear hC h
   rintro i314 s315 e_ w320 next316 K317 hi319 ⟨hS_, hC⟩ h hK318
   refine sr ?_
   refine s_lss (sx hS_ 5 rfl) rfl ?_
   refine dn ?_
   refine wp_seq ?_
   refine cw_true rfl (decide_eq_true (by omega)) ?_
   refine wp_skip ?_
   refine then_norm ?_
   refine wp_seq ?_
   refine wp_block ?_
   refine sr ?_
   refine s_mv (v := .int .i64 (i314 : Int)) (sx hS_ 5 rfl) ?_
   refine s_as (v := .int .i64 (i314 : Int)) rfl ?_
   refine dn ?_
   refine cw_draw 6 mixed [0, 1, 3, 0, 8, 24, 63, 127, 255] [1, 2, 4, 5] [0, 3] (by kernel_rfl) (by kernel_rfl) (by kernel_rfl) (fun hM322 hM323 w321 hB_ => ?_)
   replace hC := hC.grow hB_
   refine aF 0 (.int .i64 (i314 : Int)) rfl rfl (hM323 0 rfl) (rfl) (fun _ => by exact r_mv (v := .int .i64 (i314 : Int)) rfl) (dbits 9 1) ?_
   refine aL 1 (.pointer (some ⟨b2, i314, none⟩)) rfl rfl (hM322 1 rfl) (rfl) (fun _ hB_ => by exact r_iaddrB i314 Tryz.underlying73 sc3.size (sx hS_ 0 rfl) rfl (Int.natCast_nonneg _) (by omega) (by omega)) (dbits 9 3) ?_
   refine aL 2 (.int .i64 (s315.get i314)) rfl rfl (hM322 2 rfl) (rfl) (fun _ hB_ => by exact r_loadS (hC.grow hB_) 2 (.int .i64 (s315.get i314)) rfl sc3 rfl (A8.enc_get _ _ hi319)) (dbits 9 7) ?_
   refine aF 3 (.int .i64 (i314 : Int)) rfl rfl (hM323 3 rfl) (rfl) (fun _ => by exact r_mv (v := .int .i64 (i314 : Int)) rfl) (dbits 9 15) ?_
   refine aL 4 (.pointer (some ⟨b5, i314, none⟩)) rfl rfl (hM322 4 rfl) (rfl) (fun _ hB_ => by exact r_iaddrB i314 Tryz.underlying73 sc3.size (sx hS_ 1 rfl) rfl (Int.natCast_nonneg _) (by omega) (by omega)) (dbits 9 31) ?_
   refine aL 5 (.int .i64 (a2.get i314)) rfl rfl (hM322 5 rfl) (rfl) (fun _ hB_ => by exact r_loadS (hC.grow hB_) 1 (.int .i64 (a2.get i314)) rfl sc3 rfl (A8.enc_get _ _ hi319)) (dbits 9 63) ?_
   refine ae_tail 6 (by decide) (by decide) (by kernel_rfl) (by kernel_rfl) rfl ?_
   refine s_add rfl rfl ?_
   refine s_iaddrB i314 Tryz.underlying73 sc3.size (sx hS_ 0 rfl) rfl (Int.natCast_nonneg _) (by omega) (by omega) ?_
   refine s_store (v := .int .i64 (IntKind.i64.wrap ((s315.get i314) + (a2.get i314)))) hC 2 [.int .i64 (IntKind.i64.wrap ((s315.get i314) + (a2.get i314)))] (A8.enc .i64 (s315.set i314 (IntKind.i64.wrap ((s315.get i314) + (a2.get i314))))) rfl sc3.size rfl rfl rfl rfl rfl hi319 (A8.enc_set _ _ _ hi319) fun w324 hC => ?_
   refine done ?_
   refine qn_norm ?_
   refine blk_norm ?_
   refine then_norm ?_
   refine cw_region ?_
   refine s_add (sx hS_ 5 rfl) rfl ?_
   refine s_mv (v := .int .i64 (IntKind.i64.wrap ((i314 : Int) + 1))) rfl ?_
   refine done ?_
   exact hK318 (s315.set i314 (IntKind.i64.wrap ((s315.get i314) + (a2.get i314)))) _ _ ⟨(sk (sx hS_ 0 rfl) (sk (sx hS_ 1 rfl) (sk (sx hS_ 2 rfl) (sk (sx hS_ 3 rfl) (sk (sx hS_ 4 rfl) (sk (tr rfl (congrArg _ (wrap64_nat hi319 (by decide)))) sn)))))), hC⟩ h
  ·clear hC h
   rintro s315 e_ w325 K317 ⟨hS_, hC⟩ h
   refine sr ?_
   refine s_lss (sx hS_ 5 rfl) rfl ?_
   refine dn ?_
   refine wp_seq ?_
   refine cw_false rfl (decide_eq_false (by omega)) ?_
   refine wp_exit (then_exit (then_exit (exit_in ?_)))
   refine then_norm ?_
   refine wp_seq ?_
   refine sr ?_
   refine s_mv (v := .int .i64 s221) (sx hS_ 4 rfl) ?_
   refine s_rem rfl rfl (by decide) ?_
   refine s_eql rfl rfl ?_
   refine dn ?_
   refine cw_cond rfl (fun hb326 => ?_) (fun hb326 => ?_)
   ·replace h := ift h (ct hb326)
    refine sr ?_
    refine s_loadA hC 2 (A8.enc .i64 s315) rfl ag73 (sx hS_ 0 rfl) rfl rfl ?_
    refine s_store (v := .agg (List.toArray (A8.enc .i64 s315))) hC 0 (A8.enc .i64 s315) (A8.enc .i64 s315) rfl ag73.size (sx hS_ 2 rfl) rfl rfl rfl rfl (Nat.le_of_ble_eq_true rfl) rfl fun w327 hC => ?_
    refine s_as (v := .int .i64 (-1)) rfl ?_
    refine dn ?_
    refine wp_ret (then_ret ?_)
    refine ret2 (fn := Tryz.f199) rfl ?_ ?_ ⟨s315, (-1), rfl, h, hC.below⟩ (.inl rfl)
    ·exact res_cellA hC 0 rfl ag73 (sx hS_ 2 rfl) rfl
    ·exact res_tmp rfl
   ·replace h := iff_ h (cf hb326)
    refine wp_skip ?_
    refine then_norm ?_
    refine sr ?_
    refine s_loadA hC 2 (A8.enc .i64 s315) rfl ag73 (sx hS_ 0 rfl) rfl rfl ?_
    refine s_store (v := .agg (List.toArray (A8.enc .i64 s315))) hC 0 (A8.enc .i64 s315) (A8.enc .i64 s315) rfl ag73.size (sx hS_ 2 rfl) rfl rfl rfl rfl (Nat.le_of_ble_eq_true rfl) rfl fun w328 hC => ?_
    refine s_as (v := .int .i64 1) rfl ?_
    refine dn ?_
    refine wp_ret ?_
    refine ret2 (fn := Tryz.f199) rfl ?_ ?_ ⟨s315, 1, rfl, h, hC.below⟩ (.inl rfl)
    ·exact res_cellA hC 0 rfl ag73 (sx hS_ 2 rfl) rfl
    ·exact res_tmp rfl
  ·skip
   exact ⟨(sk (sx hS_ 1 rfl) (sk (sx hS_ 2 rfl) (sk (sx hS_ 3 rfl) (sk (sx hS_ 4 rfl) (sk (sx hS_ 5 rfl) (sk rfl sn)))))), hC⟩
 ·skip
  exact ⟨(sk rfl (sk rfl (sk rfl (sk rfl (sk rfl (sk rfl (sk rfl (sk rfl (sk rfl sn))))))))), hC⟩
def f_impl_sum_add (a0 : List (A8 × Int)) (a1 : A8) (a2 : Int) (K : List (A8 × Int) → Prop) : Prop :=
 f_impl_field (IntKind.i64.wrap (((mget a0 a1).getD 0) + a2)) (fun r8 => (if r8 ≠ 0 then K (mset a0 a1 r8) else K (mdel a0 a1)))
theorem c_impl_sum_add (a0 : List (A8 × Int)) (a1 : A8) (a2 : Int) {b0 : Nat} {K : List (A8 × Int) → Prop} (h : f_impl_sum_add a0 a1 a2 K) (w0 : World) (q0 : (mapI (kvA .i64) (vvI .i64) b0 a0).holds w0) :
  Calls Tryz.prog 195 #[.map (some b0), .agg (List.toArray (A8.enc .i64 a1)), .int .i64 a2] w0 fun e w' => ∃ (m0 : List (A8 × Int)), 
   e = .returned (.tuple #[]) ∧ K m0 ∧ (mapI (kvA .i64) (vvI .i64) b0 m0).holds w' ∧ BelB b0 w0 w' := by
 unfold f_impl_sum_add at h
 refine calls_of (args := [.map (some b0), .agg (List.toArray (A8.enc .i64 a1)), .int .i64 a2]) Tryz.func195 rfl 20 Tryz.ntmps195 (Nat.le_of_ble_eq_true rfl) ?_
 have hC := Ctx.start1 w0 b0 (it := mapI (kvA .i64) (vvI .i64) b0 a0) rfl [] q0 (by simp) (by simp)
 refine sr ?_
 refine s_box (v := .agg (List.toArray (A8.enc .i64 a1))) hC (A8.enc .i64 a1) rfl rfl fun b2 w4 hB_ hC => ?_
 refine dn ?_
 refine sr ?_
 refine s_mv (v := .map (some b0)) rfl ?_
 refine s_loadA hC 0 (A8.enc .i64 a1) rfl ag73 rfl rfl rfl ?_
 refine s_lookup a1 0 (hC.getM 1 rfl) kt73 Tryz.underlying115 z2 rfl rfl ?_
 refine s_mv (v := .int .i64 a2) rfl ?_
 refine s_add rfl rfl ?_
 refine s_call [.int .i64 (IntKind.i64.wrap (((mget a0 a1).getD 0) + a2))] _ Tryz.func187 rfl rfl rfl (c_impl_field (IntKind.i64.wrap (((mget a0 a1).getD 0) + a2)) h _) (fun ret5 w7 hR6 => ?_)
 obtain ⟨r8, rfl, h, hB9⟩ := hR6
 refine ⟨_, rfl, ?_⟩
 replace hC := hC.grow hB9
 refine s_as (v := .int .i64 r8) rfl ?_
 refine dn ?_
 refine sr ?_
 refine s_mv (v := .int .i64 r8) rfl ?_
 refine s_neq rfl rfl ?_
 refine dn ?_
 refine cw_cond rfl (fun hb10 => ?_) (fun hb10 => ?_)
 ·replace h := ift h (ct hb10)
  refine cw_region ?_
  refine s_mv (v := .map (some b0)) rfl ?_
  refine s_loadA hC 0 (A8.enc .i64 a1) rfl ag73 rfl rfl rfl ?_
  refine s_mv (v := .int .i64 r8) rfl ?_
  refine s_mapset hC 1 a1 r8 rfl kt73 Tryz.underlying115 rfl rfl rfl (fun w11 hC => ?_) (.inl rfl)
  refine done ?_
  refine ret0 (fn := Tryz.f195) rfl  ⟨mset a0 a1 r8, rfl, h, (hC.getM 1 rfl), hC.belB⟩ (.inr rfl)
 ·replace h := iff_ h (cf hb10)
  refine cw_region ?_
  refine s_mv (v := .map (some b0)) rfl ?_
  refine s_loadA hC 0 (A8.enc .i64 a1) rfl ag73 rfl rfl rfl ?_
  refine s_mapdel hC 1 a1 rfl kt73 Tryz.underlying115 rfl rfl rfl fun w12 hC => ?_
  refine done ?_
  refine ret0 (fn := Tryz.f195) rfl  ⟨mdel a0 a1, rfl, h, (hC.getM 1 rfl), hC.belB⟩ (.inr rfl)
def f_impl_sumOf (a0 : Vc.Form) (K : List (A8 × Int) → Prop) : Prop :=
 forN (fun i51 (s52 : (List (A8 × Int))) next54 => f_impl_powerOf ((a0.terms.getD i51 default).mono) (fun r72 => next54 (mset s52 r72 ((a0.terms.getD i51 default).factor)))) (fun (s52 : (List (A8 × Int))) => K s52) a0.terms.length 0 ([] : List (A8 × Int))
theorem c_impl_sumOf (a0 : Vc.Form) {u0_0 : Value} {fp0 : List Nat} {K : List (A8 × Int) → Prop} (h : f_impl_sumOf a0 K) (w0 : World) (q0 : TForm.rep a0 [u0_0] fp0 w0) :
  Calls Tryz.prog 78 #[.agg #[u0_0]] w0 fun e w' => ∃ (r0 : List (A8 × Int)) (zb0 : Nat), 
   e = .returned (.map (some zb0)) ∧ K r0 ∧ (mapI (kvA .i64) (vvI .i64) zb0 r0).holds w' ∧ w0.heap.size ≤ zb0 ∧ Bel w0 w' := by
 unfold f_impl_sumOf at h
 refine calls_of (args := [.agg #[u0_0]]) Tryz.func78 rfl 22 Tryz.ntmps78 (Nat.le_of_ble_eq_true rfl) ?_
 have hC := Ctx.start (X := Nox) w0 [Ty.item TForm a0 [u0_0] fp0] (by simp only [List.mem_cons, List.not_mem_nil, or_false, forall_eq_or_imp, forall_eq]; exact q0)
 have hp2 := (hC.getP 0 rfl)
 replace hC := hC.derive 0 rfl (Ty.item ETerm.ty.sl a0.terms [u0_0] fp0) (fun _ => (form_parts hp2)) (fun _ hb_ => hb_)
 refine sr ?_
 refine s_box (v := .agg #[u0_0]) hC [u0_0] rfl rfl fun b4 w6 hB_ hC => ?_
 refine s_as (v := .map none) rfl ?_
 refine dn ?_
 refine sr ?_
 refine s_makeMap hC (kvA .i64) (vvI .i64) fun b7 w9 hB_ hC => ?_
 refine s_as (v := .map (some b7)) rfl ?_
 refine dn ?_
 refine wp_seq ?_
 refine sr ?_
 refine s_faddrB 0 Tryz.underlying55 rfl sc53.size rfl rfl ?_
 refine s_loadS hC 1 (u0_0) rfl sc53 rfl rfl ?_
 obtain ⟨Ad10, c11, hv12⟩ := sl_len (hC.getP 0 rfl)
 refine s_len Tryz.underlying53 (tr rfl hv12) ?_
 refine s_mv (v := .int .i64 0) rfl ?_
 refine dn ?_
 refine wp_block ?_
 have hN53 : a0.terms.length ≤ 9223372036854775807 := sl_max (hC.getP 0 rfl)
 refine loopN (S := (List (A8 × Int))) _ _ (fun i51 s52 e_ w_ => Slots e_ [(2, .map none), (3, .map (some b7)), (8, u0_0), (9, .int .i64 (a0.terms.length : Int)), (10, .int .i64 (i51 : Int))] ∧ Ctx Nox w0 w_ [mapI (kvA .i64) (vvI .i64) b7 s52] [Ty.item ETerm.ty.sl a0.terms [u0_0] fp0, Ty.item TForm a0 [u0_0] fp0]) a0.terms.length ?_ ?_ (s0 := ([] : List (A8 × Int))) ?_ h
 ·clear hC h
  rintro i51 s52 e_ w58 next54 K55 hi57 ⟨hS_, hC⟩ h hK56
  refine sr ?_
  refine s_lss (sx hS_ 4 rfl) (sx hS_ 3 rfl) ?_
  refine dn ?_
  refine wp_seq ?_
  refine cw_true rfl (decide_eq_true (by omega)) ?_
  refine wp_skip ?_
  refine then_norm ?_
  refine wp_seq ?_
  refine wp_block ?_
  refine sr ?_
  obtain ⟨Ad59, c60, hv61⟩ := sl_form (hC.getP 0 rfl) i51 hi57
  refine s_iaddrS (len := a0.terms.length) Tryz.underlying53 ag162.size (tr (sx hS_ 2 rfl) hv61) (sx hS_ 4 rfl) (Int.natCast_nonneg _) (Int.ofNat_lt.2 hi57) ?_
  refine s_loadCA (Term.enc (a0.terms.getD i51 default)) (sl_cellsE (hC.getP 0 rfl) hv61 i51 hi57) ag162 rfl rfl ?_
  refine s_alloc hC (Term.enc (⟨A8.zero, 0⟩ : Term)) z162 rfl fun b62 w64 hB_ hC => ?_
  refine s_store (v := .agg (List.toArray (Term.enc (a0.terms.getD i51 default)))) hC 0 (Term.enc (a0.terms.getD i51 default)) (Term.enc (a0.terms.getD i51 default)) rfl ag162.size rfl rfl rfl rfl rfl (Nat.le_of_ble_eq_true rfl) rfl fun w65 hC => ?_
  refine dn ?_
  refine cw_draw 6 mixed [0, 0, 2, 6, 0, 16, 63] [2, 5] [0, 1, 4] (by kernel_rfl) (by kernel_rfl) (by kernel_rfl) (fun hM67 hM68 w66 hB_ => ?_)
  replace hC := hC.grow hB_
  refine aF 0 (.map (some b7)) rfl rfl (hM68 0 rfl) (rfl) (fun _ => by exact r_mv (v := .map (some b7)) (sx hS_ 1 rfl)) (dbits 7 1) ?_
  refine aF 1 (.pointer (some ⟨b62, 0, none⟩)) rfl rfl (hM68 1 rfl) (rfl) (fun _ => by exact r_faddrB 0 Tryz.underlying162 rfl ag136.size rfl rfl) (dbits 7 3) ?_
  refine aL 2 (.agg (List.toArray (A8.enc .u8 ((a0.terms.getD i51 default).mono)))) rfl rfl (hM67 2 rfl) (rfl) (fun _ hB_ => by exact r_loadA (hC.grow hB_) 0 (A8.enc .u8 ((a0.terms.getD i51 default).mono)) rfl ag136 rfl rfl rfl) (dbits 7 7) ?_
  refine aF 4 (.pointer (some ⟨b62, 8, none⟩)) rfl rfl (hM68 4 rfl) (rfl) (fun _ => by exact r_faddrB 8 Tryz.underlying162 rfl sc2.size rfl rfl) (dbits 7 23) ?_
  refine aL 5 (.int .i64 ((a0.terms.getD i51 default).factor)) rfl rfl (hM67 5 rfl) (rfl) (fun _ hB_ => by exact r_loadS (hC.grow hB_) 0 (.int .i64 ((a0.terms.getD i51 default).factor)) rfl sc2 rfl rfl) (dbits 7 55) ?_
  refine aO 3 rfl ?_
  refine s_call [.agg (List.toArray (A8.enc .u8 ((a0.terms.getD i51 default).mono)))] _ Tryz.func134 rfl rfl rfl (c_impl_powerOf ((a0.terms.getD i51 default).mono) h _) (fun ret69 w71 hR70 => ?_)
  obtain ⟨r72, rfl, h, hB73⟩ := hR70
  refine ⟨_, rfl, ?_⟩
  replace hC := hC.grow hB73
  refine done ?_
  refine aK (by assumption) (dbits 7 63) ?_
  refine ae_tail 6 (by decide) (by decide) (by kernel_rfl) (by kernel_rfl) rfl ?_
  refine s_mapset hC 1 r72 ((a0.terms.getD i51 default).factor) rfl kt73 Tryz.underlying115 rfl rfl rfl (fun w74 hC => ?_) (.inl rfl)
  refine done ?_
  refine qn_norm ?_
  refine blk_norm ?_
  refine then_norm ?_
  refine cw_region ?_
  refine s_add (sx hS_ 4 rfl) rfl ?_
  refine s_mv (v := .int .i64 (IntKind.i64.wrap ((i51 : Int) + 1))) rfl ?_
  refine done ?_
  replace hC := hC.sM [1] (M' := [mapI (kvA .i64) (vvI .i64) b7 (mset s52 r72 ((a0.terms.getD i51 default).factor))]) (by decide) rfl
  exact hK56 (mset s52 r72 ((a0.terms.getD i51 default).factor)) _ _ ⟨(sk (sx hS_ 0 rfl) (sk (sx hS_ 1 rfl) (sk (sx hS_ 2 rfl) (sk (sx hS_ 3 rfl) (sk (tr rfl (congrArg _ (wrap64_nat hi57 hN53))) sn))))), hC⟩ h
 ·clear hC h
  rintro s52 e_ w75 K55 ⟨hS_, hC⟩ h
  refine sr ?_
  refine s_lss (sx hS_ 4 rfl) (sx hS_ 3 rfl) ?_
  refine dn ?_
  refine wp_seq ?_
  refine cw_false rfl (decide_eq_false (by omega)) ?_
  refine wp_exit (then_exit (then_exit (exit_in ?_)))
  refine then_norm ?_
  refine sr ?_
  refine s_mv (v := .map (some b7)) (sx hS_ 1 rfl) ?_
  refine s_as (v := .map (some b7)) rfl ?_
  refine dn ?_
  refine wp_ret ?_
  refine ret1 (fn := Tryz.f78) rfl ?_ ⟨s52, b7, rfl, h, (hC.getM 0 rfl), (map_fresh hC 0 rfl), hC.below⟩ (.inl rfl)
  exact res_tmp rfl
 ·skip
  replace hC := hC.sM [0] (M' := [mapI (kvA .i64) (vvI .i64) b7 ([] : List (A8 × Int))]) (by decide) rfl
  exact ⟨(sk rfl (sk rfl (sk rfl (sk rfl (sk rfl sn))))), hC⟩
def f_impl_power_compare (a0 : A8) (a1 : A8) (K : Int → Prop) : Prop :=
 forN (fun i17 (s18 : Unit) next19 => (if a0.get i17 ≠ a1.get i17 then K (IntKind.i64.wrap ((a1.get i17) - (a0.get i17))) else next19 ())) (fun (s18 : Unit) => K 0) 8 0 ()
theorem c_impl_power_compare (a0 : A8) (a1 : A8)  {K : Int → Prop} (h : f_impl_power_compare a0 a1 K) (w0 : World)  :
  Calls Tryz.prog 158 #[.agg (List.toArray (A8.enc .i64 a0)), .agg (List.toArray (A8.enc .i64 a1))] w0 fun e w' => ∃ (r0 : Int), 
   e = .returned (.int .i64 r0) ∧ K r0 ∧ Bel w0 w' := by
 unfold f_impl_power_compare at h
 refine calls_of (args := [.agg (List.toArray (A8.enc .i64 a0)), .agg (List.toArray (A8.enc .i64 a1))]) Tryz.func158 rfl 24 Tryz.ntmps158 (Nat.le_of_ble_eq_true rfl) ?_
 have hC := Ctx.start (X := Nox) w0 [] (by simp)
 refine sr ?_
 refine s_box (v := .agg (List.toArray (A8.enc .i64 a0))) hC (A8.enc .i64 a0) rfl rfl fun b1 w3 hB_ hC => ?_
 refine s_box (v := .agg (List.toArray (A8.enc .i64 a1))) hC (A8.enc .i64 a1) rfl rfl fun b4 w6 hB_ hC => ?_
 refine s_as (v := .int .i64 0) rfl ?_
 refine dn ?_
 refine wp_seq ?_
 refine sr ?_
 refine s_mv (v := .int .i64 0) rfl ?_
 refine dn ?_
 refine wp_block ?_
 refine loopN (S := Unit) _ _ (fun i17 s18 e_ w_ => Slots e_ [(2, .pointer (some ⟨b1, 0, none⟩)), (3, .pointer (some ⟨b4, 0, none⟩)), (4, .int .i64 0), (6, .int .i64 (i17 : Int))] ∧ Ctx Nox w0 w_ [blk b4 73 (A8.enc .i64 a1), blk b1 73 (A8.enc .i64 a0)] []) 8 ?_ ?_ (s0 := ()) ?_ h
 ·clear hC h
  rintro i17 s18 e_ w23 next19 K20 hi22 ⟨hS_, hC⟩ h hK21
  refine sr ?_
  refine s_lss (sx hS_ 3 rfl) rfl ?_
  refine dn ?_
  refine wp_seq ?_
  refine cw_true rfl (decide_eq_true (by omega)) ?_
  refine wp_skip ?_
  refine then_norm ?_
  refine wp_seq ?_
  refine wp_block ?_
  refine sr ?_
  refine s_mv (v := .int .i64 (i17 : Int)) (sx hS_ 3 rfl) ?_
  refine s_as (v := .int .i64 (i17 : Int)) rfl ?_
  refine dn ?_
  refine wp_seq ?_
  refine cw_draw 6 mixed [0, 1, 3, 0, 8, 24, 63] [1, 2, 4, 5] [0, 3] (by kernel_rfl) (by kernel_rfl) (by kernel_rfl) (fun hM25 hM26 w24 hB_ => ?_)
  replace hC := hC.grow hB_
  refine aF 0 (.int .i64 (i17 : Int)) rfl rfl (hM26 0 rfl) (rfl) (fun _ => by exact r_mv (v := .int .i64 (i17 : Int)) rfl) (dbits 7 1) ?_
  refine aL 1 (.pointer (some ⟨b1, i17, none⟩)) rfl rfl (hM25 1 rfl) (rfl) (fun _ hB_ => by exact r_iaddrB i17 Tryz.underlying73 sc3.size (sx hS_ 0 rfl) rfl (Int.natCast_nonneg _) (by omega) (by omega)) (dbits 7 3) ?_
  refine aL 2 (.int .i64 (a0.get i17)) rfl rfl (hM25 2 rfl) (rfl) (fun _ hB_ => by exact r_loadS (hC.grow hB_) 1 (.int .i64 (a0.get i17)) rfl sc3 rfl (A8.enc_get _ _ hi22)) (dbits 7 7) ?_
  refine aF 3 (.int .i64 (i17 : Int)) rfl rfl (hM26 3 rfl) (rfl) (fun _ => by exact r_mv (v := .int .i64 (i17 : Int)) rfl) (dbits 7 15) ?_
  refine aL 4 (.pointer (some ⟨b4, i17, none⟩)) rfl rfl (hM25 4 rfl) (rfl) (fun _ hB_ => by exact r_iaddrB i17 Tryz.underlying73 sc3.size (sx hS_ 1 rfl) rfl (Int.natCast_nonneg _) (by omega) (by omega)) (dbits 7 31) ?_
  refine aL 5 (.int .i64 (a1.get i17)) rfl rfl (hM25 5 rfl) (rfl) (fun _ hB_ => by exact r_loadS (hC.grow hB_) 0 (.int .i64 (a1.get i17)) rfl sc3 rfl (A8.enc_get _ _ hi22)) (dbits 7 63) ?_
  refine ae_tail 6 (by decide) (by decide) (by kernel_rfl) (by kernel_rfl) rfl ?_
  refine s_neq rfl rfl ?_
  refine done ?_
  refine qn_norm ?_
  refine then_norm ?_
  refine cw_cond rfl (fun hb27 => ?_) (fun hb27 => ?_)
  ·replace h := ift h (ct hb27)
   refine wp_seq ?_
   refine cw_draw 6 mixed [0, 1, 3, 0, 8, 24, 63, 127] [1, 2, 4, 5] [0, 3] (by kernel_rfl) (by kernel_rfl) (by kernel_rfl) (fun hM29 hM30 w28 hB_ => ?_)
   replace hC := hC.grow hB_
   refine aF 0 (.int .i64 (i17 : Int)) rfl rfl (hM30 0 rfl) (rfl) (fun _ => by exact r_mv (v := .int .i64 (i17 : Int)) rfl) (dbits 8 1) ?_
   refine aL 1 (.pointer (some ⟨b4, i17, none⟩)) rfl rfl (hM29 1 rfl) (rfl) (fun _ hB_ => by exact r_iaddrB i17 Tryz.underlying73 sc3.size (sx hS_ 1 rfl) rfl (Int.natCast_nonneg _) (by omega) (by omega)) (dbits 8 3) ?_
   refine aL 2 (.int .i64 (a1.get i17)) rfl rfl (hM29 2 rfl) (rfl) (fun _ hB_ => by exact r_loadS (hC.grow hB_) 0 (.int .i64 (a1.get i17)) rfl sc3 rfl (A8.enc_get _ _ hi22)) (dbits 8 7) ?_
   refine aF 3 (.int .i64 (i17 : Int)) rfl rfl (hM30 3 rfl) (rfl) (fun _ => by exact r_mv (v := .int .i64 (i17 : Int)) rfl) (dbits 8 15) ?_
   refine aL 4 (.pointer (some ⟨b1, i17, none⟩)) rfl rfl (hM29 4 rfl) (rfl) (fun _ hB_ => by exact r_iaddrB i17 Tryz.underlying73 sc3.size (sx hS_ 0 rfl) rfl (Int.natCast_nonneg _) (by omega) (by omega)) (dbits 8 31) ?_
   refine aL 5 (.int .i64 (a0.get i17)) rfl rfl (hM29 5 rfl) (rfl) (fun _ hB_ => by exact r_loadS (hC.grow hB_) 1 (.int .i64 (a0.get i17)) rfl sc3 rfl (A8.enc_get _ _ hi22)) (dbits 8 63) ?_
   refine ae_tail 6 (by decide) (by decide) (by kernel_rfl) (by kernel_rfl) rfl ?_
   refine s_sub rfl rfl ?_
   refine s_as (v := .int .i64 (IntKind.i64.wrap ((a1.get i17) - (a0.get i17)))) rfl ?_
   refine done ?_
   refine qn_norm ?_
   refine then_norm ?_
   refine wp_ret (blk_ret (then_ret (then_ret (blk_ret (then_ret ?_)))))
   refine ret1 (fn := Tryz.f158) rfl ?_ ⟨IntKind.i64.wrap ((a1.get i17) - (a0.get i17)), rfl, h, hC.below⟩ (.inl rfl)
   exact res_tmp rfl
  ·replace h := iff_ h (cf hb27)
   refine wp_skip ?_
   refine blk_norm ?_
   refine then_norm ?_
   refine cw_region ?_
   refine s_add (sx hS_ 3 rfl) rfl ?_
   refine s_mv (v := .int .i64 (IntKind.i64.wrap ((i17 : Int) + 1))) rfl ?_
   refine done ?_
   exact hK21 () _ _ ⟨(sk (sx hS_ 0 rfl) (sk (sx hS_ 1 rfl) (sk (sx hS_ 2 rfl) (sk (tr rfl (congrArg _ (wrap64_nat hi22 (by decide)))) sn)))), hC⟩ h
 ·clear hC h
  rintro s18 e_ w31 K20 ⟨hS_, hC⟩ h
  refine sr ?_
  refine s_lss (sx hS_ 3 rfl) rfl ?_
  refine dn ?_
  refine wp_seq ?_
  refine cw_false rfl (decide_eq_false (by omega)) ?_
  refine wp_exit (then_exit (then_exit (exit_in ?_)))
  refine then_norm ?_
  refine sr ?_
  refine s_as (v := .int .i64 0) rfl ?_
  refine dn ?_
  refine wp_ret ?_
  refine ret1 (fn := Tryz.f158) rfl ?_ ⟨0, rfl, h, hC.below⟩ (.inl rfl)
  exact res_tmp rfl
 ·skip
  exact ⟨(sk rfl (sk rfl (sk rfl (sk rfl sn)))), hC⟩
theorem pw_law : Cmp Tryz.prog Tryz.sortPow_ren (EA .i64) OkP pcmp 158 := ⟨Tryz.sortPow, ⟨_, OkP.zero⟩, ag73, pcmp_swo, ⟨_, Tryz.func158, rfl, rfl⟩, fun a b ha hb w => by
 refine (c_impl_power_compare a b (K := fun r => r = pcmp a b) (cmpText_meets (K := fun r => r = pcmp a b) ha hb rfl) w).mono ?_
 rintro e w' ⟨r, rfl, rfl, hB⟩
 exact ⟨rfl, hB⟩⟩
def f_impl_sum_powers (a0 : List (A8 × Int)) (K : List A8 → Prop) : Prop :=
 mapP (fun (q13 : A8 × Int) (s55 : (List A8)) next57 => (Room (s55.length + 1) 64 ∧ next57 (s55 ++ [q13.1]))) (fun (s55 : (List A8)) => SortP OkP pcmp s55 (fun xs66 => K xs66)) a0.length a0 []
theorem c_impl_sum_powers (a0 : List (A8 × Int)) {b0 : Nat} {K : List A8 → Prop} (h : f_impl_sum_powers a0 K) (w0 : World) (q0 : (mapI (kvA .i64) (vvI .i64) b0 a0).holds w0) :
  Calls Tryz.prog 160 #[.map (some b0)] w0 fun e w' => ∃ (r0 : List A8) (z0_0 : Value) (fz0 : List Nat), 
   e = .returned (z0_0) ∧ K r0 ∧ (Tr.item (Tr.sl 73 ((EA .i64).tr)) r0 [z0_0] fz0).holds w' ∧ (∀ b, b ∈ fz0 → w0.heap.size ≤ b) ∧ Bel w0 w' := by
 unfold f_impl_sum_powers at h
 refine calls_of (args := [.map (some b0)]) Tryz.func160 rfl 19 Tryz.ntmps160 (Nat.le_of_ble_eq_true rfl) ?_
 have hC := Ctx.start (X := Nox) w0 [mapI (kvA .i64) (vvI .i64) b0 a0] (by simp only [List.mem_cons, List.not_mem_nil, or_false, forall_eq_or_imp, forall_eq]; exact q0)
 refine sr ?_
 refine s_as (v := .slice none 0 0) rfl ?_
 refine dn ?_
 refine sr ?_
 refine s_bslice (sz := 8) hC [] ((EA .i64).encs []) rfl (fun _ => bs122_0  _) rfl (by decide) fun b2 w3 hB_ hC => ?_
 refine s_as (v := .slice (some ⟨b2, 0, none⟩) 0 0) rfl ?_
 refine dn ?_
 refine wp_seq ?_
 refine sr ?_
 refine s_mv (v := .map (some b0)) rfl ?_
 refine s_range hC 0 rfl Tryz.underlying115 rfl fun r5 es6 ck7 w12 hB_ hn8 hbn9 hC => ?_
 refine dn ?_
 refine wp_block ?_
 refine loopM (S := (List A8)) _ _ (fun l15 s55 e_ w_ => ∃ (v56 : Value), ∃ (la17 : Option MapEntry), Slots e_ [(2, .slice none 0 0), (3, v56), (7, .pointer (some ⟨r5, 0, none⟩))] ∧ Ctx Nox w0 w_ [itI (kvA .i64) (vvI .i64) r5 b0 es6 ck7 la17 l15, own 73 8 v56 s55.length ((EA .i64).encs s55)] [mapE b0 es6 ck7, mapI (kvA .i64) (vvI .i64) b0 a0]) ?_ (l0 := a0) (s0 := []) ?_ h
 ·clear hC h
  rintro l15 s55 e_ w60 next57 K58 ⟨v56, la17, hS_, hC⟩ h hK59
  refine sr ?_
  refine s_next hC 0 0 rfl rfl hn8 hbn9 (sx hS_ 2 rfl) (fun hr61 => ?_) (fun q13 l14 ent62 w65 hp16 hk63 hv64 hC => ?_)
  ·replace h := h.1 hr61
   refine s_ext (v := .bool false) rfl rfl ?_
   refine dn ?_
   refine wp_seq ?_
   refine cw_false rfl rfl ?_
   refine wp_exit (then_exit (then_exit (exit_in ?_)))
   refine then_norm ?_
   refine sr ?_
   refine s_mv (v := v56) (sx hS_ 1 rfl) ?_
   refine s_sort hC 1 pw_law rfl rfl Tryz.func193 rfl rfl rfl rfl h fun xs66 w67 h hC => ?_
   refine dn ?_
   refine sr ?_
   refine s_mv (v := v56) (sx hS_ 1 rfl) ?_
   refine s_as (v := v56) rfl ?_
   refine dn ?_
   refine wp_ret ?_
   refine ret1 (fn := Tryz.f160) rfl ?_ ⟨xs66, v56, (Option.toList (Value.ownBlock v56)), rfl, h, (own_item (hC.getM 1 rfl)), (own_fresh hC 1 rfl), hC.below⟩ (.inl rfl)
   exact res_tmp rfl
  ·replace h := h.2 q13 l14 hp16
   refine s_ext (v := .bool true) rfl rfl ?_
   refine dn ?_
   refine wp_seq ?_
   refine cw_true rfl rfl ?_
   refine wp_skip ?_
   refine then_norm ?_
   refine wp_block ?_
   refine sr ?_
   refine s_entry hC 0 0 q13 rfl rfl hn8 (sx hS_ 2 rfl) hk63 hv64 ?_
   refine s_ext (v := .agg (List.toArray (A8.enc .i64 q13.1))) rfl rfl ?_
   refine s_alloc hC (A8.enc .i64 A8.zero) z73 rfl fun b68 w70 hB_ hC => ?_
   refine s_store (v := .agg (List.toArray (A8.enc .i64 q13.1))) hC 0 (A8.enc .i64 q13.1) (A8.enc .i64 q13.1) rfl ag73.size rfl rfl rfl rfl rfl (Nat.le_of_ble_eq_true rfl) rfl fun w71 hC => ?_
   refine dn ?_
   refine cw_region ?_
   refine s_mv (v := v56) (sx hS_ 1 rfl) ?_
   refine s_loadA hC 0 (A8.enc .i64 q13.1) rfl ag73 rfl rfl rfl ?_
   refine s_bslice (sz := 8) hC [(0, .agg (List.toArray (A8.enc .i64 q13.1)))] ((EA .i64).encs [q13.1]) rfl (fun _ => bs122_1 q13.1 _) rfl (by decide) fun b72 w73 hB_ hC => ?_
   obtain ⟨hm77, h⟩ := h
   refine s_app hC 3 Tryz.underlying122 el73 rfl (by decide) (by decide) rfl (own_rdr (hC.getM 0 rfl)) (fun q hq => Enc.encs_one' (E := (EA .i64)) _ q hq) rfl rfl hm77 fun v75 w76 hC => ?_
   replace hC := own_re hC 3 ((s55 ++ [q13.1]).length) ((EA .i64).encs (s55 ++ [q13.1])) rfl (by simp) (by first | (simp [Enc.encs_append]; done) | simp [Enc.encs_append, Enc.encs])
   refine s_as (v := v75) rfl ?_
   refine done ?_
   refine blk_norm ?_
   replace hC := hC.sM [2, 3] (M' := [itI (kvA .i64) (vvI .i64) r5 b0 es6 ck7 (some ent62) l14, own 73 8 v75 ((s55 ++ [q13.1]).length) ((EA .i64).encs (s55 ++ [q13.1]))]) (by decide) rfl
   exact hK59 q13 l14 (s55 ++ [q13.1]) _ _ hp16 ⟨v75, (some ent62), (sk (sx hS_ 0 rfl) (sk rfl (sk (sx hS_ 2 rfl) sn))), hC⟩ h
 ·skip
  exact ⟨.slice (some ⟨b2, 0, none⟩) 0 0, none, (sk rfl (sk rfl (sk rfl sn))), hC⟩
def f_impl_sum_form (a0 : List (A8 × Int)) (K : Vc.Form → Int → Prop) : Prop :=
 (if (a0.length : Int) > 400 then K (⟨[]⟩ : Vc.Form) 3 else f_impl_sum_powers a0 (fun r14 => forN (fun i168 (s169 : (List Term)) next173 => forN (fun i221 (s222 : A8) next223 => (if (r14.getD i168 default).get i221 > 20 then K (⟨[]⟩ : Vc.Form) 3 else next223 (s222.set i221 (IntKind.u8.wrap ((r14.getD i168 default).get i221))))) (fun (s222 : A8) => (Room (s169.length + 1) 16 ∧ next173 (s169 ++ [(⟨s222, (mget a0 (r14.getD i168 default)).getD 0⟩ : Term)]))) 8 0 A8.zero) (fun (s169 : (List Term)) => K (⟨s169⟩ : Vc.Form) 0) r14.length 0 []))
theorem c_impl_sum_form (a0 : List (A8 × Int)) {b0 : Nat} {K : Vc.Form → Int → Prop} (h : f_impl_sum_form a0 K) (w0 : World) (q0 : (mapI (kvA .i64) (vvI .i64) b0 a0).holds w0) :
  Calls Tryz.prog 101 #[.map (some b0)] w0 fun e w' => ∃ (r0 : Vc.Form) (z0_0 : Value) (fz0 : List Nat) (r1 : Int), 
   e = .returned (.tuple #[.agg #[z0_0], .int .i64 r1]) ∧ K r0 r1 ∧ (Tr.item (TrForm 162) r0 [z0_0] fz0).holds w' ∧ (∀ b, b ∈ fz0 → w0.heap.size ≤ b) ∧ Bel w0 w' := by
 unfold f_impl_sum_form at h
 refine calls_of (args := [.map (some b0)]) Tryz.func101 rfl 48 Tryz.ntmps101 (Nat.le_of_ble_eq_true rfl) ?_
 have hC := Ctx.start (X := Nox) w0 [mapI (kvA .i64) (vvI .i64) b0 a0] (by simp only [List.mem_cons, List.not_mem_nil, or_false, forall_eq_or_imp, forall_eq]; exact q0)
 refine sr ?_
 refine s_alloc hC [.slice none 0 0] z55 rfl fun b2 w4 hB_ hC => ?_
 refine s_as (v := .int .i64 0) rfl ?_
 refine dn ?_
 refine wp_seq ?_
 refine sr ?_
 refine s_mv (v := .map (some b0)) rfl ?_
 refine s_maplen (hC.getP 0 rfl) Tryz.underlying115 rfl rfl ?_
 refine s_gtr rfl rfl ?_
 refine dn ?_
 refine cw_cond rfl (fun hb5 => ?_) (fun hb5 => ?_)
 ·replace h := ift h (ct hb5)
  refine sr ?_
  refine s_build [] rfl (bl55   _) ?_
  refine s_store (v := .agg #[.slice none 0 0]) hC 0 [.slice none 0 0] [.slice none 0 0] rfl ag55.size rfl rfl rfl rfl rfl (Nat.le_of_ble_eq_true rfl) rfl fun w6 hC => ?_
  refine s_as (v := .int .i64 3) rfl ?_
  refine dn ?_
  refine wp_ret (then_ret ?_)
  refine ret2 (fn := Tryz.f101) rfl ?_ ?_ ⟨(⟨[]⟩ : Vc.Form), .slice none 0 0, [], 3, rfl, h, (form_join (nil_item _ _ _)), (fun b hb => absurd hb (by simp)), hC.below⟩ (.inl rfl)
  ·exact res_cellA hC 0 rfl ag55 rfl rfl
  ·exact res_tmp rfl
 ·replace h := iff_ h (cf hb5)
  refine wp_skip ?_
  refine then_norm ?_
  refine sr ?_
  refine s_build [] rfl (bl55   _) ?_
  refine s_alloc hC [.slice none 0 0] z55 rfl fun b7 w9 hB_ hC => ?_
  refine s_store (v := .agg #[.slice none 0 0]) hC 0 [.slice none 0 0] [.slice none 0 0] rfl ag55.size rfl rfl rfl rfl rfl (Nat.le_of_ble_eq_true rfl) rfl fun w10 hC => ?_
  refine dn ?_
  refine wp_seq ?_
  refine sr ?_
  refine s_mv (v := .map (some b0)) rfl ?_
  refine s_call [.map (some b0)] _ Tryz.func160 rfl rfl rfl (c_impl_sum_powers a0 h _ (hC.getP 0 rfl)) (fun ret11 w13 hR12 => ?_)
  obtain ⟨r14, u15, f16, rfl, h, hr17, hf18, hB19⟩ := hR12
  refine ⟨_, rfl, ?_⟩
  replace hC := hC.push hB19 (Tr.item (Tr.sl 73 ((EA .i64).tr)) r14 [u15] f16) hr17 hf18
  obtain ⟨ho21, hf22⟩ := flat_tr (hC.getM 0 rfl).1
  subst hf22
  replace hC := hC.recast (c := own 73 8 u15 r14.length ((EA .i64).encs r14)) (fun _ h_ => h_) (fun _ => ho21)
  obtain ⟨Ad24, c25, hv26⟩ := own_form (hC.getM 0 rfl)
  refine s_len Tryz.underlying122 (tr rfl hv26) ?_
  refine s_mv (v := .int .i64 0) rfl ?_
  refine dn ?_
  refine wp_block ?_
  have hN172 : r14.length ≤ 9223372036854775807 := own_max (hC.getM 0 rfl)
  refine loopN (S := (List Term)) _ _ (fun i168 s169 e_ w_ => ∃ (v170 : Value), Slots e_ [(0, .map (some b0)), (2, .pointer (some ⟨b2, 0, none⟩)), (3, .int .i64 0), (4, .pointer (some ⟨b7, 0, none⟩)), (16, u15), (17, .int .i64 (r14.length : Int)), (18, .int .i64 (i168 : Int))] ∧ Ctx Nox w0 w_ [own 162 9 v170 s169.length (ETerm.encs s169), own 73 8 u15 r14.length ((EA .i64).encs r14), blk b7 55 [v170], blk b2 55 [.slice none 0 0]] [mapI (kvA .i64) (vvI .i64) b0 a0]) r14.length ?_ ?_ (s0 := []) ?_ h
  ·clear hC h
   rintro i168 s169 e_ w177 next173 K174 hi176 ⟨v170, hS_, hC⟩ h hK175
   refine sr ?_
   refine s_lss (sx hS_ 6 rfl) (sx hS_ 5 rfl) ?_
   refine dn ?_
   refine wp_seq ?_
   refine cw_true rfl (decide_eq_true (by omega)) ?_
   refine wp_skip ?_
   refine then_norm ?_
   refine wp_seq ?_
   refine wp_block ?_
   refine sr ?_
   obtain ⟨Ad178, c179, hv180⟩ := own_formE (hC.getM 1 rfl) (Nat.lt_of_le_of_lt (Nat.zero_le _) hi176)
   refine s_iaddrO (i168 * 8) Tryz.underlying122 ag73.size (tr (sx hS_ 4 rfl) hv180) (sx hS_ 6 rfl) (Int.natCast_nonneg _) (Int.ofNat_lt.2 hi176) rfl ?_
   refine s_loadCA (A8.enc .i64 (r14.getD i168 default)) (own_cellsE (hC.getM 1 rfl) hv180 i168 hi176) ag73 rfl rfl ?_
   refine s_alloc hC (A8.enc .i64 A8.zero) z73 rfl fun b181 w183 hB_ hC => ?_
   refine s_store (v := .agg (List.toArray (A8.enc .i64 (r14.getD i168 default)))) hC 0 (A8.enc .i64 (r14.getD i168 default)) (A8.enc .i64 (r14.getD i168 default)) rfl ag73.size rfl rfl rfl rfl rfl (Nat.le_of_ble_eq_true rfl) rfl fun w184 hC => ?_
   refine dn ?_
   refine sr ?_
   refine s_build [] rfl (bl136   _) ?_
   refine s_alloc hC (A8.enc .u8 A8.zero) z136 rfl fun b185 w187 hB_ hC => ?_
   refine s_store (v := .agg (List.toArray (A8.enc .u8 A8.zero))) hC 0 (A8.enc .u8 A8.zero) (A8.enc .u8 A8.zero) rfl ag136.size rfl rfl rfl rfl rfl (Nat.le_of_ble_eq_true rfl) rfl fun w188 hC => ?_
   refine dn ?_
   refine wp_seq ?_
   refine sr ?_
   refine s_loadA hC 1 (A8.enc .i64 (r14.getD i168 default)) rfl ag73 rfl rfl rfl ?_
   refine s_mv (v := .int .i64 0) rfl ?_
   refine dn ?_
   refine wp_block ?_
   refine loopN (S := A8) _ _ (fun i221 s222 e_ w_ => Slots e_ [(0, .map (some b0)), (2, .pointer (some ⟨b2, 0, none⟩)), (3, .int .i64 0), (4, .pointer (some ⟨b7, 0, none⟩)), (6, .pointer (some ⟨b181, 0, none⟩)), (7, .pointer (some ⟨b185, 0, none⟩)), (16, u15), (17, .int .i64 (r14.length : Int)), (18, .int .i64 (i168 : Int)), (19, .bool (decide ((i168 : Int) < (r14.length : Int)))), (20, .pointer (some ⟨Ad178, i168 * 8, none⟩)), (21, .agg (List.toArray (A8.enc .i64 (r14.getD i168 default)))), (22, .agg (List.toArray (A8.enc .u8 A8.zero))), (23, .agg (List.toArray (A8.enc .i64 (r14.getD i168 default)))), (24, .int .i64 (i221 : Int))] ∧ Ctx Nox w0 w_ [blk b185 136 (A8.enc .u8 s222), blk b181 73 (A8.enc .i64 (r14.getD i168 default)), own 162 9 v170 s169.length (ETerm.encs s169), own 73 8 u15 r14.length ((EA .i64).encs r14), blk b7 55 [v170], blk b2 55 [.slice none 0 0]] [mapI (kvA .i64) (vvI .i64) b0 a0]) 8 ?_ ?_ (s0 := A8.zero) ?_ h
   ·clear hC h
    rintro i221 s222 e_ w227 next223 K224 hi226 ⟨hS_, hC⟩ h hK225
    refine sr ?_
    refine s_lss (sx hS_ 14 rfl) rfl ?_
    refine dn ?_
    refine wp_seq ?_
    refine cw_true rfl (decide_eq_true (by omega)) ?_
    refine wp_skip ?_
    refine then_norm ?_
    refine wp_seq ?_
    refine wp_block ?_
    refine sr ?_
    refine s_mv (v := .int .i64 (i221 : Int)) (sx hS_ 14 rfl) ?_
    refine s_index (.int .i64 ((r14.getD i168 default).get i221)) Tryz.underlying73 (sx hS_ 13 rfl) (sx hS_ 14 rfl) (Int.natCast_nonneg _) (by omega) sc3 (A8.enc_get _ _ hi226) ?_
    refine s_as (v := .int .i64 (i221 : Int)) rfl ?_
    refine s_as (v := .int .i64 ((r14.getD i168 default).get i221)) rfl ?_
    refine dn ?_
    refine wp_seq ?_
    refine sr ?_
    refine s_mv (v := .int .i64 ((r14.getD i168 default).get i221)) rfl ?_
    refine s_gtr rfl rfl ?_
    refine dn ?_
    refine cw_cond rfl (fun hb228 => ?_) (fun hb228 => ?_)
    ·replace h := ift h (ct hb228)
     refine sr ?_
     refine s_build [] rfl (bl55   _) ?_
     refine s_store (v := .agg #[.slice none 0 0]) hC 5 [.slice none 0 0] [.slice none 0 0] rfl ag55.size (sx hS_ 1 rfl) rfl rfl rfl rfl (Nat.le_of_ble_eq_true rfl) rfl fun w229 hC => ?_
     refine s_as (v := .int .i64 3) rfl ?_
     refine dn ?_
     refine wp_ret (then_ret (blk_ret (then_ret (then_ret (blk_ret (then_ret (blk_ret (then_ret (then_ret (blk_ret (then_ret ?_)))))))))))
     refine ret2 (fn := Tryz.f101) rfl ?_ ?_ ⟨(⟨[]⟩ : Vc.Form), .slice none 0 0, [], 3, rfl, h, (form_join (nil_item _ _ _)), (fun b hb => absurd hb (by simp)), hC.below⟩ (.inl rfl)
     ·exact res_cellA hC 5 rfl ag55 (sx hS_ 1 rfl) rfl
     ·exact res_tmp rfl
    ·replace h := iff_ h (cf hb228)
     refine wp_skip ?_
     refine then_norm ?_
     refine cw_region ?_
     refine s_mv (v := .int .i64 (i221 : Int)) rfl ?_
     refine s_mv (v := .int .i64 ((r14.getD i168 default).get i221)) rfl ?_
     refine s_conv Tryz.underlying3 Tryz.underlying5 rfl ?_
     refine s_iaddrB i221 Tryz.underlying136 sc5.size (sx hS_ 5 rfl) rfl (Int.natCast_nonneg _) (by omega) (by omega) ?_
     refine s_store (v := .int .u8 (IntKind.u8.wrap ((r14.getD i168 default).get i221))) hC 0 [.int .u8 (IntKind.u8.wrap ((r14.getD i168 default).get i221))] (A8.enc .u8 (s222.set i221 (IntKind.u8.wrap ((r14.getD i168 default).get i221)))) rfl sc5.size rfl rfl rfl rfl rfl hi226 (A8.enc_set _ _ _ hi226) fun w230 hC => ?_
     refine done ?_
     refine blk_norm ?_
     refine then_norm ?_
     refine cw_region ?_
     refine s_add (sx hS_ 14 rfl) rfl ?_
     refine s_mv (v := .int .i64 (IntKind.i64.wrap ((i221 : Int) + 1))) rfl ?_
     refine done ?_
     exact hK225 (s222.set i221 (IntKind.u8.wrap ((r14.getD i168 default).get i221))) _ _ ⟨(sk (sx hS_ 0 rfl) (sk (sx hS_ 1 rfl) (sk (sx hS_ 2 rfl) (sk (sx hS_ 3 rfl) (sk (sx hS_ 4 rfl) (sk (sx hS_ 5 rfl) (sk (sx hS_ 6 rfl) (sk (sx hS_ 7 rfl) (sk (sx hS_ 8 rfl) (sk (sx hS_ 9 rfl) (sk (sx hS_ 10 rfl) (sk (sx hS_ 11 rfl) (sk (sx hS_ 12 rfl) (sk (sx hS_ 13 rfl) (sk (tr rfl (congrArg _ (wrap64_nat hi226 (by decide)))) sn))))))))))))))), hC⟩ h
   ·clear hC h
    rintro s222 e_ w231 K224 ⟨hS_, hC⟩ h
    refine sr ?_
    refine s_lss (sx hS_ 14 rfl) rfl ?_
    refine dn ?_
    refine wp_seq ?_
    refine cw_false rfl (decide_eq_false (by omega)) ?_
    refine wp_exit (then_exit (then_exit (exit_in ?_)))
    refine then_norm ?_
    refine cw_draw 8 mixed [0, 1, 0, 0, 0, 24, 60, 124, 255, 511, 1023] [1, 2, 4, 5, 6] [0, 3] (by kernel_rfl) (by kernel_rfl) (by kernel_rfl) (fun hM233 hM234 w232 hB_ => ?_)
    replace hC := hC.grow hB_
    refine aF 0 (.pointer (some ⟨b7, 0, none⟩)) rfl rfl (hM234 0 rfl) (rfl) (fun _ => by exact r_faddrB 0 Tryz.underlying55 rfl sc53.size (sx hS_ 3 rfl) rfl) (dbits 11 1) ?_
    refine aL 1 (v170) rfl rfl (hM233 1 rfl) (rfl) (fun _ hB_ => by exact r_loadS (hC.grow hB_) 4 (v170) rfl sc53 rfl rfl) (dbits 11 3) ?_
    refine aL 2 (.agg (List.toArray (A8.enc .u8 s222))) rfl rfl (hM233 2 rfl) (rfl) (fun _ hB_ => by exact r_loadA (hC.grow hB_) 0 (A8.enc .u8 s222) rfl ag136 (sx hS_ 5 rfl) rfl rfl) (dbits 11 7) ?_
    refine aF 3 (.map (some b0)) rfl rfl (hM234 3 rfl) (rfl) (fun _ => by exact r_mv (v := .map (some b0)) (sx hS_ 0 rfl)) (dbits 11 15) ?_
    refine aL 4 (.agg (List.toArray (A8.enc .i64 (r14.getD i168 default)))) rfl rfl (hM233 4 rfl) (rfl) (fun _ hB_ => by exact r_loadA (hC.grow hB_) 1 (A8.enc .i64 (r14.getD i168 default)) rfl ag73 (sx hS_ 4 rfl) rfl rfl) (dbits 11 31) ?_
    refine aL 5 (.int .i64 ((mget a0 (r14.getD i168 default)).getD 0)) rfl rfl (hM233 5 rfl) (rfl) (fun _ hB_ => by exact r_lookup (r14.getD i168 default) 0 ((hC.grow hB_).getP 0 rfl) kt73 Tryz.underlying115 z2 rfl rfl) (dbits 11 63) ?_
    refine aL 6 (.agg (List.toArray (Term.enc (⟨s222, (mget a0 (r14.getD i168 default)).getD 0⟩ : Term)))) rfl rfl (hM233 6 rfl) (rfl) (fun _ hB_ => by exact r_build [(0, .agg (List.toArray (A8.enc .u8 s222))), (1, .int .i64 ((mget a0 (r14.getD i168 default)).getD 0))] rfl (bl162_0flat_1int s222 ((mget a0 (r14.getD i168 default)).getD 0)  _)) (dbits 11 127) ?_
    refine aO 7 rfl ?_
    refine s_bslice (sz := 9) hC [(0, .agg (List.toArray (Term.enc (⟨s222, (mget a0 (r14.getD i168 default)).getD 0⟩ : Term))))] (ETerm.encs [(⟨s222, (mget a0 (r14.getD i168 default)).getD 0⟩ : Term)]) rfl (fun _ => bs53_1 (⟨s222, (mget a0 (r14.getD i168 default)).getD 0⟩ : Term) _) rfl (by decide) fun b235 w236 hB_ hC => ?_
    refine done ?_
    refine aK (by assumption) (dbits 11 255) ?_
    refine ae_tail 8 (by decide) (by decide) (by kernel_rfl) (by kernel_rfl) rfl ?_
    obtain ⟨hm240, h⟩ := h
    refine s_app hC 3 Tryz.underlying53 el162 rfl (by decide) (by decide) rfl (own_rdr (hC.getM 0 rfl)) (fun q hq => Enc.encs_one' (E := ETerm) _ q hq) rfl rfl hm240 fun v238 w239 hC => ?_
    replace hC := own_re hC 3 ((s169 ++ [(⟨s222, (mget a0 (r14.getD i168 default)).getD 0⟩ : Term)]).length) (ETerm.encs (s169 ++ [(⟨s222, (mget a0 (r14.getD i168 default)).getD 0⟩ : Term)])) rfl (by simp) (by first | (simp [Enc.encs_append]; done) | simp [Enc.encs_append, Enc.encs])
    refine s_faddrB 0 Tryz.underlying55 rfl sc53.size (sx hS_ 3 rfl) rfl ?_
    refine s_store (v := v238) hC 5 [v238] [v238] rfl sc53.size rfl rfl (own_cellsV (hC.getM 3 rfl)) rfl (all_c (own_oneC (hC.getM 3 rfl)) rfl) (Nat.le_of_ble_eq_true rfl) rfl fun w241 hC => ?_
    refine done ?_
    refine qn_norm ?_
    refine blk_norm ?_
    refine then_norm ?_
    refine cw_region ?_
    refine s_add (sx hS_ 8 rfl) rfl ?_
    refine s_mv (v := .int .i64 (IntKind.i64.wrap ((i168 : Int) + 1))) rfl ?_
    refine done ?_
    replace hC := hC.sM [3, 4, 5, 6] (M' := [own 162 9 v238 ((s169 ++ [(⟨s222, (mget a0 (r14.getD i168 default)).getD 0⟩ : Term)]).length) (ETerm.encs (s169 ++ [(⟨s222, (mget a0 (r14.getD i168 default)).getD 0⟩ : Term)])), own 73 8 u15 r14.length ((EA .i64).encs r14), blk b7 55 [v238], blk b2 55 [.slice none 0 0]]) (by decide) rfl
    exact hK175 (s169 ++ [(⟨s222, (mget a0 (r14.getD i168 default)).getD 0⟩ : Term)]) _ _ ⟨v238, (sk (sx hS_ 0 rfl) (sk (sx hS_ 1 rfl) (sk (sx hS_ 2 rfl) (sk (sx hS_ 3 rfl) (sk (sx hS_ 6 rfl) (sk (sx hS_ 7 rfl) (sk (tr rfl (congrArg _ (wrap64_nat hi176 hN172))) sn))))))), hC⟩ h
   ·skip
    exact ⟨(sk (sx hS_ 0 rfl) (sk (sx hS_ 1 rfl) (sk (sx hS_ 2 rfl) (sk (sx hS_ 3 rfl) (sk rfl (sk rfl (sk (sx hS_ 4 rfl) (sk (sx hS_ 5 rfl) (sk (sx hS_ 6 rfl) (sk rfl (sk rfl (sk rfl (sk rfl (sk rfl (sk rfl sn))))))))))))))), hC⟩
  ·clear hC h
   rintro s169 e_ w242 K174 ⟨v170, hS_, hC⟩ h
   refine sr ?_
   refine s_lss (sx hS_ 6 rfl) (sx hS_ 5 rfl) ?_
   refine dn ?_
   refine wp_seq ?_
   refine cw_false rfl (decide_eq_false (by omega)) ?_
   refine wp_exit (then_exit (then_exit (exit_in ?_)))
   refine then_norm ?_
   refine sr ?_
   refine s_loadA hC 2 [v170] rfl ag55 (sx hS_ 3 rfl) rfl rfl ?_
   refine s_store (v := .agg #[v170]) hC 3 [v170] [v170] rfl ag55.size (sx hS_ 1 rfl) rfl rfl rfl (all_c (own_oneC (hC.getM 0 rfl)) rfl) (Nat.le_of_ble_eq_true rfl) rfl fun w243 hC => ?_
   refine s_as (v := .int .i64 0) rfl ?_
   refine dn ?_
   refine wp_ret ?_
   refine ret2 (fn := Tryz.f101) rfl ?_ ?_ ⟨(⟨s169⟩ : Vc.Form), v170, (Option.toList (Value.ownBlock v170)), 0, rfl, h, (form_join (own_item (hC.getM 0 rfl))), (own_fresh hC 0 rfl), hC.below⟩ (.inl rfl)
   ·exact res_cellA hC 3 rfl ag55 (sx hS_ 1 rfl) rfl
   ·exact res_tmp rfl
  ·skip
   replace hC := hC.pushNil 162 9
   exact ⟨.slice none 0 0, (sk rfl (sk rfl (sk rfl (sk rfl (sk rfl (sk rfl (sk rfl sn))))))), hC⟩
def f_impl_sum_addAll (a0 : List (A8 × Int)) (a1 : List (A8 × Int)) (a2 : Int) (K : List (A8 × Int) → Prop) : Prop :=
 mapP (fun (q11 : A8 × Int) (s48 : (List (A8 × Int))) next49 => f_impl_sum_add s48 q11.1 (Int.tmod (IntKind.i64.wrap (q11.2 * a2)) 10007) (fun m66 => next49 m66)) (fun (s48 : (List (A8 × Int))) => K s48) a1.length a1 a0
theorem c_impl_sum_addAll (a0 : List (A8 × Int)) (a1 : List (A8 × Int)) (a2 : Int) {b0 : Nat} {b1 : Nat} {K : List (A8 × Int) → Prop} (h : f_impl_sum_addAll a0 a1 a2 K) (w0 : World) (q0 : (mapI (kvA .i64) (vvI .i64) b0 a0).holds w0) (d1 : ∀ c, c ∈ [b1] → c ≠ b0) (q1 : (mapI (kvA .i64) (vvI .i64) b1 a1).holds w0) :
  Calls Tryz.prog 165 #[.map (some b0), .map (some b1), .int .i64 a2] w0 fun e w' => ∃ (m0 : List (A8 × Int)), 
   e = .returned (.tuple #[]) ∧ K m0 ∧ (mapI (kvA .i64) (vvI .i64) b0 m0).holds w' ∧ BelB b0 w0 w' := by
 unfold f_impl_sum_addAll at h
 refine calls_of (args := [.map (some b0), .map (some b1), .int .i64 a2]) Tryz.func165 rfl 22 Tryz.ntmps165 (Nat.le_of_ble_eq_true rfl) ?_
 have hC := Ctx.start1 w0 b0 (it := mapI (kvA .i64) (vvI .i64) b0 a0) rfl [mapI (kvA .i64) (vvI .i64) b1 a1] q0 (by simp only [List.mem_cons, List.not_mem_nil, or_false, forall_eq_or_imp, forall_eq]; exact q1) (by simp only [List.mem_cons, List.not_mem_nil, or_false, forall_eq_or_imp, forall_eq]; exact d1)
 refine sr ?_
 refine s_mv (v := .map (some b1)) rfl ?_
 refine s_range hC 0 rfl Tryz.underlying115 rfl fun r3 es4 ck5 w10 hB_ hn6 hbn7 hC => ?_
 refine dn ?_
 refine wp_block ?_
 refine loopM (S := (List (A8 × Int))) _ _ (fun l13 s48 e_ w_ => ∃ (la15 : Option MapEntry), Slots e_ [(0, .map (some b0)), (2, .int .i64 a2), (9, .pointer (some ⟨r3, 0, none⟩))] ∧ Ctx (fun c_ => c_ = b0) w0 w_ [itI (kvA .i64) (vvI .i64) r3 b1 es4 ck5 la15 l13, mapI (kvA .i64) (vvI .i64) b0 s48] [mapE b1 es4 ck5, mapI (kvA .i64) (vvI .i64) b1 a1]) ?_ (l0 := a1) (s0 := a0) ?_ h
 ·clear hC h
  rintro l13 s48 e_ w52 next49 K50 ⟨la15, hS_, hC⟩ h hK51
  refine sr ?_
  refine s_next hC 0 0 rfl rfl hn6 hbn7 (sx hS_ 2 rfl) (fun hr53 => ?_) (fun q11 l12 ent54 w57 hp14 hk55 hv56 hC => ?_)
  ·replace h := h.1 hr53
   refine s_ext (v := .bool false) rfl rfl ?_
   refine dn ?_
   refine wp_seq ?_
   refine cw_false rfl rfl ?_
   refine wp_exit (then_exit (then_exit (exit_in ?_)))
   refine ret0 (fn := Tryz.f165) rfl  ⟨s48, rfl, h, (hC.getM 1 rfl), hC.belB⟩ (.inr rfl)
  ·replace h := h.2 q11 l12 hp14
   refine s_ext (v := .bool true) rfl rfl ?_
   refine dn ?_
   refine wp_seq ?_
   refine cw_true rfl rfl ?_
   refine wp_skip ?_
   refine then_norm ?_
   refine wp_block ?_
   refine sr ?_
   refine s_entry hC 0 0 q11 rfl rfl hn6 (sx hS_ 2 rfl) hk55 hv56 ?_
   refine s_ext (v := .agg (List.toArray (A8.enc .i64 q11.1))) rfl rfl ?_
   refine s_ext (v := .int .i64 q11.2) rfl rfl ?_
   refine s_alloc hC (A8.enc .i64 A8.zero) z73 rfl fun b58 w60 hB_ hC => ?_
   refine s_store (v := .agg (List.toArray (A8.enc .i64 q11.1))) hC 0 (A8.enc .i64 q11.1) (A8.enc .i64 q11.1) rfl ag73.size rfl rfl rfl rfl rfl (Nat.le_of_ble_eq_true rfl) rfl fun w61 hC => ?_
   refine s_as (v := .int .i64 q11.2) rfl ?_
   refine dn ?_
   refine cw_region ?_
   refine s_mv (v := .map (some b0)) (sx hS_ 0 rfl) ?_
   refine s_loadA hC 0 (A8.enc .i64 q11.1) rfl ag73 rfl rfl rfl ?_
   refine s_mv (v := .int .i64 q11.2) rfl ?_
   refine s_mv (v := .int .i64 a2) (sx hS_ 1 rfl) ?_
   refine s_mul rfl rfl ?_
   refine s_rem rfl rfl (by decide) ?_
   refine s_call [.map (some b0), .agg (List.toArray (A8.enc .i64 q11.1)), .int .i64 (Int.tmod (IntKind.i64.wrap (q11.2 * a2)) 10007)] _ Tryz.func195 rfl rfl rfl (c_impl_sum_add s48 q11.1 (Int.tmod (IntKind.i64.wrap (q11.2 * a2)) 10007) h _ (hC.getM 2 rfl)) (fun ret62 w64 hR63 => ?_)
   obtain ⟨m66, rfl, h, hm67, hB65⟩ := hR63
   refine ⟨_, rfl, ?_⟩
   replace hC := hC.turnB 2 rfl hB65 rfl rfl hm67
   refine done ?_
   refine blk_norm ?_
   replace hC := hC.sM [1, 2] (M' := [itI (kvA .i64) (vvI .i64) r3 b1 es4 ck5 (some ent54) l12, mapI (kvA .i64) (vvI .i64) b0 m66]) (by decide) rfl
   exact hK51 q11 l12 m66 _ _ hp14 ⟨(some ent54), (sk (sx hS_ 0 rfl) (sk (sx hS_ 1 rfl) (sk (sx hS_ 2 rfl) sn))), hC⟩ h
 ·skip
  exact ⟨none, (sk rfl (sk rfl (sk rfl sn))), hC⟩
def f_impl_sum_times (a0 : List (A8 × Int)) (a1 : List Int) (a2 : List (A8 × Int)) (K : List (A8 × Int) → Prop) : Prop :=
 mapP (fun (q15 : A8 × Int) (s236 : (List (A8 × Int))) next237 => mapP (fun (q258 : A8 × Int) (s317 : (List (A8 × Int))) next318 => f_impl_power_times q15.1 a1 q258.1 (fun r334 r335 => (if r335 ≠ 0 then f_impl_sum_add s317 r334 (Int.tmod (IntKind.i64.wrap ((IntKind.i64.wrap (r335 * q15.2)) * q258.2)) 10007) (fun m346 => next318 m346) else next318 s317))) (fun (s317 : (List (A8 × Int))) => next237 s317) a2.length a2 s236) (fun (s236 : (List (A8 × Int))) => K s236) a0.length a0 ([] : List (A8 × Int))
theorem c_impl_sum_times (a0 : List (A8 × Int)) (a1 : List Int) (a2 : List (A8 × Int)) {b0 : Nat} {b2 : Nat} {u1_0 : Value} {fp1 : List Nat} {K : List (A8 × Int) → Prop} (h : f_impl_sum_times a0 a1 a2 K) (w0 : World) (q0 : (mapI (kvA .i64) (vvI .i64) b0 a0).holds w0) (q1 : ((EI .i64).ty.sl).rep a1 [u1_0] fp1 w0) (q2 : (mapI (kvA .i64) (vvI .i64) b2 a2).holds w0) :
  Calls Tryz.prog 192 #[.map (some b0), u1_0, .map (some b2)] w0 fun e w' => ∃ (r0 : List (A8 × Int)) (zb0 : Nat), 
   e = .returned (.map (some zb0)) ∧ K r0 ∧ (mapI (kvA .i64) (vvI .i64) zb0 r0).holds w' ∧ w0.heap.size ≤ zb0 ∧ Bel w0 w' := by
 unfold f_impl_sum_times at h
 refine calls_of (args := [.map (some b0), u1_0, .map (some b2)]) Tryz.func192 rfl 48 Tryz.ntmps192 (Nat.le_of_ble_eq_true rfl) ?_
 have hC := Ctx.start (X := Nox) w0 [Ty.item ((EI .i64).ty.sl) a1 [u1_0] fp1, mapI (kvA .i64) (vvI .i64) b0 a0, mapI (kvA .i64) (vvI .i64) b2 a2] (by simp only [List.mem_cons, List.not_mem_nil, or_false, forall_eq_or_imp, forall_eq]; exact ⟨q1, q0, q2⟩)
 refine sr ?_
 refine s_as (v := .map none) rfl ?_
 refine dn ?_
 refine sr ?_
 refine s_makeMap hC (kvA .i64) (vvI .i64) fun b4 w6 hB_ hC => ?_
 refine s_as (v := .map (some b4)) rfl ?_
 refine dn ?_
 refine wp_seq ?_
 refine sr ?_
 refine s_mv (v := .map (some b0)) rfl ?_
 refine s_range hC 1 rfl Tryz.underlying115 rfl fun r7 es8 ck9 w14 hB_ hn10 hbn11 hC => ?_
 refine dn ?_
 refine wp_block ?_
 refine loopM (S := (List (A8 × Int))) _ _ (fun l17 s236 e_ w_ => ∃ (la19 : Option MapEntry), Slots e_ [(1, u1_0), (2, .map (some b2)), (6, .map none), (7, .map (some b4)), (16, .pointer (some ⟨r7, 0, none⟩))] ∧ Ctx Nox w0 w_ [itI (kvA .i64) (vvI .i64) r7 b0 es8 ck9 la19 l17, mapI (kvA .i64) (vvI .i64) b4 s236] [mapE b0 es8 ck9, Ty.item ((EI .i64).ty.sl) a1 [u1_0] fp1, mapI (kvA .i64) (vvI .i64) b0 a0, mapI (kvA .i64) (vvI .i64) b2 a2]) ?_ (l0 := a0) (s0 := ([] : List (A8 × Int))) ?_ h
 ·clear hC h
  rintro l17 s236 e_ w240 next237 K238 ⟨la19, hS_, hC⟩ h hK239
  refine sr ?_
  refine s_next hC 0 0 rfl rfl hn10 hbn11 (sx hS_ 4 rfl) (fun hr241 => ?_) (fun q15 l16 ent242 w245 hp18 hk243 hv244 hC => ?_)
  ·replace h := h.1 hr241
   refine s_ext (v := .bool false) rfl rfl ?_
   refine dn ?_
   refine wp_seq ?_
   refine cw_false rfl rfl ?_
   refine wp_exit (then_exit (then_exit (exit_in ?_)))
   refine then_norm ?_
   refine sr ?_
   refine s_mv (v := .map (some b4)) (sx hS_ 3 rfl) ?_
   refine s_as (v := .map (some b4)) rfl ?_
   refine dn ?_
   refine wp_ret ?_
   refine ret1 (fn := Tryz.f192) rfl ?_ ⟨s236, b4, rfl, h, (hC.getM 1 rfl), (map_fresh hC 1 rfl), hC.below⟩ (.inl rfl)
   exact res_tmp rfl
  ·replace h := h.2 q15 l16 hp18
   refine s_ext (v := .bool true) rfl rfl ?_
   refine dn ?_
   refine wp_seq ?_
   refine cw_true rfl rfl ?_
   refine wp_skip ?_
   refine then_norm ?_
   refine wp_block ?_
   refine sr ?_
   refine s_entry hC 0 0 q15 rfl rfl hn10 (sx hS_ 4 rfl) hk243 hv244 ?_
   refine s_ext (v := .agg (List.toArray (A8.enc .i64 q15.1))) rfl rfl ?_
   refine s_ext (v := .int .i64 q15.2) rfl rfl ?_
   refine s_alloc hC (A8.enc .i64 A8.zero) z73 rfl fun b246 w248 hB_ hC => ?_
   refine s_store (v := .agg (List.toArray (A8.enc .i64 q15.1))) hC 0 (A8.enc .i64 q15.1) (A8.enc .i64 q15.1) rfl ag73.size rfl rfl rfl rfl rfl (Nat.le_of_ble_eq_true rfl) rfl fun w249 hC => ?_
   refine s_as (v := .int .i64 q15.2) rfl ?_
   refine dn ?_
   refine sr ?_
   refine s_mv (v := .map (some b2)) (sx hS_ 1 rfl) ?_
   refine s_range hC 3 rfl Tryz.underlying115 rfl fun r250 es251 ck252 w257 hB_ hn253 hbn254 hC => ?_
   refine dn ?_
   refine wp_block ?_
   refine loopM (S := (List (A8 × Int))) _ _ (fun l260 s317 e_ w_ => ∃ (la262 : Option MapEntry), Slots e_ [(1, u1_0), (2, .map (some b2)), (6, .map none), (7, .map (some b4)), (8, .pointer (some ⟨b246, 0, none⟩)), (9, .int .i64 q15.2), (16, .pointer (some ⟨r7, 0, none⟩)), (17, .tuple #[.bool true, .agg (List.toArray (A8.enc .i64 q15.1)), .int .i64 q15.2]), (18, .bool true), (19, .tuple #[.agg (List.toArray (A8.enc .i64 q15.1)), .int .i64 q15.2]), (20, .agg (List.toArray (A8.enc .i64 q15.1))), (21, .int .i64 q15.2), (22, .map (some b2)), (23, .pointer (some ⟨r250, 0, none⟩))] ∧ Ctx Nox w0 w_ [itI (kvA .i64) (vvI .i64) r250 b2 es251 ck252 la262 l260, blk b246 73 (A8.enc .i64 q15.1), itI (kvA .i64) (vvI .i64) r7 b0 es8 ck9 (some ent242) l16, mapI (kvA .i64) (vvI .i64) b4 s317] [mapE b2 es251 ck252, mapE b0 es8 ck9, Ty.item ((EI .i64).ty.sl) a1 [u1_0] fp1, mapI (kvA .i64) (vvI .i64) b0 a0, mapI (kvA .i64) (vvI .i64) b2 a2]) ?_ (l0 := a2) (s0 := s236) ?_ h
   ·clear hC h
    rintro l260 s317 e_ w321 next318 K319 ⟨la262, hS_, hC⟩ h hK320
    refine sr ?_
    refine s_next hC 0 0 rfl rfl hn253 hbn254 (sx hS_ 13 rfl) (fun hr322 => ?_) (fun q258 l259 ent323 w326 hp261 hk324 hv325 hC => ?_)
    ·replace h := h.1 hr322
     refine s_ext (v := .bool false) rfl rfl ?_
     refine dn ?_
     refine wp_seq ?_
     refine cw_false rfl rfl ?_
     refine wp_exit (then_exit (then_exit (exit_in ?_)))
     refine blk_norm ?_
     replace hC := hC.sM [2, 3] (M' := [itI (kvA .i64) (vvI .i64) r7 b0 es8 ck9 (some ent242) l16, mapI (kvA .i64) (vvI .i64) b4 s317]) (by decide) rfl
     replace hC := hC.sP [1, 2, 3, 4] (Ps' := [mapE b0 es8 ck9, Ty.item ((EI .i64).ty.sl) a1 [u1_0] fp1, mapI (kvA .i64) (vvI .i64) b0 a0, mapI (kvA .i64) (vvI .i64) b2 a2]) rfl
     exact hK239 q15 l16 s317 _ _ hp18 ⟨(some ent242), (sk (sx hS_ 0 rfl) (sk (sx hS_ 1 rfl) (sk (sx hS_ 2 rfl) (sk (sx hS_ 3 rfl) (sk (sx hS_ 6 rfl) sn))))), hC⟩ h
    ·replace h := h.2 q258 l259 hp261
     refine s_ext (v := .bool true) rfl rfl ?_
     refine dn ?_
     refine wp_seq ?_
     refine cw_true rfl rfl ?_
     refine wp_skip ?_
     refine then_norm ?_
     refine wp_block ?_
     refine sr ?_
     refine s_entry hC 0 0 q258 rfl rfl hn253 (sx hS_ 13 rfl) hk324 hv325 ?_
     refine s_ext (v := .agg (List.toArray (A8.enc .i64 q258.1))) rfl rfl ?_
     refine s_ext (v := .int .i64 q258.2) rfl rfl ?_
     refine s_alloc hC (A8.enc .i64 A8.zero) z73 rfl fun b327 w329 hB_ hC => ?_
     refine s_store (v := .agg (List.toArray (A8.enc .i64 q258.1))) hC 0 (A8.enc .i64 q258.1) (A8.enc .i64 q258.1) rfl ag73.size rfl rfl rfl rfl rfl (Nat.le_of_ble_eq_true rfl) rfl fun w330 hC => ?_
     refine s_as (v := .int .i64 q258.2) rfl ?_
     refine dn ?_
     refine sr ?_
     refine s_loadA hC 2 (A8.enc .i64 q15.1) rfl ag73 (sx hS_ 4 rfl) rfl rfl ?_
     refine s_mv (v := u1_0) (sx hS_ 0 rfl) ?_
     refine s_loadA hC 0 (A8.enc .i64 q258.1) rfl ag73 rfl rfl rfl ?_
     refine s_call [.agg (List.toArray (A8.enc .i64 q15.1)), u1_0, .agg (List.toArray (A8.enc .i64 q258.1))] _ Tryz.func199 rfl rfl rfl (c_impl_power_times q15.1 a1 q258.1 h _ (hC.getP 2 rfl)) (fun ret331 w333 hR332 => ?_)
     obtain ⟨r334, r335, rfl, h, hB336⟩ := hR332
     refine ⟨_, rfl, ?_⟩
     replace hC := hC.grow hB336
     refine s_mv (v := .tuple #[.agg (List.toArray (A8.enc .i64 r334)), .int .i64 r335]) rfl ?_
     refine s_ext (v := .agg (List.toArray (A8.enc .i64 r334))) rfl rfl ?_
     refine s_ext (v := .int .i64 r335) rfl rfl ?_
     refine s_alloc hC (A8.enc .i64 A8.zero) z73 rfl fun b337 w339 hB_ hC => ?_
     refine s_store (v := .agg (List.toArray (A8.enc .i64 r334))) hC 0 (A8.enc .i64 r334) (A8.enc .i64 r334) rfl ag73.size rfl rfl rfl rfl rfl (Nat.le_of_ble_eq_true rfl) rfl fun w340 hC => ?_
     refine s_as (v := .int .i64 r335) rfl ?_
     refine dn ?_
     refine sr ?_
     refine s_mv (v := .int .i64 r335) rfl ?_
     refine s_neq rfl rfl ?_
     refine dn ?_
     refine cw_cond rfl (fun hb341 => ?_) (fun hb341 => ?_)
     ·replace h := ift h (ct hb341)
      refine cw_region ?_
      refine s_mv (v := .map (some b4)) (sx hS_ 3 rfl) ?_
      refine s_loadA hC 0 (A8.enc .i64 r334) rfl ag73 rfl rfl rfl ?_
      refine s_mv (v := .int .i64 r335) rfl ?_
      refine s_mv (v := .int .i64 q15.2) (sx hS_ 5 rfl) ?_
      refine s_mul rfl rfl ?_
      refine s_mv (v := .int .i64 q258.2) rfl ?_
      refine s_mul rfl rfl ?_
      refine s_rem rfl rfl (by decide) ?_
      refine s_call [.map (some b4), .agg (List.toArray (A8.enc .i64 r334)), .int .i64 (Int.tmod (IntKind.i64.wrap ((IntKind.i64.wrap (r335 * q15.2)) * q258.2)) 10007)] _ Tryz.func195 rfl rfl rfl (c_impl_sum_add s317 r334 (Int.tmod (IntKind.i64.wrap ((IntKind.i64.wrap (r335 * q15.2)) * q258.2)) 10007) h _ (hC.getM 5 rfl)) (fun ret342 w344 hR343 => ?_)
      obtain ⟨m346, rfl, h, hm347, hB345⟩ := hR343
      refine ⟨_, rfl, ?_⟩
      replace hC := hC.turnB 5 rfl hB345 rfl rfl hm347
      refine done ?_
      refine blk_norm ?_
      replace hC := hC.sM [2, 3, 4, 5] (M' := [itI (kvA .i64) (vvI .i64) r250 b2 es251 ck252 (some ent323) l259, blk b246 73 (A8.enc .i64 q15.1), itI (kvA .i64) (vvI .i64) r7 b0 es8 ck9 (some ent242) l16, mapI (kvA .i64) (vvI .i64) b4 m346]) (by decide) rfl
      exact hK320 q258 l259 m346 _ _ hp261 ⟨(some ent323), (sk (sx hS_ 0 rfl) (sk (sx hS_ 1 rfl) (sk (sx hS_ 2 rfl) (sk (sx hS_ 3 rfl) (sk (sx hS_ 4 rfl) (sk (sx hS_ 5 rfl) (sk (sx hS_ 6 rfl) (sk (sx hS_ 7 rfl) (sk (sx hS_ 8 rfl) (sk (sx hS_ 9 rfl) (sk (sx hS_ 10 rfl) (sk (sx hS_ 11 rfl) (sk (sx hS_ 12 rfl) (sk (sx hS_ 13 rfl) sn)))))))))))))), hC⟩ h
     ·replace h := iff_ h (cf hb341)
      refine wp_skip ?_
      refine blk_norm ?_
      replace hC := hC.sM [2, 3, 4, 5] (M' := [itI (kvA .i64) (vvI .i64) r250 b2 es251 ck252 (some ent323) l259, blk b246 73 (A8.enc .i64 q15.1), itI (kvA .i64) (vvI .i64) r7 b0 es8 ck9 (some ent242) l16, mapI (kvA .i64) (vvI .i64) b4 s317]) (by decide) rfl
      exact hK320 q258 l259 s317 _ _ hp261 ⟨(some ent323), (sk (sx hS_ 0 rfl) (sk (sx hS_ 1 rfl) (sk (sx hS_ 2 rfl) (sk (sx hS_ 3 rfl) (sk (sx hS_ 4 rfl) (sk (sx hS_ 5 rfl) (sk (sx hS_ 6 rfl) (sk (sx hS_ 7 rfl) (sk (sx hS_ 8 rfl) (sk (sx hS_ 9 rfl) (sk (sx hS_ 10 rfl) (sk (sx hS_ 11 rfl) (sk (sx hS_ 12 rfl) (sk (sx hS_ 13 rfl) sn)))))))))))))), hC⟩ h
   ·skip
    exact ⟨none, (sk (sx hS_ 0 rfl) (sk (sx hS_ 1 rfl) (sk (sx hS_ 2 rfl) (sk (sx hS_ 3 rfl) (sk rfl (sk rfl (sk (sx hS_ 4 rfl) (sk rfl (sk rfl (sk rfl (sk rfl (sk rfl (sk rfl (sk rfl sn)))))))))))))), hC⟩
 ·skip
  exact ⟨none, (sk rfl (sk rfl (sk rfl (sk rfl (sk rfl sn))))), hC⟩
def f_impl_within (a0 : Int) (a1 : Int) (a2 : Int) (K : Bool → Prop) : Prop :=
 (if a0 ≥ a1 then K (decide (a0 ≤ a2)) else K false)
theorem c_impl_within (a0 : Int) (a1 : Int) (a2 : Int)  {K : Bool → Prop} (h : f_impl_within a0 a1 a2 K) (w0 : World)  :
  Calls Tryz.prog 46 #[.int .i64 a0, .int .i64 a1, .int .i64 a2] w0 fun e w' => ∃ (r0 : Bool), 
   e = .returned (.bool r0) ∧ K r0 ∧ Bel w0 w' := by
 unfold f_impl_within at h
 refine calls_of (args := [.int .i64 a0, .int .i64 a1, .int .i64 a2]) Tryz.func46 rfl 15 Tryz.ntmps46 (Nat.le_of_ble_eq_true rfl) ?_
 have hC := Ctx.start (X := Nox) w0 [] (by simp)
 refine sr ?_
 refine s_as (v := .bool false) rfl ?_
 refine dn ?_
 refine sr ?_
 refine s_mv (v := .int .i64 a0) rfl ?_
 refine s_mv (v := .int .i64 a1) rfl ?_
 refine s_geq rfl rfl ?_
 refine s_mv (v := .bool (decide (a0 ≥ a1))) rfl ?_
 refine bsplit (decide (a0 ≥ a1)) (fun hb1 => ?_) (fun hb1 => ?_)
 ·replace h := ift h (ct hb1)
  refine guardOn 3 10 rfl rfl hb1 ?_
  refine s_mv (v := .int .i64 a0) rfl ?_
  refine guardOn 3 10 rfl rfl hb1 ?_
  refine s_mv (v := .int .i64 a2) rfl ?_
  refine guardOn 3 10 rfl rfl hb1 ?_
  refine s_leq rfl rfl ?_
  refine s_pick (v := .bool (decide (a0 ≤ a2))) (b := true) (tr rfl (congrArg _ hb1)) rfl ?_
  refine s_as (v := .bool (decide (a0 ≤ a2))) rfl ?_
  refine dn ?_
  refine wp_ret ?_
  refine ret1 (fn := Tryz.f46) rfl ?_ ⟨decide (a0 ≤ a2), rfl, h, hC.below⟩ (.inl rfl)
  exact res_tmp rfl
 ·replace h := iff_ h (cf hb1)
  refine guardOff (b := false) 3 10 rfl (tr rfl (congrArg _ hb1)) (by decide) ?_
  refine guardOff (b := false) 3 10 rfl (tr rfl (congrArg _ hb1)) (by decide) ?_
  refine guardOff (b := false) 3 10 rfl (tr rfl (congrArg _ hb1)) (by decide) ?_
  refine s_pick (v := .bool false) (b := false) (tr rfl (congrArg _ hb1)) rfl ?_
  refine s_as (v := .bool false) rfl ?_
  refine dn ?_
  refine wp_ret ?_
  refine ret1 (fn := Tryz.f46) rfl ?_ ⟨false, rfl, h, hC.below⟩ (.inl rfl)
  exact res_tmp rfl
def f_slices_IndexFunc_int64_int64 (a0 : List Int) (p1 : Int → (Bool → Prop) → Prop) (K : Int → Prop) : Prop :=
 forN (fun i17 (s18 : Unit) next20 => p1 (a0.getD i17 default) (fun r32 => (if r32 = true then K (i17 : Int) else next20 ()))) (fun (s18 : Unit) => K (-1)) a0.length 0 ()
theorem c_slices_IndexFunc_int64_int64 (a0 : List Int) (p1 : Int → (Bool → Prop) → Prop) {u0_0 : Value} {fp0 : List Nat} {K : Int → Prop} (h : f_slices_IndexFunc_int64_int64 a0 p1 K) (w0 : World) (q0 : ((EI .i64).ty.sl).rep a0 [u0_0] fp0 w0) {g1 : Nat} {cp1 : List Value} {fn1 : Func} (hf1 : Tryz.prog.funcs[g1]? = some fn1) (hb1 : fn1.body.isNone = false) (hn1 : (fn1.name == "runtime.NumGoroutine") = false) (hp1 : ∀ (y0 : Int) (K_ : Bool → Prop) (w_ : World), Bel w0 w_ → p1 y0 K_ → Calls Tryz.prog g1 (List.toArray ([.int .i64 y0] ++ cp1)) w_ fun e w' => ∃ (z0 : Bool), e = .returned (.bool z0) ∧ K_ z0 ∧ Bel w_ w') :
  Calls Tryz.prog 185 #[u0_0, .func (.func g1) #[] (List.toArray cp1)] w0 fun e w' => ∃ (r0 : Int), 
   e = .returned (.int .i64 r0) ∧ K r0 ∧ Bel w0 w' := by
 unfold f_slices_IndexFunc_int64_int64 at h
 refine calls_of (args := [u0_0, .func (.func g1) #[] (List.toArray cp1)]) Tryz.func185 rfl 19 Tryz.ntmps185 (Nat.le_of_ble_eq_true rfl) ?_
 have hC := Ctx.start (X := Nox) w0 [Ty.item ((EI .i64).ty.sl) a0 [u0_0] fp0] (by simp only [List.mem_cons, List.not_mem_nil, or_false, forall_eq_or_imp, forall_eq]; exact q0)
 refine sr ?_
 refine s_as (v := .int .i64 0) rfl ?_
 refine dn ?_
 refine wp_seq ?_
 refine sr ?_
 refine s_mv (v := u0_0) rfl ?_
 obtain ⟨Ad2, c3, hv4⟩ := sl_len (hC.getP 0 rfl)
 refine s_len Tryz.underlying22 (tr rfl hv4) ?_
 refine s_mv (v := .int .i64 0) rfl ?_
 refine dn ?_
 refine wp_block ?_
 have hN19 : a0.length ≤ 9223372036854775807 := sl_max (hC.getP 0 rfl)
 refine loopN (S := Unit) _ _ (fun i17 s18 e_ w_ => Slots e_ [(0, u0_0), (1, .func (.func g1) #[] (List.toArray cp1)), (4, .int .i64 0), (7, .int .i64 (a0.length : Int)), (8, .int .i64 (i17 : Int))] ∧ Ctx Nox w0 w_ [] [Ty.item ((EI .i64).ty.sl) a0 [u0_0] fp0]) a0.length ?_ ?_ (s0 := ()) ?_ h
 ·clear hC h
  rintro i17 s18 e_ w24 next20 K21 hi23 ⟨hS_, hC⟩ h hK22
  refine sr ?_
  refine s_lss (sx hS_ 4 rfl) (sx hS_ 3 rfl) ?_
  refine dn ?_
  refine wp_seq ?_
  refine cw_true rfl (decide_eq_true (by omega)) ?_
  refine wp_skip ?_
  refine then_norm ?_
  refine wp_seq ?_
  refine wp_block ?_
  refine sr ?_
  refine s_mv (v := .int .i64 (i17 : Int)) (sx hS_ 4 rfl) ?_
  refine s_as (v := .int .i64 (i17 : Int)) rfl ?_
  refine dn ?_
  refine sr ?_
  refine s_mv (v := .func (.func g1) #[] (List.toArray cp1)) (sx hS_ 1 rfl) ?_
  refine s_mv (v := u0_0) (sx hS_ 0 rfl) ?_
  refine s_mv (v := .int .i64 (i17 : Int)) rfl ?_
  obtain ⟨Ad25, c26, hv27⟩ := sl_form (hC.getP 0 rfl) i17 hi23
  refine s_iaddrS (len := a0.length) Tryz.underlying22 sc2.size (tr rfl hv27) rfl (Int.natCast_nonneg _) (Int.ofNat_lt.2 hi23) ?_
  refine s_loadCS (.int .i64 (a0.getD i17 default)) (sl_cellsE (hC.getP 0 rfl) hv27 i17 hi23) sc2 rfl ?_
  refine s_callv [.int .i64 (a0.getD i17 default)] _ rfl hf1 hb1 hn1 rfl (hp1 _ _ _ hC.below  h) (fun ret28 w30 hR29 => ?_)
  obtain ⟨r32, rfl, h, hB31⟩ := hR29
  refine ⟨_, rfl, ?_⟩
  replace hC := hC.grow hB31
  refine dn ?_
  refine cw_cond rfl (fun hb33 => ?_) (fun hb33 => ?_)
  ·replace h := ift h (hb33)
   refine sr ?_
   refine s_mv (v := .int .i64 (i17 : Int)) rfl ?_
   refine s_as (v := .int .i64 (i17 : Int)) rfl ?_
   refine dn ?_
   refine wp_ret (blk_ret (then_ret (then_ret (blk_ret (then_ret ?_)))))
   refine ret1 (fn := Tryz.f185) rfl ?_ ⟨(i17 : Int), rfl, h, hC.below⟩ (.inl rfl)
   exact res_tmp rfl
  ·replace h := iff_ h (ne_t hb33)
   refine wp_skip ?_
   refine blk_norm ?_
   refine then_norm ?_
   refine cw_region ?_
   refine s_add (sx hS_ 4 rfl) rfl ?_
   refine s_mv (v := .int .i64 (IntKind.i64.wrap ((i17 : Int) + 1))) rfl ?_
   refine done ?_
   exact hK22 () _ _ ⟨(sk (sx hS_ 0 rfl) (sk (sx hS_ 1 rfl) (sk (sx hS_ 2 rfl) (sk (sx hS_ 3 rfl) (sk (tr rfl (congrArg _ (wrap64_nat hi23 hN19))) sn))))), hC⟩ h
 ·clear hC h
  rintro s18 e_ w34 K21 ⟨hS_, hC⟩ h
  refine sr ?_
  refine s_lss (sx hS_ 4 rfl) (sx hS_ 3 rfl) ?_
  refine dn ?_
  refine wp_seq ?_
  refine cw_false rfl (decide_eq_false (by omega)) ?_
  refine wp_exit (then_exit (then_exit (exit_in ?_)))
  refine then_norm ?_
  refine sr ?_
  refine s_as (v := .int .i64 (-1)) rfl ?_
  refine dn ?_
  refine wp_ret ?_
  refine ret1 (fn := Tryz.f185) rfl ?_ ⟨(-1), rfl, h, hC.below⟩ (.inl rfl)
  exact res_tmp rfl
 ·skip
  exact ⟨(sk rfl (sk rfl (sk rfl (sk rfl (sk rfl sn))))), hC⟩
def f_slices_ContainsFunc_int64_int64 (a0 : List Int) (p1 : Int → (Bool → Prop) → Prop) (K : Bool → Prop) : Prop :=
 f_slices_IndexFunc_int64_int64 a0 p1 (fun r5 => K (decide (r5 ≥ 0)))
theorem c_slices_ContainsFunc_int64_int64 (a0 : List Int) (p1 : Int → (Bool → Prop) → Prop) {u0_0 : Value} {fp0 : List Nat} {K : Bool → Prop} (h : f_slices_ContainsFunc_int64_int64 a0 p1 K) (w0 : World) (q0 : ((EI .i64).ty.sl).rep a0 [u0_0] fp0 w0) {g1 : Nat} {cp1 : List Value} {fn1 : Func} (hf1 : Tryz.prog.funcs[g1]? = some fn1) (hb1 : fn1.body.isNone = false) (hn1 : (fn1.name == "runtime.NumGoroutine") = false) (hp1 : ∀ (y0 : Int) (K_ : Bool → Prop) (w_ : World), Bel w0 w_ → p1 y0 K_ → Calls Tryz.prog g1 (List.toArray ([.int .i64 y0] ++ cp1)) w_ fun e w' => ∃ (z0 : Bool), e = .returned (.bool z0) ∧ K_ z0 ∧ Bel w_ w') :
  Calls Tryz.prog 181 #[u0_0, .func (.func g1) #[] (List.toArray cp1)] w0 fun e w' => ∃ (r0 : Bool), 
   e = .returned (.bool r0) ∧ K r0 ∧ Bel w0 w' := by
 unfold f_slices_ContainsFunc_int64_int64 at h
 refine calls_of (args := [u0_0, .func (.func g1) #[] (List.toArray cp1)]) Tryz.func181 rfl 9 Tryz.ntmps181 (Nat.le_of_ble_eq_true rfl) ?_
 have hC := Ctx.start (X := Nox) w0 [Ty.item ((EI .i64).ty.sl) a0 [u0_0] fp0] (by simp only [List.mem_cons, List.not_mem_nil, or_false, forall_eq_or_imp, forall_eq]; exact q0)
 refine sr ?_
 refine s_as (v := .bool false) rfl ?_
 refine dn ?_
 refine sr ?_
 refine s_mv (v := u0_0) rfl ?_
 refine s_mv (v := .func (.func g1) #[] (List.toArray cp1)) rfl ?_
 refine s_call [u0_0, .func (.func g1) #[] (List.toArray cp1)] _ Tryz.func185 rfl rfl rfl (c_slices_IndexFunc_int64_int64 a0 p1 h _ (hC.getP 0 rfl) hf1 hb1 hn1 (fun x0_ K_ w_ hb_ => hp1 x0_ K_ w_ (below_on hC.below hb_))) (fun ret2 w4 hR3 => ?_)
 obtain ⟨r5, rfl, h, hB6⟩ := hR3
 refine ⟨_, rfl, ?_⟩
 replace hC := hC.grow hB6
 refine s_geq rfl rfl ?_
 refine s_as (v := .bool (decide (r5 ≥ 0))) rfl ?_
 refine dn ?_
 refine wp_ret ?_
 refine ret1 (fn := Tryz.f181) rfl ?_ ⟨decide (r5 ≥ 0), rfl, h, hC.below⟩ (.inl rfl)
 exact res_tmp rfl
def f_impl_AreDegrees_1 (a0 : Int) (K : Bool → Prop) : Prop :=
 f_impl_within a0 1 12 (fun r4 => K (!r4))
theorem c_impl_AreDegrees_1 (a0 : Int)  {K : Bool → Prop} (h : f_impl_AreDegrees_1 a0 K) (w0 : World)  :
  Calls Tryz.prog 190 #[.int .i64 a0] w0 fun e w' => ∃ (r0 : Bool), 
   e = .returned (.bool r0) ∧ K r0 ∧ Bel w0 w' := by
 unfold f_impl_AreDegrees_1 at h
 refine calls_of (args := [.int .i64 a0]) Tryz.func190 rfl 6 Tryz.ntmps190 (Nat.le_of_ble_eq_true rfl) ?_
 have hC := Ctx.start (X := Nox) w0 [] (by simp)
 refine sr ?_
 refine s_as (v := .bool false) rfl ?_
 refine dn ?_
 refine sr ?_
 refine s_mv (v := .int .i64 a0) rfl ?_
 refine s_call [.int .i64 a0, .int .i64 1, .int .i64 12] _ Tryz.func46 rfl rfl rfl (c_impl_within a0 1 12 h _) (fun ret1 w3 hR2 => ?_)
 obtain ⟨r4, rfl, h, hB5⟩ := hR2
 refine ⟨_, rfl, ?_⟩
 replace hC := hC.grow hB5
 refine s_not rfl ?_
 refine s_as (v := .bool (!r4)) rfl ?_
 refine dn ?_
 refine wp_ret ?_
 refine ret1 (fn := Tryz.f190) rfl ?_ ⟨!r4, rfl, h, hC.below⟩ (.inl rfl)
 exact res_tmp rfl
def f_impl_AreDegrees (a0 : List Int) (K : Bool → Prop) : Prop :=
 (if (a0.length : Int) ≤ 8 then f_slices_ContainsFunc_int64_int64 a0 f_impl_AreDegrees_1 (fun r9 => K (!r9)) else K false)
theorem c_impl_AreDegrees (a0 : List Int) {u0_0 : Value} {fp0 : List Nat} {K : Bool → Prop} (h : f_impl_AreDegrees a0 K) (w0 : World) (q0 : ((EI .i64).ty.sl).rep a0 [u0_0] fp0 w0) :
  Calls Tryz.prog 151 #[u0_0] w0 fun e w' => ∃ (r0 : Bool), 
   e = .returned (.bool r0) ∧ K r0 ∧ Bel w0 w' := by
 unfold f_impl_AreDegrees at h
 refine calls_of (args := [u0_0]) Tryz.func151 rfl 11 Tryz.ntmps151 (Nat.le_of_ble_eq_true rfl) ?_
 have hC := Ctx.start (X := Nox) w0 [Ty.item ((EI .i64).ty.sl) a0 [u0_0] fp0] (by simp only [List.mem_cons, List.not_mem_nil, or_false, forall_eq_or_imp, forall_eq]; exact q0)
 refine sr ?_
 refine s_as (v := .bool false) rfl ?_
 refine dn ?_
 refine sr ?_
 refine s_mv (v := u0_0) rfl ?_
 obtain ⟨Ad2, c3, hv4⟩ := sl_len (hC.getP 0 rfl)
 refine s_len Tryz.underlying22 (tr rfl hv4) ?_
 refine s_leq rfl rfl ?_
 refine s_mv (v := .bool (decide ((a0.length : Int) ≤ 8))) rfl ?_
 refine bsplit (decide ((a0.length : Int) ≤ 8)) (fun hb5 => ?_) (fun hb5 => ?_)
 ·replace h := ift h (ct hb5)
  refine guardOn 3 6 rfl rfl hb5 ?_
  refine s_mv (v := u0_0) rfl ?_
  refine guardOn 3 6 rfl rfl hb5 ?_
  refine s_call [u0_0, .func (.func 190) #[] (List.toArray [])] _ Tryz.func181 rfl rfl rfl (c_slices_ContainsFunc_int64_int64 a0 f_impl_AreDegrees_1 h _ (hC.getP 0 rfl) Tryz.func190 rfl rfl (fun x0_ K_ w_ _ hq_ => c_impl_AreDegrees_1 x0_ hq_ w_)) (fun ret6 w8 hR7 => ?_)
  obtain ⟨r9, rfl, h, hB10⟩ := hR7
  refine ⟨_, rfl, ?_⟩
  replace hC := hC.grow hB10
  refine guardOn 3 6 rfl rfl hb5 ?_
  refine s_not rfl ?_
  refine s_pick (v := .bool (!r9)) (b := true) (tr rfl (congrArg _ hb5)) rfl ?_
  refine s_as (v := .bool (!r9)) rfl ?_
  refine dn ?_
  refine wp_ret ?_
  refine ret1 (fn := Tryz.f151) rfl ?_ ⟨!r9, rfl, h, hC.below⟩ (.inl rfl)
  exact res_tmp rfl
 ·replace h := iff_ h (cf hb5)
  refine guardOff (b := false) 3 6 rfl (tr rfl (congrArg _ hb5)) (by decide) ?_
  refine guardOff (b := false) 3 6 rfl (tr rfl (congrArg _ hb5)) (by decide) ?_
  refine guardOff (b := false) 3 6 rfl (tr rfl (congrArg _ hb5)) (by decide) ?_
  refine s_pick (v := .bool false) (b := false) (tr rfl (congrArg _ hb5)) rfl ?_
  refine s_as (v := .bool false) rfl ?_
  refine dn ?_
  refine wp_ret ?_
  refine ret1 (fn := Tryz.f151) rfl ?_ ⟨false, rfl, h, hC.below⟩ (.inl rfl)
  exact res_tmp rfl
def f_impl_isMonomial (a0 : List Int) (a1 : A8) (K : Bool → Prop) : Prop :=
 forN (fun i21 (s22 : Unit) next23 => (if (i21 : Int) < (a0.length : Int) then ((0 ≤ (i21 : Int) ∧ (i21 : Int) < (a0.length : Int)) ∧ (if Int.tmod (a0.getD i21 default) 2 = 1 then (if a1.get i21 > 1 then K false else next23 ()) else (if a1.get i21 > 20 then K false else next23 ()))) else (if a1.get i21 > 0 then K false else next23 ()))) (fun (s22 : Unit) => K true) 8 0 ()
theorem c_impl_isMonomial (a0 : List Int) (a1 : A8) {u0_0 : Value} {fp0 : List Nat} {K : Bool → Prop} (h : f_impl_isMonomial a0 a1 K) (w0 : World) (q0 : ((EI .i64).ty.sl).rep a0 [u0_0] fp0 w0) :
  Calls Tryz.prog 156 #[u0_0, .agg (List.toArray (A8.enc .u8 a1))] w0 fun e w' => ∃ (r0 : Bool), 
   e = .returned (.bool r0) ∧ K r0 ∧ Bel w0 w' := by
 unfold f_impl_isMonomial at h
 refine calls_of (args := [u0_0, .agg (List.toArray (A8.enc .u8 a1))]) Tryz.func156 rfl 27 Tryz.ntmps156 (Nat.le_of_ble_eq_true rfl) ?_
 have hC := Ctx.start (X := Nox) w0 [Ty.item ((EI .i64).ty.sl) a0 [u0_0] fp0] (by simp only [List.mem_cons, List.not_mem_nil, or_false, forall_eq_or_imp, forall_eq]; exact q0)
 refine sr ?_
 refine s_box (v := .agg (List.toArray (A8.enc .u8 a1))) hC (A8.enc .u8 a1) rfl rfl fun b2 w4 hB_ hC => ?_
 refine s_as (v := .bool false) rfl ?_
 refine dn ?_
 refine wp_seq ?_
 refine sr ?_
 refine s_loadA hC 0 (A8.enc .u8 a1) rfl ag136 rfl rfl rfl ?_
 refine s_mv (v := .int .i64 0) rfl ?_
 refine dn ?_
 refine wp_block ?_
 refine loopN (S := Unit) _ _ (fun i21 s22 e_ w_ => Slots e_ [(0, u0_0), (4, .bool false), (8, .agg (List.toArray (A8.enc .u8 a1))), (9, .int .i64 (i21 : Int))] ∧ Ctx Nox w0 w_ [] [Ty.item ((EI .i64).ty.sl) a0 [u0_0] fp0]) 8 ?_ ?_ (s0 := ()) ?_ h
 ·clear hC h
  rintro i21 s22 e_ w27 next23 K24 hi26 ⟨hS_, hC⟩ h hK25
  refine sr ?_
  refine s_lss (sx hS_ 3 rfl) rfl ?_
  refine dn ?_
  refine wp_seq ?_
  refine cw_true rfl (decide_eq_true (by omega)) ?_
  refine wp_skip ?_
  refine then_norm ?_
  refine wp_seq ?_
  refine wp_block ?_
  refine sr ?_
  refine s_mv (v := .int .i64 (i21 : Int)) (sx hS_ 3 rfl) ?_
  refine s_index (.int .u8 (a1.get i21)) Tryz.underlying136 (sx hS_ 2 rfl) (sx hS_ 3 rfl) (Int.natCast_nonneg _) (by omega) sc5 (A8.enc_get _ _ hi26) ?_
  refine s_as (v := .int .i64 (i21 : Int)) rfl ?_
  refine s_as (v := .int .u8 (a1.get i21)) rfl ?_
  refine dn ?_
  refine sr ?_
  refine s_as (v := .int .u8 0) rfl ?_
  refine dn ?_
  refine wp_seq ?_
  refine sr ?_
  refine s_mv (v := .int .i64 (i21 : Int)) rfl ?_
  refine s_mv (v := u0_0) (sx hS_ 0 rfl) ?_
  obtain ⟨Ad28, c29, hv30⟩ := sl_len (hC.getP 0 rfl)
  refine s_len Tryz.underlying22 (tr rfl hv30) ?_
  refine s_lss rfl rfl ?_
  refine dn ?_
  refine cw_cond rfl (fun hb31 => ?_) (fun hb31 => ?_)
  ·replace h := ift h (ct hb31)
   refine sr ?_
   refine s_as (v := .int .u8 20) rfl ?_
   refine dn ?_
   refine sr ?_
   refine s_mv (v := u0_0) (sx hS_ 0 rfl) ?_
   refine s_mv (v := .int .i64 (i21 : Int)) rfl ?_
   obtain ⟨⟨h0_32, h1_33⟩, h⟩ := h
   obtain ⟨Ad34, c35, hv36⟩ := sl_form (hC.getP 0 rfl) i21 (show i21 < a0.length by omega)
   refine s_iaddrS (len := a0.length) Tryz.underlying22 sc2.size (tr rfl hv36) rfl h0_32 h1_33 ?_
   refine s_loadCS (.int .i64 (a0.getD i21 default)) (sl_cellsE (hC.getP 0 rfl) hv36 i21 (show i21 < a0.length by omega)) sc2 rfl ?_
   refine s_rem rfl rfl (by decide) ?_
   refine s_eql rfl rfl ?_
   refine dn ?_
   refine cw_cond rfl (fun hb37 => ?_) (fun hb37 => ?_)
   ·replace h := ift h (ct hb37)
    refine cw_region ?_
    refine s_as (v := .int .u8 1) rfl ?_
    refine dn ?_
    refine sr ?_
    refine s_mv (v := .int .u8 (a1.get i21)) rfl ?_
    refine s_mv (v := .int .u8 1) rfl ?_
    refine s_gtr rfl rfl ?_
    refine dn ?_
    refine cw_cond rfl (fun hb38 => ?_) (fun hb38 => ?_)
    ·replace h := ift h (ct hb38)
     refine sr ?_
     refine s_as (v := .bool false) rfl ?_
     refine dn ?_
     refine wp_ret (blk_ret (then_ret (then_ret (blk_ret (then_ret ?_)))))
     refine ret1 (fn := Tryz.f156) rfl ?_ ⟨false, rfl, h, hC.below⟩ (.inl rfl)
     exact res_tmp rfl
    ·replace h := iff_ h (cf hb38)
     refine wp_skip ?_
     refine blk_norm ?_
     refine then_norm ?_
     refine cw_region ?_
     refine s_add (sx hS_ 3 rfl) rfl ?_
     refine s_mv (v := .int .i64 (IntKind.i64.wrap ((i21 : Int) + 1))) rfl ?_
     refine done ?_
     exact hK25 () _ _ ⟨(sk (sx hS_ 0 rfl) (sk (sx hS_ 1 rfl) (sk (sx hS_ 2 rfl) (sk (tr rfl (congrArg _ (wrap64_nat hi26 (by decide)))) sn)))), hC⟩ h
   ·replace h := iff_ h (cf hb37)
    refine wp_skip ?_
    refine then_norm ?_
    refine sr ?_
    refine s_mv (v := .int .u8 (a1.get i21)) rfl ?_
    refine s_mv (v := .int .u8 20) rfl ?_
    refine s_gtr rfl rfl ?_
    refine dn ?_
    refine cw_cond rfl (fun hb39 => ?_) (fun hb39 => ?_)
    ·replace h := ift h (ct hb39)
     refine sr ?_
     refine s_as (v := .bool false) rfl ?_
     refine dn ?_
     refine wp_ret (blk_ret (then_ret (then_ret (blk_ret (then_ret ?_)))))
     refine ret1 (fn := Tryz.f156) rfl ?_ ⟨false, rfl, h, hC.below⟩ (.inl rfl)
     exact res_tmp rfl
    ·replace h := iff_ h (cf hb39)
     refine wp_skip ?_
     refine blk_norm ?_
     refine then_norm ?_
     refine cw_region ?_
     refine s_add (sx hS_ 3 rfl) rfl ?_
     refine s_mv (v := .int .i64 (IntKind.i64.wrap ((i21 : Int) + 1))) rfl ?_
     refine done ?_
     exact hK25 () _ _ ⟨(sk (sx hS_ 0 rfl) (sk (sx hS_ 1 rfl) (sk (sx hS_ 2 rfl) (sk (tr rfl (congrArg _ (wrap64_nat hi26 (by decide)))) sn)))), hC⟩ h
  ·replace h := iff_ h (cf hb31)
   refine wp_skip ?_
   refine then_norm ?_
   refine sr ?_
   refine s_mv (v := .int .u8 (a1.get i21)) rfl ?_
   refine s_mv (v := .int .u8 0) rfl ?_
   refine s_gtr rfl rfl ?_
   refine dn ?_
   refine cw_cond rfl (fun hb40 => ?_) (fun hb40 => ?_)
   ·replace h := ift h (ct hb40)
    refine sr ?_
    refine s_as (v := .bool false) rfl ?_
    refine dn ?_
    refine wp_ret (blk_ret (then_ret (then_ret (blk_ret (then_ret ?_)))))
    refine ret1 (fn := Tryz.f156) rfl ?_ ⟨false, rfl, h, hC.below⟩ (.inl rfl)
    exact res_tmp rfl
   ·replace h := iff_ h (cf hb40)
    refine wp_skip ?_
    refine blk_norm ?_
    refine then_norm ?_
    refine cw_region ?_
    refine s_add (sx hS_ 3 rfl) rfl ?_
    refine s_mv (v := .int .i64 (IntKind.i64.wrap ((i21 : Int) + 1))) rfl ?_
    refine done ?_
    exact hK25 () _ _ ⟨(sk (sx hS_ 0 rfl) (sk (sx hS_ 1 rfl) (sk (sx hS_ 2 rfl) (sk (tr rfl (congrArg _ (wrap64_nat hi26 (by decide)))) sn)))), hC⟩ h
 ·clear hC h
  rintro s22 e_ w41 K24 ⟨hS_, hC⟩ h
  refine sr ?_
  refine s_lss (sx hS_ 3 rfl) rfl ?_
  refine dn ?_
  refine wp_seq ?_
  refine cw_false rfl (decide_eq_false (by omega)) ?_
  refine wp_exit (then_exit (then_exit (exit_in ?_)))
  refine then_norm ?_
  refine sr ?_
  refine s_as (v := .bool true) rfl ?_
  refine dn ?_
  refine wp_ret ?_
  refine ret1 (fn := Tryz.f156) rfl ?_ ⟨true, rfl, h, hC.below⟩ (.inl rfl)
  exact res_tmp rfl
 ·skip
  replace hC := hC.sM [] (M' := []) (by decide) rfl
  exact ⟨(sk rfl (sk rfl (sk rfl (sk rfl sn)))), hC⟩
def f_impl_isFactor (a0 : Int) (K : Bool → Prop) : Prop :=
 f_impl_within a0 1 10006 (fun r4 => K r4)
theorem c_impl_isFactor (a0 : Int)  {K : Bool → Prop} (h : f_impl_isFactor a0 K) (w0 : World)  :
  Calls Tryz.prog 157 #[.int .i64 a0] w0 fun e w' => ∃ (r0 : Bool), 
   e = .returned (.bool r0) ∧ K r0 ∧ Bel w0 w' := by
 unfold f_impl_isFactor at h
 refine calls_of (args := [.int .i64 a0]) Tryz.func157 rfl 5 Tryz.ntmps157 (Nat.le_of_ble_eq_true rfl) ?_
 have hC := Ctx.start (X := Nox) w0 [] (by simp)
 refine sr ?_
 refine s_as (v := .bool false) rfl ?_
 refine dn ?_
 refine sr ?_
 refine s_mv (v := .int .i64 a0) rfl ?_
 refine s_call [.int .i64 a0, .int .i64 1, .int .i64 10006] _ Tryz.func46 rfl rfl rfl (c_impl_within a0 1 10006 h _) (fun ret1 w3 hR2 => ?_)
 obtain ⟨r4, rfl, h, hB5⟩ := hR2
 refine ⟨_, rfl, ?_⟩
 replace hC := hC.grow hB5
 refine s_as (v := .bool r4) rfl ?_
 refine dn ?_
 refine wp_ret ?_
 refine ret1 (fn := Tryz.f157) rfl ?_ ⟨r4, rfl, h, hC.below⟩ (.inl rfl)
 exact res_tmp rfl
def f_impl_isForm (a0 : List Int) (a1 : Vc.Form) (K : Bool → Prop) : Prop :=
 (if (a1.terms.length : Int) > 400 then K false else forN (fun i62 (s63 : Unit) next65 => f_impl_isMonomial a0 ((a1.terms.getD i62 default).mono) (fun r80 => (if ¬ (r80 = true) then K false else f_impl_isFactor ((a1.terms.getD i62 default).factor) (fun r86 => (if ¬ (r86 = true) then K false else (if (i62 : Int) > 0 then ((0 ≤ IntKind.i64.wrap ((i62 : Int) - 1) ∧ IntKind.i64.wrap ((i62 : Int) - 1) < (a1.terms.length : Int)) ∧ f_impl_powerOf ((a1.terms.getD ((IntKind.i64.wrap ((i62 : Int) - 1)).toNat) default).mono) (fun r101 => f_impl_powerOf ((a1.terms.getD i62 default).mono) (fun r106 => f_impl_power_compare r101 r106 (fun r111 => (if r111 ≥ 0 then K false else next65 ()))))) else next65 ())))))) (fun (s63 : Unit) => K true) a1.terms.length 0 ())
theorem c_impl_isForm (a0 : List Int) (a1 : Vc.Form) {u0_0 : Value} {u1_0 : Value} {fp0 : List Nat} {fp1 : List Nat} {K : Bool → Prop} (h : f_impl_isForm a0 a1 K) (w0 : World) (q0 : ((EI .i64).ty.sl).rep a0 [u0_0] fp0 w0) (q1 : TForm.rep a1 [u1_0] fp1 w0) :
  Calls Tryz.prog 99 #[u0_0, .agg #[u1_0]] w0 fun e w' => ∃ (r0 : Bool), 
   e = .returned (.bool r0) ∧ K r0 ∧ Bel w0 w' := by
 unfold f_impl_isForm at h
 refine calls_of (args := [u0_0, .agg #[u1_0]]) Tryz.func99 rfl 48 Tryz.ntmps99 (Nat.le_of_ble_eq_true rfl) ?_
 have hC := Ctx.start (X := Nox) w0 [Ty.item ((EI .i64).ty.sl) a0 [u0_0] fp0, Ty.item TForm a1 [u1_0] fp1] (by simp only [List.mem_cons, List.not_mem_nil, or_false, forall_eq_or_imp, forall_eq]; exact ⟨q0, q1⟩)
 have hp3 := (hC.getP 1 rfl)
 replace hC := hC.derive 1 rfl (Ty.item ETerm.ty.sl a1.terms [u1_0] fp1) (fun _ => (form_parts hp3)) (fun _ hb_ => hb_)
 refine sr ?_
 refine s_box (v := .agg #[u1_0]) hC [u1_0] rfl rfl fun b5 w7 hB_ hC => ?_
 refine s_as (v := .bool false) rfl ?_
 refine dn ?_
 refine wp_seq ?_
 refine sr ?_
 refine s_faddrB 0 Tryz.underlying55 rfl sc53.size rfl rfl ?_
 refine s_loadS hC 0 (u1_0) rfl sc53 rfl rfl ?_
 obtain ⟨Ad8, c9, hv10⟩ := sl_len (hC.getP 0 rfl)
 refine s_len Tryz.underlying53 (tr rfl hv10) ?_
 refine s_gtr rfl rfl ?_
 refine dn ?_
 refine cw_cond rfl (fun hb11 => ?_) (fun hb11 => ?_)
 ·replace h := ift h (ct hb11)
  refine sr ?_
  refine s_as (v := .bool false) rfl ?_
  refine dn ?_
  refine wp_ret (then_ret ?_)
  refine ret1 (fn := Tryz.f99) rfl ?_ ⟨false, rfl, h, hC.below⟩ (.inl rfl)
  exact res_tmp rfl
 ·replace h := iff_ h (cf hb11)
  refine wp_skip ?_
  refine then_norm ?_
  refine wp_seq ?_
  refine sr ?_
  refine s_faddrB 0 Tryz.underlying55 rfl sc53.size rfl rfl ?_
  refine s_loadS hC 0 (u1_0) rfl sc53 rfl rfl ?_
  obtain ⟨Ad12, c13, hv14⟩ := sl_len (hC.getP 0 rfl)
  refine s_len Tryz.underlying53 (tr rfl hv14) ?_
  refine s_mv (v := .int .i64 0) rfl ?_
  refine dn ?_
  refine wp_block ?_
  have hN64 : a1.terms.length ≤ 9223372036854775807 := sl_max (hC.getP 0 rfl)
  refine loopN (S := Unit) _ _ (fun i62 s63 e_ w_ => Slots e_ [(0, u0_0), (3, .pointer (some ⟨b5, 0, none⟩)), (4, .bool false), (12, u1_0), (13, .int .i64 (a1.terms.length : Int)), (14, .int .i64 (i62 : Int))] ∧ Ctx Nox w0 w_ [blk b5 55 [u1_0]] [Ty.item ETerm.ty.sl a1.terms [u1_0] fp1, Ty.item ((EI .i64).ty.sl) a0 [u0_0] fp0, Ty.item TForm a1 [u1_0] fp1]) a1.terms.length ?_ ?_ (s0 := ()) ?_ h
  ·clear hC h
   rintro i62 s63 e_ w69 next65 K66 hi68 ⟨hS_, hC⟩ h hK67
   refine sr ?_
   refine s_lss (sx hS_ 5 rfl) (sx hS_ 4 rfl) ?_
   refine dn ?_
   refine wp_seq ?_
   refine cw_true rfl (decide_eq_true (by omega)) ?_
   refine wp_skip ?_
   refine then_norm ?_
   refine wp_seq ?_
   refine wp_block ?_
   refine sr ?_
   refine s_mv (v := .int .i64 (i62 : Int)) (sx hS_ 5 rfl) ?_
   obtain ⟨Ad70, c71, hv72⟩ := sl_form (hC.getP 0 rfl) i62 hi68
   refine s_iaddrS (len := a1.terms.length) Tryz.underlying53 ag162.size (tr (sx hS_ 3 rfl) hv72) (sx hS_ 5 rfl) (Int.natCast_nonneg _) (Int.ofNat_lt.2 hi68) ?_
   refine s_loadCA (Term.enc (a1.terms.getD i62 default)) (sl_cellsE (hC.getP 0 rfl) hv72 i62 hi68) ag162 rfl rfl ?_
   refine s_alloc hC (Term.enc (⟨A8.zero, 0⟩ : Term)) z162 rfl fun b73 w75 hB_ hC => ?_
   refine s_as (v := .int .i64 (i62 : Int)) rfl ?_
   refine s_store (v := .agg (List.toArray (Term.enc (a1.terms.getD i62 default)))) hC 0 (Term.enc (a1.terms.getD i62 default)) (Term.enc (a1.terms.getD i62 default)) rfl ag162.size rfl rfl rfl rfl rfl (Nat.le_of_ble_eq_true rfl) rfl fun w76 hC => ?_
   refine dn ?_
   refine wp_seq ?_
   refine sr ?_
   refine s_mv (v := u0_0) (sx hS_ 0 rfl) ?_
   refine s_faddrB 0 Tryz.underlying162 rfl ag136.size rfl rfl ?_
   refine s_loadA hC 0 (A8.enc .u8 ((a1.terms.getD i62 default).mono)) rfl ag136 rfl rfl rfl ?_
   refine s_call [u0_0, .agg (List.toArray (A8.enc .u8 ((a1.terms.getD i62 default).mono)))] _ Tryz.func156 rfl rfl rfl (c_impl_isMonomial a0 ((a1.terms.getD i62 default).mono) h _ (hC.getP 1 rfl)) (fun ret77 w79 hR78 => ?_)
   obtain ⟨r80, rfl, h, hB81⟩ := hR78
   refine ⟨_, rfl, ?_⟩
   replace hC := hC.grow hB81
   refine s_not rfl ?_
   refine s_mv (v := .bool (!r80)) rfl ?_
   refine bsplit (!r80) (fun hb82 => ?_) (fun hb82 => ?_)
   ·replace h := ift h (ne_t (not_t hb82))
    refine guardOff (b := true) 5 24 rfl (tr rfl (congrArg _ hb82)) (by decide) ?_
    refine guardOff (b := true) 5 24 rfl (tr rfl (congrArg _ hb82)) (by decide) ?_
    refine guardOff (b := true) 5 24 rfl (tr rfl (congrArg _ hb82)) (by decide) ?_
    refine guardOff (b := true) 5 24 rfl (tr rfl (congrArg _ hb82)) (by decide) ?_
    refine s_pick (v := .bool true) (b := true) (tr rfl (congrArg _ hb82)) rfl ?_
    refine dn ?_
    refine cw_true rfl rfl ?_
    refine sr ?_
    refine s_as (v := .bool false) rfl ?_
    refine dn ?_
    refine wp_ret (then_ret (blk_ret (then_ret (then_ret (blk_ret (then_ret ?_))))))
    refine ret1 (fn := Tryz.f99) rfl ?_ ⟨false, rfl, h, hC.below⟩ (.inl rfl)
    exact res_tmp rfl
   ·replace h := iff_ h (not_not_intro ((not_f hb82)))
    refine guardOn 5 24 rfl rfl hb82 ?_
    refine s_faddrB 8 Tryz.underlying162 rfl sc2.size rfl rfl ?_
    refine guardOn 5 24 rfl rfl hb82 ?_
    refine s_loadS hC 0 (.int .i64 ((a1.terms.getD i62 default).factor)) rfl sc2 rfl rfl ?_
    refine guardOn 5 24 rfl rfl hb82 ?_
    refine s_call [.int .i64 ((a1.terms.getD i62 default).factor)] _ Tryz.func157 rfl rfl rfl (c_impl_isFactor ((a1.terms.getD i62 default).factor) h _) (fun ret83 w85 hR84 => ?_)
    obtain ⟨r86, rfl, h, hB87⟩ := hR84
    refine ⟨_, rfl, ?_⟩
    replace hC := hC.grow hB87
    refine guardOn 5 24 rfl rfl hb82 ?_
    refine s_not rfl ?_
    refine s_pick (v := .bool (!r86)) (b := false) (tr rfl (congrArg _ hb82)) rfl ?_
    refine dn ?_
    refine cw_cond rfl (fun hb88 => ?_) (fun hb88 => ?_)
    ·replace h := ift h (ne_t (not_t hb88))
     refine sr ?_
     refine s_as (v := .bool false) rfl ?_
     refine dn ?_
     refine wp_ret (then_ret (blk_ret (then_ret (then_ret (blk_ret (then_ret ?_))))))
     refine ret1 (fn := Tryz.f99) rfl ?_ ⟨false, rfl, h, hC.below⟩ (.inl rfl)
     exact res_tmp rfl
    ·replace h := iff_ h (not_not_intro ((not_f hb88)))
     refine wp_skip ?_
     refine then_norm ?_
     refine wp_seq ?_
     refine cw_draw 13 mixed [0, 1, 3, 7, 15, 7, 39, 127, 255, 511, 1023, 7, 2055, 8191, 16383, 32767, 65535] [4, 7, 9, 12] [0, 1, 2, 3, 4, 5, 6, 7, 8, 9, 10, 11, 12] (by kernel_rfl) (by kernel_rfl) (by kernel_rfl) (fun hM90 hM91 w89 hB_ => ?_)
     replace hC := hC.grow hB_
     refine aF 0 (.int .i64 (i62 : Int)) rfl rfl (hM91 0 rfl) (rfl) (fun _ => by exact r_mv (v := .int .i64 (i62 : Int)) rfl) (dbits 17 1) ?_
     refine aF 1 (.bool (decide ((i62 : Int) > 0))) rfl rfl (hM91 1 rfl) (rfl) (fun _ => by exact r_gtr rfl rfl) (dbits 17 3) ?_
     refine aF 2 (.bool (decide ((i62 : Int) > 0))) rfl rfl (hM91 2 rfl) (rfl) (fun _ => by exact r_mv (v := .bool (decide ((i62 : Int) > 0))) rfl) (dbits 17 7) ?_
     refine bsplit (decide ((i62 : Int) > 0)) (fun hb92 => ?_) (fun hb92 => ?_)
     ·replace h := ift h (ct hb92)
      refine aF 3 (.pointer (some ⟨b5, 0, none⟩)) rfl rfl (hM91 3 rfl) (wanted_on 2 32 rfl rfl hb92) (fun _ => by exact r_faddrB 0 Tryz.underlying55 rfl sc53.size (sx hS_ 1 rfl) rfl) (dbits 17 15) ?_
      refine aL 4 (u1_0) rfl rfl (hM90 4 rfl) (wanted_on 2 32 rfl rfl hb92) (fun _ hB_ => by exact r_loadS (hC.grow hB_) 1 (u1_0) rfl sc53 rfl rfl) (dbits 17 31) ?_
      refine aF 5 (.int .i64 (i62 : Int)) rfl rfl (hM91 5 rfl) (wanted_on 2 32 rfl rfl hb92) (fun _ => by exact r_mv (v := .int .i64 (i62 : Int)) rfl) (dbits 17 63) ?_
      refine aF 6 (.int .i64 (IntKind.i64.wrap ((i62 : Int) - 1))) rfl rfl (hM91 6 rfl) (wanted_on 2 32 rfl rfl hb92) (fun _ => by exact r_sub rfl rfl) (dbits 17 127) ?_
      obtain ⟨⟨h0_93, h1_94⟩, h⟩ := h
      obtain ⟨Ad95, c96, hv97⟩ := sl_form (hC.getP 0 rfl) ((IntKind.i64.wrap ((i62 : Int) - 1)).toNat) (show (IntKind.i64.wrap ((i62 : Int) - 1)).toNat < a1.terms.length by omega)
      refine aL 7 (.pointer (some (Ad95.add ((IntKind.i64.wrap ((i62 : Int) - 1)).toNat * 9)))) rfl rfl (hM90 7 rfl) (wanted_on 2 32 rfl rfl hb92) (fun _ hB_ => by exact r_iaddrS (len := a1.terms.length) Tryz.underlying53 ag162.size (by exact tr rfl hv97) rfl h0_93 h1_94) (dbits 17 255) ?_
      refine aF 8 (.pointer (some (Ad95.add ((IntKind.i64.wrap ((i62 : Int) - 1)).toNat * 9 + 0)))) rfl rfl (hM91 8 rfl) (wanted_on 2 32 rfl rfl hb92) (fun _ => by exact r_faddrS ((IntKind.i64.wrap ((i62 : Int) - 1)).toNat * 9 + 0) Tryz.underlying162 rfl ag136.size rfl rfl) (dbits 17 511) ?_
      refine aL 9 (.agg (List.toArray (A8.enc .u8 ((a1.terms.getD ((IntKind.i64.wrap ((i62 : Int) - 1)).toNat) default).mono)))) rfl rfl (hM90 9 rfl) (wanted_on 2 32 rfl rfl hb92) (fun _ hB_ => by exact r_loadCA (A8.enc .u8 ((a1.terms.getD ((IntKind.i64.wrap ((i62 : Int) - 1)).toNat) default).mono)) (cells_subS (o := 0) (k := 8) (sl_cellsE ((hC.grow hB_).getP 0 rfl) hv97 ((IntKind.i64.wrap ((i62 : Int) - 1)).toNat) (show (IntKind.i64.wrap ((i62 : Int) - 1)).toNat < a1.terms.length by omega)) rfl) ag136 rfl rfl) (dbits 17 1023) ?_
      refine aF 11 (.pointer (some ⟨b73, 0, none⟩)) rfl rfl (hM91 11 rfl) (wanted_on 2 32 rfl rfl hb92) (fun _ => by exact r_faddrB 0 Tryz.underlying162 rfl ag136.size rfl rfl) (dbits 17 3071) ?_
      refine aL 12 (.agg (List.toArray (A8.enc .u8 ((a1.terms.getD i62 default).mono)))) rfl rfl (hM90 12 rfl) (wanted_on 2 32 rfl rfl hb92) (fun _ hB_ => by exact r_loadA (hC.grow hB_) 0 (A8.enc .u8 ((a1.terms.getD i62 default).mono)) rfl ag136 rfl rfl rfl) (dbits 17 7167) ?_
      refine aO 10 rfl ?_
      refine guardOn 2 32 rfl rfl hb92 ?_
      refine s_call [.agg (List.toArray (A8.enc .u8 ((a1.terms.getD ((IntKind.i64.wrap ((i62 : Int) - 1)).toNat) default).mono)))] _ Tryz.func134 rfl rfl rfl (c_impl_powerOf ((a1.terms.getD ((IntKind.i64.wrap ((i62 : Int) - 1)).toNat) default).mono) h _) (fun ret98 w100 hR99 => ?_)
      obtain ⟨r101, rfl, h, hB102⟩ := hR99
      refine ⟨_, rfl, ?_⟩
      replace hC := hC.grow hB102
      refine done ?_
      refine aK (by assumption) (dbits 17 8191) ?_
      refine ae_tail 13 (by decide) (by decide) (by kernel_rfl) (by kernel_rfl) rfl ?_
      refine guardOn 2 32 rfl rfl hb92 ?_
      refine s_call [.agg (List.toArray (A8.enc .u8 ((a1.terms.getD i62 default).mono)))] _ Tryz.func134 rfl rfl rfl (c_impl_powerOf ((a1.terms.getD i62 default).mono) h _) (fun ret103 w105 hR104 => ?_)
      obtain ⟨r106, rfl, h, hB107⟩ := hR104
      refine ⟨_, rfl, ?_⟩
      replace hC := hC.grow hB107
      refine guardOn 2 32 rfl rfl hb92 ?_
      refine s_call [.agg (List.toArray (A8.enc .i64 r101)), .agg (List.toArray (A8.enc .i64 r106))] _ Tryz.func158 rfl rfl rfl (c_impl_power_compare r101 r106 h _) (fun ret108 w110 hR109 => ?_)
      obtain ⟨r111, rfl, h, hB112⟩ := hR109
      refine ⟨_, rfl, ?_⟩
      replace hC := hC.grow hB112
      refine guardOn 2 32 rfl rfl hb92 ?_
      refine s_geq rfl rfl ?_
      refine s_pick (v := .bool (decide (r111 ≥ 0))) (b := true) (tr rfl (congrArg _ hb92)) rfl ?_
      refine done ?_
      refine qn_norm ?_
      refine then_norm ?_
      refine cw_cond rfl (fun hb113 => ?_) (fun hb113 => ?_)
      ·replace h := ift h (ct hb113)
       refine sr ?_
       refine s_as (v := .bool false) rfl ?_
       refine dn ?_
       refine wp_ret (blk_ret (then_ret (then_ret (blk_ret (then_ret ?_)))))
       refine ret1 (fn := Tryz.f99) rfl ?_ ⟨false, rfl, h, hC.below⟩ (.inl rfl)
       exact res_tmp rfl
      ·replace h := iff_ h (cf hb113)
       refine wp_skip ?_
       refine blk_norm ?_
       refine then_norm ?_
       refine cw_region ?_
       refine s_add (sx hS_ 5 rfl) rfl ?_
       refine s_mv (v := .int .i64 (IntKind.i64.wrap ((i62 : Int) + 1))) rfl ?_
       refine done ?_
       replace hC := hC.sM [1] (M' := [blk b5 55 [u1_0]]) (by decide) rfl
       exact hK67 () _ _ ⟨(sk (sx hS_ 0 rfl) (sk (sx hS_ 1 rfl) (sk (sx hS_ 2 rfl) (sk (sx hS_ 3 rfl) (sk (sx hS_ 4 rfl) (sk (tr rfl (congrArg _ (wrap64_nat hi68 hN64))) sn)))))), hC⟩ h
     ·replace h := iff_ h (cf hb92)
      refine ae_lookF belPre 3 undef rfl rfl (by kernel_rfl) (hM91 3 rfl) (fun w_ => .inr ⟨wanted_off (b := false) 2 32 rfl (tr rfl (congrArg _ hb92)) (by decide), rfl⟩) (l9 := (dbits 17 15)) (by kernel_rfl) ?_
      refine ae_lookF belPre 4 undef rfl rfl (by kernel_rfl) (hM91 4 rfl) (fun w_ => .inr ⟨wanted_off (b := false) 2 32 rfl (tr rfl (congrArg _ hb92)) (by decide), rfl⟩) (l9 := (dbits 17 31)) (by kernel_rfl) ?_
      refine ae_lookF belPre 5 undef rfl rfl (by kernel_rfl) (hM91 5 rfl) (fun w_ => .inr ⟨wanted_off (b := false) 2 32 rfl (tr rfl (congrArg _ hb92)) (by decide), rfl⟩) (l9 := (dbits 17 63)) (by kernel_rfl) ?_
      refine ae_lookF belPre 6 undef rfl rfl (by kernel_rfl) (hM91 6 rfl) (fun w_ => .inr ⟨wanted_off (b := false) 2 32 rfl (tr rfl (congrArg _ hb92)) (by decide), rfl⟩) (l9 := (dbits 17 127)) (by kernel_rfl) ?_
      refine ae_lookF belPre 7 undef rfl rfl (by kernel_rfl) (hM91 7 rfl) (fun w_ => .inr ⟨wanted_off (b := false) 2 32 rfl (tr rfl (congrArg _ hb92)) (by decide), rfl⟩) (l9 := (dbits 17 255)) (by kernel_rfl) ?_
      refine ae_lookF belPre 8 undef rfl rfl (by kernel_rfl) (hM91 8 rfl) (fun w_ => .inr ⟨wanted_off (b := false) 2 32 rfl (tr rfl (congrArg _ hb92)) (by decide), rfl⟩) (l9 := (dbits 17 511)) (by kernel_rfl) ?_
      refine ae_lookF belPre 9 undef rfl rfl (by kernel_rfl) (hM91 9 rfl) (fun w_ => .inr ⟨wanted_off (b := false) 2 32 rfl (tr rfl (congrArg _ hb92)) (by decide), rfl⟩) (l9 := (dbits 17 1023)) (by kernel_rfl) ?_
      refine ae_lookF belPre 10 undef rfl rfl (by kernel_rfl) (hM91 10 rfl) (fun w_ => .inr ⟨wanted_off (b := false) 2 32 rfl (tr rfl (congrArg _ hb92)) (by decide), rfl⟩) (l9 := (dbits 17 2047)) (by kernel_rfl) ?_
      refine ae_lookF belPre 11 undef rfl rfl (by kernel_rfl) (hM91 11 rfl) (fun w_ => .inr ⟨wanted_off (b := false) 2 32 rfl (tr rfl (congrArg _ hb92)) (by decide), rfl⟩) (l9 := (dbits 17 4095)) (by kernel_rfl) ?_
      refine ae_lookF belPre 12 undef rfl rfl (by kernel_rfl) (hM91 12 rfl) (fun w_ => .inr ⟨wanted_off (b := false) 2 32 rfl (tr rfl (congrArg _ hb92)) (by decide), rfl⟩) (l9 := (dbits 17 8191)) (by kernel_rfl) ?_
      refine ae_tail 13 (by decide) (by decide) (by kernel_rfl) (by kernel_rfl) rfl ?_
      refine guardOff (b := false) 2 32 rfl (tr rfl (congrArg _ hb92)) (by decide) ?_
      refine guardOff (b := false) 2 32 rfl (tr rfl (congrArg _ hb92)) (by decide) ?_
      refine guardOff (b := false) 2 32 rfl (tr rfl (congrArg _ hb92)) (by decide) ?_
      refine s_pick (v := .bool false) (b := false) (tr rfl (congrArg _ hb92)) rfl ?_
      refine done ?_
      refine qn_norm ?_
      refine then_norm ?_
      refine cw_false rfl rfl ?_
      refine wp_skip ?_
      refine blk_norm ?_
      refine then_norm ?_
      refine cw_region ?_
      refine s_add (sx hS_ 5 rfl) rfl ?_
      refine s_mv (v := .int .i64 (IntKind.i64.wrap ((i62 : Int) + 1))) rfl ?_
      refine done ?_
      replace hC := hC.sM [1] (M' := [blk b5 55 [u1_0]]) (by decide) rfl
      exact hK67 () _ _ ⟨(sk (sx hS_ 0 rfl) (sk (sx hS_ 1 rfl) (sk (sx hS_ 2 rfl) (sk (sx hS_ 3 rfl) (sk (sx hS_ 4 rfl) (sk (tr rfl (congrArg _ (wrap64_nat hi68 hN64))) sn)))))), hC⟩ h
  ·clear hC h
   rintro s63 e_ w114 K66 ⟨hS_, hC⟩ h
   refine sr ?_
   refine s_lss (sx hS_ 5 rfl) (sx hS_ 4 rfl) ?_
   refine dn ?_
   refine wp_seq ?_
   refine cw_false rfl (decide_eq_false (by omega)) ?_
   refine wp_exit (then_exit (then_exit (exit_in ?_)))
   refine then_norm ?_
   refine sr ?_
   refine s_as (v := .bool true) rfl ?_
   refine dn ?_
   refine wp_ret ?_
   refine ret1 (fn := Tryz.f99) rfl ?_ ⟨true, rfl, h, hC.below⟩ (.inl rfl)
   exact res_tmp rfl
  ·skip
   exact ⟨(sk rfl (sk rfl (sk rfl (sk rfl (sk rfl (sk rfl sn)))))), hC⟩
def f_impl_power_degree (a0 : A8) (a1 : List Int) (K : Int → Prop) : Prop :=
 forN (fun i24 (s25 : Int) next27 => ((0 ≤ (i24 : Int) ∧ (i24 : Int) < 8) ∧ next27 (IntKind.i64.wrap (s25 + (IntKind.i64.wrap ((a1.getD i24 default) * (a0.get i24))))))) (fun (s25 : Int) => K s25) a1.length 0 0
theorem c_impl_power_degree (a0 : A8) (a1 : List Int) {u1_0 : Value} {fp1 : List Nat} {K : Int → Prop} (h : f_impl_power_degree a0 a1 K) (w0 : World) (q1 : ((EI .i64).ty.sl).rep a1 [u1_0] fp1 w0) :
  Calls Tryz.prog 183 #[.agg (List.toArray (A8.enc .i64 a0)), u1_0] w0 fun e w' => ∃ (r0 : Int), 
   e = .returned (.int .i64 r0) ∧ K r0 ∧ Bel w0 w' := by
 unfold f_impl_power_degree at h
 refine calls_of (args := [.agg (List.toArray (A8.enc .i64 a0)), u1_0]) Tryz.func183 rfl 24 Tryz.ntmps183 (Nat.le_of_ble_eq_true rfl) ?_
 have hC := Ctx.start (X := Nox) w0 [Ty.item ((EI .i64).ty.sl) a1 [u1_0] fp1] (by simp only [List.mem_cons, List.not_mem_nil, or_false, forall_eq_or_imp, forall_eq]; exact q1)
 refine sr ?_
 refine s_box (v := .agg (List.toArray (A8.enc .i64 a0))) hC (A8.enc .i64 a0) rfl rfl fun b2 w4 hB_ hC => ?_
 refine s_as (v := .int .i64 0) rfl ?_
 refine dn ?_
 refine sr ?_
 refine s_as (v := .int .i64 0) rfl ?_
 refine dn ?_
 refine wp_seq ?_
 refine sr ?_
 refine s_mv (v := u1_0) rfl ?_
 obtain ⟨Ad5, c6, hv7⟩ := sl_len (hC.getP 0 rfl)
 refine s_len Tryz.underlying22 (tr rfl hv7) ?_
 refine s_mv (v := .int .i64 0) rfl ?_
 refine dn ?_
 refine wp_block ?_
 have hN26 : a1.length ≤ 9223372036854775807 := sl_max (hC.getP 0 rfl)
 refine loopN (S := Int) _ _ (fun i24 s25 e_ w_ => Slots e_ [(2, .pointer (some ⟨b2, 0, none⟩)), (4, .int .i64 0), (5, .int .i64 s25), (8, u1_0), (9, .int .i64 (a1.length : Int)), (10, .int .i64 (i24 : Int))] ∧ Ctx Nox w0 w_ [blk b2 73 (A8.enc .i64 a0)] [Ty.item ((EI .i64).ty.sl) a1 [u1_0] fp1]) a1.length ?_ ?_ (s0 := 0) ?_ h
 ·clear hC h
  rintro i24 s25 e_ w31 next27 K28 hi30 ⟨hS_, hC⟩ h hK29
  refine sr ?_
  refine s_lss (sx hS_ 5 rfl) (sx hS_ 4 rfl) ?_
  refine dn ?_
  refine wp_seq ?_
  refine cw_true rfl (decide_eq_true (by omega)) ?_
  refine wp_skip ?_
  refine then_norm ?_
  refine wp_seq ?_
  refine wp_block ?_
  refine sr ?_
  refine s_mv (v := .int .i64 (i24 : Int)) (sx hS_ 5 rfl) ?_
  obtain ⟨Ad32, c33, hv34⟩ := sl_form (hC.getP 0 rfl) i24 hi30
  refine s_iaddrS (len := a1.length) Tryz.underlying22 sc2.size (tr (sx hS_ 3 rfl) hv34) (sx hS_ 5 rfl) (Int.natCast_nonneg _) (Int.ofNat_lt.2 hi30) ?_
  refine s_loadCS (.int .i64 (a1.getD i24 default)) (sl_cellsE (hC.getP 0 rfl) hv34 i24 hi30) sc2 rfl ?_
  refine s_as (v := .int .i64 (i24 : Int)) rfl ?_
  refine s_as (v := .int .i64 (a1.getD i24 default)) rfl ?_
  refine dn ?_
  refine cw_region ?_
  refine s_mv (v := .int .i64 s25) (sx hS_ 2 rfl) ?_
  refine s_mv (v := .int .i64 (a1.getD i24 default)) rfl ?_
  refine s_mv (v := .int .i64 (i24 : Int)) rfl ?_
  obtain ⟨⟨h0_35, h1_36⟩, h⟩ := h
  refine s_iaddrB i24 Tryz.underlying73 sc3.size (sx hS_ 0 rfl) rfl h0_35 h1_36 (by omega) ?_
  refine s_loadS hC 0 (.int .i64 (a0.get i24)) rfl sc3 rfl (A8.enc_get _ _ (show i24 < 8 by omega)) ?_
  refine s_mul rfl rfl ?_
  refine s_add rfl rfl ?_
  refine s_as (v := .int .i64 (IntKind.i64.wrap (s25 + (IntKind.i64.wrap ((a1.getD i24 default) * (a0.get i24)))))) rfl ?_
  refine done ?_
  refine blk_norm ?_
  refine then_norm ?_
  refine cw_region ?_
  refine s_add (sx hS_ 5 rfl) rfl ?_
  refine s_mv (v := .int .i64 (IntKind.i64.wrap ((i24 : Int) + 1))) rfl ?_
  refine done ?_
  exact hK29 (IntKind.i64.wrap (s25 + (IntKind.i64.wrap ((a1.getD i24 default) * (a0.get i24))))) _ _ ⟨(sk (sx hS_ 0 rfl) (sk (sx hS_ 1 rfl) (sk rfl (sk (sx hS_ 3 rfl) (sk (sx hS_ 4 rfl) (sk (tr rfl (congrArg _ (wrap64_nat hi30 hN26))) sn)))))), hC⟩ h
 ·clear hC h
  rintro s25 e_ w37 K28 ⟨hS_, hC⟩ h
  refine sr ?_
  refine s_lss (sx hS_ 5 rfl) (sx hS_ 4 rfl) ?_
  refine dn ?_
  refine wp_seq ?_
  refine cw_false rfl (decide_eq_false (by omega)) ?_
  refine wp_exit (then_exit (then_exit (exit_in ?_)))
  refine then_norm ?_
  refine sr ?_
  refine s_mv (v := .int .i64 s25) (sx hS_ 2 rfl) ?_
  refine s_as (v := .int .i64 s25) rfl ?_
  refine dn ?_
  refine wp_ret ?_
  refine ret1 (fn := Tryz.f183) rfl ?_ ⟨s25, rfl, h, hC.below⟩ (.inl rfl)
  exact res_tmp rfl
 ·skip
  exact ⟨(sk rfl (sk rfl (sk rfl (sk rfl (sk rfl (sk rfl sn)))))), hC⟩
end Go.Proofs.YtaagfepgbofmlaaGreat
