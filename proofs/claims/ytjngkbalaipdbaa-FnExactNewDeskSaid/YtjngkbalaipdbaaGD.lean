/- Printed by vcgen.py: functions of the program as predicates, and that the machine's calls meet them. -/
import Derived.Test.YtjngkbalaipdbaaGA
import Derived.KernelRfl
set_option linter.unusedVariables false
set_option linter.unusedSimpArgs false
set_option maxRecDepth 4000
set_option maxHeartbeats 4000000
namespace Go.Proofs.Ytjngkbalaipdbaa
open Go Go.RowKit Vc
theorem bl34_0sl (x0 : Value) (hx0 : IsSl x0) (w : World) : (Instr.build 34 #[(0, x0)]).run Try.prog w = .ok (.agg #[x0, .slice none 0 0]) w := by obtain ⟨_, _, _, rfl⟩ := hx0; kernel_rfl
theorem bsr32_1_s (x0 : Value) (hx0 : IsSl x0) (w : World) : (Instr.buildSlice 32 1 #[(0, .agg #[x0])]).run Try.prog w = .ok (.slice (some ⟨w.heap.size, 0, none⟩) 1 1) (w.alloc (.cells (List.toArray [x0]) 51)) := by obtain ⟨_, _, _, rfl⟩ := hx0; kernel_rfl
theorem z53 : ZeroT Try.prog 53 (.agg #[.slice none 0 0, .slice none 0 0, .slice none 0 0, .slice none 0 0, .slice none 0 0]) := by unfold ZeroT; kernel_rfl
theorem bl53_0st_1st (x0 : Value) (x1 : Value) (x2 : Value) (x3 : Value) (hx0 : IsSl x0) (hx1 : IsSl x1) (hx2 : IsSl x2) (hx3 : IsSl x3) (w : World) : (Instr.build 53 #[(0, .agg #[x0, x1]), (1, .agg #[x2, x3])]).run Try.prog w = .ok (.agg #[x0, x1, x2, x3, .slice none 0 0]) w := by obtain ⟨_, _, _, rfl⟩ := hx0; obtain ⟨_, _, _, rfl⟩ := hx1; obtain ⟨_, _, _, rfl⟩ := hx2; obtain ⟨_, _, _, rfl⟩ := hx3; kernel_rfl
theorem ag53 : AggT Try.prog 53 5 := ⟨⟨_, Try.underlying53, rfl⟩, by kernel_rfl⟩
def f_spec_l02Copy (a0 : Vc.Form) (a1 : Int) (K : Vc.Form → Prop) : Prop :=
 whileP (fun (s205 : (List Term) × Int) next208 => (if s205.2 < (a0.terms.length : Int) then whileP (fun (s272 : A8 × Int) next273 => (if IntKind.i64.wrap (s272.2 + a1) < 8 then ((0 ≤ s205.2 ∧ s205.2 < (a0.terms.length : Int)) ∧ ((0 ≤ s272.2 ∧ s272.2 < 8) ∧ ((0 ≤ IntKind.i64.wrap (s272.2 + a1) ∧ IntKind.i64.wrap (s272.2 + a1) < 8) ∧ next273 (s272.1.set ((IntKind.i64.wrap (s272.2 + a1)).toNat) (((a0.terms.getD s205.2.toNat default).mono).get s272.2.toNat), IntKind.i64.wrap (s272.2 + 1))))) else ((0 ≤ s205.2 ∧ s205.2 < (a0.terms.length : Int)) ∧ (Room (s205.1.length + 1) 16 ∧ next208 (s205.1 ++ [(⟨s272.1, (a0.terms.getD s205.2.toNat default).factor⟩ : Term)], IntKind.i64.wrap (s205.2 + 1)))))) (A8.zero, 0) else K (⟨s205.1⟩ : Vc.Form))) ([], 0)
theorem c_spec_l02Copy (a0 : Vc.Form) (a1 : Int) {u0_0 : Value} {fp0 : List Nat} {K : Vc.Form → Prop} (h : f_spec_l02Copy a0 a1 K) (w0 : World) (q0 : TForm.rep a0 [u0_0] fp0 w0) :
  Calls Try.prog 129 #[.agg #[u0_0], .int .i64 a1] w0 fun e w' => ∃ (r0 : Vc.Form) (z0_0 : Value) (fz0 : List Nat), 
   e = .returned (.agg #[z0_0]) ∧ K r0 ∧ (Tr.item (TrForm 93) r0 [z0_0] fz0).holds w' ∧ (∀ b, b ∈ fz0 → w0.heap.size ≤ b) ∧ Bel w0 w' := by
 unfold f_spec_l02Copy at h
 refine calls_of (args := [.agg #[u0_0], .int .i64 a1]) Try.func129 rfl 50 Try.ntmps129 (Nat.le_of_ble_eq_true rfl) ?_
 have hC := Ctx.start (X := Nox) w0 [Ty.item TForm a0 [u0_0] fp0] (by simp only [List.mem_cons, List.not_mem_nil, or_false, forall_eq_or_imp, forall_eq]; exact q0)
 have hp2 := (hC.getP 0 rfl)
 replace hC := hC.derive 0 rfl (Ty.item ETerm.ty.sl a0.terms [u0_0] fp0) (fun _ => (form_parts hp2)) (fun _ hb_ => hb_)
 refine sr ?_
 refine s_box (v := .agg #[u0_0]) hC [u0_0] rfl rfl fun b4 w6 hB_ hC => ?_
 refine s_alloc hC [.slice none 0 0] z51 rfl fun b7 w9 hB_ hC => ?_
 refine dn ?_
 refine sr ?_
 refine s_build [] rfl (bl51   _) ?_
 refine s_alloc hC [.slice none 0 0] z51 rfl fun b10 w12 hB_ hC => ?_
 refine s_store (v := .agg #[.slice none 0 0]) hC 0 [.slice none 0 0] [.slice none 0 0] rfl ag51.size rfl rfl rfl rfl rfl (Nat.le_of_ble_eq_true rfl) rfl fun w13 hC => ?_
 refine dn ?_
 refine wp_seq ?_
 refine sr ?_
 refine s_as (v := .int .i64 0) rfl ?_
 refine dn ?_
 refine wp_block ?_
 refine loopW (S := (List Term) × Int) _ (fun s205 e_ w_ => ∃ (v206 : Value), Slots e_ [(1, .int .i64 a1), (2, .pointer (some ⟨b4, 0, none⟩)), (4, .pointer (some ⟨b7, 0, none⟩)), (5, .pointer (some ⟨b10, 0, none⟩)), (6, .int .i64 s205.2)] ∧ Ctx Nox w0 w_ [own 93 9 v206 s205.1.length (ETerm.encs s205.1), blk b10 51 [v206], blk b7 51 [.slice none 0 0], blk b4 51 [u0_0]] [Ty.item ETerm.ty.sl a0.terms [u0_0] fp0, Ty.item TForm a0 [u0_0] fp0]) ?_ (s0 := ([], 0)) ?_ h
 ·clear hC h
  rintro s205 e_ w211 next208 K209 ⟨v206, hS_, hC⟩ h hK210
  refine wp_seq ?_
  refine sr ?_
  refine s_mv (v := .int .i64 s205.2) (sx hS_ 4 rfl) ?_
  refine s_faddrB 0 Try.underlying51 rfl sc49.size (sx hS_ 1 rfl) rfl ?_
  refine s_loadS hC 3 (u0_0) rfl sc49 rfl rfl ?_
  obtain ⟨Ad212, c213, hv214⟩ := sl_len (hC.getP 0 rfl)
  refine s_len Try.underlying49 (tr rfl hv214) ?_
  refine s_lss rfl rfl ?_
  refine dn ?_
  refine cw_cond rfl (fun hb215 => ?_) (fun hb215 => ?_)
  ·replace h := ift h (ct hb215)
   refine wp_skip ?_
   refine then_norm ?_
   refine wp_seq ?_
   refine wp_block ?_
   refine sr ?_
   refine s_build [] rfl (bl24   _) ?_
   refine s_alloc hC (A8.enc .u8 A8.zero) z24 rfl fun b216 w218 hB_ hC => ?_
   refine s_store (v := .agg (List.toArray (A8.enc .u8 A8.zero))) hC 0 (A8.enc .u8 A8.zero) (A8.enc .u8 A8.zero) rfl ag24.size rfl rfl rfl rfl rfl (Nat.le_of_ble_eq_true rfl) rfl fun w219 hC => ?_
   refine dn ?_
   refine wp_seq ?_
   refine sr ?_
   refine s_as (v := .int .i64 0) rfl ?_
   refine dn ?_
   refine wp_block ?_
   refine loopW (S := A8 × Int) _ (fun s272 e_ w_ => Slots e_ [(1, .int .i64 a1), (2, .pointer (some ⟨b4, 0, none⟩)), (4, .pointer (some ⟨b7, 0, none⟩)), (5, .pointer (some ⟨b10, 0, none⟩)), (6, .int .i64 s205.2), (7, .pointer (some ⟨b216, 0, none⟩)), (8, .int .i64 s272.2), (10, .int .i64 s205.2), (11, .pointer (some ⟨b4, 0, none⟩)), (12, u0_0), (13, .int .i64 (a0.terms.length : Int)), (14, .bool (decide (s205.2 < (a0.terms.length : Int)))), (17, .agg (List.toArray (A8.enc .u8 A8.zero)))] ∧ Ctx Nox w0 w_ [blk b216 24 (A8.enc .u8 s272.1), own 93 9 v206 s205.1.length (ETerm.encs s205.1), blk b10 51 [v206], blk b7 51 [.slice none 0 0], blk b4 51 [u0_0]] [Ty.item ETerm.ty.sl a0.terms [u0_0] fp0, Ty.item TForm a0 [u0_0] fp0]) ?_ (s0 := (A8.zero, 0)) ?_ h
   ·clear hC h
    rintro s272 e_ w276 next273 K274 ⟨hS_, hC⟩ h hK275
    refine wp_seq ?_
    refine sr ?_
    refine s_mv (v := .int .i64 s272.2) (sx hS_ 6 rfl) ?_
    refine s_mv (v := .int .i64 a1) (sx hS_ 0 rfl) ?_
    refine s_add rfl rfl ?_
    refine s_lss rfl rfl ?_
    refine dn ?_
    refine cw_cond rfl (fun hb277 => ?_) (fun hb277 => ?_)
    ·replace h := ift h (ct hb277)
     refine wp_skip ?_
     refine then_norm ?_
     refine wp_seq ?_
     refine wp_block ?_
     refine cw_region ?_
     refine s_mv (v := .int .i64 s272.2) (sx hS_ 6 rfl) ?_
     refine s_mv (v := .int .i64 a1) (sx hS_ 0 rfl) ?_
     refine s_add rfl rfl ?_
     refine s_faddrB 0 Try.underlying51 rfl sc49.size (sx hS_ 1 rfl) rfl ?_
     refine s_loadS hC 4 (u0_0) rfl sc49 rfl rfl ?_
     refine s_mv (v := .int .i64 s205.2) (sx hS_ 4 rfl) ?_
     refine s_mv (v := .int .i64 s272.2) (sx hS_ 6 rfl) ?_
     obtain ⟨⟨h0_278, h1_279⟩, h⟩ := h
     obtain ⟨Ad280, c281, hv282⟩ := sl_form (hC.getP 0 rfl) s205.2.toNat (show s205.2.toNat < a0.terms.length by omega)
     refine s_iaddrS (len := a0.terms.length) Try.underlying49 ag93.size (tr rfl hv282) rfl h0_278 h1_279 ?_
     refine s_faddrS (s205.2.toNat * 9 + 0) Try.underlying93 rfl ag24.size rfl rfl ?_
     obtain ⟨⟨h0_283, h1_284⟩, h⟩ := h
     refine s_iaddrSa (s205.2.toNat * 9 + 0 + s272.2.toNat) Try.underlying24 sc5.size rfl rfl h0_283 h1_284 (by omega) ?_
     refine s_loadCS (.int .u8 (((a0.terms.getD s205.2.toNat default).mono).get s272.2.toNat)) (cells_subS (o := s272.2.toNat) (k := 1) (sl_cellsE (hC.getP 0 rfl) hv282 s205.2.toNat (show s205.2.toNat < a0.terms.length by omega)) (arr_at (r := _) (show s272.2.toNat < 8 by omega))) sc5 rfl ?_
     obtain ⟨⟨h0_285, h1_286⟩, h⟩ := h
     refine s_iaddrB ((IntKind.i64.wrap (s272.2 + a1)).toNat) Try.underlying24 sc5.size (sx hS_ 5 rfl) rfl h0_285 h1_286 (by omega) ?_
     refine s_store (v := .int .u8 (((a0.terms.getD s205.2.toNat default).mono).get s272.2.toNat)) hC 0 [.int .u8 (((a0.terms.getD s205.2.toNat default).mono).get s272.2.toNat)] (A8.enc .u8 (s272.1.set ((IntKind.i64.wrap (s272.2 + a1)).toNat) (((a0.terms.getD s205.2.toNat default).mono).get s272.2.toNat))) rfl sc5.size rfl rfl rfl rfl rfl (show (IntKind.i64.wrap (s272.2 + a1)).toNat < 8 by omega) (A8.enc_set _ _ _ (show (IntKind.i64.wrap (s272.2 + a1)).toNat < 8 by omega)) fun w287 hC => ?_
     refine done ?_
     refine blk_norm ?_
     refine then_norm ?_
     refine cw_region ?_
     refine s_mv (v := .int .i64 s272.2) (sx hS_ 6 rfl) ?_
     refine s_add rfl rfl ?_
     refine s_as (v := .int .i64 (IntKind.i64.wrap (s272.2 + 1))) rfl ?_
     refine done ?_
     exact hK275 (s272.1.set ((IntKind.i64.wrap (s272.2 + a1)).toNat) (((a0.terms.getD s205.2.toNat default).mono).get s272.2.toNat), IntKind.i64.wrap (s272.2 + 1)) _ _ ⟨(sk (sx hS_ 0 rfl) (sk (sx hS_ 1 rfl) (sk (sx hS_ 2 rfl) (sk (sx hS_ 3 rfl) (sk (sx hS_ 4 rfl) (sk (sx hS_ 5 rfl) (sk rfl (sk (sx hS_ 7 rfl) (sk (sx hS_ 8 rfl) (sk (sx hS_ 9 rfl) (sk (sx hS_ 10 rfl) (sk (sx hS_ 11 rfl) (sk (sx hS_ 12 rfl) sn))))))))))))), hC⟩ h
    ·replace h := iff_ h (cf hb277)
     refine wp_exit (then_exit (then_exit (exit_in ?_)))
     refine then_norm ?_
     refine cw_draw 11 mixed [0, 1, 0, 0, 8, 0, 56, 120, 248, 508, 1020, 2047, 4095, 8191] [1, 2, 4, 6, 8, 9] [0, 3, 5, 7] (by kernel_rfl) (by kernel_rfl) (by kernel_rfl) (fun hM289 hM290 w288 hB_ => ?_)
     replace hC := hC.grow hB_
     refine ae_lookF belPre 0 (.pointer (some ⟨b10, 0, none⟩)) rfl rfl (by kernel_rfl) (hM290 0 rfl) (fun w_ => .inl ⟨rfl, by exact r_faddrB 0 Try.underlying51 rfl sc49.size (sx hS_ 3 rfl) rfl⟩) (listed' := (dbits 14 1)) (by kernel_rfl) ?_
     refine ae_look belPre 1 (v206) rfl rfl (by kernel_rfl) (hM289 1 rfl) (fun w_ hB_ => .inl ⟨rfl, by exact r_loadS (hC.grow hB_) 2 (v206) rfl sc49 rfl rfl⟩) (listed' := (dbits 14 3)) (by kernel_rfl) ?_
     refine ae_look belPre 2 (.agg (List.toArray (A8.enc .u8 s272.1))) rfl rfl (by kernel_rfl) (hM289 2 rfl) (fun w_ hB_ => .inl ⟨rfl, by exact r_loadA (hC.grow hB_) 0 (A8.enc .u8 s272.1) rfl ag24 (sx hS_ 5 rfl) rfl rfl⟩) (listed' := (dbits 14 7)) (by kernel_rfl) ?_
     refine ae_lookF belPre 3 (.pointer (some ⟨b4, 0, none⟩)) rfl rfl (by kernel_rfl) (hM290 3 rfl) (fun w_ => .inl ⟨rfl, by exact r_faddrB 0 Try.underlying51 rfl sc49.size (sx hS_ 1 rfl) rfl⟩) (listed' := (dbits 14 15)) (by kernel_rfl) ?_
     refine ae_look belPre 4 (u0_0) rfl rfl (by kernel_rfl) (hM289 4 rfl) (fun w_ hB_ => .inl ⟨rfl, by exact r_loadS (hC.grow hB_) 4 (u0_0) rfl sc49 rfl rfl⟩) (listed' := (dbits 14 31)) (by kernel_rfl) ?_
     refine ae_lookF belPre 5 (.int .i64 s205.2) rfl rfl (by kernel_rfl) (hM290 5 rfl) (fun w_ => .inl ⟨rfl, by exact r_mv (v := .int .i64 s205.2) (sx hS_ 4 rfl)⟩) (listed' := (dbits 14 63)) (by kernel_rfl) ?_
     obtain ⟨⟨h0_291, h1_292⟩, h⟩ := h
     obtain ⟨Ad293, c294, hv295⟩ := sl_form (hC.getP 0 rfl) s205.2.toNat (show s205.2.toNat < a0.terms.length by omega)
     refine ae_look belPre 6 (.pointer (some (Ad293.add (s205.2.toNat * 9)))) rfl rfl (by kernel_rfl) (hM289 6 rfl) (fun w_ hB_ => .inl ⟨rfl, by exact r_iaddrS (len := a0.terms.length) Try.underlying49 ag93.size (by exact tr rfl hv295) rfl h0_291 h1_292⟩) (listed' := (dbits 14 127)) (by kernel_rfl) ?_
     refine ae_lookF belPre 7 (.pointer (some (Ad293.add (s205.2.toNat * 9 + 8)))) rfl rfl (by kernel_rfl) (hM290 7 rfl) (fun w_ => .inl ⟨rfl, by exact r_faddrS (s205.2.toNat * 9 + 8) Try.underlying93 rfl sc2.size rfl rfl⟩) (listed' := (dbits 14 255)) (by kernel_rfl) ?_
     refine ae_look belPre 8 (.int .i64 ((a0.terms.getD s205.2.toNat default).factor)) rfl rfl (by kernel_rfl) (hM289 8 rfl) (fun w_ hB_ => .inl ⟨rfl, by exact r_loadCS (.int .i64 ((a0.terms.getD s205.2.toNat default).factor)) (cells_subS (o := 8) (k := 1) (sl_cellsE ((hC.grow hB_).getP 0 rfl) hv295 s205.2.toNat (show s205.2.toNat < a0.terms.length by omega)) rfl) sc2 rfl⟩) (listed' := (dbits 14 511)) (by kernel_rfl) ?_
     refine ae_look belPre 9 (.agg (List.toArray (Term.enc (⟨s272.1, (a0.terms.getD s205.2.toNat default).factor⟩ : Term)))) rfl rfl (by kernel_rfl) (hM289 9 rfl) (fun w_ hB_ => .inl ⟨rfl, by exact r_build [(0, .agg (List.toArray (A8.enc .u8 s272.1))), (1, .int .i64 ((a0.terms.getD s205.2.toNat default).factor))] rfl (bl93_0flat_1int s272.1 ((a0.terms.getD s205.2.toNat default).factor)  _)⟩) (listed' := (dbits 14 1023)) (by kernel_rfl) ?_
     refine ae_one 10 rfl (by kernel_rfl) ?_
     refine s_bslice (sz := 9) hC [(0, .agg (List.toArray (Term.enc (⟨s272.1, (a0.terms.getD s205.2.toNat default).factor⟩ : Term))))] (ETerm.encs [(⟨s272.1, (a0.terms.getD s205.2.toNat default).factor⟩ : Term)]) rfl (fun _ => bs49_1 (⟨s272.1, (a0.terms.getD s205.2.toNat default).factor⟩ : Term) _) rfl (by decide) fun b296 w297 hB_ hC => ?_
     refine done ?_
     refine ak_intro (by assumption) (listed' := (dbits 14 2047)) (by kernel_rfl) ?_
     refine ae_tail 11 (by decide) (by decide) (by kernel_rfl) (by kernel_rfl) rfl ?_
     obtain ⟨hm301, h⟩ := h
     refine s_app hC 2 Try.underlying49 el93 rfl (by decide) (by decide) rfl (own_rdr (hC.getM 0 rfl)) (fun q hq => Enc.encs_one' (E := ETerm) _ q hq) rfl rfl hm301 fun v299 w300 hC => ?_
     replace hC := own_re hC 2 ((s205.1 ++ [(⟨s272.1, (a0.terms.getD s205.2.toNat default).factor⟩ : Term)]).length) (ETerm.encs (s205.1 ++ [(⟨s272.1, (a0.terms.getD s205.2.toNat default).factor⟩ : Term)])) rfl (by simp) (by first | (simp [Enc.encs_append]; done) | simp [Enc.encs_append, Enc.encs])
     refine s_faddrB 0 Try.underlying51 rfl sc49.size (sx hS_ 3 rfl) rfl ?_
     refine s_store (v := v299) hC 3 [v299] [v299] rfl sc49.size rfl rfl (own_cellsV (hC.getM 2 rfl)) rfl (all_c (own_oneC (hC.getM 2 rfl)) rfl) (Nat.le_of_ble_eq_true rfl) rfl fun w302 hC => ?_
     refine done ?_
     refine qn_norm ?_
     refine blk_norm ?_
     refine then_norm ?_
     refine cw_region ?_
     refine s_mv (v := .int .i64 s205.2) (sx hS_ 4 rfl) ?_
     refine s_add rfl rfl ?_
     refine s_as (v := .int .i64 (IntKind.i64.wrap (s205.2 + 1))) rfl ?_
     refine done ?_
     replace hC := hC.sel [2, 3, 4, 5] [0, 1] (M' := [own 93 9 v299 ((s205.1 ++ [(⟨s272.1, (a0.terms.getD s205.2.toNat default).factor⟩ : Term)]).length) (ETerm.encs (s205.1 ++ [(⟨s272.1, (a0.terms.getD s205.2.toNat default).factor⟩ : Term)])), blk b10 51 [v299], blk b7 51 [.slice none 0 0], blk b4 51 [u0_0]]) (Ps' := [Ty.item ETerm.ty.sl a0.terms [u0_0] fp0, Ty.item TForm a0 [u0_0] fp0]) (by decide) rfl rfl
     exact hK210 (s205.1 ++ [(⟨s272.1, (a0.terms.getD s205.2.toNat default).factor⟩ : Term)], IntKind.i64.wrap (s205.2 + 1)) _ _ ⟨v299, (sk (sx hS_ 0 rfl) (sk (sx hS_ 1 rfl) (sk (sx hS_ 2 rfl) (sk (sx hS_ 3 rfl) (sk rfl sn))))), hC⟩ h
   ·skip
    exact ⟨(sk (sx hS_ 0 rfl) (sk (sx hS_ 1 rfl) (sk (sx hS_ 2 rfl) (sk (sx hS_ 3 rfl) (sk (sx hS_ 4 rfl) (sk rfl (sk rfl (sk rfl (sk rfl (sk rfl (sk rfl (sk rfl (sk rfl sn))))))))))))), hC⟩
  ·replace h := iff_ h (cf hb215)
   refine wp_exit (then_exit (then_exit (exit_in ?_)))
   refine then_norm ?_
   refine sr ?_
   refine s_loadA hC 1 [v206] rfl ag51 (sx hS_ 3 rfl) rfl rfl ?_
   refine s_store (v := .agg #[v206]) hC 2 [v206] [v206] rfl ag51.size (sx hS_ 2 rfl) rfl rfl rfl (all_c (own_oneC (hC.getM 0 rfl)) rfl) (Nat.le_of_ble_eq_true rfl) rfl fun w303 hC => ?_
   refine dn ?_
   refine wp_ret ?_
   refine ret1 (fn := Try.f129) rfl ?_ ⟨(⟨s205.1⟩ : Vc.Form), v206, (Option.toList (Value.ownBlock v206)), rfl, h, (form_join (own_item (hC.getM 0 rfl))), (own_fresh hC 0 rfl), hC.below⟩ (.inl rfl)
   exact res_cellA hC 2 rfl ag51 (sx hS_ 2 rfl) rfl
 ·skip
  replace hC := hC.pushNil 93 9
  exact ⟨.slice none 0 0, (sk rfl (sk rfl (sk rfl (sk rfl (sk rfl sn))))), hC⟩
def f_spec_l02Own (a0 : Alg) (K : Alg → Prop) : Prop :=
 f_spec_l01Own a0.degrees (fun r14 => whileP (fun (s118 : (List Vc.Form) × Int) next122 => (if s118.2 < (a0.images.length : Int) then ((0 ≤ s118.2 ∧ s118.2 < (a0.images.length : Int)) ∧ f_spec_l02Copy (a0.images.getD s118.2.toNat default) 0 (fun r147 => (Room (s118.1.length + 1) 24 ∧ next122 (s118.1 ++ [r147], IntKind.i64.wrap (s118.2 + 1))))) else K (⟨r14, s118.1⟩ : Alg))) ([], 0))
theorem c_spec_l02Own (a0 : Alg) {u0_0 : Value} {u0_1 : Value} {fp0 : List Nat} {K : Alg → Prop} (h : f_spec_l02Own a0 K) (w0 : World) (q0 : TAlg.rep a0 [u0_0, u0_1] fp0 w0) :
  Calls Try.prog 117 #[.agg #[u0_0, u0_1]] w0 fun e w' => ∃ (r0 : Alg) (z0_0 : Value) (z0_1 : Value) (fz0 : List Nat), 
   e = .returned (.agg #[z0_0, z0_1]) ∧ K r0 ∧ (Tr.item (TrAlg 2 93 51) r0 [z0_0, z0_1] fz0).holds w' ∧ (∀ b, b ∈ fz0 → w0.heap.size ≤ b) ∧ Bel w0 w' := by
 unfold f_spec_l02Own at h
 refine calls_of (args := [.agg #[u0_0, u0_1]]) Try.func117 rfl 28 Try.ntmps117 (Nat.le_of_ble_eq_true rfl) ?_
 have hC := Ctx.start (X := Nox) w0 [Ty.item TAlg a0 [u0_0, u0_1] fp0] (by simp only [List.mem_cons, List.not_mem_nil, or_false, forall_eq_or_imp, forall_eq]; exact q0)
 have hp2 := (hC.getP 0 rfl)
 replace hC := hC.derive 0 rfl (Ty.item ((EI .i64).ty.sl) a0.degrees [u0_0] fp0) (fun _ => (alg_parts hp2).1) (fun _ hb_ => hb_)
 replace hC := hC.derive 1 rfl (Ty.item TForm.sl a0.images [u0_1] fp0) (fun _ => (alg_parts hp2).2) (fun _ hb_ => hb_)
 refine sr ?_
 refine s_box (v := .agg #[u0_0, u0_1]) hC [u0_0, u0_1] rfl rfl fun b5 w7 hB_ hC => ?_
 refine s_alloc hC [.slice none 0 0, .slice none 0 0] z34 rfl fun b8 w10 hB_ hC => ?_
 refine dn ?_
 refine sr ?_
 refine s_faddrB 0 Try.underlying34 rfl sc22.size rfl rfl ?_
 refine s_loadS hC 1 (u0_0) rfl sc22 rfl rfl ?_
 refine s_call [u0_0] _ Try.func116 rfl rfl rfl (c_spec_l01Own a0.degrees h _ (hC.getP 1 rfl)) (fun ret11 w13 hR12 => ?_)
 obtain ⟨r14, u15, f16, rfl, h, hr17, hf18, hB19⟩ := hR12
 refine ⟨_, rfl, ?_⟩
 replace hC := hC.push hB19 (Tr.item (Tr.sl 2 ((EI .i64).tr)) r14 [u15] f16) hr17 hf18
 obtain ⟨ho21, hf22⟩ := flat_tr (hC.getM 0 rfl).1
 subst hf22
 replace hC := hC.recast (c := own 2 1 u15 r14.length ((EI .i64).encs r14)) (fun _ h_ => h_) (fun _ => ho21)
 refine s_build [(0, u15)] rfl (bl34_0sl u15 (own_isSl (hC.getM 0 rfl)) _) ?_
 refine s_alloc hC [.slice none 0 0, .slice none 0 0] z34 rfl fun b24 w26 hB_ hC => ?_
 refine s_store (v := .agg #[u15, .slice none 0 0]) hC 0 [u15, .slice none 0 0] [u15, .slice none 0 0] rfl ag34.size rfl rfl rfl rfl (all_c (own_oneC (hC.getM 1 rfl)) (all_c rfl rfl)) (Nat.le_of_ble_eq_true rfl) rfl fun w27 hC => ?_
 refine dn ?_
 refine wp_seq ?_
 refine sr ?_
 refine s_as (v := .int .i64 0) rfl ?_
 refine dn ?_
 refine wp_block ?_
 refine loopW (S := (List Vc.Form) × Int) _ (fun s118 e_ w_ => ∃ (v119 : Value), ∃ (f121 : List Nat), Slots e_ [(1, .pointer (some ⟨b5, 0, none⟩)), (2, .pointer (some ⟨b8, 0, none⟩)), (3, .pointer (some ⟨b24, 0, none⟩)), (4, .int .i64 s118.2)] ∧ Ctx Nox w0 w_ [Tr.item (Tr.sl 51 (TrForm 93)) s118.1 [v119] f121, blk b24 34 [u15, v119], own 2 1 u15 r14.length ((EI .i64).encs r14), blk b8 34 [.slice none 0 0, .slice none 0 0], blk b5 34 [u0_0, u0_1]] [Ty.item TForm.sl a0.images [u0_1] fp0, Ty.item ((EI .i64).ty.sl) a0.degrees [u0_0] fp0, Ty.item TAlg a0 [u0_0, u0_1] fp0]) ?_ (s0 := ([], 0)) ?_ h
 ·clear hC h
  rintro s118 e_ w125 next122 K123 ⟨v119, f121, hS_, hC⟩ h hK124
  refine wp_seq ?_
  refine sr ?_
  refine s_mv (v := .int .i64 s118.2) (sx hS_ 3 rfl) ?_
  refine s_faddrB 1 Try.underlying34 rfl sc32.size (sx hS_ 0 rfl) rfl ?_
  refine s_loadS hC 4 (u0_1) rfl sc32 rfl rfl ?_
  obtain ⟨Ad126, c127, hv128⟩ := sl_len (hC.getP 0 rfl)
  refine s_len Try.underlying32 (tr rfl hv128) ?_
  refine s_lss rfl rfl ?_
  refine dn ?_
  refine cw_cond rfl (fun hb129 => ?_) (fun hb129 => ?_)
  ·replace h := ift h (ct hb129)
   refine wp_skip ?_
   refine then_norm ?_
   refine wp_seq ?_
   refine wp_block ?_
   refine cw_draw 9 mixed [0, 1, 0, 4, 0, 28, 60, 124, 252, 511, 1023, 2047] [1, 3, 5, 6] [0, 2, 4] (by kernel_rfl) (by kernel_rfl) (by kernel_rfl) (fun hM131 hM132 w130 hB_ => ?_)
   replace hC := hC.grow hB_
   refine ae_lookF belPre 0 (.pointer (some ⟨b24, 1, none⟩)) rfl rfl (by kernel_rfl) (hM132 0 rfl) (fun w_ => .inl ⟨rfl, by exact r_faddrB 1 Try.underlying34 rfl sc32.size (sx hS_ 2 rfl) rfl⟩) (listed' := (dbits 12 1)) (by kernel_rfl) ?_
   refine ae_look belPre 1 (v119) rfl rfl (by kernel_rfl) (hM131 1 rfl) (fun w_ hB_ => .inl ⟨rfl, by exact r_loadS (hC.grow hB_) 1 (v119) rfl sc32 rfl rfl⟩) (listed' := (dbits 12 3)) (by kernel_rfl) ?_
   refine ae_lookF belPre 2 (.pointer (some ⟨b5, 1, none⟩)) rfl rfl (by kernel_rfl) (hM132 2 rfl) (fun w_ => .inl ⟨rfl, by exact r_faddrB 1 Try.underlying34 rfl sc32.size (sx hS_ 0 rfl) rfl⟩) (listed' := (dbits 12 7)) (by kernel_rfl) ?_
   refine ae_look belPre 3 (u0_1) rfl rfl (by kernel_rfl) (hM131 3 rfl) (fun w_ hB_ => .inl ⟨rfl, by exact r_loadS (hC.grow hB_) 4 (u0_1) rfl sc32 rfl rfl⟩) (listed' := (dbits 12 15)) (by kernel_rfl) ?_
   refine ae_lookF belPre 4 (.int .i64 s118.2) rfl rfl (by kernel_rfl) (hM132 4 rfl) (fun w_ => .inl ⟨rfl, by exact r_mv (v := .int .i64 s118.2) (sx hS_ 3 rfl)⟩) (listed' := (dbits 12 31)) (by kernel_rfl) ?_
   obtain ⟨⟨h0_133, h1_134⟩, h⟩ := h
   obtain ⟨Ad135, c136, hv137⟩ := sl_form (hC.getP 0 rfl) s118.2.toNat (show s118.2.toNat < a0.images.length by omega)
   refine ae_look belPre 5 (.pointer (some (Ad135.add (s118.2.toNat * 1)))) rfl rfl (by kernel_rfl) (hM131 5 rfl) (fun w_ hB_ => .inl ⟨rfl, by exact r_iaddrS (len := a0.images.length) Try.underlying32 ag51.size (by exact tr rfl hv137) rfl h0_133 h1_134⟩) (listed' := (dbits 12 63)) (by kernel_rfl) ?_
   obtain ⟨cs_, hl139, hc140, hr141⟩ := sl_cells (hC.getP 0 rfl) hv137 s118.2.toNat (show s118.2.toNat < a0.images.length by omega)
   obtain ⟨u138, rfl⟩ := List.length_eq_one_iff.1 hl139
   clear hl139
   rw [getD_eq _ _ (show s118.2.toNat < a0.images.length by omega)] at hr141
   have hp142 := hr141
   replace hC := hC.derive 0 rfl (Ty.item ETerm.ty.sl ((a0.images.getD s118.2.toNat default).terms) [u138] fp0) (fun _ => (form_parts hp142)) (fun _ hb_ => hb_)
   refine ae_look belPre 6 (.agg #[u138]) rfl rfl (by kernel_rfl) (hM131 6 rfl) (fun w_ hB_ => .inl ⟨rfl, by exact r_loadCA [u138] (cellsAt_bel hB_ hc140) ag51 rfl rfl⟩) (listed' := (dbits 12 127)) (by kernel_rfl) ?_
   refine ae_one 7 rfl (by kernel_rfl) ?_
   refine s_call [.agg #[u138], .int .i64 0] _ Try.func129 rfl rfl rfl (c_spec_l02Copy (a0.images.getD s118.2.toNat default) 0 h _ (form_mk (hC.getP 0 rfl))) (fun ret144 w146 hR145 => ?_)
   obtain ⟨r147, u148, f149, rfl, h, hr150, hf151, hB152⟩ := hR145
   refine ⟨_, rfl, ?_⟩
   replace hC := hC.push hB152 (Tr.item (TrForm 93) r147 [u148] f149) hr150 hf151
   obtain ⟨ho154, hf155⟩ := form_split (hC.getM 0 rfl)
   subst hf155
   replace hC := hC.recast (c := own 93 9 u148 r147.terms.length (ETerm.encs r147.terms)) (fun _ h_ => h_) (fun _ => ho154)
   refine done ?_
   refine ak_intro (by assumption) (listed' := (dbits 12 255)) (by kernel_rfl) ?_
   refine ae_one 8 rfl (by kernel_rfl) ?_
   refine s_bslice (sz := 1) hC [(0, .agg #[u148])] [u148] rfl (fun _ => bsr32_1_s u148 (own_isSl (hC.getM 0 rfl)) _) rfl (by decide) fun b157 w158 hB_ hC => ?_
   replace hC := hC.pushM0 (forest (TrForm 93) [] [] []) (forest_nil _ _) rfl
   replace hC := hC.sel [2, 0, 1, 3, 4, 5, 6, 7] [0, 1, 2, 3] (M' := [own 93 9 u148 r147.terms.length (ETerm.encs r147.terms), forest (TrForm 93) [] [] [], own 51 1 (.slice (some ⟨b157, 0, none⟩) 1 1) 1 [u148], Tr.item (Tr.sl 51 (TrForm 93)) s118.1 [v119] f121, blk b24 34 [u15, v119], own 2 1 u15 r14.length ((EI .i64).encs r14), blk b8 34 [.slice none 0 0, .slice none 0 0], blk b5 34 [u0_0, u0_1]]) (Ps' := [Ty.item ETerm.ty.sl ((a0.images.getD s118.2.toNat default).terms) [u138] fp0, Ty.item TForm.sl a0.images [u0_1] fp0, Ty.item ((EI .i64).ty.sl) a0.degrees [u0_0] fp0, Ty.item TAlg a0 [u0_0, u0_1] fp0]) (by decide) rfl rfl
   replace hC := hC.gather (c := forest (TrForm 93) [r147] [u148] [(Option.toList (Value.ownBlock u148))]) (fun x_ hx_ => forest_mem hx_) (fun h1_ h2_ hd_ => forest_cons (c := [u148]) (form_join (own_item h1_)) h2_ hd_)
   replace hC := hC.sel [1, 0, 2, 3, 4, 5, 6] [0, 1, 2, 3] (M' := [own 51 1 (.slice (some ⟨b157, 0, none⟩) 1 1) 1 [u148], forest (TrForm 93) [r147] [u148] [(Option.toList (Value.ownBlock u148))], Tr.item (Tr.sl 51 (TrForm 93)) s118.1 [v119] f121, blk b24 34 [u15, v119], own 2 1 u15 r14.length ((EI .i64).encs r14), blk b8 34 [.slice none 0 0, .slice none 0 0], blk b5 34 [u0_0, u0_1]]) (Ps' := [Ty.item ETerm.ty.sl ((a0.images.getD s118.2.toNat default).terms) [u138] fp0, Ty.item TForm.sl a0.images [u0_1] fp0, Ty.item ((EI .i64).ty.sl) a0.degrees [u0_0] fp0, Ty.item TAlg a0 [u0_0, u0_1] fp0]) (by decide) rfl rfl
   replace hC := hC.gather (c := Tr.item (Tr.sl 51 (TrForm 93)) [r147] [.slice (some ⟨b157, 0, none⟩) 1 1] ((Option.toList (Value.ownBlock (.slice (some ⟨b157, 0, none⟩) 1 1))) ++ ([(Option.toList (Value.ownBlock u148))] : List (List Nat)).flatten)) (fun x_ hx_ => List.mem_append.1 hx_) (fun h1_ h2_ hd_ => forest_up h1_ h2_ hd_)
   refine done ?_
   refine ak_intro (by assumption) (listed' := (dbits 12 511)) (by kernel_rfl) ?_
   refine ae_tail 9 (by decide) (by decide) (by kernel_rfl) (by kernel_rfl) rfl ?_
   replace hC := hC.sel [1, 0, 2, 3, 4, 5] [0, 1, 2, 3] (M' := [Tr.item (Tr.sl 51 (TrForm 93)) s118.1 [v119] f121, Tr.item (Tr.sl 51 (TrForm 93)) [r147] [.slice (some ⟨b157, 0, none⟩) 1 1] ((Option.toList (Value.ownBlock (.slice (some ⟨b157, 0, none⟩) 1 1))) ++ ([(Option.toList (Value.ownBlock u148))] : List (List Nat)).flatten), blk b24 34 [u15, v119], own 2 1 u15 r14.length ((EI .i64).encs r14), blk b8 34 [.slice none 0 0, .slice none 0 0], blk b5 34 [u0_0, u0_1]]) (Ps' := [Ty.item ETerm.ty.sl ((a0.images.getD s118.2.toNat default).terms) [u138] fp0, Ty.item TForm.sl a0.images [u0_1] fp0, Ty.item ((EI .i64).ty.sl) a0.degrees [u0_0] fp0, Ty.item TAlg a0 [u0_0, u0_1] fp0]) (by decide) rfl rfl
   obtain ⟨hm165, h⟩ := h
   refine s_appT hC Try.underlying32 el51 rfl (by decide) (by decide) rfl rfl hm165 fun v162 f164 w163 hC => ?_
   refine s_faddrB 1 Try.underlying34 rfl sc32.size (sx hS_ 2 rfl) rfl ?_
   refine s_store (v := v162) hC 1 [v162] [u15, v162] rfl sc32.size rfl rfl (rep_cellsV (Tr.trep _ (hC.getM 0 rfl).1)) rfl (all_c (rep_oneC (Tr.trep _ (hC.getM 0 rfl).1)) rfl) (Nat.le_of_ble_eq_true rfl) rfl fun w166 hC => ?_
   refine done ?_
   refine qn_norm ?_
   refine blk_norm ?_
   refine then_norm ?_
   refine cw_region ?_
   refine s_mv (v := .int .i64 s118.2) (sx hS_ 3 rfl) ?_
   refine s_add rfl rfl ?_
   refine s_as (v := .int .i64 (IntKind.i64.wrap (s118.2 + 1))) rfl ?_
   refine done ?_
   replace hC := hC.sel [0, 1, 2, 3, 4] [1, 2, 3] (M' := [Tr.item (Tr.sl 51 (TrForm 93)) (s118.1 ++ [r147]) [v162] f164, blk b24 34 [u15, v162], own 2 1 u15 r14.length ((EI .i64).encs r14), blk b8 34 [.slice none 0 0, .slice none 0 0], blk b5 34 [u0_0, u0_1]]) (Ps' := [Ty.item TForm.sl a0.images [u0_1] fp0, Ty.item ((EI .i64).ty.sl) a0.degrees [u0_0] fp0, Ty.item TAlg a0 [u0_0, u0_1] fp0]) (by decide) rfl rfl
   exact hK124 (s118.1 ++ [r147], IntKind.i64.wrap (s118.2 + 1)) _ _ ⟨v162, f164, (sk (sx hS_ 0 rfl) (sk (sx hS_ 1 rfl) (sk (sx hS_ 2 rfl) (sk rfl sn)))), hC⟩ h
  ·replace h := iff_ h (cf hb129)
   refine wp_exit (then_exit (then_exit (exit_in ?_)))
   refine then_norm ?_
   refine sr ?_
   refine s_loadA hC 1 [u15, v119] rfl ag34 (sx hS_ 2 rfl) rfl rfl ?_
   refine s_store (v := .agg #[u15, v119]) hC 3 [u15, v119] [u15, v119] rfl ag34.size (sx hS_ 1 rfl) rfl rfl rfl (all_c (own_oneC (hC.getM 2 rfl)) (all_c (rep_oneC (Tr.trep _ (hC.getM 0 rfl).1)) rfl)) (Nat.le_of_ble_eq_true rfl) rfl fun w167 hC => ?_
   refine dn ?_
   refine wp_ret ?_
   refine ret1 (fn := Try.f117) rfl ?_ ⟨(⟨r14, s118.1⟩ : Alg), u15, v119, ((Option.toList (Value.ownBlock u15)) ++ f121), rfl, h, (alg_join (own_item (hC.getM 2 rfl)) (hC.getM 0 rfl) (fun x hx hx' => hC.mm 2 0 rfl rfl (by decide) x hx hx')), (fun b hb => (List.mem_append.1 hb).elim (fun hb => (own_fresh hC 2 rfl) b hb) (fun hb => (tr_fresh hC 0 rfl) b hb)), hC.below⟩ (.inl rfl)
   exact res_cellA hC 3 rfl ag34 (sx hS_ 1 rfl) rfl
 ·skip
  replace hC := hC.pushM0 (Tr.item (Tr.sl 51 (TrForm 93)) [] [.slice none 0 0] []) (nil_item _ _ _) rfl
  exact ⟨.slice none 0 0, [], (sk rfl (sk rfl (sk rfl (sk rfl sn)))), hC⟩
def f_spec_l11New  (K : Vc.Desk → Prop) : Prop :=
 f_spec_SphereModel 2 (fun r7 r13 => f_spec_l02Own r7 (fun r34 => K (⟨(⟨r7.degrees, r7.images⟩ : Alg), (⟨r34.degrees, r34.images⟩ : Alg), (⟨[]⟩ : Vc.Form)⟩ : Vc.Desk)))
theorem c_spec_l11New   {K : Vc.Desk → Prop} (h : f_spec_l11New  K) (w0 : World)  :
  Calls Try.prog 80 #[] w0 fun e w' => ∃ (r0 : Vc.Desk) (z0_0 : Value) (z0_1 : Value) (z0_2 : Value) (z0_3 : Value) (z0_4 : Value) (fz0 : List Nat), 
   e = .returned (.agg #[z0_0, z0_1, z0_2, z0_3, z0_4]) ∧ K r0 ∧ (Tr.item (TrDesk 2 93 51) r0 [z0_0, z0_1, z0_2, z0_3, z0_4] fz0).holds w' ∧ (∀ b, b ∈ fz0 → w0.heap.size ≤ b) ∧ Bel w0 w' := by
 unfold f_spec_l11New at h
 refine calls_of (args := []) Try.func80 rfl 11 Try.ntmps80 (Nat.le_of_ble_eq_true rfl) ?_
 have hC := Ctx.start (X := Nox) w0 [] (by simp)
 refine sr ?_
 refine s_alloc hC [.slice none 0 0, .slice none 0 0, .slice none 0 0, .slice none 0 0, .slice none 0 0] z53 rfl fun b1 w3 hB_ hC => ?_
 refine dn ?_
 refine sr ?_
 refine s_call [.int .i64 2] _ Try.func30 rfl rfl rfl (c_spec_SphereModel 2 h _) (fun ret4 w6 hR5 => ?_)
 obtain ⟨r7, u8, u9, f10, r13, rfl, h, hr11, hf12, hB14⟩ := hR5
 refine ⟨_, rfl, ?_⟩
 replace hC := hC.push hB14 (Tr.item (TrAlg 2 93 51) r7 [u8, u9] f10) hr11 hf12
 obtain ⟨f16, ho17, ho18, hs19, hs20, hd21⟩ := alg_split (hC.getM 0 rfl)
 replace hC := hC.split (a := own 2 1 u8 r7.degrees.length ((EI .i64).encs r7.degrees)) (b := Tr.item (Tr.sl 51 (TrForm 93)) r7.images [u9] f16) hs19 hs20 ⟨ho17, ho18, hd21⟩
 refine s_mv (v := .tuple #[.agg #[u8, u9], .int .i64 r13]) rfl ?_
 refine s_ext (v := .agg #[u8, u9]) rfl rfl ?_
 refine s_ext (v := .int .i64 r13) rfl rfl ?_
 refine s_alloc hC [.slice none 0 0, .slice none 0 0] z34 rfl fun b24 w26 hB_ hC => ?_
 refine s_store (v := .agg #[u8, u9]) hC 0 [u8, u9] [u8, u9] rfl ag34.size rfl rfl rfl rfl (all_c (own_oneC (hC.getM 1 rfl)) (all_c (rep_oneC (Tr.trep _ (hC.getM 2 rfl).1)) rfl)) (Nat.le_of_ble_eq_true rfl) rfl fun w27 hC => ?_
 refine s_as (v := .int .i64 r13) rfl ?_
 refine dn ?_
 refine wp_seq ?_
 refine cw_draw 3 mixed [0, 0, 2, 7, 15] [0, 1] [] (by kernel_rfl) (by kernel_rfl) (by kernel_rfl) (fun hM29 hM30 w28 hB_ => ?_)
 replace hC := hC.grow hB_
 refine ae_look belPre 0 (.agg #[u8, u9]) rfl rfl (by kernel_rfl) (hM29 0 rfl) (fun w_ hB_ => .inl ⟨rfl, by exact r_loadA (hC.grow hB_) 0 [u8, u9] rfl ag34 rfl rfl rfl⟩) (listed' := (dbits 5 1)) (by kernel_rfl) ?_
 refine ae_look belPre 1 (.agg #[u8, u9]) rfl rfl (by kernel_rfl) (hM29 1 rfl) (fun w_ hB_ => .inl ⟨rfl, by exact r_loadA (hC.grow hB_) 0 [u8, u9] rfl ag34 rfl rfl rfl⟩) (listed' := (dbits 5 3)) (by kernel_rfl) ?_
 refine ae_one 2 rfl (by kernel_rfl) ?_
 refine s_call [.agg #[u8, u9]] _ Try.func117 rfl rfl rfl (c_spec_l02Own r7 h _ (alg_mk (own_repE (hC.getM 1 rfl)) (Tr.trep _ (hC.getM 2 rfl).1))) (fun ret31 w33 hR32 => ?_)
 obtain ⟨r34, u35, u36, f37, rfl, h, hr38, hf39, hB40⟩ := hR32
 refine ⟨_, rfl, ?_⟩
 replace hC := hC.push hB40 (Tr.item (TrAlg 2 93 51) r34 [u35, u36] f37) hr38 hf39
 obtain ⟨f42, ho43, ho44, hs45, hs46, hd47⟩ := alg_split (hC.getM 0 rfl)
 replace hC := hC.split (a := own 2 1 u35 r34.degrees.length ((EI .i64).encs r34.degrees)) (b := Tr.item (Tr.sl 51 (TrForm 93)) r34.images [u36] f42) hs45 hs46 ⟨ho43, ho44, hd47⟩
 refine done ?_
 refine ak_intro (by assumption) (listed' := (dbits 5 7)) (by kernel_rfl) ?_
 refine ae_tail 3 (by decide) (by decide) (by kernel_rfl) (by kernel_rfl) rfl ?_
 refine s_build [(0, .agg #[u8, u9]), (1, .agg #[u35, u36])] rfl (bl53_0st_1st u8 u9 u35 u36 (own_isSl (hC.getM 3 rfl)) (rep_isSl (Tr.trep _ (hC.getM 4 rfl).1)) (own_isSl (hC.getM 0 rfl)) (rep_isSl (Tr.trep _ (hC.getM 1 rfl).1)) _) ?_
 refine s_store (v := .agg #[u8, u9, u35, u36, .slice none 0 0]) hC 5 [u8, u9, u35, u36, .slice none 0 0] [u8, u9, u35, u36, .slice none 0 0] rfl ag53.size rfl rfl rfl rfl (all_c (own_oneC (hC.getM 3 rfl)) (all_c (rep_oneC (Tr.trep _ (hC.getM 4 rfl).1)) (all_c (own_oneC (hC.getM 0 rfl)) (all_c (rep_oneC (Tr.trep _ (hC.getM 1 rfl).1)) (all_c rfl rfl))))) (Nat.le_of_ble_eq_true rfl) rfl fun w50 hC => ?_
 refine done ?_
 refine qn_norm ?_
 refine then_norm ?_
 refine wp_ret ?_
 refine ret1 (fn := Try.f80) rfl ?_ ⟨(⟨(⟨r7.degrees, r7.images⟩ : Alg), (⟨r34.degrees, r34.images⟩ : Alg), (⟨[]⟩ : Vc.Form)⟩ : Vc.Desk), u8, u9, u35, u36, .slice none 0 0, ((((Option.toList (Value.ownBlock u8)) ++ f16) ++ ((Option.toList (Value.ownBlock u35)) ++ f42)) ++ []), rfl, h, (desk_join (alg_join (own_item (hC.getM 3 rfl)) (hC.getM 4 rfl) (fun x hx hx' => hC.mm 3 4 rfl rfl (by decide) x hx hx')) (alg_join (own_item (hC.getM 0 rfl)) (hC.getM 1 rfl) (fun x hx hx' => hC.mm 0 1 rfl rfl (by decide) x hx hx')) (form_join (nil_item _ _ _)) (fun x_ hx_ hy_ => (List.mem_append.1 hx_).elim (fun hx_ => (List.mem_append.1 hy_).elim (fun hy_ => hC.mm 3 0 rfl rfl (by decide) x_ hx_ hy_) (fun hy_ => hC.mm 3 1 rfl rfl (by decide) x_ hx_ hy_)) (fun hx_ => (List.mem_append.1 hy_).elim (fun hy_ => hC.mm 4 0 rfl rfl (by decide) x_ hx_ hy_) (fun hy_ => hC.mm 4 1 rfl rfl (by decide) x_ hx_ hy_))) (fun x_ hx_ hy_ => (List.mem_append.1 hx_).elim (fun hx_ => absurd hy_ (by simp)) (fun hx_ => absurd hy_ (by simp))) (fun x_ hx_ hy_ => (List.mem_append.1 hx_).elim (fun hx_ => absurd hy_ (by simp)) (fun hx_ => absurd hy_ (by simp)))), (fun b hb => (List.mem_append.1 hb).elim (fun hb => (List.mem_append.1 hb).elim (fun hb => (fun b hb => (List.mem_append.1 hb).elim (fun hb => (own_fresh hC 3 rfl) b hb) (fun hb => (tr_fresh hC 4 rfl) b hb)) b hb) (fun hb => (fun b hb => (List.mem_append.1 hb).elim (fun hb => (own_fresh hC 0 rfl) b hb) (fun hb => (tr_fresh hC 1 rfl) b hb)) b hb)) (fun hb => (fun b hb => absurd hb (by simp)) b hb)), hC.below⟩ (.inl rfl)
 exact res_cellA hC 5 rfl ag53 rfl rfl
def f_spec_NewDesk  (K : Vc.Desk → Prop) : Prop :=
 f_spec_l11New  (fun r7 => K r7)
theorem c_spec_NewDesk   {K : Vc.Desk → Prop} (h : f_spec_NewDesk  K) (w0 : World)  :
  Calls Try.prog 32 #[] w0 fun e w' => ∃ (r0 : Vc.Desk) (z0_0 : Value) (z0_1 : Value) (z0_2 : Value) (z0_3 : Value) (z0_4 : Value) (fz0 : List Nat), 
   e = .returned (.agg #[z0_0, z0_1, z0_2, z0_3, z0_4]) ∧ K r0 ∧ (Tr.item (TrDesk 2 93 51) r0 [z0_0, z0_1, z0_2, z0_3, z0_4] fz0).holds w' ∧ (∀ b, b ∈ fz0 → w0.heap.size ≤ b) ∧ Bel w0 w' := by
 unfold f_spec_NewDesk at h
 refine calls_of (args := []) Try.func32 rfl 2 Try.ntmps32 (Nat.le_of_ble_eq_true rfl) ?_
 have hC := Ctx.start (X := Nox) w0 [] (by simp)
 refine sr ?_
 refine s_alloc hC [.slice none 0 0, .slice none 0 0, .slice none 0 0, .slice none 0 0, .slice none 0 0] z53 rfl fun b1 w3 hB_ hC => ?_
 refine dn ?_
 refine sr ?_
 refine s_call [] _ Try.func80 rfl rfl rfl (c_spec_l11New h _) (fun ret4 w6 hR5 => ?_)
 obtain ⟨r7, u8, u9, u10, u11, u12, f13, rfl, h, hr14, hf15, hB16⟩ := hR5
 refine ⟨_, rfl, ?_⟩
 replace hC := hC.push hB16 (Tr.item (TrDesk 2 93 51) r7 [u8, u9, u10, u11, u12] f13) hr14 hf15
 obtain ⟨f18, f19, hC⟩ := hC.splitDesk
 refine s_store (v := .agg #[u8, u9, u10, u11, u12]) hC 5 [u8, u9, u10, u11, u12] [u8, u9, u10, u11, u12] rfl ag53.size rfl rfl rfl rfl (all_c (own_oneC (hC.getM 3 rfl)) (all_c (rep_oneC (Tr.trep _ (hC.getM 4 rfl).1)) (all_c (own_oneC (hC.getM 1 rfl)) (all_c (rep_oneC (Tr.trep _ (hC.getM 2 rfl).1)) (all_c (own_oneC (hC.getM 0 rfl)) rfl))))) (Nat.le_of_ble_eq_true rfl) rfl fun w25 hC => ?_
 refine dn ?_
 refine wp_ret ?_
 refine ret1 (fn := Try.f32) rfl ?_ ⟨r7, u8, u9, u10, u11, u12, ((((Option.toList (Value.ownBlock u8)) ++ f18) ++ ((Option.toList (Value.ownBlock u10)) ++ f19)) ++ (Option.toList (Value.ownBlock u12))), rfl, h, (desk_join (alg_join (own_item (hC.getM 3 rfl)) (hC.getM 4 rfl) (fun x hx hx' => hC.mm 3 4 rfl rfl (by decide) x hx hx')) (alg_join (own_item (hC.getM 1 rfl)) (hC.getM 2 rfl) (fun x hx hx' => hC.mm 1 2 rfl rfl (by decide) x hx hx')) (form_join (own_item (hC.getM 0 rfl))) (fun x_ hx_ hy_ => (List.mem_append.1 hx_).elim (fun hx_ => (List.mem_append.1 hy_).elim (fun hy_ => hC.mm 3 1 rfl rfl (by decide) x_ hx_ hy_) (fun hy_ => hC.mm 3 2 rfl rfl (by decide) x_ hx_ hy_)) (fun hx_ => (List.mem_append.1 hy_).elim (fun hy_ => hC.mm 4 1 rfl rfl (by decide) x_ hx_ hy_) (fun hy_ => hC.mm 4 2 rfl rfl (by decide) x_ hx_ hy_))) (fun x_ hx_ hy_ => (List.mem_append.1 hx_).elim (fun hx_ => hC.mm 3 0 rfl rfl (by decide) x_ hx_ hy_) (fun hx_ => hC.mm 4 0 rfl rfl (by decide) x_ hx_ hy_)) (fun x_ hx_ hy_ => (List.mem_append.1 hx_).elim (fun hx_ => hC.mm 1 0 rfl rfl (by decide) x_ hx_ hy_) (fun hx_ => hC.mm 2 0 rfl rfl (by decide) x_ hx_ hy_))), (fun b hb => (List.mem_append.1 hb).elim (fun hb => (List.mem_append.1 hb).elim (fun hb => (fun b hb => (List.mem_append.1 hb).elim (fun hb => (own_fresh hC 3 rfl) b hb) (fun hb => (tr_fresh hC 4 rfl) b hb)) b hb) (fun hb => (fun b hb => (List.mem_append.1 hb).elim (fun hb => (own_fresh hC 1 rfl) b hb) (fun hb => (tr_fresh hC 2 rfl) b hb)) b hb)) (fun hb => (own_fresh hC 0 rfl) b hb)), hC.below⟩ (.inl rfl)
 exact res_cellA hC 5 rfl ag53 rfl rfl
def f_impl_NewDesk  (K : Vc.Desk → Prop) : Prop :=
 f_impl_SphereModel 2 (fun r7 r13 => f_impl_SphereModel 2 (fun r31 r37 => K (⟨(⟨r7.degrees, r7.images⟩ : Alg), (⟨r31.degrees, r31.images⟩ : Alg), (⟨[]⟩ : Vc.Form)⟩ : Vc.Desk)))
theorem c_impl_NewDesk   {K : Vc.Desk → Prop} (h : f_impl_NewDesk  K) (w0 : World)  :
  Calls Try.prog 33 #[] w0 fun e w' => ∃ (r0 : Vc.Desk) (z0_0 : Value) (z0_1 : Value) (z0_2 : Value) (z0_3 : Value) (z0_4 : Value) (fz0 : List Nat), 
   e = .returned (.agg #[z0_0, z0_1, z0_2, z0_3, z0_4]) ∧ K r0 ∧ (Tr.item (TrDesk 2 93 51) r0 [z0_0, z0_1, z0_2, z0_3, z0_4] fz0).holds w' ∧ (∀ b, b ∈ fz0 → w0.heap.size ≤ b) ∧ Bel w0 w' := by
 unfold f_impl_NewDesk at h
 refine calls_of (args := []) Try.func33 rfl 16 Try.ntmps33 (Nat.le_of_ble_eq_true rfl) ?_
 have hC := Ctx.start (X := Nox) w0 [] (by simp)
 refine sr ?_
 refine s_alloc hC [.slice none 0 0, .slice none 0 0, .slice none 0 0, .slice none 0 0, .slice none 0 0] z53 rfl fun b1 w3 hB_ hC => ?_
 refine dn ?_
 refine sr ?_
 refine s_call [.int .i64 2] _ Try.func31 rfl rfl rfl (c_impl_SphereModel 2 h _) (fun ret4 w6 hR5 => ?_)
 obtain ⟨r7, u8, u9, f10, r13, rfl, h, hr11, hf12, hB14⟩ := hR5
 refine ⟨_, rfl, ?_⟩
 replace hC := hC.push hB14 (Tr.item (TrAlg 2 93 51) r7 [u8, u9] f10) hr11 hf12
 obtain ⟨f16, ho17, ho18, hs19, hs20, hd21⟩ := alg_split (hC.getM 0 rfl)
 replace hC := hC.split (a := own 2 1 u8 r7.degrees.length ((EI .i64).encs r7.degrees)) (b := Tr.item (Tr.sl 51 (TrForm 93)) r7.images [u9] f16) hs19 hs20 ⟨ho17, ho18, hd21⟩
 refine s_mv (v := .tuple #[.agg #[u8, u9], .int .i64 r13]) rfl ?_
 refine s_ext (v := .agg #[u8, u9]) rfl rfl ?_
 refine s_ext (v := .int .i64 r13) rfl rfl ?_
 refine s_alloc hC [.slice none 0 0, .slice none 0 0] z34 rfl fun b24 w26 hB_ hC => ?_
 refine s_store (v := .agg #[u8, u9]) hC 0 [u8, u9] [u8, u9] rfl ag34.size rfl rfl rfl rfl (all_c (own_oneC (hC.getM 1 rfl)) (all_c (rep_oneC (Tr.trep _ (hC.getM 2 rfl).1)) rfl)) (Nat.le_of_ble_eq_true rfl) rfl fun w27 hC => ?_
 refine s_as (v := .int .i64 r13) rfl ?_
 refine dn ?_
 refine sr ?_
 refine s_call [.int .i64 2] _ Try.func31 rfl rfl rfl (c_impl_SphereModel 2 h _) (fun ret28 w30 hR29 => ?_)
 obtain ⟨r31, u32, u33, f34, r37, rfl, h, hr35, hf36, hB38⟩ := hR29
 refine ⟨_, rfl, ?_⟩
 replace hC := hC.push hB38 (Tr.item (TrAlg 2 93 51) r31 [u32, u33] f34) hr35 hf36
 obtain ⟨f40, ho41, ho42, hs43, hs44, hd45⟩ := alg_split (hC.getM 0 rfl)
 replace hC := hC.split (a := own 2 1 u32 r31.degrees.length ((EI .i64).encs r31.degrees)) (b := Tr.item (Tr.sl 51 (TrForm 93)) r31.images [u33] f40) hs43 hs44 ⟨ho41, ho42, hd45⟩
 refine s_mv (v := .tuple #[.agg #[u32, u33], .int .i64 r37]) rfl ?_
 refine s_ext (v := .agg #[u32, u33]) rfl rfl ?_
 refine s_ext (v := .int .i64 r37) rfl rfl ?_
 refine s_alloc hC [.slice none 0 0, .slice none 0 0] z34 rfl fun b48 w50 hB_ hC => ?_
 refine s_store (v := .agg #[u32, u33]) hC 0 [u32, u33] [u32, u33] rfl ag34.size rfl rfl rfl rfl (all_c (own_oneC (hC.getM 1 rfl)) (all_c (rep_oneC (Tr.trep _ (hC.getM 2 rfl).1)) rfl)) (Nat.le_of_ble_eq_true rfl) rfl fun w51 hC => ?_
 refine s_as (v := .int .i64 r37) rfl ?_
 refine dn ?_
 refine sr ?_
 refine s_loadA hC 3 [u8, u9] rfl ag34 rfl rfl rfl ?_
 refine s_loadA hC 0 [u32, u33] rfl ag34 rfl rfl rfl ?_
 refine s_build [(0, .agg #[u8, u9]), (1, .agg #[u32, u33])] rfl (bl53_0st_1st u8 u9 u32 u33 (own_isSl (hC.getM 4 rfl)) (rep_isSl (Tr.trep _ (hC.getM 5 rfl).1)) (own_isSl (hC.getM 1 rfl)) (rep_isSl (Tr.trep _ (hC.getM 2 rfl).1)) _) ?_
 refine s_store (v := .agg #[u8, u9, u32, u33, .slice none 0 0]) hC 6 [u8, u9, u32, u33, .slice none 0 0] [u8, u9, u32, u33, .slice none 0 0] rfl ag53.size rfl rfl rfl rfl (all_c (own_oneC (hC.getM 4 rfl)) (all_c (rep_oneC (Tr.trep _ (hC.getM 5 rfl).1)) (all_c (own_oneC (hC.getM 1 rfl)) (all_c (rep_oneC (Tr.trep _ (hC.getM 2 rfl).1)) (all_c rfl rfl))))) (Nat.le_of_ble_eq_true rfl) rfl fun w52 hC => ?_
 refine dn ?_
 refine wp_ret ?_
 refine ret1 (fn := Try.f33) rfl ?_ ⟨(⟨(⟨r7.degrees, r7.images⟩ : Alg), (⟨r31.degrees, r31.images⟩ : Alg), (⟨[]⟩ : Vc.Form)⟩ : Vc.Desk), u8, u9, u32, u33, .slice none 0 0, ((((Option.toList (Value.ownBlock u8)) ++ f16) ++ ((Option.toList (Value.ownBlock u32)) ++ f40)) ++ []), rfl, h, (desk_join (alg_join (own_item (hC.getM 4 rfl)) (hC.getM 5 rfl) (fun x hx hx' => hC.mm 4 5 rfl rfl (by decide) x hx hx')) (alg_join (own_item (hC.getM 1 rfl)) (hC.getM 2 rfl) (fun x hx hx' => hC.mm 1 2 rfl rfl (by decide) x hx hx')) (form_join (nil_item _ _ _)) (fun x_ hx_ hy_ => (List.mem_append.1 hx_).elim (fun hx_ => (List.mem_append.1 hy_).elim (fun hy_ => hC.mm 4 1 rfl rfl (by decide) x_ hx_ hy_) (fun hy_ => hC.mm 4 2 rfl rfl (by decide) x_ hx_ hy_)) (fun hx_ => (List.mem_append.1 hy_).elim (fun hy_ => hC.mm 5 1 rfl rfl (by decide) x_ hx_ hy_) (fun hy_ => hC.mm 5 2 rfl rfl (by decide) x_ hx_ hy_))) (fun x_ hx_ hy_ => (List.mem_append.1 hx_).elim (fun hx_ => absurd hy_ (by simp)) (fun hx_ => absurd hy_ (by simp))) (fun x_ hx_ hy_ => (List.mem_append.1 hx_).elim (fun hx_ => absurd hy_ (by simp)) (fun hx_ => absurd hy_ (by simp)))), (fun b hb => (List.mem_append.1 hb).elim (fun hb => (List.mem_append.1 hb).elim (fun hb => (fun b hb => (List.mem_append.1 hb).elim (fun hb => (own_fresh hC 4 rfl) b hb) (fun hb => (tr_fresh hC 5 rfl) b hb)) b hb) (fun hb => (fun b hb => (List.mem_append.1 hb).elim (fun hb => (own_fresh hC 1 rfl) b hb) (fun hb => (tr_fresh hC 2 rfl) b hb)) b hb)) (fun hb => (fun b hb => absurd hb (by simp)) b hb)), hC.below⟩ (.inl rfl)
 exact res_cellA hC 6 rfl ag53 rfl rfl
def f_laws_eqDesk (a0 : Vc.Desk) (a1 : Vc.Desk) (K : Bool → Prop) : Prop :=
 f_laws_eqAlgebra (⟨a0.first.degrees, a0.first.images⟩ : Alg) (⟨a1.first.degrees, a1.first.images⟩ : Alg) (fun r32 => (if ¬ (r32 = true) then K false else f_laws_eqAlgebra (⟨a0.second.degrees, a0.second.images⟩ : Alg) (⟨a1.second.degrees, a1.second.images⟩ : Alg) (fun r38 => (if ¬ (r38 = true) then K false else f_laws_eqForm (⟨a0.form.terms⟩ : Vc.Form) (⟨a1.form.terms⟩ : Vc.Form) (fun r44 => (if ¬ (r44 = true) then K false else K true))))))
theorem c_laws_eqDesk (a0 : Vc.Desk) (a1 : Vc.Desk) {u0_0 : Value} {u0_1 : Value} {u0_2 : Value} {u0_3 : Value} {u0_4 : Value} {u1_0 : Value} {u1_1 : Value} {u1_2 : Value} {u1_3 : Value} {u1_4 : Value} {fp0 : List Nat} {fp1 : List Nat} {K : Bool → Prop} (h : f_laws_eqDesk a0 a1 K) (w0 : World) (q0 : TDesk.rep a0 [u0_0, u0_1, u0_2, u0_3, u0_4] fp0 w0) (q1 : TDesk.rep a1 [u1_0, u1_1, u1_2, u1_3, u1_4] fp1 w0) :
  Calls Try.prog 34 #[.agg #[u0_0, u0_1, u0_2, u0_3, u0_4], .agg #[u1_0, u1_1, u1_2, u1_3, u1_4]] w0 fun e w' => ∃ (r0 : Bool), 
   e = .returned (.bool r0) ∧ K r0 ∧ Bel w0 w' := by
 unfold f_laws_eqDesk at h
 refine calls_of (args := [.agg #[u0_0, u0_1, u0_2, u0_3, u0_4], .agg #[u1_0, u1_1, u1_2, u1_3, u1_4]]) Try.func34 rfl 23 Try.ntmps34 (Nat.le_of_ble_eq_true rfl) ?_
 have hC := Ctx.start (X := Nox) w0 [Ty.item TDesk a0 [u0_0, u0_1, u0_2, u0_3, u0_4] fp0, Ty.item TDesk a1 [u1_0, u1_1, u1_2, u1_3, u1_4] fp1] (by simp only [List.mem_cons, List.not_mem_nil, or_false, forall_eq_or_imp, forall_eq]; exact ⟨q0, q1⟩)
 have hp3 := (hC.getP 0 rfl)
 have hp4 := desk_parts hp3
 have hp5 := hp4.1
 replace hC := hC.derive 0 rfl (Ty.item ((EI .i64).ty.sl) a0.first.degrees [u0_0] fp0) (fun _ => (alg_parts hp5).1) (fun _ hb_ => hb_)
 replace hC := hC.derive 1 rfl (Ty.item TForm.sl a0.first.images [u0_1] fp0) (fun _ => (alg_parts hp5).2) (fun _ hb_ => hb_)
 have hp8 := hp4.2.1
 replace hC := hC.derive 2 rfl (Ty.item ((EI .i64).ty.sl) a0.second.degrees [u0_2] fp0) (fun _ => (alg_parts hp8).1) (fun _ hb_ => hb_)
 replace hC := hC.derive 3 rfl (Ty.item TForm.sl a0.second.images [u0_3] fp0) (fun _ => (alg_parts hp8).2) (fun _ hb_ => hb_)
 have hp11 := hp4.2.2
 replace hC := hC.derive 4 rfl (Ty.item ETerm.ty.sl a0.form.terms [u0_4] fp0) (fun _ => (form_parts hp11)) (fun _ hb_ => hb_)
 have hp13 := (hC.getP 6 rfl)
 have hp14 := desk_parts hp13
 have hp15 := hp14.1
 replace hC := hC.derive 6 rfl (Ty.item ((EI .i64).ty.sl) a1.first.degrees [u1_0] fp1) (fun _ => (alg_parts hp15).1) (fun _ hb_ => hb_)
 replace hC := hC.derive 7 rfl (Ty.item TForm.sl a1.first.images [u1_1] fp1) (fun _ => (alg_parts hp15).2) (fun _ hb_ => hb_)
 have hp18 := hp14.2.1
 replace hC := hC.derive 8 rfl (Ty.item ((EI .i64).ty.sl) a1.second.degrees [u1_2] fp1) (fun _ => (alg_parts hp18).1) (fun _ hb_ => hb_)
 replace hC := hC.derive 9 rfl (Ty.item TForm.sl a1.second.images [u1_3] fp1) (fun _ => (alg_parts hp18).2) (fun _ hb_ => hb_)
 have hp21 := hp14.2.2
 replace hC := hC.derive 10 rfl (Ty.item ETerm.ty.sl a1.form.terms [u1_4] fp1) (fun _ => (form_parts hp21)) (fun _ hb_ => hb_)
 refine sr ?_
 refine s_box (v := .agg #[u0_0, u0_1, u0_2, u0_3, u0_4]) hC [u0_0, u0_1, u0_2, u0_3, u0_4] rfl rfl fun b23 w25 hB_ hC => ?_
 refine s_box (v := .agg #[u1_0, u1_1, u1_2, u1_3, u1_4]) hC [u1_0, u1_1, u1_2, u1_3, u1_4] rfl rfl fun b26 w28 hB_ hC => ?_
 refine s_as (v := .bool false) rfl ?_
 refine dn ?_
 refine wp_seq ?_
 refine sr ?_
 refine s_faddrB 0 Try.underlying53 rfl ag34.size rfl rfl ?_
 refine s_loadA hC 1 [u0_0, u0_1] rfl ag34 rfl rfl rfl ?_
 refine s_faddrB 0 Try.underlying53 rfl ag34.size rfl rfl ?_
 refine s_loadA hC 0 [u1_0, u1_1] rfl ag34 rfl rfl rfl ?_
 refine s_call [.agg #[u0_0, u0_1], .agg #[u1_0, u1_1]] _ Try.func21 rfl rfl rfl (c_laws_eqAlgebra (⟨a0.first.degrees, a0.first.images⟩ : Alg) (⟨a1.first.degrees, a1.first.images⟩ : Alg) h _ (alg_mk (hC.getP 9 rfl) (hC.getP 8 rfl)) (alg_mk (hC.getP 4 rfl) (hC.getP 3 rfl))) (fun ret29 w31 hR30 => ?_)
 obtain ⟨r32, rfl, h, hB33⟩ := hR30
 refine ⟨_, rfl, ?_⟩
 replace hC := hC.grow hB33
 refine s_not rfl ?_
 refine dn ?_
 refine cw_cond rfl (fun hb34 => ?_) (fun hb34 => ?_)
 ·replace h := ift h (ne_t (not_t hb34))
  refine sr ?_
  refine s_as (v := .bool false) rfl ?_
  refine dn ?_
  refine wp_ret (then_ret ?_)
  refine ret1 (fn := Try.f34) rfl ?_ ⟨false, rfl, h, hC.below⟩ (.inl rfl)
  exact res_tmp rfl
 ·replace h := iff_ h (not_not_intro ((not_f hb34)))
  refine wp_skip ?_
  refine then_norm ?_
  refine wp_seq ?_
  refine sr ?_
  refine s_faddrB 2 Try.underlying53 rfl ag34.size rfl rfl ?_
  refine s_loadA hC 1 [u0_2, u0_3] rfl ag34 rfl rfl rfl ?_
  refine s_faddrB 2 Try.underlying53 rfl ag34.size rfl rfl ?_
  refine s_loadA hC 0 [u1_2, u1_3] rfl ag34 rfl rfl rfl ?_
  refine s_call [.agg #[u0_2, u0_3], .agg #[u1_2, u1_3]] _ Try.func21 rfl rfl rfl (c_laws_eqAlgebra (⟨a0.second.degrees, a0.second.images⟩ : Alg) (⟨a1.second.degrees, a1.second.images⟩ : Alg) h _ (alg_mk (hC.getP 7 rfl) (hC.getP 6 rfl)) (alg_mk (hC.getP 2 rfl) (hC.getP 1 rfl))) (fun ret35 w37 hR36 => ?_)
  obtain ⟨r38, rfl, h, hB39⟩ := hR36
  refine ⟨_, rfl, ?_⟩
  replace hC := hC.grow hB39
  refine s_not rfl ?_
  refine dn ?_
  refine cw_cond rfl (fun hb40 => ?_) (fun hb40 => ?_)
  ·replace h := ift h (ne_t (not_t hb40))
   refine sr ?_
   refine s_as (v := .bool false) rfl ?_
   refine dn ?_
   refine wp_ret (then_ret ?_)
   refine ret1 (fn := Try.f34) rfl ?_ ⟨false, rfl, h, hC.below⟩ (.inl rfl)
   exact res_tmp rfl
  ·replace h := iff_ h (not_not_intro ((not_f hb40)))
   refine wp_skip ?_
   refine then_norm ?_
   refine wp_seq ?_
   refine sr ?_
   refine s_faddrB 4 Try.underlying53 rfl ag51.size rfl rfl ?_
   refine s_loadA hC 1 [u0_4] rfl ag51 rfl rfl rfl ?_
   refine s_faddrB 4 Try.underlying53 rfl ag51.size rfl rfl ?_
   refine s_loadA hC 0 [u1_4] rfl ag51 rfl rfl rfl ?_
   refine s_call [.agg #[u0_4], .agg #[u1_4]] _ Try.func43 rfl rfl rfl (c_laws_eqForm (⟨a0.form.terms⟩ : Vc.Form) (⟨a1.form.terms⟩ : Vc.Form) h _ (form_mk (hC.getP 5 rfl)) (form_mk (hC.getP 0 rfl))) (fun ret41 w43 hR42 => ?_)
   obtain ⟨r44, rfl, h, hB45⟩ := hR42
   refine ⟨_, rfl, ?_⟩
   replace hC := hC.grow hB45
   refine s_not rfl ?_
   refine dn ?_
   refine cw_cond rfl (fun hb46 => ?_) (fun hb46 => ?_)
   ·replace h := ift h (ne_t (not_t hb46))
    refine sr ?_
    refine s_as (v := .bool false) rfl ?_
    refine dn ?_
    refine wp_ret (then_ret ?_)
    refine ret1 (fn := Try.f34) rfl ?_ ⟨false, rfl, h, hC.below⟩ (.inl rfl)
    exact res_tmp rfl
   ·replace h := iff_ h (not_not_intro ((not_f hb46)))
    refine wp_skip ?_
    refine then_norm ?_
    refine sr ?_
    refine s_as (v := .bool true) rfl ?_
    refine dn ?_
    refine wp_ret ?_
    refine ret1 (fn := Try.f34) rfl ?_ ⟨true, rfl, h, hC.below⟩ (.inl rfl)
    exact res_tmp rfl
def f_laws_markDesk (a0 : Vc.Desk) (a1 : Int) (K : Int → Vc.Desk → Prop) : Prop :=
 f_laws_markAlgebra (⟨a0.first.degrees, a0.first.images⟩ : Alg) a1 (fun r12 m14 => f_laws_markAlgebra (⟨a0.second.degrees, a0.second.images⟩ : Alg) r12 (fun r20 m22 => f_laws_markForm (⟨a0.form.terms⟩ : Vc.Form) r20 (fun r28 m30 => K r28 (⟨(⟨m14.degrees, m14.images⟩ : Alg), (⟨m22.degrees, m22.images⟩ : Alg), (⟨m30.terms⟩ : Vc.Form)⟩ : Vc.Desk))))
theorem c_laws_markDesk (a0 : Vc.Desk) (a1 : Int) {u0_0 : Value} {u0_1 : Value} {u0_2 : Value} {u0_3 : Value} {u0_4 : Value} {fp0_1 : List Nat} {fp0_3 : List Nat} {K : Int → Vc.Desk → Prop} (h : f_laws_markDesk a0 a1 K) (w0 : World) (qw0 : (own 2 1 u0_0 a0.first.degrees.length ((EI .i64).encs a0.first.degrees)).holds w0) (qw1 : (Tr.item (Tr.sl 51 (TrForm 93)) a0.first.images [u0_1] fp0_1).holds w0) (qw2 : (own 2 1 u0_2 a0.second.degrees.length ((EI .i64).encs a0.second.degrees)).holds w0) (qw3 : (Tr.item (Tr.sl 51 (TrForm 93)) a0.second.images [u0_3] fp0_3).holds w0) (qw4 : (own 93 9 u0_4 a0.form.terms.length (ETerm.encs a0.form.terms)).holds w0) (dw0_1 : ∀ x, x ∈ (Option.toList (Value.ownBlock u0_0)) → x ∉ fp0_1) (dw0_2 : ∀ x, x ∈ (Option.toList (Value.ownBlock u0_0)) → x ∉ (Option.toList (Value.ownBlock u0_2))) (dw0_3 : ∀ x, x ∈ (Option.toList (Value.ownBlock u0_0)) → x ∉ fp0_3) (dw0_4 : ∀ x, x ∈ (Option.toList (Value.ownBlock u0_0)) → x ∉ (Option.toList (Value.ownBlock u0_4))) (dw1_2 : ∀ x, x ∈ fp0_1 → x ∉ (Option.toList (Value.ownBlock u0_2))) (dw1_3 : ∀ x, x ∈ fp0_1 → x ∉ fp0_3) (dw1_4 : ∀ x, x ∈ fp0_1 → x ∉ (Option.toList (Value.ownBlock u0_4))) (dw2_3 : ∀ x, x ∈ (Option.toList (Value.ownBlock u0_2)) → x ∉ fp0_3) (dw2_4 : ∀ x, x ∈ (Option.toList (Value.ownBlock u0_2)) → x ∉ (Option.toList (Value.ownBlock u0_4))) (dw3_4 : ∀ x, x ∈ fp0_3 → x ∉ (Option.toList (Value.ownBlock u0_4))) :
  Calls Try.prog 35 #[.agg #[u0_0, u0_1, u0_2, u0_3, u0_4], .int .i64 a1] w0 fun e w' => ∃ (r0 : Int) (mw : Vc.Desk), 
   e = .returned (.int .i64 r0) ∧ K r0 mw ∧ (own 2 1 u0_0 mw.first.degrees.length ((EI .i64).encs mw.first.degrees)).holds w' ∧ (Tr.item (Tr.sl 51 (TrForm 93)) mw.first.images [u0_1] fp0_1).holds w' ∧ (own 2 1 u0_2 mw.second.degrees.length ((EI .i64).encs mw.second.degrees)).holds w' ∧ (Tr.item (Tr.sl 51 (TrForm 93)) mw.second.images [u0_3] fp0_3).holds w' ∧ (own 93 9 u0_4 mw.form.terms.length (ETerm.encs mw.form.terms)).holds w' ∧ BelO ((Option.toList (Value.ownBlock u0_0)) ++ fp0_1 ++ (Option.toList (Value.ownBlock u0_2)) ++ fp0_3 ++ (Option.toList (Value.ownBlock u0_4))) w0 w' := by
 unfold f_laws_markDesk at h
 refine calls_of (args := [.agg #[u0_0, u0_1, u0_2, u0_3, u0_4], .int .i64 a1]) Try.func35 rfl 18 Try.ntmps35 (Nat.le_of_ble_eq_true rfl) ?_
 have hC := Ctx.startL w0 ((Option.toList (Value.ownBlock u0_0)) ++ fp0_1 ++ (Option.toList (Value.ownBlock u0_2)) ++ fp0_3 ++ (Option.toList (Value.ownBlock u0_4))) [own 2 1 u0_0 a0.first.degrees.length ((EI .i64).encs a0.first.degrees), Tr.item (Tr.sl 51 (TrForm 93)) a0.first.images [u0_1] fp0_1, own 2 1 u0_2 a0.second.degrees.length ((EI .i64).encs a0.second.degrees), Tr.item (Tr.sl 51 (TrForm 93)) a0.second.images [u0_3] fp0_3, own 93 9 u0_4 a0.form.terms.length (ETerm.encs a0.form.terms)] [] (by simp only [List.mem_cons, List.not_mem_nil, or_false, forall_eq_or_imp, forall_eq]; exact ⟨qw0, qw1, qw2, qw3, qw4⟩) (by simp) (by simp only [List.mem_cons, List.not_mem_nil, or_false, forall_eq_or_imp, forall_eq]; exact ⟨fun b hb => (List.mem_append_left _ (List.mem_append_left _ (List.mem_append_left _ (List.mem_append_left _ hb)))), fun b hb => (List.mem_append_left _ (List.mem_append_left _ (List.mem_append_left _ (List.mem_append_right _ hb)))), fun b hb => (List.mem_append_left _ (List.mem_append_left _ (List.mem_append_right _ hb))), fun b hb => (List.mem_append_left _ (List.mem_append_right _ hb)), fun b hb => (List.mem_append_right _ hb)⟩) (List.pairwise_cons.2 ⟨(by simp only [List.mem_cons, List.not_mem_nil, or_false, forall_eq_or_imp, forall_eq]; exact ⟨dw0_1, dw0_2, dw0_3, dw0_4⟩), (List.pairwise_cons.2 ⟨(by simp only [List.mem_cons, List.not_mem_nil, or_false, forall_eq_or_imp, forall_eq]; exact ⟨dw1_2, dw1_3, dw1_4⟩), (List.pairwise_cons.2 ⟨(by simp only [List.mem_cons, List.not_mem_nil, or_false, forall_eq_or_imp, forall_eq]; exact ⟨dw2_3, dw2_4⟩), (List.pairwise_cons.2 ⟨(by simp only [List.mem_cons, List.not_mem_nil, or_false, forall_eq_or_imp, forall_eq]; exact dw3_4), (List.pairwise_singleton _ _)⟩)⟩)⟩)⟩) (by simp)
 refine sr ?_
 refine s_box (v := .agg #[u0_0, u0_1, u0_2, u0_3, u0_4]) hC [u0_0, u0_1, u0_2, u0_3, u0_4] rfl rfl fun b6 w8 hB_ hC => ?_
 refine s_as (v := .int .i64 0) rfl ?_
 refine dn ?_
 refine sr ?_
 refine s_faddrB 0 Try.underlying53 rfl ag34.size rfl rfl ?_
 refine s_loadA hC 0 [u0_0, u0_1] rfl ag34 rfl rfl rfl ?_
 refine s_mv (v := .int .i64 a1) rfl ?_
 refine s_call [.agg #[u0_0, u0_1], .int .i64 a1] _ Try.func22 rfl rfl rfl (c_laws_markAlgebra (⟨a0.first.degrees, a0.first.images⟩ : Alg) a1 h _ (hC.getM 1 rfl) (hC.getM 2 rfl) (hC.mm 1 2 rfl rfl (by decide))) (fun ret9 w11 hR10 => ?_)
 obtain ⟨r12, m14, rfl, h, hm15, hm16, hB13⟩ := hR10
 refine ⟨_, rfl, ?_⟩
 replace hC := hC.turnL hB13 (M' := [blk b6 53 [u0_0, u0_1, u0_2, u0_3, u0_4], own 2 1 u0_0 m14.degrees.length ((EI .i64).encs m14.degrees), Tr.item (Tr.sl 51 (TrForm 93)) m14.images [u0_1] fp0_1, own 2 1 u0_2 a0.second.degrees.length ((EI .i64).encs a0.second.degrees), Tr.item (Tr.sl 51 (TrForm 93)) a0.second.images [u0_3] fp0_3, own 93 9 u0_4 a0.form.terms.length (ETerm.encs a0.form.terms)]) rfl (fun x_ hx_ => (List.mem_append.1 hx_).elim (fun hx_ => ⟨_, List.mem_of_getElem? (i := 1) rfl, hx_⟩) (fun hx_ => ⟨_, List.mem_of_getElem? (i := 2) rfl, hx_⟩)) (by simp only [List.mem_cons, List.not_mem_nil, or_false, forall_eq_or_imp, forall_eq]; exact ⟨(hC.stay 0 rfl hB13 (fun x_ hq_ hx_ => (List.mem_append.1 hx_).elim (fun hx_ => hC.mm 0 1 rfl rfl (by decide) x_ hq_ hx_) (fun hx_ => hC.mm 0 2 rfl rfl (by decide) x_ hq_ hx_))), hm15, hm16, (hC.stay 3 rfl hB13 (fun x_ hq_ hx_ => (List.mem_append.1 hx_).elim (fun hx_ => hC.mm 3 1 rfl rfl (by decide) x_ hq_ hx_) (fun hx_ => hC.mm 3 2 rfl rfl (by decide) x_ hq_ hx_))), (hC.stay 4 rfl hB13 (fun x_ hq_ hx_ => (List.mem_append.1 hx_).elim (fun hx_ => hC.mm 4 1 rfl rfl (by decide) x_ hq_ hx_) (fun hx_ => hC.mm 4 2 rfl rfl (by decide) x_ hq_ hx_))), (hC.stay 5 rfl hB13 (fun x_ hq_ hx_ => (List.mem_append.1 hx_).elim (fun hx_ => hC.mm 5 1 rfl rfl (by decide) x_ hq_ hx_) (fun hx_ => hC.mm 5 2 rfl rfl (by decide) x_ hq_ hx_)))⟩)
 refine s_as (v := .int .i64 r12) rfl ?_
 refine dn ?_
 refine sr ?_
 refine s_faddrB 2 Try.underlying53 rfl ag34.size rfl rfl ?_
 refine s_loadA hC 0 [u0_2, u0_3] rfl ag34 rfl rfl rfl ?_
 refine s_mv (v := .int .i64 r12) rfl ?_
 refine s_call [.agg #[u0_2, u0_3], .int .i64 r12] _ Try.func22 rfl rfl rfl (c_laws_markAlgebra (⟨a0.second.degrees, a0.second.images⟩ : Alg) r12 h _ (hC.getM 3 rfl) (hC.getM 4 rfl) (hC.mm 3 4 rfl rfl (by decide))) (fun ret17 w19 hR18 => ?_)
 obtain ⟨r20, m22, rfl, h, hm23, hm24, hB21⟩ := hR18
 refine ⟨_, rfl, ?_⟩
 replace hC := hC.turnL hB21 (M' := [blk b6 53 [u0_0, u0_1, u0_2, u0_3, u0_4], own 2 1 u0_0 m14.degrees.length ((EI .i64).encs m14.degrees), Tr.item (Tr.sl 51 (TrForm 93)) m14.images [u0_1] fp0_1, own 2 1 u0_2 m22.degrees.length ((EI .i64).encs m22.degrees), Tr.item (Tr.sl 51 (TrForm 93)) m22.images [u0_3] fp0_3, own 93 9 u0_4 a0.form.terms.length (ETerm.encs a0.form.terms)]) rfl (fun x_ hx_ => (List.mem_append.1 hx_).elim (fun hx_ => ⟨_, List.mem_of_getElem? (i := 3) rfl, hx_⟩) (fun hx_ => ⟨_, List.mem_of_getElem? (i := 4) rfl, hx_⟩)) (by simp only [List.mem_cons, List.not_mem_nil, or_false, forall_eq_or_imp, forall_eq]; exact ⟨(hC.stay 0 rfl hB21 (fun x_ hq_ hx_ => (List.mem_append.1 hx_).elim (fun hx_ => hC.mm 0 3 rfl rfl (by decide) x_ hq_ hx_) (fun hx_ => hC.mm 0 4 rfl rfl (by decide) x_ hq_ hx_))), (hC.stay 1 rfl hB21 (fun x_ hq_ hx_ => (List.mem_append.1 hx_).elim (fun hx_ => hC.mm 1 3 rfl rfl (by decide) x_ hq_ hx_) (fun hx_ => hC.mm 1 4 rfl rfl (by decide) x_ hq_ hx_))), (hC.stay 2 rfl hB21 (fun x_ hq_ hx_ => (List.mem_append.1 hx_).elim (fun hx_ => hC.mm 2 3 rfl rfl (by decide) x_ hq_ hx_) (fun hx_ => hC.mm 2 4 rfl rfl (by decide) x_ hq_ hx_))), hm23, hm24, (hC.stay 5 rfl hB21 (fun x_ hq_ hx_ => (List.mem_append.1 hx_).elim (fun hx_ => hC.mm 5 3 rfl rfl (by decide) x_ hq_ hx_) (fun hx_ => hC.mm 5 4 rfl rfl (by decide) x_ hq_ hx_)))⟩)
 refine s_as (v := .int .i64 r20) rfl ?_
 refine dn ?_
 refine sr ?_
 refine s_faddrB 4 Try.underlying53 rfl ag51.size rfl rfl ?_
 refine s_loadA hC 0 [u0_4] rfl ag51 rfl rfl rfl ?_
 refine s_mv (v := .int .i64 r20) rfl ?_
 refine s_call [.agg #[u0_4], .int .i64 r20] _ Try.func44 rfl rfl rfl (c_laws_markForm (⟨a0.form.terms⟩ : Vc.Form) r20 h _ (hC.getM 5 rfl)) (fun ret25 w27 hR26 => ?_)
 obtain ⟨r28, m30, rfl, h, hm31, hB29⟩ := hR26
 refine ⟨_, rfl, ?_⟩
 replace hC := hC.turnL hB29 (M' := [blk b6 53 [u0_0, u0_1, u0_2, u0_3, u0_4], own 2 1 u0_0 m14.degrees.length ((EI .i64).encs m14.degrees), Tr.item (Tr.sl 51 (TrForm 93)) m14.images [u0_1] fp0_1, own 2 1 u0_2 m22.degrees.length ((EI .i64).encs m22.degrees), Tr.item (Tr.sl 51 (TrForm 93)) m22.images [u0_3] fp0_3, own 93 9 u0_4 m30.terms.length (ETerm.encs m30.terms)]) rfl (fun x_ hx_ => ⟨_, List.mem_of_getElem? (i := 5) rfl, hx_⟩) (by simp only [List.mem_cons, List.not_mem_nil, or_false, forall_eq_or_imp, forall_eq]; exact ⟨(hC.stay 0 rfl hB29 (fun x_ hq_ hx_ => hC.mm 0 5 rfl rfl (by decide) x_ hq_ hx_)), (hC.stay 1 rfl hB29 (fun x_ hq_ hx_ => hC.mm 1 5 rfl rfl (by decide) x_ hq_ hx_)), (hC.stay 2 rfl hB29 (fun x_ hq_ hx_ => hC.mm 2 5 rfl rfl (by decide) x_ hq_ hx_)), (hC.stay 3 rfl hB29 (fun x_ hq_ hx_ => hC.mm 3 5 rfl rfl (by decide) x_ hq_ hx_)), (hC.stay 4 rfl hB29 (fun x_ hq_ hx_ => hC.mm 4 5 rfl rfl (by decide) x_ hq_ hx_)), hm31⟩)
 refine s_as (v := .int .i64 r28) rfl ?_
 refine dn ?_
 refine sr ?_
 refine s_mv (v := .int .i64 r28) rfl ?_
 refine s_as (v := .int .i64 r28) rfl ?_
 refine dn ?_
 refine wp_ret ?_
 refine ret1 (fn := Try.f35) rfl ?_ ⟨r28, (⟨(⟨m14.degrees, m14.images⟩ : Alg), (⟨m22.degrees, m22.images⟩ : Alg), (⟨m30.terms⟩ : Vc.Form)⟩ : Vc.Desk), rfl, h, (hC.getM 1 rfl), (hC.getM 2 rfl), (hC.getM 3 rfl), (hC.getM 4 rfl), (hC.getM 5 rfl), hC.belO⟩ (.inl rfl)
 exact res_tmp rfl
def f_laws_heldDesk (a0 : Vc.Desk) (a1 : Int) (K : Int → Prop) : Prop :=
 f_laws_heldAlgebra (⟨a0.first.degrees, a0.first.images⟩ : Alg) a1 (fun r18 => (if r18 < 0 then K (-1) else f_laws_heldAlgebra (⟨a0.second.degrees, a0.second.images⟩ : Alg) r18 (fun r24 => (if r24 < 0 then K (-1) else f_laws_heldForm (⟨a0.form.terms⟩ : Vc.Form) r24 (fun r30 => (if r30 < 0 then K (-1) else K r30))))))
theorem c_laws_heldDesk (a0 : Vc.Desk) (a1 : Int) {u0_0 : Value} {u0_1 : Value} {u0_2 : Value} {u0_3 : Value} {u0_4 : Value} {fp0 : List Nat} {K : Int → Prop} (h : f_laws_heldDesk a0 a1 K) (w0 : World) (q0 : TDesk.rep a0 [u0_0, u0_1, u0_2, u0_3, u0_4] fp0 w0) :
  Calls Try.prog 36 #[.agg #[u0_0, u0_1, u0_2, u0_3, u0_4], .int .i64 a1] w0 fun e w' => ∃ (r0 : Int), 
   e = .returned (.int .i64 r0) ∧ K r0 ∧ Bel w0 w' := by
 unfold f_laws_heldDesk at h
 refine calls_of (args := [.agg #[u0_0, u0_1, u0_2, u0_3, u0_4], .int .i64 a1]) Try.func36 rfl 24 Try.ntmps36 (Nat.le_of_ble_eq_true rfl) ?_
 have hC := Ctx.start (X := Nox) w0 [Ty.item TDesk a0 [u0_0, u0_1, u0_2, u0_3, u0_4] fp0] (by simp only [List.mem_cons, List.not_mem_nil, or_false, forall_eq_or_imp, forall_eq]; exact q0)
 have hp2 := (hC.getP 0 rfl)
 have hp3 := desk_parts hp2
 have hp4 := hp3.1
 replace hC := hC.derive 0 rfl (Ty.item ((EI .i64).ty.sl) a0.first.degrees [u0_0] fp0) (fun _ => (alg_parts hp4).1) (fun _ hb_ => hb_)
 replace hC := hC.derive 1 rfl (Ty.item TForm.sl a0.first.images [u0_1] fp0) (fun _ => (alg_parts hp4).2) (fun _ hb_ => hb_)
 have hp7 := hp3.2.1
 replace hC := hC.derive 2 rfl (Ty.item ((EI .i64).ty.sl) a0.second.degrees [u0_2] fp0) (fun _ => (alg_parts hp7).1) (fun _ hb_ => hb_)
 replace hC := hC.derive 3 rfl (Ty.item TForm.sl a0.second.images [u0_3] fp0) (fun _ => (alg_parts hp7).2) (fun _ hb_ => hb_)
 have hp10 := hp3.2.2
 replace hC := hC.derive 4 rfl (Ty.item ETerm.ty.sl a0.form.terms [u0_4] fp0) (fun _ => (form_parts hp10)) (fun _ hb_ => hb_)
 refine sr ?_
 refine s_box (v := .agg #[u0_0, u0_1, u0_2, u0_3, u0_4]) hC [u0_0, u0_1, u0_2, u0_3, u0_4] rfl rfl fun b12 w14 hB_ hC => ?_
 refine s_as (v := .int .i64 0) rfl ?_
 refine dn ?_
 refine sr ?_
 refine s_faddrB 0 Try.underlying53 rfl ag34.size rfl rfl ?_
 refine s_loadA hC 0 [u0_0, u0_1] rfl ag34 rfl rfl rfl ?_
 refine s_mv (v := .int .i64 a1) rfl ?_
 refine s_call [.agg #[u0_0, u0_1], .int .i64 a1] _ Try.func23 rfl rfl rfl (c_laws_heldAlgebra (⟨a0.first.degrees, a0.first.images⟩ : Alg) a1 h _ (alg_mk (hC.getP 4 rfl) (hC.getP 3 rfl))) (fun ret15 w17 hR16 => ?_)
 obtain ⟨r18, rfl, h, hB19⟩ := hR16
 refine ⟨_, rfl, ?_⟩
 replace hC := hC.grow hB19
 refine s_as (v := .int .i64 r18) rfl ?_
 refine dn ?_
 refine wp_seq ?_
 refine sr ?_
 refine s_mv (v := .int .i64 r18) rfl ?_
 refine s_lss rfl rfl ?_
 refine dn ?_
 refine cw_cond rfl (fun hb20 => ?_) (fun hb20 => ?_)
 ·replace h := ift h (ct hb20)
  refine sr ?_
  refine s_as (v := .int .i64 (-1)) rfl ?_
  refine dn ?_
  refine wp_ret (then_ret ?_)
  refine ret1 (fn := Try.f36) rfl ?_ ⟨(-1), rfl, h, hC.below⟩ (.inl rfl)
  exact res_tmp rfl
 ·replace h := iff_ h (cf hb20)
  refine wp_skip ?_
  refine then_norm ?_
  refine sr ?_
  refine s_faddrB 2 Try.underlying53 rfl ag34.size rfl rfl ?_
  refine s_loadA hC 0 [u0_2, u0_3] rfl ag34 rfl rfl rfl ?_
  refine s_mv (v := .int .i64 r18) rfl ?_
  refine s_call [.agg #[u0_2, u0_3], .int .i64 r18] _ Try.func23 rfl rfl rfl (c_laws_heldAlgebra (⟨a0.second.degrees, a0.second.images⟩ : Alg) r18 h _ (alg_mk (hC.getP 2 rfl) (hC.getP 1 rfl))) (fun ret21 w23 hR22 => ?_)
  obtain ⟨r24, rfl, h, hB25⟩ := hR22
  refine ⟨_, rfl, ?_⟩
  replace hC := hC.grow hB25
  refine s_as (v := .int .i64 r24) rfl ?_
  refine dn ?_
  refine wp_seq ?_
  refine sr ?_
  refine s_mv (v := .int .i64 r24) rfl ?_
  refine s_lss rfl rfl ?_
  refine dn ?_
  refine cw_cond rfl (fun hb26 => ?_) (fun hb26 => ?_)
  ·replace h := ift h (ct hb26)
   refine sr ?_
   refine s_as (v := .int .i64 (-1)) rfl ?_
   refine dn ?_
   refine wp_ret (then_ret ?_)
   refine ret1 (fn := Try.f36) rfl ?_ ⟨(-1), rfl, h, hC.below⟩ (.inl rfl)
   exact res_tmp rfl
  ·replace h := iff_ h (cf hb26)
   refine wp_skip ?_
   refine then_norm ?_
   refine sr ?_
   refine s_faddrB 4 Try.underlying53 rfl ag51.size rfl rfl ?_
   refine s_loadA hC 0 [u0_4] rfl ag51 rfl rfl rfl ?_
   refine s_mv (v := .int .i64 r24) rfl ?_
   refine s_call [.agg #[u0_4], .int .i64 r24] _ Try.func45 rfl rfl rfl (c_laws_heldForm (⟨a0.form.terms⟩ : Vc.Form) r24 h _ (form_mk (hC.getP 0 rfl))) (fun ret27 w29 hR28 => ?_)
   obtain ⟨r30, rfl, h, hB31⟩ := hR28
   refine ⟨_, rfl, ?_⟩
   replace hC := hC.grow hB31
   refine s_as (v := .int .i64 r30) rfl ?_
   refine dn ?_
   refine wp_seq ?_
   refine sr ?_
   refine s_mv (v := .int .i64 r30) rfl ?_
   refine s_lss rfl rfl ?_
   refine dn ?_
   refine cw_cond rfl (fun hb32 => ?_) (fun hb32 => ?_)
   ·replace h := ift h (ct hb32)
    refine sr ?_
    refine s_as (v := .int .i64 (-1)) rfl ?_
    refine dn ?_
    refine wp_ret (then_ret ?_)
    refine ret1 (fn := Try.f36) rfl ?_ ⟨(-1), rfl, h, hC.below⟩ (.inl rfl)
    exact res_tmp rfl
   ·replace h := iff_ h (cf hb32)
    refine wp_skip ?_
    refine then_norm ?_
    refine sr ?_
    refine s_mv (v := .int .i64 r30) rfl ?_
    refine s_as (v := .int .i64 r30) rfl ?_
    refine dn ?_
    refine wp_ret ?_
    refine ret1 (fn := Try.f36) rfl ?_ ⟨r30, rfl, h, hC.below⟩ (.inl rfl)
    exact res_tmp rfl
def f_laws_FnExactNewDesk  (K : Bool → Prop) : Prop :=
 f_spec_NewDesk  (fun r4 => f_impl_NewDesk  (fun r29 => f_laws_eqDesk r29 r4 (fun r54 => (if ¬ (r54 = true) then K false else f_laws_markDesk r29 1 (fun r60 m62 => f_laws_heldDesk (⟨(⟨m62.first.degrees, m62.first.images⟩ : Alg), (⟨m62.second.degrees, m62.second.images⟩ : Alg), (⟨m62.form.terms⟩ : Vc.Form)⟩ : Vc.Desk) 1 (fun r71 => (if r71 < 0 then K false else (if r71 ≠ r60 then K false else f_impl_NewDesk  (fun r78 => f_laws_eqDesk r78 (⟨(⟨r4.first.degrees, r4.first.images⟩ : Alg), (⟨r4.second.degrees, r4.second.images⟩ : Alg), (⟨r4.form.terms⟩ : Vc.Form)⟩ : Vc.Desk) (fun r103 => (if ¬ (r103 = true) then K false else f_laws_heldDesk (⟨(⟨m62.first.degrees, m62.first.images⟩ : Alg), (⟨m62.second.degrees, m62.second.images⟩ : Alg), (⟨m62.form.terms⟩ : Vc.Form)⟩ : Vc.Desk) 1 (fun r109 => (if r109 < 0 then K false else (if r109 ≠ r60 then K false else K true))))))))))))))
theorem c_laws_FnExactNewDesk   {K : Bool → Prop} (h : f_laws_FnExactNewDesk  K) (w0 : World)  :
  Calls Try.prog 7 #[] w0 fun e w' => ∃ (r0 : Bool), 
   e = .returned (.bool r0) ∧ K r0 ∧ Bel w0 w' := by
 unfold f_laws_FnExactNewDesk at h
 refine calls_of (args := []) Try.func7 rfl 36 Try.ntmps7 (Nat.le_of_ble_eq_true rfl) ?_
 have hC := Ctx.start (X := Nox) w0 [] (by simp)
 refine sr ?_
 refine s_as (v := .bool false) rfl ?_
 refine dn ?_
 refine sr ?_
 refine s_call [] _ Try.func32 rfl rfl rfl (c_spec_NewDesk h _) (fun ret1 w3 hR2 => ?_)
 obtain ⟨r4, u5, u6, u7, u8, u9, f10, rfl, h, hr11, hf12, hB13⟩ := hR2
 refine ⟨_, rfl, ?_⟩
 replace hC := hC.push hB13 (Tr.item (TrDesk 2 93 51) r4 [u5, u6, u7, u8, u9] f10) hr11 hf12
 obtain ⟨f15, f16, hC⟩ := hC.splitDesk
 refine s_alloc hC [.slice none 0 0, .slice none 0 0, .slice none 0 0, .slice none 0 0, .slice none 0 0] z53 rfl fun b22 w24 hB_ hC => ?_
 refine s_store (v := .agg #[u5, u6, u7, u8, u9]) hC 0 [u5, u6, u7, u8, u9] [u5, u6, u7, u8, u9] rfl ag53.size rfl rfl rfl rfl (all_c (own_oneC (hC.getM 4 rfl)) (all_c (rep_oneC (Tr.trep _ (hC.getM 5 rfl).1)) (all_c (own_oneC (hC.getM 2 rfl)) (all_c (rep_oneC (Tr.trep _ (hC.getM 3 rfl).1)) (all_c (own_oneC (hC.getM 1 rfl)) rfl))))) (Nat.le_of_ble_eq_true rfl) rfl fun w25 hC => ?_
 refine dn ?_
 refine sr ?_
 refine s_call [] _ Try.func33 rfl rfl rfl (c_impl_NewDesk h _) (fun ret26 w28 hR27 => ?_)
 obtain ⟨r29, u30, u31, u32, u33, u34, f35, rfl, h, hr36, hf37, hB38⟩ := hR27
 refine ⟨_, rfl, ?_⟩
 replace hC := hC.push hB38 (Tr.item (TrDesk 2 93 51) r29 [u30, u31, u32, u33, u34] f35) hr36 hf37
 obtain ⟨f40, f41, hC⟩ := hC.splitDesk
 refine s_alloc hC [.slice none 0 0, .slice none 0 0, .slice none 0 0, .slice none 0 0, .slice none 0 0] z53 rfl fun b47 w49 hB_ hC => ?_
 refine s_store (v := .agg #[u30, u31, u32, u33, u34]) hC 0 [u30, u31, u32, u33, u34] [u30, u31, u32, u33, u34] rfl ag53.size rfl rfl rfl rfl (all_c (own_oneC (hC.getM 4 rfl)) (all_c (rep_oneC (Tr.trep _ (hC.getM 5 rfl).1)) (all_c (own_oneC (hC.getM 2 rfl)) (all_c (rep_oneC (Tr.trep _ (hC.getM 3 rfl).1)) (all_c (own_oneC (hC.getM 1 rfl)) rfl))))) (Nat.le_of_ble_eq_true rfl) rfl fun w50 hC => ?_
 refine dn ?_
 refine wp_seq ?_
 refine sr ?_
 refine s_loadA hC 0 [u30, u31, u32, u33, u34] rfl ag53 rfl rfl rfl ?_
 refine s_loadA hC 6 [u5, u6, u7, u8, u9] rfl ag53 rfl rfl rfl ?_
 refine s_call [.agg #[u30, u31, u32, u33, u34], .agg #[u5, u6, u7, u8, u9]] _ Try.func34 rfl rfl rfl (c_laws_eqDesk r29 r4 h _ (desk_mk (alg_mk (own_repE (hC.getM 4 rfl)) (Tr.trep _ (hC.getM 5 rfl).1)) (alg_mk (own_repE (hC.getM 2 rfl)) (Tr.trep _ (hC.getM 3 rfl).1)) (form_mk (own_repE (hC.getM 1 rfl)))) (desk_mk (alg_mk (own_repE (hC.getM 10 rfl)) (Tr.trep _ (hC.getM 11 rfl).1)) (alg_mk (own_repE (hC.getM 8 rfl)) (Tr.trep _ (hC.getM 9 rfl).1)) (form_mk (own_repE (hC.getM 7 rfl))))) (fun ret51 w53 hR52 => ?_)
 obtain ⟨r54, rfl, h, hB55⟩ := hR52
 refine ⟨_, rfl, ?_⟩
 replace hC := hC.grow hB55
 refine s_not rfl ?_
 refine dn ?_
 refine cw_cond rfl (fun hb56 => ?_) (fun hb56 => ?_)
 ·replace h := ift h (ne_t (not_t hb56))
  refine sr ?_
  refine s_as (v := .bool false) rfl ?_
  refine dn ?_
  refine wp_ret (then_ret ?_)
  refine ret1 (fn := Try.f7) rfl ?_ ⟨false, rfl, h, hC.below⟩ (.inl rfl)
  exact res_tmp rfl
 ·replace h := iff_ h (not_not_intro ((not_f hb56)))
  refine wp_skip ?_
  refine then_norm ?_
  refine sr ?_
  refine s_as (v := .int .i64 1) rfl ?_
  refine dn ?_
  refine sr ?_
  refine s_loadA hC 0 [u30, u31, u32, u33, u34] rfl ag53 rfl rfl rfl ?_
  refine s_mv (v := .int .i64 1) rfl ?_
  refine s_call [.agg #[u30, u31, u32, u33, u34], .int .i64 1] _ Try.func35 rfl rfl rfl (c_laws_markDesk r29 1 h _ (hC.getM 4 rfl) (hC.getM 5 rfl) (hC.getM 2 rfl) (hC.getM 3 rfl) (hC.getM 1 rfl) (hC.mm 4 5 rfl rfl (by decide)) (hC.mm 4 2 rfl rfl (by decide)) (hC.mm 4 3 rfl rfl (by decide)) (hC.mm 4 1 rfl rfl (by decide)) (hC.mm 5 2 rfl rfl (by decide)) (hC.mm 5 3 rfl rfl (by decide)) (hC.mm 5 1 rfl rfl (by decide)) (hC.mm 2 3 rfl rfl (by decide)) (hC.mm 2 1 rfl rfl (by decide)) (hC.mm 3 1 rfl rfl (by decide))) (fun ret57 w59 hR58 => ?_)
  obtain ⟨r60, m62, rfl, h, hm63, hm64, hm65, hm66, hm67, hB61⟩ := hR58
  refine ⟨_, rfl, ?_⟩
  replace hC := hC.turnL hB61 (M' := [blk b47 53 [u30, u31, u32, u33, u34], own 93 9 u34 m62.form.terms.length (ETerm.encs m62.form.terms), own 2 1 u32 m62.second.degrees.length ((EI .i64).encs m62.second.degrees), Tr.item (Tr.sl 51 (TrForm 93)) m62.second.images [u33] f41, own 2 1 u30 m62.first.degrees.length ((EI .i64).encs m62.first.degrees), Tr.item (Tr.sl 51 (TrForm 93)) m62.first.images [u31] f40, blk b22 53 [u5, u6, u7, u8, u9], own 93 9 u9 r4.form.terms.length (ETerm.encs r4.form.terms), own 2 1 u7 r4.second.degrees.length ((EI .i64).encs r4.second.degrees), Tr.item (Tr.sl 51 (TrForm 93)) r4.second.images [u8] f16, own 2 1 u5 r4.first.degrees.length ((EI .i64).encs r4.first.degrees), Tr.item (Tr.sl 51 (TrForm 93)) r4.first.images [u6] f15]) rfl (fun x_ hx_ => (List.mem_append.1 hx_).elim (fun hx_ => (List.mem_append.1 hx_).elim (fun hx_ => (List.mem_append.1 hx_).elim (fun hx_ => (List.mem_append.1 hx_).elim (fun hx_ => ⟨_, List.mem_of_getElem? (i := 4) rfl, hx_⟩) (fun hx_ => ⟨_, List.mem_of_getElem? (i := 5) rfl, hx_⟩)) (fun hx_ => ⟨_, List.mem_of_getElem? (i := 2) rfl, hx_⟩)) (fun hx_ => ⟨_, List.mem_of_getElem? (i := 3) rfl, hx_⟩)) (fun hx_ => ⟨_, List.mem_of_getElem? (i := 1) rfl, hx_⟩)) (by simp only [List.mem_cons, List.not_mem_nil, or_false, forall_eq_or_imp, forall_eq]; exact ⟨(hC.stay 0 rfl hB61 (fun x_ hq_ hx_ => (List.mem_append.1 hx_).elim (fun hx_ => (List.mem_append.1 hx_).elim (fun hx_ => (List.mem_append.1 hx_).elim (fun hx_ => (List.mem_append.1 hx_).elim (fun hx_ => hC.mm 0 4 rfl rfl (by decide) x_ hq_ hx_) (fun hx_ => hC.mm 0 5 rfl rfl (by decide) x_ hq_ hx_)) (fun hx_ => hC.mm 0 2 rfl rfl (by decide) x_ hq_ hx_)) (fun hx_ => hC.mm 0 3 rfl rfl (by decide) x_ hq_ hx_)) (fun hx_ => hC.mm 0 1 rfl rfl (by decide) x_ hq_ hx_))), hm67, hm65, hm66, hm63, hm64, (hC.stay 6 rfl hB61 (fun x_ hq_ hx_ => (List.mem_append.1 hx_).elim (fun hx_ => (List.mem_append.1 hx_).elim (fun hx_ => (List.mem_append.1 hx_).elim (fun hx_ => (List.mem_append.1 hx_).elim (fun hx_ => hC.mm 6 4 rfl rfl (by decide) x_ hq_ hx_) (fun hx_ => hC.mm 6 5 rfl rfl (by decide) x_ hq_ hx_)) (fun hx_ => hC.mm 6 2 rfl rfl (by decide) x_ hq_ hx_)) (fun hx_ => hC.mm 6 3 rfl rfl (by decide) x_ hq_ hx_)) (fun hx_ => hC.mm 6 1 rfl rfl (by decide) x_ hq_ hx_))), (hC.stay 7 rfl hB61 (fun x_ hq_ hx_ => (List.mem_append.1 hx_).elim (fun hx_ => (List.mem_append.1 hx_).elim (fun hx_ => (List.mem_append.1 hx_).elim (fun hx_ => (List.mem_append.1 hx_).elim (fun hx_ => hC.mm 7 4 rfl rfl (by decide) x_ hq_ hx_) (fun hx_ => hC.mm 7 5 rfl rfl (by decide) x_ hq_ hx_)) (fun hx_ => hC.mm 7 2 rfl rfl (by decide) x_ hq_ hx_)) (fun hx_ => hC.mm 7 3 rfl rfl (by decide) x_ hq_ hx_)) (fun hx_ => hC.mm 7 1 rfl rfl (by decide) x_ hq_ hx_))), (hC.stay 8 rfl hB61 (fun x_ hq_ hx_ => (List.mem_append.1 hx_).elim (fun hx_ => (List.mem_append.1 hx_).elim (fun hx_ => (List.mem_append.1 hx_).elim (fun hx_ => (List.mem_append.1 hx_).elim (fun hx_ => hC.mm 8 4 rfl rfl (by decide) x_ hq_ hx_) (fun hx_ => hC.mm 8 5 rfl rfl (by decide) x_ hq_ hx_)) (fun hx_ => hC.mm 8 2 rfl rfl (by decide) x_ hq_ hx_)) (fun hx_ => hC.mm 8 3 rfl rfl (by decide) x_ hq_ hx_)) (fun hx_ => hC.mm 8 1 rfl rfl (by decide) x_ hq_ hx_))), (hC.stay 9 rfl hB61 (fun x_ hq_ hx_ => (List.mem_append.1 hx_).elim (fun hx_ => (List.mem_append.1 hx_).elim (fun hx_ => (List.mem_append.1 hx_).elim (fun hx_ => (List.mem_append.1 hx_).elim (fun hx_ => hC.mm 9 4 rfl rfl (by decide) x_ hq_ hx_) (fun hx_ => hC.mm 9 5 rfl rfl (by decide) x_ hq_ hx_)) (fun hx_ => hC.mm 9 2 rfl rfl (by decide) x_ hq_ hx_)) (fun hx_ => hC.mm 9 3 rfl rfl (by decide) x_ hq_ hx_)) (fun hx_ => hC.mm 9 1 rfl rfl (by decide) x_ hq_ hx_))), (hC.stay 10 rfl hB61 (fun x_ hq_ hx_ => (List.mem_append.1 hx_).elim (fun hx_ => (List.mem_append.1 hx_).elim (fun hx_ => (List.mem_append.1 hx_).elim (fun hx_ => (List.mem_append.1 hx_).elim (fun hx_ => hC.mm 10 4 rfl rfl (by decide) x_ hq_ hx_) (fun hx_ => hC.mm 10 5 rfl rfl (by decide) x_ hq_ hx_)) (fun hx_ => hC.mm 10 2 rfl rfl (by decide) x_ hq_ hx_)) (fun hx_ => hC.mm 10 3 rfl rfl (by decide) x_ hq_ hx_)) (fun hx_ => hC.mm 10 1 rfl rfl (by decide) x_ hq_ hx_))), (hC.stay 11 rfl hB61 (fun x_ hq_ hx_ => (List.mem_append.1 hx_).elim (fun hx_ => (List.mem_append.1 hx_).elim (fun hx_ => (List.mem_append.1 hx_).elim (fun hx_ => (List.mem_append.1 hx_).elim (fun hx_ => hC.mm 11 4 rfl rfl (by decide) x_ hq_ hx_) (fun hx_ => hC.mm 11 5 rfl rfl (by decide) x_ hq_ hx_)) (fun hx_ => hC.mm 11 2 rfl rfl (by decide) x_ hq_ hx_)) (fun hx_ => hC.mm 11 3 rfl rfl (by decide) x_ hq_ hx_)) (fun hx_ => hC.mm 11 1 rfl rfl (by decide) x_ hq_ hx_)))⟩)
  refine s_as (v := .int .i64 r60) rfl ?_
  refine dn ?_
  refine sr ?_
  refine s_as (v := .int .i64 1) rfl ?_
  refine dn ?_
  refine sr ?_
  refine s_loadA hC 0 [u30, u31, u32, u33, u34] rfl ag53 rfl rfl rfl ?_
  refine s_mv (v := .int .i64 1) rfl ?_
  refine s_call [.agg #[u30, u31, u32, u33, u34], .int .i64 1] _ Try.func36 rfl rfl rfl (c_laws_heldDesk (⟨(⟨m62.first.degrees, m62.first.images⟩ : Alg), (⟨m62.second.degrees, m62.second.images⟩ : Alg), (⟨m62.form.terms⟩ : Vc.Form)⟩ : Vc.Desk) 1 h _ (desk_mk (alg_mk (own_repE (hC.getM 4 rfl)) (Tr.trep _ (hC.getM 5 rfl).1)) (alg_mk (own_repE (hC.getM 2 rfl)) (Tr.trep _ (hC.getM 3 rfl).1)) (form_mk (own_repE (hC.getM 1 rfl))))) (fun ret68 w70 hR69 => ?_)
  obtain ⟨r71, rfl, h, hB72⟩ := hR69
  refine ⟨_, rfl, ?_⟩
  replace hC := hC.grow hB72
  refine s_as (v := .int .i64 r71) rfl ?_
  refine dn ?_
  refine wp_seq ?_
  refine sr ?_
  refine s_mv (v := .int .i64 r71) rfl ?_
  refine s_lss rfl rfl ?_
  refine dn ?_
  refine cw_cond rfl (fun hb73 => ?_) (fun hb73 => ?_)
  ·replace h := ift h (ct hb73)
   refine sr ?_
   refine s_as (v := .bool false) rfl ?_
   refine dn ?_
   refine wp_ret (then_ret ?_)
   refine ret1 (fn := Try.f7) rfl ?_ ⟨false, rfl, h, hC.below⟩ (.inl rfl)
   exact res_tmp rfl
  ·replace h := iff_ h (cf hb73)
   refine wp_skip ?_
   refine then_norm ?_
   refine wp_seq ?_
   refine sr ?_
   refine s_mv (v := .int .i64 r71) rfl ?_
   refine s_mv (v := .int .i64 r60) rfl ?_
   refine s_neq rfl rfl ?_
   refine dn ?_
   refine cw_cond rfl (fun hb74 => ?_) (fun hb74 => ?_)
   ·replace h := ift h (ct hb74)
    refine sr ?_
    refine s_as (v := .bool false) rfl ?_
    refine dn ?_
    refine wp_ret (then_ret ?_)
    refine ret1 (fn := Try.f7) rfl ?_ ⟨false, rfl, h, hC.below⟩ (.inl rfl)
    exact res_tmp rfl
   ·replace h := iff_ h (cf hb74)
    refine wp_skip ?_
    refine then_norm ?_
    refine sr ?_
    refine s_call [] _ Try.func33 rfl rfl rfl (c_impl_NewDesk h _) (fun ret75 w77 hR76 => ?_)
    obtain ⟨r78, u79, u80, u81, u82, u83, f84, rfl, h, hr85, hf86, hB87⟩ := hR76
    refine ⟨_, rfl, ?_⟩
    replace hC := hC.push hB87 (Tr.item (TrDesk 2 93 51) r78 [u79, u80, u81, u82, u83] f84) hr85 hf86
    obtain ⟨f89, f90, hC⟩ := hC.splitDesk
    refine s_alloc hC [.slice none 0 0, .slice none 0 0, .slice none 0 0, .slice none 0 0, .slice none 0 0] z53 rfl fun b96 w98 hB_ hC => ?_
    refine s_store (v := .agg #[u79, u80, u81, u82, u83]) hC 0 [u79, u80, u81, u82, u83] [u79, u80, u81, u82, u83] rfl ag53.size rfl rfl rfl rfl (all_c (own_oneC (hC.getM 4 rfl)) (all_c (rep_oneC (Tr.trep _ (hC.getM 5 rfl).1)) (all_c (own_oneC (hC.getM 2 rfl)) (all_c (rep_oneC (Tr.trep _ (hC.getM 3 rfl).1)) (all_c (own_oneC (hC.getM 1 rfl)) rfl))))) (Nat.le_of_ble_eq_true rfl) rfl fun w99 hC => ?_
    refine dn ?_
    refine wp_seq ?_
    refine sr ?_
    refine s_loadA hC 0 [u79, u80, u81, u82, u83] rfl ag53 rfl rfl rfl ?_
    refine s_loadA hC 12 [u5, u6, u7, u8, u9] rfl ag53 rfl rfl rfl ?_
    refine s_call [.agg #[u79, u80, u81, u82, u83], .agg #[u5, u6, u7, u8, u9]] _ Try.func34 rfl rfl rfl (c_laws_eqDesk r78 (⟨(⟨r4.first.degrees, r4.first.images⟩ : Alg), (⟨r4.second.degrees, r4.second.images⟩ : Alg), (⟨r4.form.terms⟩ : Vc.Form)⟩ : Vc.Desk) h _ (desk_mk (alg_mk (own_repE (hC.getM 4 rfl)) (Tr.trep _ (hC.getM 5 rfl).1)) (alg_mk (own_repE (hC.getM 2 rfl)) (Tr.trep _ (hC.getM 3 rfl).1)) (form_mk (own_repE (hC.getM 1 rfl)))) (desk_mk (alg_mk (own_repE (hC.getM 16 rfl)) (Tr.trep _ (hC.getM 17 rfl).1)) (alg_mk (own_repE (hC.getM 14 rfl)) (Tr.trep _ (hC.getM 15 rfl).1)) (form_mk (own_repE (hC.getM 13 rfl))))) (fun ret100 w102 hR101 => ?_)
    obtain ⟨r103, rfl, h, hB104⟩ := hR101
    refine ⟨_, rfl, ?_⟩
    replace hC := hC.grow hB104
    refine s_not rfl ?_
    refine dn ?_
    refine cw_cond rfl (fun hb105 => ?_) (fun hb105 => ?_)
    ·replace h := ift h (ne_t (not_t hb105))
     refine sr ?_
     refine s_as (v := .bool false) rfl ?_
     refine dn ?_
     refine wp_ret (then_ret ?_)
     refine ret1 (fn := Try.f7) rfl ?_ ⟨false, rfl, h, hC.below⟩ (.inl rfl)
     exact res_tmp rfl
    ·replace h := iff_ h (not_not_intro ((not_f hb105)))
     refine wp_skip ?_
     refine then_norm ?_
     refine sr ?_
     refine s_as (v := .int .i64 1) rfl ?_
     refine dn ?_
     refine sr ?_
     refine s_loadA hC 6 [u30, u31, u32, u33, u34] rfl ag53 rfl rfl rfl ?_
     refine s_mv (v := .int .i64 1) rfl ?_
     refine s_call [.agg #[u30, u31, u32, u33, u34], .int .i64 1] _ Try.func36 rfl rfl rfl (c_laws_heldDesk (⟨(⟨m62.first.degrees, m62.first.images⟩ : Alg), (⟨m62.second.degrees, m62.second.images⟩ : Alg), (⟨m62.form.terms⟩ : Vc.Form)⟩ : Vc.Desk) 1 h _ (desk_mk (alg_mk (own_repE (hC.getM 10 rfl)) (Tr.trep _ (hC.getM 11 rfl).1)) (alg_mk (own_repE (hC.getM 8 rfl)) (Tr.trep _ (hC.getM 9 rfl).1)) (form_mk (own_repE (hC.getM 7 rfl))))) (fun ret106 w108 hR107 => ?_)
     obtain ⟨r109, rfl, h, hB110⟩ := hR107
     refine ⟨_, rfl, ?_⟩
     replace hC := hC.grow hB110
     refine s_as (v := .int .i64 r109) rfl ?_
     refine dn ?_
     refine wp_seq ?_
     refine sr ?_
     refine s_mv (v := .int .i64 r109) rfl ?_
     refine s_lss rfl rfl ?_
     refine dn ?_
     refine cw_cond rfl (fun hb111 => ?_) (fun hb111 => ?_)
     ·replace h := ift h (ct hb111)
      refine sr ?_
      refine s_as (v := .bool false) rfl ?_
      refine dn ?_
      refine wp_ret (then_ret ?_)
      refine ret1 (fn := Try.f7) rfl ?_ ⟨false, rfl, h, hC.below⟩ (.inl rfl)
      exact res_tmp rfl
     ·replace h := iff_ h (cf hb111)
      refine wp_skip ?_
      refine then_norm ?_
      refine wp_seq ?_
      refine sr ?_
      refine s_mv (v := .int .i64 r109) rfl ?_
      refine s_mv (v := .int .i64 r60) rfl ?_
      refine s_neq rfl rfl ?_
      refine dn ?_
      refine cw_cond rfl (fun hb112 => ?_) (fun hb112 => ?_)
      ·replace h := ift h (ct hb112)
       refine sr ?_
       refine s_as (v := .bool false) rfl ?_
       refine dn ?_
       refine wp_ret (then_ret ?_)
       refine ret1 (fn := Try.f7) rfl ?_ ⟨false, rfl, h, hC.below⟩ (.inl rfl)
       exact res_tmp rfl
      ·replace h := iff_ h (cf hb112)
       refine wp_skip ?_
       refine then_norm ?_
       refine sr ?_
       refine s_as (v := .bool true) rfl ?_
       refine dn ?_
       refine wp_ret ?_
       refine ret1 (fn := Try.f7) rfl ?_ ⟨true, rfl, h, hC.below⟩ (.inl rfl)
       exact res_tmp rfl
end Go.Proofs.Ytjngkbalaipdbaa
