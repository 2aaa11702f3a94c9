/- Printed by vcgen.py: functions of the program as predicates, and that the machine's calls meet them. -/
import Derived.Test.YtgmldfmfpodgiaaGC
import Derived.Test.YtgmldfmfpodgiaaVo
import Derived.Test.YtgmldfmfpodgiaaVr
import Derived.Test.YtgmldfmfpodgiaaVx
import Derived.KernelRfl
set_option linter.unusedVariables false
set_option linter.unusedSimpArgs false
set_option maxRecDepth 4000
set_option maxHeartbeats 4000000
namespace Go.Proofs.Ytgmldfmfpodgiaa
open Go Go.RowKit Vc
theorem bs22_0  (w : World) : (Instr.buildSlice 22 0 #[]).run Try.prog w = .ok (.slice (some ⟨w.heap.size, 0, none⟩) 0 0) (w.alloc (.cells (List.toArray ((EI .i64).encs [])) 2)) := by kernel_rfl
theorem bl30_0sl (x0 : Value) (hx0 : IsSl x0) (w : World) : (Instr.build 30 #[(0, x0)]).run Try.prog w = .ok (.agg #[x0, .slice none 0 0]) w := by obtain ⟨_, _, _, rfl⟩ := hx0; kernel_rfl
theorem bsr28_1_s (x0 : Value) (hx0 : IsSl x0) (w : World) : (Instr.buildSlice 28 1 #[(0, .agg #[x0])]).run Try.prog w = .ok (.slice (some ⟨w.heap.size, 0, none⟩) 1 1) (w.alloc (.cells (List.toArray [x0]) 59)) := by obtain ⟨_, _, _, rfl⟩ := hx0; kernel_rfl
theorem bs22_1 (x0 : Int) (w : World) : (Instr.buildSlice 22 1 #[(0, .int .i64 x0)]).run Try.prog w = .ok (.slice (some ⟨w.heap.size, 0, none⟩) 1 1) (w.alloc (.cells (List.toArray ((EI .i64).encs [x0])) 2)) := by kernel_rfl
theorem bl30  (w : World) : (Instr.build 30 #[]).run Try.prog w = .ok (.agg #[.slice none 0 0, .slice none 0 0]) w := by kernel_rfl
theorem el5 : ElemT Try.prog 5 (.int .u8 0) 1 1 := by unfold ElemT; kernel_rfl
theorem bsr45_2_s_s (x0 : Value) (x1 : Value) (hx0 : IsSl x0) (hx1 : IsSl x1) (w : World) : (Instr.buildSlice 45 2 #[(0, x0), (1, x1)]).run Try.prog w = .ok (.slice (some ⟨w.heap.size, 0, none⟩) 2 2) (w.alloc (.cells (List.toArray [x0, x1]) 22)) := by obtain ⟨_, _, _, rfl⟩ := hx0; obtain ⟨_, _, _, rfl⟩ := hx1; kernel_rfl
theorem bs28_0 (w : World) : (Instr.buildSlice 28 0 #[]).run Try.prog w = .ok (.slice (some ⟨w.heap.size, 0, none⟩) 0 0) (w.alloc (.cells (List.toArray []) 59)) := by kernel_rfl
theorem bs22_2 (x0 : Int) (x1 : Int) (w : World) : (Instr.buildSlice 22 2 #[(0, .int .i64 x0), (1, .int .i64 x1)]).run Try.prog w = .ok (.slice (some ⟨w.heap.size, 0, none⟩) 2 2) (w.alloc (.cells (List.toArray ((EI .i64).encs [x0, x1])) 2)) := by kernel_rfl
theorem ag25 : AggT Try.prog 25 2 := ⟨⟨_, Try.underlying25, rfl⟩, by kernel_rfl⟩
def f_spec_l01Own (a0 : List Int) (K : List Int → Prop) : Prop :=
 (Room (0 + a0.length) 8 ∧ K a0)
theorem c_spec_l01Own (a0 : List Int) {u0_0 : Value} {fp0 : List Nat} {K : List Int → Prop} (h : f_spec_l01Own a0 K) (w0 : World) (q0 : ((EI .i64).ty.sl).rep a0 [u0_0] fp0 w0) :
  Calls Try.prog 57 #[u0_0] w0 fun e w' => ∃ (r0 : List Int) (z0_0 : Value) (fz0 : List Nat), 
   e = .returned (z0_0) ∧ K r0 ∧ (Tr.item (Tr.sl 2 ((EI .i64).tr)) r0 [z0_0] fz0).holds w' ∧ (∀ b, b ∈ fz0 → w0.heap.size ≤ b) ∧ Bel w0 w' := by
 unfold f_spec_l01Own at h
 refine calls_of (args := [u0_0]) Try.func57 rfl 6 Try.ntmps57 (Nat.le_of_ble_eq_true rfl) ?_
 have hC := Ctx.start (X := Nox) w0 [Ty.item ((EI .i64).ty.sl) a0 [u0_0] fp0] (by simp only [List.mem_cons, List.not_mem_nil, or_false, forall_eq_or_imp, forall_eq]; exact q0)
 refine sr ?_
 refine s_as (v := .slice none 0 0) rfl ?_
 refine dn ?_
 refine sr ?_
 refine s_bslice (sz := 1) hC [] ((EI .i64).encs []) rfl (fun _ => bs22_0  _) rfl (by decide) fun b2 w3 hB_ hC => ?_
 refine s_mv (v := u0_0) rfl ?_
 obtain ⟨hm7, h⟩ := h
 refine s_app hC 0 Try.underlying22 el2 rfl (by decide) (by decide) rfl (sl_rdr (hC.getP 0 rfl)) (fun q hq => Enc.encs_one' (E := (EI .i64)) _ q hq) rfl rfl hm7 fun v5 w6 hC => ?_
 replace hC := own_re hC 0 (a0.length) ((EI .i64).encs a0) rfl (by simp) (by first | (simp [Enc.encs_append]; done) | simp [Enc.encs_append, Enc.encs])
 refine s_as (v := v5) rfl ?_
 refine dn ?_
 refine wp_ret ?_
 refine ret1 (fn := Try.f57) rfl ?_ ⟨a0, v5, (Option.toList (Value.ownBlock v5)), rfl, h, (own_item (hC.getM 0 rfl)), (own_fresh hC 0 rfl), hC.below⟩ (.inl rfl)
 exact res_tmp rfl
def f_spec_l02Copy (a0 : Vc.Form) (a1 : Int) (K : Vc.Form → Prop) : Prop :=
 whileP (fun (s205 : (List Term) × Int) next208 => (if s205.2 < (a0.terms.length : Int) then whileP (fun (s272 : A8 × Int) next273 => (if IntKind.i64.wrap (s272.2 + a1) < 8 then ((0 ≤ s205.2 ∧ s205.2 < (a0.terms.length : Int)) ∧ ((0 ≤ s272.2 ∧ s272.2 < 8) ∧ ((0 ≤ IntKind.i64.wrap (s272.2 + a1) ∧ IntKind.i64.wrap (s272.2 + a1) < 8) ∧ next273 (s272.1.set ((IntKind.i64.wrap (s272.2 + a1)).toNat) (((a0.terms.getD s205.2.toNat default).mono).get s272.2.toNat), IntKind.i64.wrap (s272.2 + 1))))) else ((0 ≤ s205.2 ∧ s205.2 < (a0.terms.length : Int)) ∧ (Room (s205.1.length + 1) 16 ∧ next208 (s205.1 ++ [(⟨s272.1, (a0.terms.getD s205.2.toNat default).factor⟩ : Term)], IntKind.i64.wrap (s205.2 + 1)))))) (A8.zero, 0) else K (⟨s205.1⟩ : Vc.Form))) ([], 0)
theorem c_spec_l02Copy (a0 : Vc.Form) (a1 : Int) {u0_0 : Value} {fp0 : List Nat} {K : Vc.Form → Prop} (h : f_spec_l02Copy a0 a1 K) (w0 : World) (q0 : TForm.rep a0 [u0_0] fp0 w0) :
  Calls Try.prog 58 #[.agg #[u0_0], .int .i64 a1] w0 fun e w' => ∃ (r0 : Vc.Form) (z0_0 : Value) (fz0 : List Nat), 
   e = .returned (.agg #[z0_0]) ∧ K r0 ∧ (Tr.item (TrForm 76) r0 [z0_0] fz0).holds w' ∧ (∀ b, b ∈ fz0 → w0.heap.size ≤ b) ∧ Bel w0 w' := by
 unfold f_spec_l02Copy at h
 refine calls_of (args := [.agg #[u0_0], .int .i64 a1]) Try.func58 rfl 50 Try.ntmps58 (Nat.le_of_ble_eq_true rfl) ?_
 have hC := Ctx.start (X := Nox) w0 [Ty.item TForm a0 [u0_0] fp0] (by simp only [List.mem_cons, List.not_mem_nil, or_false, forall_eq_or_imp, forall_eq]; exact q0)
 have hp2 := (hC.getP 0 rfl)
 replace hC := hC.derive 0 rfl (Ty.item ETerm.ty.sl a0.terms [u0_0] fp0) (fun _ => (form_parts hp2)) (fun _ hb_ => hb_)
 refine sr ?_
 refine s_box (v := .agg #[u0_0]) hC [u0_0] rfl rfl fun b4 w6 hB_ hC => ?_
 refine s_alloc hC [.slice none 0 0] z59 rfl fun b7 w9 hB_ hC => ?_
 refine dn ?_
 refine sr ?_
 refine s_build [] rfl (bl59   _) ?_
 refine s_alloc hC [.slice none 0 0] z59 rfl fun b10 w12 hB_ hC => ?_
 refine s_store (v := .agg #[.slice none 0 0]) hC 0 [.slice none 0 0] [.slice none 0 0] rfl ag59.size rfl rfl rfl rfl rfl (Nat.le_of_ble_eq_true rfl) rfl fun w13 hC => ?_
 refine dn ?_
 refine wp_seq ?_
 refine sr ?_
 refine s_as (v := .int .i64 0) rfl ?_
 refine dn ?_
 refine wp_block ?_
 refine loopW (S := (List Term) × Int) _ (fun s205 e_ w_ => ∃ (v206 : Value), Slots e_ [(1, .int .i64 a1), (2, .pointer (some ⟨b4, 0, none⟩)), (4, .pointer (some ⟨b7, 0, none⟩)), (5, .pointer (some ⟨b10, 0, none⟩)), (6, .int .i64 s205.2)] ∧ Ctx Nox w0 w_ [own 76 9 v206 s205.1.length (ETerm.encs s205.1), blk b10 59 [v206], blk b7 59 [.slice none 0 0], blk b4 59 [u0_0]] [Ty.item ETerm.ty.sl a0.terms [u0_0] fp0, Ty.item TForm a0 [u0_0] fp0]) ?_ (s0 := ([], 0)) ?_ h
 ·clear hC h
  rintro s205 e_ w211 next208 K209 ⟨v206, hS_, hC⟩ h hK210
  refine wp_seq ?_
  refine sr ?_
  refine s_mv (v := .int .i64 s205.2) (sx hS_ 4 rfl) ?_
  refine s_faddrB 0 Try.underlying59 rfl sc57.size (sx hS_ 1 rfl) rfl ?_
  refine s_loadS hC 3 (u0_0) rfl sc57 rfl rfl ?_
  obtain ⟨Ad212, c213, hv214⟩ := sl_len (hC.getP 0 rfl)
  refine s_len Try.underlying57 (tr rfl hv214) ?_
  refine s_lss rfl rfl ?_
  refine dn ?_
  refine cw_cond rfl (fun hb215 => ?_) (fun hb215 => ?_)
  ·replace h := ift h (ct hb215)
   refine wp_skip ?_
   refine then_norm ?_
   refine wp_seq ?_
   refine wp_block ?_
   refine sr ?_
   refine s_build [] rfl (bl74   _) ?_
   refine s_alloc hC (A8.enc .u8 A8.zero) z74 rfl fun b216 w218 hB_ hC => ?_
   refine s_store (v := .agg (List.toArray (A8.enc .u8 A8.zero))) hC 0 (A8.enc .u8 A8.zero) (A8.enc .u8 A8.zero) rfl ag74.size rfl rfl rfl rfl rfl (Nat.le_of_ble_eq_true rfl) rfl fun w219 hC => ?_
   refine dn ?_
   refine wp_seq ?_
   refine sr ?_
   refine s_as (v := .int .i64 0) rfl ?_
   refine dn ?_
   refine wp_block ?_
   refine loopW (S := A8 × Int) _ (fun s272 e_ w_ => Slots e_ [(1, .int .i64 a1), (2, .pointer (some ⟨b4, 0, none⟩)), (4, .pointer (some ⟨b7, 0, none⟩)), (5, .pointer (some ⟨b10, 0, none⟩)), (6, .int .i64 s205.2), (7, .pointer (some ⟨b216, 0, none⟩)), (8, .int .i64 s272.2), (10, .int .i64 s205.2), (11, .pointer (some ⟨b4, 0, none⟩)), (12, u0_0), (13, .int .i64 (a0.terms.length : Int)), (14, .bool (decide (s205.2 < (a0.terms.length : Int)))), (17, .agg (List.toArray (A8.enc .u8 A8.zero)))] ∧ Ctx Nox w0 w_ [blk b216 74 (A8.enc .u8 s272.1), own 76 9 v206 s205.1.length (ETerm.encs s205.1), blk b10 59 [v206], blk b7 59 [.slice none 0 0], blk b4 59 [u0_0]] [Ty.item ETerm.ty.sl a0.terms [u0_0] fp0, Ty.item TForm a0 [u0_0] fp0]) ?_ (s0 := (A8.zero, 0)) ?_ h
   ·clear hC h
    rintro s272 e_ w276 next273 K274 ⟨hS_, hC⟩ h hK275
    refine wp_seq ?_
    refine sr ?_
    refine s_mv (v := .int .i64 s272.2) (sx hS_ 6 rfl) ?_
    refine s_mv (v := .int .i64 a1) (sx hS_ 0 rfl) ?_
    refine s_add rfl rfl ?_
    refine s_lss rfl rfl ?_
    refine dn ?_
    refine cw_cond rfl (fun hb277 => ?_) (fun hb277 => ?_)
    ·replace h := ift h (ct hb277)
     refine wp_skip ?_
     refine then_norm ?_
     refine wp_seq ?_
     refine wp_block ?_
     refine cw_region ?_
     refine s_mv (v := .int .i64 s272.2) (sx hS_ 6 rfl) ?_
     refine s_mv (v := .int .i64 a1) (sx hS_ 0 rfl) ?_
     refine s_add rfl rfl ?_
     refine s_faddrB 0 Try.underlying59 rfl sc57.size (sx hS_ 1 rfl) rfl ?_
     refine s_loadS hC 4 (u0_0) rfl sc57 rfl rfl ?_
     refine s_mv (v := .int .i64 s205.2) (sx hS_ 4 rfl) ?_
     refine s_mv (v := .int .i64 s272.2) (sx hS_ 6 rfl) ?_
     obtain ⟨⟨h0_278, h1_279⟩, h⟩ := h
     obtain ⟨Ad280, c281, hv282⟩ := sl_form (hC.getP 0 rfl) s205.2.toNat (show s205.2.toNat < a0.terms.length by omega)
     refine s_iaddrS (len := a0.terms.length) Try.underlying57 ag76.size (tr rfl hv282) rfl h0_278 h1_279 ?_
     refine s_faddrS (s205.2.toNat * 9 + 0) Try.underlying76 rfl ag74.size rfl rfl ?_
     obtain ⟨⟨h0_283, h1_284⟩, h⟩ := h
     refine s_iaddrSa (s205.2.toNat * 9 + 0 + s272.2.toNat) Try.underlying74 sc5.size rfl rfl h0_283 h1_284 (by omega) ?_
     refine s_loadCS (.int .u8 (((a0.terms.getD s205.2.toNat default).mono).get s272.2.toNat)) (cells_subS (o := s272.2.toNat) (k := 1) (sl_cellsE (hC.getP 0 rfl) hv282 s205.2.toNat (show s205.2.toNat < a0.terms.length by omega)) (arr_at (r := _) (show s272.2.toNat < 8 by omega))) sc5 rfl ?_
     obtain ⟨⟨h0_285, h1_286⟩, h⟩ := h
     refine s_iaddrB ((IntKind.i64.wrap (s272.2 + a1)).toNat) Try.underlying74 sc5.size (sx hS_ 5 rfl) rfl h0_285 h1_286 (by omega) ?_
     refine s_store (v := .int .u8 (((a0.terms.getD s205.2.toNat default).mono).get s272.2.toNat)) hC 0 [.int .u8 (((a0.terms.getD s205.2.toNat default).mono).get s272.2.toNat)] (A8.enc .u8 (s272.1.set ((IntKind.i64.wrap (s272.2 + a1)).toNat) (((a0.terms.getD s205.2.toNat default).mono).get s272.2.toNat))) rfl sc5.size rfl rfl rfl rfl rfl (show (IntKind.i64.wrap (s272.2 + a1)).toNat < 8 by omega) (A8.enc_set _ _ _ (show (IntKind.i64.wrap (s272.2 + a1)).toNat < 8 by omega)) fun w287 hC => ?_
     refine done ?_
     refine blk_norm ?_
     refine then_norm ?_
     refine cw_region ?_
     refine s_mv (v := .int .i64 s272.2) (sx hS_ 6 rfl) ?_
     refine s_add rfl rfl ?_
     refine s_as (v := .int .i64 (IntKind.i64.wrap (s272.2 + 1))) rfl ?_
     refine done ?_
     exact hK275 (s272.1.set ((IntKind.i64.wrap (s272.2 + a1)).toNat) (((a0.terms.getD s205.2.toNat default).mono).get s272.2.toNat), IntKind.i64.wrap (s272.2 + 1)) _ _ ⟨(sk (sx hS_ 0 rfl) (sk (sx hS_ 1 rfl) (sk (sx hS_ 2 rfl) (sk (sx hS_ 3 rfl) (sk (sx hS_ 4 rfl) (sk (sx hS_ 5 rfl) (sk rfl (sk (sx hS_ 7 rfl) (sk (sx hS_ 8 rfl) (sk (sx hS_ 9 rfl) (sk (sx hS_ 10 rfl) (sk (sx hS_ 11 rfl) (sk (sx hS_ 12 rfl) sn))))))))))))), hC⟩ h
    ·replace h := iff_ h (cf hb277)
     refine wp_exit (then_exit (then_exit (exit_in ?_)))
     refine then_norm ?_
     refine cw_draw 11 mixed [0, 1, 0, 0, 8, 0, 56, 120, 248, 508, 1020, 2047, 4095, 8191] [1, 2, 4, 6, 8, 9] [0, 3, 5, 7] (by kernel_rfl) (by kernel_rfl) (by kernel_rfl) (fun hM289 hM290 w288 hB_ => ?_)
     replace hC := hC.grow hB_
     refine aF 0 (.pointer (some ⟨b10, 0, none⟩)) rfl rfl (hM290 0 rfl) (rfl) (fun _ => by exact r_faddrB 0 Try.underlying59 rfl sc57.size (sx hS_ 3 rfl) rfl) (dbits 14 1) ?_
     refine aL 1 (v206) rfl rfl (hM289 1 rfl) (rfl) (fun _ hB_ => by exact r_loadS (hC.grow hB_) 2 (v206) rfl sc57 rfl rfl) (dbits 14 3) ?_
     refine aL 2 (.agg (List.toArray (A8.enc .u8 s272.1))) rfl rfl (hM289 2 rfl) (rfl) (fun _ hB_ => by exact r_loadA (hC.grow hB_) 0 (A8.enc .u8 s272.1) rfl ag74 (sx hS_ 5 rfl) rfl rfl) (dbits 14 7) ?_
     refine aF 3 (.pointer (some ⟨b4, 0, none⟩)) rfl rfl (hM290 3 rfl) (rfl) (fun _ => by exact r_faddrB 0 Try.underlying59 rfl sc57.size (sx hS_ 1 rfl) rfl) (dbits 14 15) ?_
     refine aL 4 (u0_0) rfl rfl (hM289 4 rfl) (rfl) (fun _ hB_ => by exact r_loadS (hC.grow hB_) 4 (u0_0) rfl sc57 rfl rfl) (dbits 14 31) ?_
     refine aF 5 (.int .i64 s205.2) rfl rfl (hM290 5 rfl) (rfl) (fun _ => by exact r_mv (v := .int .i64 s205.2) (sx hS_ 4 rfl)) (dbits 14 63) ?_
     obtain ⟨⟨h0_291, h1_292⟩, h⟩ := h
     obtain ⟨Ad293, c294, hv295⟩ := sl_form (hC.getP 0 rfl) s205.2.toNat (show s205.2.toNat < a0.terms.length by omega)
     refine aL 6 (.pointer (some (Ad293.add (s205.2.toNat * 9)))) rfl rfl (hM289 6 rfl) (rfl) (fun _ hB_ => by exact r_iaddrS (len := a0.terms.length) Try.underlying57 ag76.size (by exact tr rfl hv295) rfl h0_291 h1_292) (dbits 14 127) ?_
     refine aF 7 (.pointer (some (Ad293.add (s205.2.toNat * 9 + 8)))) rfl rfl (hM290 7 rfl) (rfl) (fun _ => by exact r_faddrS (s205.2.toNat * 9 + 8) Try.underlying76 rfl sc2.size rfl rfl) (dbits 14 255) ?_
     refine aL 8 (.int .i64 ((a0.terms.getD s205.2.toNat default).factor)) rfl rfl (hM289 8 rfl) (rfl) (fun _ hB_ => by exact r_loadCS (.int .i64 ((a0.terms.getD s205.2.toNat default).factor)) (cells_subS (o := 8) (k := 1) (sl_cellsE ((hC.grow hB_).getP 0 rfl) hv295 s205.2.toNat (show s205.2.toNat < a0.terms.length by omega)) rfl) sc2 rfl) (dbits 14 511) ?_
     refine aL 9 (.agg (List.toArray (Term.enc (⟨s272.1, (a0.terms.getD s205.2.toNat default).factor⟩ : Term)))) rfl rfl (hM289 9 rfl) (rfl) (fun _ hB_ => by exact r_build [(0, .agg (List.toArray (A8.enc .u8 s272.1))), (1, .int .i64 ((a0.terms.getD s205.2.toNat default).factor))] rfl (bl76_0flat_1int s272.1 ((a0.terms.getD s205.2.toNat default).factor)  _)) (dbits 14 1023) ?_
     refine aO 10 rfl ?_
     refine s_bslice (sz := 9) hC [(0, .agg (List.toArray (Term.enc (⟨s272.1, (a0.terms.getD s205.2.toNat default).factor⟩ : Term))))] (ETerm.encs [(⟨s272.1, (a0.terms.getD s205.2.toNat default).factor⟩ : Term)]) rfl (fun _ => bs57_1 (⟨s272.1, (a0.terms.getD s205.2.toNat default).factor⟩ : Term) _) rfl (by decide) fun b296 w297 hB_ hC => ?_
     refine done ?_
     refine aK (by assumption) (dbits 14 2047) ?_
     refine ae_tail 11 (by decide) (by decide) (by kernel_rfl) (by kernel_rfl) rfl ?_
     obtain ⟨hm301, h⟩ := h
     refine s_app hC 2 Try.underlying57 el76 rfl (by decide) (by decide) rfl (own_rdr (hC.getM 0 rfl)) (fun q hq => Enc.encs_one' (E := ETerm) _ q hq) rfl rfl hm301 fun v299 w300 hC => ?_
     replace hC := own_re hC 2 ((s205.1 ++ [(⟨s272.1, (a0.terms.getD s205.2.toNat default).factor⟩ : Term)]).length) (ETerm.encs (s205.1 ++ [(⟨s272.1, (a0.terms.getD s205.2.toNat default).factor⟩ : Term)])) rfl (by simp) (by first | (simp [Enc.encs_append]; done) | simp [Enc.encs_append, Enc.encs])
     refine s_faddrB 0 Try.underlying59 rfl sc57.size (sx hS_ 3 rfl) rfl ?_
     refine s_store (v := v299) hC 3 [v299] [v299] rfl sc57.size rfl rfl (own_cellsV (hC.getM 2 rfl)) rfl (all_c (own_oneC (hC.getM 2 rfl)) rfl) (Nat.le_of_ble_eq_true rfl) rfl fun w302 hC => ?_
     refine done ?_
     refine qn_norm ?_
     refine blk_norm ?_
     refine then_norm ?_
     refine cw_region ?_
     refine s_mv (v := .int .i64 s205.2) (sx hS_ 4 rfl) ?_
     refine s_add rfl rfl ?_
     refine s_as (v := .int .i64 (IntKind.i64.wrap (s205.2 + 1))) rfl ?_
     refine done ?_
     replace hC := hC.sM [2, 3, 4, 5] (M' := [own 76 9 v299 ((s205.1 ++ [(⟨s272.1, (a0.terms.getD s205.2.toNat default).factor⟩ : Term)]).length) (ETerm.encs (s205.1 ++ [(⟨s272.1, (a0.terms.getD s205.2.toNat default).factor⟩ : Term)])), blk b10 59 [v299], blk b7 59 [.slice none 0 0], blk b4 59 [u0_0]]) (by decide) rfl
     exact hK210 (s205.1 ++ [(⟨s272.1, (a0.terms.getD s205.2.toNat default).factor⟩ : Term)], IntKind.i64.wrap (s205.2 + 1)) _ _ ⟨v299, (sk (sx hS_ 0 rfl) (sk (sx hS_ 1 rfl) (sk (sx hS_ 2 rfl) (sk (sx hS_ 3 rfl) (sk rfl sn))))), hC⟩ h
   ·skip
    exact ⟨(sk (sx hS_ 0 rfl) (sk (sx hS_ 1 rfl) (sk (sx hS_ 2 rfl) (sk (sx hS_ 3 rfl) (sk (sx hS_ 4 rfl) (sk rfl (sk rfl (sk rfl (sk rfl (sk rfl (sk rfl (sk rfl (sk rfl sn))))))))))))), hC⟩
  ·replace h := iff_ h (cf hb215)
   refine wp_exit (then_exit (then_exit (exit_in ?_)))
   refine then_norm ?_
   refine sr ?_
   refine s_loadA hC 1 [v206] rfl ag59 (sx hS_ 3 rfl) rfl rfl ?_
   refine s_store (v := .agg #[v206]) hC 2 [v206] [v206] rfl ag59.size (sx hS_ 2 rfl) rfl rfl rfl (all_c (own_oneC (hC.getM 0 rfl)) rfl) (Nat.le_of_ble_eq_true rfl) rfl fun w303 hC => ?_
   refine dn ?_
   refine wp_ret ?_
   refine ret1 (fn := Try.f58) rfl ?_ ⟨(⟨s205.1⟩ : Vc.Form), v206, (Option.toList (Value.ownBlock v206)), rfl, h, (form_join (own_item (hC.getM 0 rfl))), (own_fresh hC 0 rfl), hC.below⟩ (.inl rfl)
   exact res_cellA hC 2 rfl ag59 (sx hS_ 2 rfl) rfl
 ·skip
  replace hC := hC.pushNil 76 9
  exact ⟨.slice none 0 0, (sk rfl (sk rfl (sk rfl (sk rfl (sk rfl sn))))), hC⟩
def f_spec_l02Own (a0 : Alg) (K : Alg → Prop) : Prop :=
 f_spec_l01Own a0.degrees (fun r14 => whileP (fun (s118 : (List Vc.Form) × Int) next122 => (if s118.2 < (a0.images.length : Int) then ((0 ≤ s118.2 ∧ s118.2 < (a0.images.length : Int)) ∧ f_spec_l02Copy (a0.images.getD s118.2.toNat default) 0 (fun r147 => (Room (s118.1.length + 1) 24 ∧ next122 (s118.1 ++ [r147], IntKind.i64.wrap (s118.2 + 1))))) else K (⟨r14, s118.1⟩ : Alg))) ([], 0))
theorem c_spec_l02Own (a0 : Alg) {u0_0 : Value} {u0_1 : Value} {fp0 : List Nat} {K : Alg → Prop} (h : f_spec_l02Own a0 K) (w0 : World) (q0 : TAlg.rep a0 [u0_0, u0_1] fp0 w0) :
  Calls Try.prog 30 #[.agg #[u0_0, u0_1]] w0 fun e w' => ∃ (r0 : Alg) (z0_0 : Value) (z0_1 : Value) (fz0 : List Nat), 
   e = .returned (.agg #[z0_0, z0_1]) ∧ K r0 ∧ (Tr.item (TrAlg 2 76 59) r0 [z0_0, z0_1] fz0).holds w' ∧ (∀ b, b ∈ fz0 → w0.heap.size ≤ b) ∧ Bel w0 w' := by
 unfold f_spec_l02Own at h
 refine calls_of (args := [.agg #[u0_0, u0_1]]) Try.func30 rfl 28 Try.ntmps30 (Nat.le_of_ble_eq_true rfl) ?_
 have hC := Ctx.start (X := Nox) w0 [Ty.item TAlg a0 [u0_0, u0_1] fp0] (by simp only [List.mem_cons, List.not_mem_nil, or_false, forall_eq_or_imp, forall_eq]; exact q0)
 have hp2 := (hC.getP 0 rfl)
 replace hC := hC.derive 0 rfl (Ty.item ((EI .i64).ty.sl) a0.degrees [u0_0] fp0) (fun _ => (alg_parts hp2).1) (fun _ hb_ => hb_)
 replace hC := hC.derive 1 rfl (Ty.item TForm.sl a0.images [u0_1] fp0) (fun _ => (alg_parts hp2).2) (fun _ hb_ => hb_)
 refine sr ?_
 refine s_box (v := .agg #[u0_0, u0_1]) hC [u0_0, u0_1] rfl rfl fun b5 w7 hB_ hC => ?_
 refine s_alloc hC [.slice none 0 0, .slice none 0 0] z30 rfl fun b8 w10 hB_ hC => ?_
 refine dn ?_
 refine sr ?_
 refine s_faddrB 0 Try.underlying30 rfl sc22.size rfl rfl ?_
 refine s_loadS hC 1 (u0_0) rfl sc22 rfl rfl ?_
 refine s_call [u0_0] _ Try.func57 rfl rfl rfl (c_spec_l01Own a0.degrees h _ (hC.getP 1 rfl)) (fun ret11 w13 hR12 => ?_)
 obtain ⟨r14, u15, f16, rfl, h, hr17, hf18, hB19⟩ := hR12
 refine ⟨_, rfl, ?_⟩
 replace hC := hC.push hB19 (Tr.item (Tr.sl 2 ((EI .i64).tr)) r14 [u15] f16) hr17 hf18
 obtain ⟨ho21, hf22⟩ := flat_tr (hC.getM 0 rfl).1
 subst hf22
 replace hC := hC.recast (c := own 2 1 u15 r14.length ((EI .i64).encs r14)) (fun _ h_ => h_) (fun _ => ho21)
 refine s_build [(0, u15)] rfl (bl30_0sl u15 (own_isSl (hC.getM 0 rfl)) _) ?_
 refine s_alloc hC [.slice none 0 0, .slice none 0 0] z30 rfl fun b24 w26 hB_ hC => ?_
 refine s_store (v := .agg #[u15, .slice none 0 0]) hC 0 [u15, .slice none 0 0] [u15, .slice none 0 0] rfl ag30.size rfl rfl rfl rfl (all_c (own_oneC (hC.getM 1 rfl)) (all_c rfl rfl)) (Nat.le_of_ble_eq_true rfl) rfl fun w27 hC => ?_
 refine dn ?_
 refine wp_seq ?_
 refine sr ?_
 refine s_as (v := .int .i64 0) rfl ?_
 refine dn ?_
 refine wp_block ?_
 refine loopW (S := (List Vc.Form) × Int) _ (fun s118 e_ w_ => ∃ (v119 : Value), ∃ (f121 : List Nat), Slots e_ [(1, .pointer (some ⟨b5, 0, none⟩)), (2, .pointer (some ⟨b8, 0, none⟩)), (3, .pointer (some ⟨b24, 0, none⟩)), (4, .int .i64 s118.2)] ∧ Ctx Nox w0 w_ [Tr.item (Tr.sl 59 (TrForm 76)) s118.1 [v119] f121, blk b24 30 [u15, v119], own 2 1 u15 r14.length ((EI .i64).encs r14), blk b8 30 [.slice none 0 0, .slice none 0 0], blk b5 30 [u0_0, u0_1]] [Ty.item TForm.sl a0.images [u0_1] fp0, Ty.item ((EI .i64).ty.sl) a0.degrees [u0_0] fp0, Ty.item TAlg a0 [u0_0, u0_1] fp0]) ?_ (s0 := ([], 0)) ?_ h
 ·clear hC h
  rintro s118 e_ w125 next122 K123 ⟨v119, f121, hS_, hC⟩ h hK124
  refine wp_seq ?_
  refine sr ?_
  refine s_mv (v := .int .i64 s118.2) (sx hS_ 3 rfl) ?_
  refine s_faddrB 1 Try.underlying30 rfl sc28.size (sx hS_ 0 rfl) rfl ?_
  refine s_loadS hC 4 (u0_1) rfl sc28 rfl rfl ?_
  obtain ⟨Ad126, c127, hv128⟩ := sl_len (hC.getP 0 rfl)
  refine s_len Try.underlying28 (tr rfl hv128) ?_
  refine s_lss rfl rfl ?_
  refine dn ?_
  refine cw_cond rfl (fun hb129 => ?_) (fun hb129 => ?_)
  ·replace h := ift h (ct hb129)
   refine wp_skip ?_
   refine then_norm ?_
   refine wp_seq ?_
   refine wp_block ?_
   refine cw_draw 9 mixed [0, 1, 0, 4, 0, 28, 60, 124, 252, 511, 1023, 2047] [1, 3, 5, 6] [0, 2, 4] (by kernel_rfl) (by kernel_rfl) (by kernel_rfl) (fun hM131 hM132 w130 hB_ => ?_)
   replace hC := hC.grow hB_
   refine aF 0 (.pointer (some ⟨b24, 1, none⟩)) rfl rfl (hM132 0 rfl) (rfl) (fun _ => by exact r_faddrB 1 Try.underlying30 rfl sc28.size (sx hS_ 2 rfl) rfl) (dbits 12 1) ?_
   refine aL 1 (v119) rfl rfl (hM131 1 rfl) (rfl) (fun _ hB_ => by exact r_loadS (hC.grow hB_) 1 (v119) rfl sc28 rfl rfl) (dbits 12 3) ?_
   refine aF 2 (.pointer (some ⟨b5, 1, none⟩)) rfl rfl (hM132 2 rfl) (rfl) (fun _ => by exact r_faddrB 1 Try.underlying30 rfl sc28.size (sx hS_ 0 rfl) rfl) (dbits 12 7) ?_
   refine aL 3 (u0_1) rfl rfl (hM131 3 rfl) (rfl) (fun _ hB_ => by exact r_loadS (hC.grow hB_) 4 (u0_1) rfl sc28 rfl rfl) (dbits 12 15) ?_
   refine aF 4 (.int .i64 s118.2) rfl rfl (hM132 4 rfl) (rfl) (fun _ => by exact r_mv (v := .int .i64 s118.2) (sx hS_ 3 rfl)) (dbits 12 31) ?_
   obtain ⟨⟨h0_133, h1_134⟩, h⟩ := h
   obtain ⟨Ad135, c136, hv137⟩ := sl_form (hC.getP 0 rfl) s118.2.toNat (show s118.2.toNat < a0.images.length by omega)
   refine aL 5 (.pointer (some (Ad135.add (s118.2.toNat * 1)))) rfl rfl (hM131 5 rfl) (rfl) (fun _ hB_ => by exact r_iaddrS (len := a0.images.length) Try.underlying28 ag59.size (by exact tr rfl hv137) rfl h0_133 h1_134) (dbits 12 63) ?_
   obtain ⟨cs_, hl139, hc140, hr141⟩ := sl_cells (hC.getP 0 rfl) hv137 s118.2.toNat (show s118.2.toNat < a0.images.length by omega)
   obtain ⟨u138, rfl⟩ := List.length_eq_one_iff.1 hl139
   clear hl139
   rw [getD_eq _ _ (show s118.2.toNat < a0.images.length by omega)] at hr141
   have hp142 := hr141
   replace hC := hC.derive 0 rfl (Ty.item ETerm.ty.sl ((a0.images.getD s118.2.toNat default).terms) [u138] fp0) (fun _ => (form_parts hp142)) (fun _ hb_ => hb_)
   refine aL 6 (.agg #[u138]) rfl rfl (hM131 6 rfl) (rfl) (fun _ hB_ => by exact r_loadCA [u138] (cellsAt_bel hB_ hc140) ag59 rfl rfl) (dbits 12 127) ?_
   refine aO 7 rfl ?_
   refine s_call [.agg #[u138], .int .i64 0] _ Try.func58 rfl rfl rfl (c_spec_l02Copy (a0.images.getD s118.2.toNat default) 0 h _ (form_mk (hC.getP 0 rfl))) (fun ret144 w146 hR145 => ?_)
   obtain ⟨r147, u148, f149, rfl, h, hr150, hf151, hB152⟩ := hR145
   refine ⟨_, rfl, ?_⟩
   replace hC := hC.push hB152 (Tr.item (TrForm 76) r147 [u148] f149) hr150 hf151
   obtain ⟨ho154, hf155⟩ := form_split (hC.getM 0 rfl)
   subst hf155
   replace hC := hC.recast (c := own 76 9 u148 r147.terms.length (ETerm.encs r147.terms)) (fun _ h_ => h_) (fun _ => ho154)
   refine done ?_
   refine aK (by assumption) (dbits 12 255) ?_
   refine aO 8 rfl ?_
   refine s_bslice (sz := 1) hC [(0, .agg #[u148])] [u148] rfl (fun _ => bsr28_1_s u148 (own_isSl (hC.getM 0 rfl)) _) rfl (by decide) fun b157 w158 hB_ hC => ?_
   replace hC := hC.pushM0 (forest (TrForm 76) [] [] []) (forest_nil _ _) rfl
   replace hC := hC.sM [2, 0, 1, 3, 4, 5, 6, 7] (M' := [own 76 9 u148 r147.terms.length (ETerm.encs r147.terms), forest (TrForm 76) [] [] [], own 59 1 (.slice (some ⟨b157, 0, none⟩) 1 1) 1 [u148], Tr.item (Tr.sl 59 (TrForm 76)) s118.1 [v119] f121, blk b24 30 [u15, v119], own 2 1 u15 r14.length ((EI .i64).encs r14), blk b8 30 [.slice none 0 0, .slice none 0 0], blk b5 30 [u0_0, u0_1]]) (by decide) rfl
   replace hC := hC.gather (c := forest (TrForm 76) [r147] [u148] [(Option.toList (Value.ownBlock u148))]) (fun x_ hx_ => forest_mem hx_) (fun h1_ h2_ hd_ => forest_cons (c := [u148]) (form_join (own_item h1_)) h2_ hd_)
   replace hC := hC.sM [1, 0, 2, 3, 4, 5, 6] (M' := [own 59 1 (.slice (some ⟨b157, 0, none⟩) 1 1) 1 [u148], forest (TrForm 76) [r147] [u148] [(Option.toList (Value.ownBlock u148))], Tr.item (Tr.sl 59 (TrForm 76)) s118.1 [v119] f121, blk b24 30 [u15, v119], own 2 1 u15 r14.length ((EI .i64).encs r14), blk b8 30 [.slice none 0 0, .slice none 0 0], blk b5 30 [u0_0, u0_1]]) (by decide) rfl
   replace hC := hC.gather (c := Tr.item (Tr.sl 59 (TrForm 76)) [r147] [.slice (some ⟨b157, 0, none⟩) 1 1] ((Option.toList (Value.ownBlock (.slice (some ⟨b157, 0, none⟩) 1 1))) ++ ([(Option.toList (Value.ownBlock u148))] : List (List Nat)).flatten)) (fun x_ hx_ => List.mem_append.1 hx_) (fun h1_ h2_ hd_ => forest_up h1_ h2_ hd_)
   refine done ?_
   refine aK (by assumption) (dbits 12 511) ?_
   refine ae_tail 9 (by decide) (by decide) (by kernel_rfl) (by kernel_rfl) rfl ?_
   replace hC := hC.sM [1, 0, 2, 3, 4, 5] (M' := [Tr.item (Tr.sl 59 (TrForm 76)) s118.1 [v119] f121, Tr.item (Tr.sl 59 (TrForm 76)) [r147] [.slice (some ⟨b157, 0, none⟩) 1 1] ((Option.toList (Value.ownBlock (.slice (some ⟨b157, 0, none⟩) 1 1))) ++ ([(Option.toList (Value.ownBlock u148))] : List (List Nat)).flatten), blk b24 30 [u15, v119], own 2 1 u15 r14.length ((EI .i64).encs r14), blk b8 30 [.slice none 0 0, .slice none 0 0], blk b5 30 [u0_0, u0_1]]) (by decide) rfl
   obtain ⟨hm165, h⟩ := h
   refine s_appT hC Try.underlying28 el59 rfl (by decide) (by decide) rfl rfl hm165 fun v162 f164 w163 hC => ?_
   refine s_faddrB 1 Try.underlying30 rfl sc28.size (sx hS_ 2 rfl) rfl ?_
   refine s_store (v := v162) hC 1 [v162] [u15, v162] rfl sc28.size rfl rfl (rep_cellsV (Tr.trep _ (hC.getM 0 rfl).1)) rfl (all_c (rep_oneC (Tr.trep _ (hC.getM 0 rfl).1)) rfl) (Nat.le_of_ble_eq_true rfl) rfl fun w166 hC => ?_
   refine done ?_
   refine qn_norm ?_
   refine blk_norm ?_
   refine then_norm ?_
   refine cw_region ?_
   refine s_mv (v := .int .i64 s118.2) (sx hS_ 3 rfl) ?_
   refine s_add rfl rfl ?_
   refine s_as (v := .int .i64 (IntKind.i64.wrap (s118.2 + 1))) rfl ?_
   refine done ?_
   replace hC := hC.sP [1, 2, 3] (Ps' := [Ty.item TForm.sl a0.images [u0_1] fp0, Ty.item ((EI .i64).ty.sl) a0.degrees [u0_0] fp0, Ty.item TAlg a0 [u0_0, u0_1] fp0]) rfl
   exact hK124 (s118.1 ++ [r147], IntKind.i64.wrap (s118.2 + 1)) _ _ ⟨v162, f164, (sk (sx hS_ 0 rfl) (sk (sx hS_ 1 rfl) (sk (sx hS_ 2 rfl) (sk rfl sn)))), hC⟩ h
  ·replace h := iff_ h (cf hb129)
   refine wp_exit (then_exit (then_exit (exit_in ?_)))
   refine then_norm ?_
   refine sr ?_
   refine s_loadA hC 1 [u15, v119] rfl ag30 (sx hS_ 2 rfl) rfl rfl ?_
   refine s_store (v := .agg #[u15, v119]) hC 3 [u15, v119] [u15, v119] rfl ag30.size (sx hS_ 1 rfl) rfl rfl rfl (all_c (own_oneC (hC.getM 2 rfl)) (all_c (rep_oneC (Tr.trep _ (hC.getM 0 rfl).1)) rfl)) (Nat.le_of_ble_eq_true rfl) rfl fun w167 hC => ?_
   refine dn ?_
   refine wp_ret ?_
   refine ret1 (fn := Try.f30) rfl ?_ ⟨(⟨r14, s118.1⟩ : Alg), u15, v119, ((Option.toList (Value.ownBlock u15)) ++ f121), rfl, h, (alg_join (own_item (hC.getM 2 rfl)) (hC.getM 0 rfl) (fun x hx hx' => hC.mm 2 0 rfl rfl (by decide) x hx hx')), (fun b hb => (List.mem_append.1 hb).elim (fun hb => (own_fresh hC 2 rfl) b hb) (fun hb => (tr_fresh hC 0 rfl) b hb)), hC.below⟩ (.inl rfl)
   exact res_cellA hC 3 rfl ag30 (sx hS_ 1 rfl) rfl
 ·skip
  replace hC := hC.pushM0 (Tr.item (Tr.sl 59 (TrForm 76)) [] [.slice none 0 0] []) (nil_item _ _ _) rfl
  exact ⟨.slice none 0 0, [], (sk rfl (sk rfl (sk rfl (sk rfl sn)))), hC⟩
def f_spec_l02Both (a0 : Alg) (a1 : Vc.Form) (K : Int → Prop) : Prop :=
 f_spec_l02Is a0 (fun r17 => (if ¬ (r17 = true) then K 1 else f_spec_l01Is a0.degrees a1 (fun r23 => (if ¬ (r23 = true) then K 1 else K 0))))
theorem c_spec_l02Both (a0 : Alg) (a1 : Vc.Form) {u0_0 : Value} {u0_1 : Value} {u1_0 : Value} {fp0 : List Nat} {fp1 : List Nat} {K : Int → Prop} (h : f_spec_l02Both a0 a1 K) (w0 : World) (q0 : TAlg.rep a0 [u0_0, u0_1] fp0 w0) (q1 : TForm.rep a1 [u1_0] fp1 w0) :
  Calls Try.prog 59 #[.agg #[u0_0, u0_1], .agg #[u1_0]] w0 fun e w' => ∃ (r0 : Int), 
   e = .returned (.int .i64 r0) ∧ K r0 ∧ Bel w0 w' := by
 unfold f_spec_l02Both at h
 refine calls_of (args := [.agg #[u0_0, u0_1], .agg #[u1_0]]) Try.func59 rfl 15 Try.ntmps59 (Nat.le_of_ble_eq_true rfl) ?_
 have hC := Ctx.start (X := Nox) w0 [Ty.item TAlg a0 [u0_0, u0_1] fp0, Ty.item TForm a1 [u1_0] fp1] (by simp only [List.mem_cons, List.not_mem_nil, or_false, forall_eq_or_imp, forall_eq]; exact ⟨q0, q1⟩)
 have hp3 := (hC.getP 0 rfl)
 replace hC := hC.derive 0 rfl (Ty.item ((EI .i64).ty.sl) a0.degrees [u0_0] fp0) (fun _ => (alg_parts hp3).1) (fun _ hb_ => hb_)
 replace hC := hC.derive 1 rfl (Ty.item TForm.sl a0.images [u0_1] fp0) (fun _ => (alg_parts hp3).2) (fun _ hb_ => hb_)
 have hp6 := (hC.getP 3 rfl)
 replace hC := hC.derive 3 rfl (Ty.item ETerm.ty.sl a1.terms [u1_0] fp1) (fun _ => (form_parts hp6)) (fun _ hb_ => hb_)
 refine sr ?_
 refine s_box (v := .agg #[u0_0, u0_1]) hC [u0_0, u0_1] rfl rfl fun b8 w10 hB_ hC => ?_
 refine s_box (v := .agg #[u1_0]) hC [u1_0] rfl rfl fun b11 w13 hB_ hC => ?_
 refine s_as (v := .int .i64 0) rfl ?_
 refine dn ?_
 refine wp_seq ?_
 refine sr ?_
 refine s_loadA hC 1 [u0_0, u0_1] rfl ag30 rfl rfl rfl ?_
 refine s_call [.agg #[u0_0, u0_1]] _ Try.func29 rfl rfl rfl (c_spec_l02Is a0 h _ (alg_mk (hC.getP 2 rfl) (hC.getP 1 rfl))) (fun ret14 w16 hR15 => ?_)
 obtain ⟨r17, rfl, h, hB18⟩ := hR15
 refine ⟨_, rfl, ?_⟩
 replace hC := hC.grow hB18
 refine s_not rfl ?_
 refine s_mv (v := .bool (!r17)) rfl ?_
 refine bsplit (!r17) (fun hb19 => ?_) (fun hb19 => ?_)
 ·replace h := ift h (ne_t (not_t hb19))
  refine guardOff (b := true) 3 8 rfl (tr rfl (congrArg _ hb19)) (by decide) ?_
  refine guardOff (b := true) 3 8 rfl (tr rfl (congrArg _ hb19)) (by decide) ?_
  refine guardOff (b := true) 3 8 rfl (tr rfl (congrArg _ hb19)) (by decide) ?_
  refine guardOff (b := true) 3 8 rfl (tr rfl (congrArg _ hb19)) (by decide) ?_
  refine guardOff (b := true) 3 8 rfl (tr rfl (congrArg _ hb19)) (by decide) ?_
  refine s_pick (v := .bool true) (b := true) (tr rfl (congrArg _ hb19)) rfl ?_
  refine dn ?_
  refine cw_true rfl rfl ?_
  refine sr ?_
  refine s_as (v := .int .i64 1) rfl ?_
  refine dn ?_
  refine wp_ret (then_ret ?_)
  refine ret1 (fn := Try.f59) rfl ?_ ⟨1, rfl, h, hC.below⟩ (.inl rfl)
  exact res_tmp rfl
 ·replace h := iff_ h (not_not_intro ((not_f hb19)))
  refine guardOn 3 8 rfl rfl hb19 ?_
  refine s_faddrB 0 Try.underlying30 rfl sc22.size rfl rfl ?_
  refine guardOn 3 8 rfl rfl hb19 ?_
  refine s_loadS hC 1 (u0_0) rfl sc22 rfl rfl ?_
  refine guardOn 3 8 rfl rfl hb19 ?_
  refine s_loadA hC 0 [u1_0] rfl ag59 rfl rfl rfl ?_
  refine guardOn 3 8 rfl rfl hb19 ?_
  refine s_call [u0_0, .agg #[u1_0]] _ Try.func54 rfl rfl rfl (c_spec_l01Is a0.degrees a1 h _ (hC.getP 2 rfl) (form_mk (hC.getP 0 rfl))) (fun ret20 w22 hR21 => ?_)
  obtain ⟨r23, rfl, h, hB24⟩ := hR21
  refine ⟨_, rfl, ?_⟩
  replace hC := hC.grow hB24
  refine guardOn 3 8 rfl rfl hb19 ?_
  refine s_not rfl ?_
  refine s_pick (v := .bool (!r23)) (b := false) (tr rfl (congrArg _ hb19)) rfl ?_
  refine dn ?_
  refine cw_cond rfl (fun hb25 => ?_) (fun hb25 => ?_)
  ·replace h := ift h (ne_t (not_t hb25))
   refine sr ?_
   refine s_as (v := .int .i64 1) rfl ?_
   refine dn ?_
   refine wp_ret (then_ret ?_)
   refine ret1 (fn := Try.f59) rfl ?_ ⟨1, rfl, h, hC.below⟩ (.inl rfl)
   exact res_tmp rfl
  ·replace h := iff_ h (not_not_intro ((not_f hb25)))
   refine wp_skip ?_
   refine then_norm ?_
   refine sr ?_
   refine s_as (v := .int .i64 0) rfl ?_
   refine dn ?_
   refine wp_ret ?_
   refine ret1 (fn := Try.f59) rfl ?_ ⟨0, rfl, h, hC.below⟩ (.inl rfl)
   exact res_tmp rfl
def f_spec_l02With (a0 : Alg) (a1 : Int) (a2 : Vc.Form) (K : Alg → Prop) : Prop :=
 f_spec_l02Own a0 (fun r20 => (Room (r20.degrees.length + 1) 8 ∧ f_spec_l02Copy a2 0 (fun r53 => (Room (r20.images.length + 1) 24 ∧ K (⟨r20.degrees ++ [a1], r20.images ++ [r53]⟩ : Alg)))))
theorem c_spec_l02With (a0 : Alg) (a1 : Int) (a2 : Vc.Form) {u0_0 : Value} {u0_1 : Value} {u2_0 : Value} {fp0 : List Nat} {fp2 : List Nat} {K : Alg → Prop} (h : f_spec_l02With a0 a1 a2 K) (w0 : World) (q0 : TAlg.rep a0 [u0_0, u0_1] fp0 w0) (q2 : TForm.rep a2 [u2_0] fp2 w0) :
  Calls Try.prog 61 #[.agg #[u0_0, u0_1], .int .i64 a1, .agg #[u2_0]] w0 fun e w' => ∃ (r0 : Alg) (z0_0 : Value) (z0_1 : Value) (fz0 : List Nat), 
   e = .returned (.agg #[z0_0, z0_1]) ∧ K r0 ∧ (Tr.item (TrAlg 2 76 59) r0 [z0_0, z0_1] fz0).holds w' ∧ (∀ b, b ∈ fz0 → w0.heap.size ≤ b) ∧ Bel w0 w' := by
 unfold f_spec_l02With at h
 refine calls_of (args := [.agg #[u0_0, u0_1], .int .i64 a1, .agg #[u2_0]]) Try.func61 rfl 24 Try.ntmps61 (Nat.le_of_ble_eq_true rfl) ?_
 have hC := Ctx.start (X := Nox) w0 [Ty.item TAlg a0 [u0_0, u0_1] fp0, Ty.item TForm a2 [u2_0] fp2] (by simp only [List.mem_cons, List.not_mem_nil, or_false, forall_eq_or_imp, forall_eq]; exact ⟨q0, q2⟩)
 have hp3 := (hC.getP 0 rfl)
 replace hC := hC.derive 0 rfl (Ty.item ((EI .i64).ty.sl) a0.degrees [u0_0] fp0) (fun _ => (alg_parts hp3).1) (fun _ hb_ => hb_)
 replace hC := hC.derive 1 rfl (Ty.item TForm.sl a0.images [u0_1] fp0) (fun _ => (alg_parts hp3).2) (fun _ hb_ => hb_)
 have hp6 := (hC.getP 3 rfl)
 replace hC := hC.derive 3 rfl (Ty.item ETerm.ty.sl a2.terms [u2_0] fp2) (fun _ => (form_parts hp6)) (fun _ hb_ => hb_)
 refine sr ?_
 refine s_box (v := .agg #[u0_0, u0_1]) hC [u0_0, u0_1] rfl rfl fun b8 w10 hB_ hC => ?_
 refine s_box (v := .agg #[u2_0]) hC [u2_0] rfl rfl fun b11 w13 hB_ hC => ?_
 refine s_alloc hC [.slice none 0 0, .slice none 0 0] z30 rfl fun b14 w16 hB_ hC => ?_
 refine dn ?_
 refine sr ?_
 refine s_loadA hC 2 [u0_0, u0_1] rfl ag30 rfl rfl rfl ?_
 refine s_call [.agg #[u0_0, u0_1]] _ Try.func30 rfl rfl rfl (c_spec_l02Own a0 h _ (alg_mk (hC.getP 2 rfl) (hC.getP 1 rfl))) (fun ret17 w19 hR18 => ?_)
 obtain ⟨r20, u21, u22, f23, rfl, h, hr24, hf25, hB26⟩ := hR18
 refine ⟨_, rfl, ?_⟩
 replace hC := hC.push hB26 (Tr.item (TrAlg 2 76 59) r20 [u21, u22] f23) hr24 hf25
 obtain ⟨f28, ho29, ho30, hs31, hs32, hd33⟩ := alg_split (hC.getM 0 rfl)
 replace hC := hC.split (a := own 2 1 u21 r20.degrees.length ((EI .i64).encs r20.degrees)) (b := Tr.item (Tr.sl 59 (TrForm 76)) r20.images [u22] f28) hs31 hs32 ⟨ho29, ho30, hd33⟩
 refine s_alloc hC [.slice none 0 0, .slice none 0 0] z30 rfl fun b36 w38 hB_ hC => ?_
 refine s_store (v := .agg #[u21, u22]) hC 0 [u21, u22] [u21, u22] rfl ag30.size rfl rfl rfl rfl (all_c (own_oneC (hC.getM 1 rfl)) (all_c (rep_oneC (Tr.trep _ (hC.getM 2 rfl).1)) rfl)) (Nat.le_of_ble_eq_true rfl) rfl fun w39 hC => ?_
 refine dn ?_
 refine sr ?_
 refine s_faddrB 0 Try.underlying30 rfl sc22.size rfl rfl ?_
 refine s_loadS hC 0 (u21) rfl sc22 rfl rfl ?_
 refine s_mv (v := .int .i64 a1) rfl ?_
 refine s_bslice (sz := 1) hC [(0, .int .i64 a1)] ((EI .i64).encs [a1]) rfl (fun _ => bs22_1 a1 _) rfl (by decide) fun b40 w41 hB_ hC => ?_
 obtain ⟨hm45, h⟩ := h
 refine s_app hC 2 Try.underlying22 el2 rfl (by decide) (by decide) rfl (own_rdr (hC.getM 0 rfl)) (fun q hq => Enc.encs_one' (E := (EI .i64)) _ q hq) rfl rfl hm45 fun v43 w44 hC => ?_
 replace hC := own_re hC 2 ((r20.degrees ++ [a1]).length) ((EI .i64).encs (r20.degrees ++ [a1])) rfl (by simp) (by first | (simp [Enc.encs_append]; done) | simp [Enc.encs_append, Enc.encs])
 refine s_faddrB 0 Try.underlying30 rfl sc22.size rfl rfl ?_
 refine s_store (v := v43) hC 1 [v43] [v43, u22] rfl sc22.size rfl rfl (own_cellsV (hC.getM 2 rfl)) rfl (all_c (own_oneC (hC.getM 2 rfl)) rfl) (Nat.le_of_ble_eq_true rfl) rfl fun w46 hC => ?_
 refine dn ?_
 refine wp_seq ?_
 refine cw_draw 5 mixed [0, 1, 0, 4, 12, 31, 63, 127] [1, 2] [0] (by kernel_rfl) (by kernel_rfl) (by kernel_rfl) (fun hM48 hM49 w47 hB_ => ?_)
 replace hC := hC.grow hB_
 refine aF 0 (.pointer (some ⟨b36, 1, none⟩)) rfl rfl (hM49 0 rfl) (rfl) (fun _ => by exact r_faddrB 1 Try.underlying30 rfl sc28.size rfl rfl) (dbits 8 1) ?_
 refine aL 1 (u22) rfl rfl (hM48 1 rfl) (rfl) (fun _ hB_ => by exact r_loadS (hC.grow hB_) 1 (u22) rfl sc28 rfl rfl) (dbits 8 3) ?_
 refine aL 2 (.agg #[u2_0]) rfl rfl (hM48 2 rfl) (rfl) (fun _ hB_ => by exact r_loadA (hC.grow hB_) 5 [u2_0] rfl ag59 rfl rfl rfl) (dbits 8 7) ?_
 refine aO 3 rfl ?_
 refine s_call [.agg #[u2_0], .int .i64 0] _ Try.func58 rfl rfl rfl (c_spec_l02Copy a2 0 h _ (form_mk (hC.getP 0 rfl))) (fun ret50 w52 hR51 => ?_)
 obtain ⟨r53, u54, f55, rfl, h, hr56, hf57, hB58⟩ := hR51
 refine ⟨_, rfl, ?_⟩
 replace hC := hC.push hB58 (Tr.item (TrForm 76) r53 [u54] f55) hr56 hf57
 obtain ⟨ho60, hf61⟩ := form_split (hC.getM 0 rfl)
 subst hf61
 replace hC := hC.recast (c := own 76 9 u54 r53.terms.length (ETerm.encs r53.terms)) (fun _ h_ => h_) (fun _ => ho60)
 refine done ?_
 refine aK (by assumption) (dbits 8 15) ?_
 refine aO 4 rfl ?_
 refine s_bslice (sz := 1) hC [(0, .agg #[u54])] [u54] rfl (fun _ => bsr28_1_s u54 (own_isSl (hC.getM 0 rfl)) _) rfl (by decide) fun b63 w64 hB_ hC => ?_
 replace hC := hC.pushM0 (forest (TrForm 76) [] [] []) (forest_nil _ _) rfl
 replace hC := hC.sM [2, 0, 1, 3, 4, 5, 6, 7, 8, 9] (M' := [own 76 9 u54 r53.terms.length (ETerm.encs r53.terms), forest (TrForm 76) [] [] [], own 59 1 (.slice (some ⟨b63, 0, none⟩) 1 1) 1 [u54], own 2 1 (.slice (some ⟨b40, 0, none⟩) 1 1) ([a1].length) ((EI .i64).encs [a1]), blk b36 30 [v43, u22], own 2 1 v43 ((r20.degrees ++ [a1]).length) ((EI .i64).encs (r20.degrees ++ [a1])), Tr.item (Tr.sl 59 (TrForm 76)) r20.images [u22] f28, blk b14 30 [.slice none 0 0, .slice none 0 0], blk b11 59 [u2_0], blk b8 30 [u0_0, u0_1]]) (by decide) rfl
 replace hC := hC.gather (c := forest (TrForm 76) [r53] [u54] [(Option.toList (Value.ownBlock u54))]) (fun x_ hx_ => forest_mem hx_) (fun h1_ h2_ hd_ => forest_cons (c := [u54]) (form_join (own_item h1_)) h2_ hd_)
 replace hC := hC.sM [1, 0, 2, 3, 4, 5, 6, 7, 8] (M' := [own 59 1 (.slice (some ⟨b63, 0, none⟩) 1 1) 1 [u54], forest (TrForm 76) [r53] [u54] [(Option.toList (Value.ownBlock u54))], own 2 1 (.slice (some ⟨b40, 0, none⟩) 1 1) ([a1].length) ((EI .i64).encs [a1]), blk b36 30 [v43, u22], own 2 1 v43 ((r20.degrees ++ [a1]).length) ((EI .i64).encs (r20.degrees ++ [a1])), Tr.item (Tr.sl 59 (TrForm 76)) r20.images [u22] f28, blk b14 30 [.slice none 0 0, .slice none 0 0], blk b11 59 [u2_0], blk b8 30 [u0_0, u0_1]]) (by decide) rfl
 replace hC := hC.gather (c := Tr.item (Tr.sl 59 (TrForm 76)) [r53] [.slice (some ⟨b63, 0, none⟩) 1 1] ((Option.toList (Value.ownBlock (.slice (some ⟨b63, 0, none⟩) 1 1))) ++ ([(Option.toList (Value.ownBlock u54))] : List (List Nat)).flatten)) (fun x_ hx_ => List.mem_append.1 hx_) (fun h1_ h2_ hd_ => forest_up h1_ h2_ hd_)
 refine done ?_
 refine aK (by assumption) (dbits 8 31) ?_
 refine ae_tail 5 (by decide) (by decide) (by kernel_rfl) (by kernel_rfl) rfl ?_
 replace hC := hC.sM [4, 0, 1, 2, 3, 5, 6, 7] (M' := [Tr.item (Tr.sl 59 (TrForm 76)) r20.images [u22] f28, Tr.item (Tr.sl 59 (TrForm 76)) [r53] [.slice (some ⟨b63, 0, none⟩) 1 1] ((Option.toList (Value.ownBlock (.slice (some ⟨b63, 0, none⟩) 1 1))) ++ ([(Option.toList (Value.ownBlock u54))] : List (List Nat)).flatten), own 2 1 (.slice (some ⟨b40, 0, none⟩) 1 1) ([a1].length) ((EI .i64).encs [a1]), blk b36 30 [v43, u22], own 2 1 v43 ((r20.degrees ++ [a1]).length) ((EI .i64).encs (r20.degrees ++ [a1])), blk b14 30 [.slice none 0 0, .slice none 0 0], blk b11 59 [u2_0], blk b8 30 [u0_0, u0_1]]) (by decide) rfl
 obtain ⟨hm71, h⟩ := h
 refine s_appT hC Try.underlying28 el59 rfl (by decide) (by decide) rfl rfl hm71 fun v68 f70 w69 hC => ?_
 refine s_faddrB 1 Try.underlying30 rfl sc28.size rfl rfl ?_
 refine s_store (v := v68) hC 2 [v68] [v43, v68] rfl sc28.size rfl rfl (rep_cellsV (Tr.trep _ (hC.getM 0 rfl).1)) rfl (all_c (rep_oneC (Tr.trep _ (hC.getM 0 rfl).1)) rfl) (Nat.le_of_ble_eq_true rfl) rfl fun w72 hC => ?_
 refine done ?_
 refine qn_norm ?_
 refine then_norm ?_
 refine sr ?_
 refine s_loadA hC 2 [v43, v68] rfl ag30 rfl rfl rfl ?_
 refine s_store (v := .agg #[v43, v68]) hC 4 [v43, v68] [v43, v68] rfl ag30.size rfl rfl rfl rfl (all_c (own_oneC (hC.getM 3 rfl)) (all_c (rep_oneC (Tr.trep _ (hC.getM 0 rfl).1)) rfl)) (Nat.le_of_ble_eq_true rfl) rfl fun w73 hC => ?_
 refine dn ?_
 refine wp_ret ?_
 refine ret1 (fn := Try.f61) rfl ?_ ⟨(⟨r20.degrees ++ [a1], r20.images ++ [r53]⟩ : Alg), v43, v68, ((Option.toList (Value.ownBlock v43)) ++ f70), rfl, h, (alg_join (own_item (hC.getM 3 rfl)) (hC.getM 0 rfl) (fun x hx hx' => hC.mm 3 0 rfl rfl (by decide) x hx hx')), (fun b hb => (List.mem_append.1 hb).elim (fun hb => (own_fresh hC 3 rfl) b hb) (fun hb => (tr_fresh hC 0 rfl) b hb)), hC.below⟩ (.inl rfl)
 exact res_cellA hC 4 rfl ag30 rfl rfl
def f_spec_WithGenerator (a0 : Alg) (a1 : Int) (a2 : Vc.Form) (K : Alg → Int → Prop) : Prop :=
 f_spec_l02Both a0 a2 (fun r20 => joinP (fun (jn29 : Bool → Prop) => (if r20 = 0 then f_spec_l01In a1 1 12 (fun r35 => jn29 (!r35)) else jn29 false)) (fun (x28 : Bool) => (if x28 = true then (if 2 ≠ 0 then K (⟨[], []⟩ : Alg) 2 else f_spec_l01Degree a0.degrees a2 (fun r44 r45 => joinP (fun (jn86 : Bool → Prop) => (if ¬ (r45 = true) then jn86 true else (if (a2.terms.length : Int) > 0 then (if r44 ≠ IntKind.i64.wrap (a1 + 1) then jn86 true else f_spec_l02D a0 a2 (fun r97 => jn86 (decide ((r97.terms.length : Int) > 0)))) else f_spec_l02D a0 a2 (fun r113 => jn86 (decide ((r113.terms.length : Int) > 0)))))) (fun (x85 : Bool) => (if x85 = true then K (⟨[], []⟩ : Alg) 5 else (if (a0.degrees.length : Int) = 8 then K (⟨[], []⟩ : Alg) 3 else f_spec_l02With a0 a1 a2 (fun r137 => K r137 0)))))) else (if r20 ≠ 0 then K (⟨[], []⟩ : Alg) r20 else f_spec_l01Degree a0.degrees a2 (fun r159 r160 => joinP (fun (jn201 : Bool → Prop) => (if ¬ (r160 = true) then jn201 true else (if (a2.terms.length : Int) > 0 then (if r159 ≠ IntKind.i64.wrap (a1 + 1) then jn201 true else f_spec_l02D a0 a2 (fun r212 => jn201 (decide ((r212.terms.length : Int) > 0)))) else f_spec_l02D a0 a2 (fun r228 => jn201 (decide ((r228.terms.length : Int) > 0)))))) (fun (x200 : Bool) => (if x200 = true then K (⟨[], []⟩ : Alg) 5 else (if (a0.degrees.length : Int) = 8 then K (⟨[], []⟩ : Alg) 3 else f_spec_l02With a0 a1 a2 (fun r252 => K r252 0)))))))))
theorem c_spec_WithGenerator (a0 : Alg) (a1 : Int) (a2 : Vc.Form) {u0_0 : Value} {u0_1 : Value} {u2_0 : Value} {fp0 : List Nat} {fp2 : List Nat} {K : Alg → Int → Prop} (h : f_spec_WithGenerator a0 a1 a2 K) (w0 : World) (q0 : TAlg.rep a0 [u0_0, u0_1] fp0 w0) (q2 : TForm.rep a2 [u2_0] fp2 w0) :
  Calls Try.prog 31 #[.agg #[u0_0, u0_1], .int .i64 a1, .agg #[u2_0]] w0 fun e w' => ∃ (r0 : Alg) (z0_0 : Value) (z0_1 : Value) (fz0 : List Nat) (r1 : Int), 
   e = .returned (.tuple #[.agg #[z0_0, z0_1], .int .i64 r1]) ∧ K r0 r1 ∧ (Tr.item (TrAlg 2 76 59) r0 [z0_0, z0_1] fz0).holds w' ∧ (∀ b, b ∈ fz0 → w0.heap.size ≤ b) ∧ Bel w0 w' := by
 unfold f_spec_WithGenerator at h
 refine calls_of (args := [.agg #[u0_0, u0_1], .int .i64 a1, .agg #[u2_0]]) Try.func31 rfl 66 Try.ntmps31 (Nat.le_of_ble_eq_true rfl) ?_
 have hC := Ctx.start (X := Nox) w0 [Ty.item TAlg a0 [u0_0, u0_1] fp0, Ty.item TForm a2 [u2_0] fp2] (by simp only [List.mem_cons, List.not_mem_nil, or_false, forall_eq_or_imp, forall_eq]; exact ⟨q0, q2⟩)
 have hp3 := (hC.getP 0 rfl)
 replace hC := hC.derive 0 rfl (Ty.item ((EI .i64).ty.sl) a0.degrees [u0_0] fp0) (fun _ => (alg_parts hp3).1) (fun _ hb_ => hb_)
 replace hC := hC.derive 1 rfl (Ty.item TForm.sl a0.images [u0_1] fp0) (fun _ => (alg_parts hp3).2) (fun _ hb_ => hb_)
 have hp6 := (hC.getP 3 rfl)
 replace hC := hC.derive 3 rfl (Ty.item ETerm.ty.sl a2.terms [u2_0] fp2) (fun _ => (form_parts hp6)) (fun _ hb_ => hb_)
 refine sr ?_
 refine s_box (v := .agg #[u0_0, u0_1]) hC [u0_0, u0_1] rfl rfl fun b8 w10 hB_ hC => ?_
 refine s_box (v := .agg #[u2_0]) hC [u2_0] rfl rfl fun b11 w13 hB_ hC => ?_
 refine s_alloc hC [.slice none 0 0, .slice none 0 0] z30 rfl fun b14 w16 hB_ hC => ?_
 refine s_as (v := .int .i64 0) rfl ?_
 refine dn ?_
 refine sr ?_
 refine s_loadA hC 2 [u0_0, u0_1] rfl ag30 rfl rfl rfl ?_
 refine s_loadA hC 1 [u2_0] rfl ag59 rfl rfl rfl ?_
 refine s_call [.agg #[u0_0, u0_1], .agg #[u2_0]] _ Try.func59 rfl rfl rfl (c_spec_l02Both a0 a2 h _ (alg_mk (hC.getP 2 rfl) (hC.getP 1 rfl)) (form_mk (hC.getP 0 rfl))) (fun ret17 w19 hR18 => ?_)
 obtain ⟨r20, rfl, h, hB21⟩ := hR18
 refine ⟨_, rfl, ?_⟩
 replace hC := hC.grow hB21
 refine s_as (v := .int .i64 r20) rfl ?_
 refine dn ?_
 refine wp_seq ?_
 refine wp_seq ?_
 obtain ⟨jn29, hj30, h⟩ := joinP_elim h
 refine reg_join (fun e_ w_ => ∃ (x28 : Bool), Slots e_ [(1, .int .i64 a1), (3, .pointer (some ⟨b8, 0, none⟩)), (5, .pointer (some ⟨b11, 0, none⟩)), (6, .pointer (some ⟨b14, 0, none⟩)), (7, .int .i64 0), (8, .int .i64 r20), (20, .bool x28)] ∧ Ctx Nox w0 w_ [blk b14 30 [.slice none 0 0, .slice none 0 0], blk b11 59 [u2_0], blk b8 30 [u0_0, u0_1]] [Ty.item ETerm.ty.sl a2.terms [u2_0] fp2, Ty.item TForm.sl a0.images [u0_1] fp0, Ty.item ((EI .i64).ty.sl) a0.degrees [u0_0] fp0, Ty.item TAlg a0 [u0_0, u0_1] fp0, Ty.item TForm a2 [u2_0] fp2] ∧ jn29 x28) ?_ ?_
 ·skip
  refine cw_region ?_
  refine s_mv (v := .int .i64 r20) rfl ?_
  refine s_eql rfl rfl ?_
  refine s_mv (v := .bool (decide (r20 = 0))) rfl ?_
  refine bsplit (decide (r20 = 0)) (fun hb31 => ?_) (fun hb31 => ?_)
  ·replace h := ift h (ct hb31)
   refine guardOn 2 16 rfl rfl hb31 ?_
   refine s_mv (v := .int .i64 a1) rfl ?_
   refine guardOn 2 16 rfl rfl hb31 ?_
   refine s_call [.int .i64 a1, .int .i64 1, .int .i64 12] _ Try.func60 rfl rfl rfl (c_spec_l01In a1 1 12 h _) (fun ret32 w34 hR33 => ?_)
   obtain ⟨r35, rfl, h, hB36⟩ := hR33
   refine ⟨_, rfl, ?_⟩
   replace hC := hC.grow hB36
   refine guardOn 2 16 rfl rfl hb31 ?_
   refine s_not rfl ?_
   refine s_pick (v := .bool (!r35)) (b := true) (tr rfl (congrArg _ hb31)) rfl ?_
   refine done ?_
   exact ⟨rfl, _, rfl, !r35, (sk rfl (sk rfl (sk rfl (sk rfl (sk rfl (sk rfl (sk rfl sn))))))), hC, h⟩
  ·replace h := iff_ h (cf hb31)
   refine guardOff (b := false) 2 16 rfl (tr rfl (congrArg _ hb31)) (by decide) ?_
   refine guardOff (b := false) 2 16 rfl (tr rfl (congrArg _ hb31)) (by decide) ?_
   refine guardOff (b := false) 2 16 rfl (tr rfl (congrArg _ hb31)) (by decide) ?_
   refine s_pick (v := .bool false) (b := false) (tr rfl (congrArg _ hb31)) rfl ?_
   refine done ?_
   exact ⟨rfl, _, rfl, false, (sk rfl (sk rfl (sk rfl (sk rfl (sk rfl (sk rfl (sk rfl sn))))))), hC, h⟩
 ·clear hC h
  rintro e_ w37 ⟨x28, hS_, hC, h⟩
  replace h := hj30 _ h
  refine then_norm ?_
  refine cw_cond (sx hS_ 6 rfl) (fun hb38 => ?_) (fun hb38 => ?_)
  ·replace h := ift h (hb38)
   refine cw_region ?_
   refine s_as (v := .int .i64 2) rfl ?_
   refine dn ?_
   refine wp_seq ?_
   refine sr ?_
   refine s_mv (v := .int .i64 2) rfl ?_
   refine s_neq rfl rfl ?_
   refine dn ?_
   refine cw_cond rfl (fun hb39 => ?_) (fun hb39 => ?_)
   ·replace h := ift h (ct hb39)
    refine sr ?_
    refine s_build [] rfl (bl30   _) ?_
    refine s_mv (v := .int .i64 2) rfl ?_
    refine s_store (v := .agg #[.slice none 0 0, .slice none 0 0]) hC 0 [.slice none 0 0, .slice none 0 0] [.slice none 0 0, .slice none 0 0] rfl ag30.size (sx hS_ 3 rfl) rfl rfl rfl rfl (Nat.le_of_ble_eq_true rfl) rfl fun w40 hC => ?_
    refine s_as (v := .int .i64 2) rfl ?_
    refine dn ?_
    refine wp_ret (then_ret ?_)
    refine ret2 (fn := Try.f31) rfl ?_ ?_ ⟨(⟨[], []⟩ : Alg), .slice none 0 0, .slice none 0 0, ([] ++ []), 2, rfl, h, (alg_join (nil_item _ _ _) (nil_item _ _ _) (fun x hx => absurd hx (by simp))), (fun b hb => (List.mem_append.1 hb).elim (fun hb => (fun b hb => absurd hb (by simp)) b hb) (fun hb => (fun b hb => absurd hb (by simp)) b hb)), hC.below⟩ (.inl rfl)
    ·exact res_cellA hC 0 rfl ag30 (sx hS_ 3 rfl) rfl
    ·exact res_tmp rfl
   ·replace h := iff_ h (cf hb39)
    refine wp_skip ?_
    refine then_norm ?_
    refine sr ?_
    refine s_faddrB 0 Try.underlying30 rfl sc22.size (sx hS_ 1 rfl) rfl ?_
    refine s_loadS hC 2 (u0_0) rfl sc22 rfl rfl ?_
    refine s_loadA hC 1 [u2_0] rfl ag59 (sx hS_ 2 rfl) rfl rfl ?_
    refine s_call [u0_0, .agg #[u2_0]] _ Try.func55 rfl rfl rfl (c_spec_l01Degree a0.degrees a2 h _ (hC.getP 2 rfl) (form_mk (hC.getP 0 rfl))) (fun ret41 w43 hR42 => ?_)
    obtain ⟨r44, r45, rfl, h, hB46⟩ := hR42
    refine ⟨_, rfl, ?_⟩
    replace hC := hC.grow hB46
    refine s_mv (v := .tuple #[.int .i64 r44, .bool r45]) rfl ?_
    refine s_ext (v := .int .i64 r44) rfl rfl ?_
    refine s_ext (v := .bool r45) rfl rfl ?_
    refine s_as (v := .int .i64 r44) rfl ?_
    refine s_as (v := .bool r45) rfl ?_
    refine dn ?_
    refine wp_seq ?_
    refine wp_block ?_
    refine wp_seq ?_
    obtain ⟨jn86, hj87, h⟩ := joinP_elim h
    refine reg_join (fun e_ w_ => ∃ (x85 : Bool), Slots e_ [(1, .int .i64 a1), (3, .pointer (some ⟨b8, 0, none⟩)), (5, .pointer (some ⟨b11, 0, none⟩)), (6, .pointer (some ⟨b14, 0, none⟩)), (7, .int .i64 0), (32, .bool x85)] ∧ Ctx Nox w0 w_ [blk b14 30 [.slice none 0 0, .slice none 0 0], blk b11 59 [u2_0], blk b8 30 [u0_0, u0_1]] [Ty.item ETerm.ty.sl a2.terms [u2_0] fp2, Ty.item TForm.sl a0.images [u0_1] fp0, Ty.item ((EI .i64).ty.sl) a0.degrees [u0_0] fp0, Ty.item TAlg a0 [u0_0, u0_1] fp0, Ty.item TForm a2 [u2_0] fp2] ∧ jn86 x85) ?_ ?_
    ·skip
     refine cw_region ?_
     refine s_mv (v := .bool r45) rfl ?_
     refine s_not rfl ?_
     refine s_mv (v := .bool (!r45)) rfl ?_
     refine bsplit (!r45) (fun hb88 => ?_) (fun hb88 => ?_)
     ·replace h := ift h (ne_t (not_t hb88))
      refine guardOff (b := true) 2 35 rfl (tr rfl (congrArg _ hb88)) (by decide) ?_
      refine guardOff (b := true) 2 35 rfl (tr rfl (congrArg _ hb88)) (by decide) ?_
      refine guardOff (b := true) 2 35 rfl (tr rfl (congrArg _ hb88)) (by decide) ?_
      refine guardOff (b := true) 2 35 rfl (tr rfl (congrArg _ hb88)) (by decide) ?_
      refine guardOff (b := true) 2 35 rfl (tr rfl (congrArg _ hb88)) (by decide) ?_
      refine guardOffU 7 40 rfl rfl ?_
      refine guardOffU 7 40 rfl rfl ?_
      refine guardOffU 7 40 rfl rfl ?_
      refine guardOffU 7 40 rfl rfl ?_
      refine guardOff (b := true) 2 35 rfl (tr rfl (congrArg _ hb88)) (by decide) ?_
      refine s_pick (v := .bool true) (b := true) (tr rfl (congrArg _ hb88)) rfl ?_
      refine s_mv (v := .bool true) rfl ?_
      refine guardOff (b := true) 14 47 rfl (tr rfl (congrArg _ rfl)) (by decide) ?_
      refine guardOff (b := true) 14 47 rfl (tr rfl (congrArg _ rfl)) (by decide) ?_
      refine guardOff (b := true) 14 47 rfl (tr rfl (congrArg _ rfl)) (by decide) ?_
      refine guardOff (b := true) 14 47 rfl (tr rfl (congrArg _ rfl)) (by decide) ?_
      refine guardOff (b := true) 14 47 rfl (tr rfl (congrArg _ rfl)) (by decide) ?_
      refine guardOff (b := true) 14 47 rfl (tr rfl (congrArg _ rfl)) (by decide) ?_
      refine s_pick (v := .bool true) (b := true) rfl rfl ?_
      refine s_as (v := .bool true) rfl ?_
      refine done ?_
      exact ⟨rfl, _, rfl, true, (sk (sx hS_ 0 rfl) (sk (sx hS_ 1 rfl) (sk (sx hS_ 2 rfl) (sk (sx hS_ 3 rfl) (sk (sx hS_ 4 rfl) (sk rfl sn)))))), hC, h⟩
     ·replace h := iff_ h (not_not_intro ((not_f hb88)))
      refine guardOn 2 35 rfl rfl hb88 ?_
      refine s_faddrB 0 Try.underlying59 rfl sc57.size (sx hS_ 2 rfl) rfl ?_
      refine guardOn 2 35 rfl rfl hb88 ?_
      refine s_loadS hC 1 (u2_0) rfl sc57 rfl rfl ?_
      refine guardOn 2 35 rfl rfl hb88 ?_
      obtain ⟨Ad89, c90, hv91⟩ := sl_len (hC.getP 0 rfl)
      refine s_len Try.underlying57 (tr rfl hv91) ?_
      refine guardOn 2 35 rfl rfl hb88 ?_
      refine s_gtr rfl rfl ?_
      refine guardOn 2 35 rfl rfl hb88 ?_
      refine s_mv (v := .bool (decide ((a2.terms.length : Int) > 0))) rfl ?_
      refine bsplit (decide ((a2.terms.length : Int) > 0)) (fun hb92 => ?_) (fun hb92 => ?_)
      ·replace h := ift h (ct hb92)
       refine guardOn 7 40 rfl rfl hb92 ?_
       refine s_mv (v := .int .i64 r44) rfl ?_
       refine guardOn 7 40 rfl rfl hb92 ?_
       refine s_mv (v := .int .i64 a1) (sx hS_ 0 rfl) ?_
       refine guardOn 7 40 rfl rfl hb92 ?_
       refine s_add rfl rfl ?_
       refine guardOn 7 40 rfl rfl hb92 ?_
       refine s_neq rfl rfl ?_
       refine guardOn 2 35 rfl rfl hb88 ?_
       refine s_pick (v := .bool (decide (r44 ≠ IntKind.i64.wrap (a1 + 1)))) (b := true) (tr rfl (congrArg _ hb92)) rfl ?_
       refine s_pick (v := .bool (decide (r44 ≠ IntKind.i64.wrap (a1 + 1)))) (b := false) (tr rfl (congrArg _ hb88)) rfl ?_
       refine s_mv (v := .bool (decide (r44 ≠ IntKind.i64.wrap (a1 + 1)))) rfl ?_
       refine bsplit (decide (r44 ≠ IntKind.i64.wrap (a1 + 1))) (fun hb93 => ?_) (fun hb93 => ?_)
       ·replace h := ift h (ct hb93)
        refine guardOff (b := true) 14 47 rfl (tr rfl (congrArg _ hb93)) (by decide) ?_
        refine guardOff (b := true) 14 47 rfl (tr rfl (congrArg _ hb93)) (by decide) ?_
        refine guardOff (b := true) 14 47 rfl (tr rfl (congrArg _ hb93)) (by decide) ?_
        refine guardOff (b := true) 14 47 rfl (tr rfl (congrArg _ hb93)) (by decide) ?_
        refine guardOff (b := true) 14 47 rfl (tr rfl (congrArg _ hb93)) (by decide) ?_
        refine guardOff (b := true) 14 47 rfl (tr rfl (congrArg _ hb93)) (by decide) ?_
        refine s_pick (v := .bool true) (b := true) (tr rfl (congrArg _ hb93)) rfl ?_
        refine s_as (v := .bool true) rfl ?_
        refine done ?_
        exact ⟨rfl, _, rfl, true, (sk (sx hS_ 0 rfl) (sk (sx hS_ 1 rfl) (sk (sx hS_ 2 rfl) (sk (sx hS_ 3 rfl) (sk (sx hS_ 4 rfl) (sk rfl sn)))))), hC, h⟩
       ·replace h := iff_ h (cf hb93)
        refine guardOn 14 47 rfl rfl hb93 ?_
        refine s_loadA hC 2 [u0_0, u0_1] rfl ag30 (sx hS_ 1 rfl) rfl rfl ?_
        refine guardOn 14 47 rfl rfl hb93 ?_
        refine s_loadA hC 1 [u2_0] rfl ag59 (sx hS_ 2 rfl) rfl rfl ?_
        refine guardOn 14 47 rfl rfl hb93 ?_
        refine s_call [.agg #[u0_0, u0_1], .agg #[u2_0]] _ Try.func56 rfl rfl rfl (c_spec_l02D a0 a2 h _ (alg_mk (hC.getP 2 rfl) (hC.getP 1 rfl)) (form_mk (hC.getP 0 rfl))) (fun ret94 w96 hR95 => ?_)
        obtain ⟨r97, u98, f99, rfl, h, hr100, hf101, hB102⟩ := hR95
        refine ⟨_, rfl, ?_⟩
        replace hC := hC.push hB102 (Tr.item (TrForm 76) r97 [u98] f99) hr100 hf101
        obtain ⟨ho104, hf105⟩ := form_split (hC.getM 0 rfl)
        subst hf105
        replace hC := hC.recast (c := own 76 9 u98 r97.terms.length (ETerm.encs r97.terms)) (fun _ h_ => h_) (fun _ => ho104)
        refine guardOn 14 47 rfl rfl hb93 ?_
        refine s_fieldS (u98) Try.underlying59 rfl sc57 rfl rfl ?_
        refine guardOn 14 47 rfl rfl hb93 ?_
        obtain ⟨Ad107, c108, hv109⟩ := own_form (hC.getM 0 rfl)
        refine s_len Try.underlying57 (tr rfl hv109) ?_
        refine guardOn 14 47 rfl rfl hb93 ?_
        refine s_gtr rfl rfl ?_
        refine s_pick (v := .bool (decide ((r97.terms.length : Int) > 0))) (b := false) (tr rfl (congrArg _ hb93)) rfl ?_
        refine s_as (v := .bool (decide ((r97.terms.length : Int) > 0))) rfl ?_
        refine done ?_
        replace hC := hC.sM [1, 2, 3] (M' := [blk b14 30 [.slice none 0 0, .slice none 0 0], blk b11 59 [u2_0], blk b8 30 [u0_0, u0_1]]) (by decide) rfl
        exact ⟨rfl, _, rfl, decide ((r97.terms.length : Int) > 0), (sk (sx hS_ 0 rfl) (sk (sx hS_ 1 rfl) (sk (sx hS_ 2 rfl) (sk (sx hS_ 3 rfl) (sk (sx hS_ 4 rfl) (sk rfl sn)))))), hC, h⟩
      ·replace h := iff_ h (cf hb92)
       refine guardOff (b := false) 7 40 rfl (tr rfl (congrArg _ hb92)) (by decide) ?_
       refine guardOff (b := false) 7 40 rfl (tr rfl (congrArg _ hb92)) (by decide) ?_
       refine guardOff (b := false) 7 40 rfl (tr rfl (congrArg _ hb92)) (by decide) ?_
       refine guardOff (b := false) 7 40 rfl (tr rfl (congrArg _ hb92)) (by decide) ?_
       refine guardOn 2 35 rfl rfl hb88 ?_
       refine s_pick (v := .bool false) (b := false) (tr rfl (congrArg _ hb92)) rfl ?_
       refine s_pick (v := .bool false) (b := false) (tr rfl (congrArg _ hb88)) rfl ?_
       refine s_mv (v := .bool false) rfl ?_
       refine guardOn 14 47 rfl rfl rfl ?_
       refine s_loadA hC 2 [u0_0, u0_1] rfl ag30 (sx hS_ 1 rfl) rfl rfl ?_
       refine guardOn 14 47 rfl rfl rfl ?_
       refine s_loadA hC 1 [u2_0] rfl ag59 (sx hS_ 2 rfl) rfl rfl ?_
       refine guardOn 14 47 rfl rfl rfl ?_
       refine s_call [.agg #[u0_0, u0_1], .agg #[u2_0]] _ Try.func56 rfl rfl rfl (c_spec_l02D a0 a2 h _ (alg_mk (hC.getP 2 rfl) (hC.getP 1 rfl)) (form_mk (hC.getP 0 rfl))) (fun ret110 w112 hR111 => ?_)
       obtain ⟨r113, u114, f115, rfl, h, hr116, hf117, hB118⟩ := hR111
       refine ⟨_, rfl, ?_⟩
       replace hC := hC.push hB118 (Tr.item (TrForm 76) r113 [u114] f115) hr116 hf117
       obtain ⟨ho120, hf121⟩ := form_split (hC.getM 0 rfl)
       subst hf121
       replace hC := hC.recast (c := own 76 9 u114 r113.terms.length (ETerm.encs r113.terms)) (fun _ h_ => h_) (fun _ => ho120)
       refine guardOn 14 47 rfl rfl rfl ?_
       refine s_fieldS (u114) Try.underlying59 rfl sc57 rfl rfl ?_
       refine guardOn 14 47 rfl rfl rfl ?_
       obtain ⟨Ad123, c124, hv125⟩ := own_form (hC.getM 0 rfl)
       refine s_len Try.underlying57 (tr rfl hv125) ?_
       refine guardOn 14 47 rfl rfl rfl ?_
       refine s_gtr rfl rfl ?_
       refine s_pick (v := .bool (decide ((r113.terms.length : Int) > 0))) (b := false) rfl rfl ?_
       refine s_as (v := .bool (decide ((r113.terms.length : Int) > 0))) rfl ?_
       refine done ?_
       replace hC := hC.sM [1, 2, 3] (M' := [blk b14 30 [.slice none 0 0, .slice none 0 0], blk b11 59 [u2_0], blk b8 30 [u0_0, u0_1]]) (by decide) rfl
       exact ⟨rfl, _, rfl, decide ((r113.terms.length : Int) > 0), (sk (sx hS_ 0 rfl) (sk (sx hS_ 1 rfl) (sk (sx hS_ 2 rfl) (sk (sx hS_ 3 rfl) (sk (sx hS_ 4 rfl) (sk rfl sn)))))), hC, h⟩
    ·clear hC h
     rintro e_ w126 ⟨x85, hS_, hC, h⟩
     replace h := hj87 _ h
     refine then_norm ?_
     refine cw_cond (sx hS_ 5 rfl) (fun hb127 => ?_) (fun hb127 => ?_)
     ·replace h := ift h (hb127)
      refine sr ?_
      refine s_build [] rfl (bl30   _) ?_
      refine s_store (v := .agg #[.slice none 0 0, .slice none 0 0]) hC 0 [.slice none 0 0, .slice none 0 0] [.slice none 0 0, .slice none 0 0] rfl ag30.size (sx hS_ 3 rfl) rfl rfl rfl rfl (Nat.le_of_ble_eq_true rfl) rfl fun w128 hC => ?_
      refine s_as (v := .int .i64 5) rfl ?_
      refine dn ?_
      refine wp_ret (blk_ret (then_ret ?_))
      refine ret2 (fn := Try.f31) rfl ?_ ?_ ⟨(⟨[], []⟩ : Alg), .slice none 0 0, .slice none 0 0, ([] ++ []), 5, rfl, h, (alg_join (nil_item _ _ _) (nil_item _ _ _) (fun x hx => absurd hx (by simp))), (fun b hb => (List.mem_append.1 hb).elim (fun hb => (fun b hb => absurd hb (by simp)) b hb) (fun hb => (fun b hb => absurd hb (by simp)) b hb)), hC.below⟩ (.inl rfl)
      ·exact res_cellA hC 0 rfl ag30 (sx hS_ 3 rfl) rfl
      ·exact res_tmp rfl
     ·replace h := iff_ h (ne_t hb127)
      refine sr ?_
      refine s_faddrB 0 Try.underlying30 rfl sc22.size (sx hS_ 1 rfl) rfl ?_
      refine s_loadS hC 2 (u0_0) rfl sc22 rfl rfl ?_
      obtain ⟨Ad129, c130, hv131⟩ := sl_len (hC.getP 2 rfl)
      refine s_len Try.underlying22 (tr rfl hv131) ?_
      refine s_eql rfl rfl ?_
      refine s_as (v := .bool (decide ((a0.degrees.length : Int) = 8))) rfl ?_
      refine dn ?_
      refine cw_cond rfl (fun hb132 => ?_) (fun hb132 => ?_)
      ·replace h := ift h (ct hb132)
       refine sr ?_
       refine s_build [] rfl (bl30   _) ?_
       refine s_store (v := .agg #[.slice none 0 0, .slice none 0 0]) hC 0 [.slice none 0 0, .slice none 0 0] [.slice none 0 0, .slice none 0 0] rfl ag30.size (sx hS_ 3 rfl) rfl rfl rfl rfl (Nat.le_of_ble_eq_true rfl) rfl fun w133 hC => ?_
       refine s_as (v := .int .i64 3) rfl ?_
       refine dn ?_
       refine wp_ret (blk_ret (then_ret ?_))
       refine ret2 (fn := Try.f31) rfl ?_ ?_ ⟨(⟨[], []⟩ : Alg), .slice none 0 0, .slice none 0 0, ([] ++ []), 3, rfl, h, (alg_join (nil_item _ _ _) (nil_item _ _ _) (fun x hx => absurd hx (by simp))), (fun b hb => (List.mem_append.1 hb).elim (fun hb => (fun b hb => absurd hb (by simp)) b hb) (fun hb => (fun b hb => absurd hb (by simp)) b hb)), hC.below⟩ (.inl rfl)
       ·exact res_cellA hC 0 rfl ag30 (sx hS_ 3 rfl) rfl
       ·exact res_tmp rfl
      ·replace h := iff_ h (cf hb132)
       refine wp_skip ?_
       refine blk_norm ?_
       refine then_norm ?_
       refine sr ?_
       refine s_loadA hC 2 [u0_0, u0_1] rfl ag30 (sx hS_ 1 rfl) rfl rfl ?_
       refine s_mv (v := .int .i64 a1) (sx hS_ 0 rfl) ?_
       refine s_loadA hC 1 [u2_0] rfl ag59 (sx hS_ 2 rfl) rfl rfl ?_
       refine s_call [.agg #[u0_0, u0_1], .int .i64 a1, .agg #[u2_0]] _ Try.func61 rfl rfl rfl (c_spec_l02With a0 a1 a2 h _ (alg_mk (hC.getP 2 rfl) (hC.getP 1 rfl)) (form_mk (hC.getP 0 rfl))) (fun ret134 w136 hR135 => ?_)
       obtain ⟨r137, u138, u139, f140, rfl, h, hr141, hf142, hB143⟩ := hR135
       refine ⟨_, rfl, ?_⟩
       replace hC := hC.push hB143 (Tr.item (TrAlg 2 76 59) r137 [u138, u139] f140) hr141 hf142
       obtain ⟨f145, ho146, ho147, hs148, hs149, hd150⟩ := alg_split (hC.getM 0 rfl)
       replace hC := hC.split (a := own 2 1 u138 r137.degrees.length ((EI .i64).encs r137.degrees)) (b := Tr.item (Tr.sl 59 (TrForm 76)) r137.images [u139] f145) hs148 hs149 ⟨ho146, ho147, hd150⟩
       refine s_store (v := .agg #[u138, u139]) hC 2 [u138, u139] [u138, u139] rfl ag30.size (sx hS_ 3 rfl) rfl rfl rfl (all_c (own_oneC (hC.getM 0 rfl)) (all_c (rep_oneC (Tr.trep _ (hC.getM 1 rfl).1)) rfl)) (Nat.le_of_ble_eq_true rfl) rfl fun w153 hC => ?_
       refine s_as (v := .int .i64 0) rfl ?_
       refine dn ?_
       refine wp_ret ?_
       refine ret2 (fn := Try.f31) rfl ?_ ?_ ⟨r137, u138, u139, ((Option.toList (Value.ownBlock u138)) ++ f145), 0, rfl, h, (alg_join (own_item (hC.getM 0 rfl)) (hC.getM 1 rfl) (fun x hx hx' => hC.mm 0 1 rfl rfl (by decide) x hx hx')), (fun b hb => (List.mem_append.1 hb).elim (fun hb => (own_fresh hC 0 rfl) b hb) (fun hb => (tr_fresh hC 1 rfl) b hb)), hC.below⟩ (.inl rfl)
       ·exact res_cellA hC 2 rfl ag30 (sx hS_ 3 rfl) rfl
       ·exact res_tmp rfl
  ·replace h := iff_ h (ne_t hb38)
   refine wp_skip ?_
   refine then_norm ?_
   refine wp_seq ?_
   refine sr ?_
   refine s_mv (v := .int .i64 r20) (sx hS_ 5 rfl) ?_
   refine s_neq rfl rfl ?_
   refine dn ?_
   refine cw_cond rfl (fun hb154 => ?_) (fun hb154 => ?_)
   ·replace h := ift h (ct hb154)
    refine sr ?_
    refine s_build [] rfl (bl30   _) ?_
    refine s_mv (v := .int .i64 r20) (sx hS_ 5 rfl) ?_
    refine s_store (v := .agg #[.slice none 0 0, .slice none 0 0]) hC 0 [.slice none 0 0, .slice none 0 0] [.slice none 0 0, .slice none 0 0] rfl ag30.size (sx hS_ 3 rfl) rfl rfl rfl rfl (Nat.le_of_ble_eq_true rfl) rfl fun w155 hC => ?_
    refine s_as (v := .int .i64 r20) rfl ?_
    refine dn ?_
    refine wp_ret (then_ret ?_)
    refine ret2 (fn := Try.f31) rfl ?_ ?_ ⟨(⟨[], []⟩ : Alg), .slice none 0 0, .slice none 0 0, ([] ++ []), r20, rfl, h, (alg_join (nil_item _ _ _) (nil_item _ _ _) (fun x hx => absurd hx (by simp))), (fun b hb => (List.mem_append.1 hb).elim (fun hb => (fun b hb => absurd hb (by simp)) b hb) (fun hb => (fun b hb => absurd hb (by simp)) b hb)), hC.below⟩ (.inl rfl)
    ·exact res_cellA hC 0 rfl ag30 (sx hS_ 3 rfl) rfl
    ·exact res_tmp rfl
   ·replace h := iff_ h (cf hb154)
    refine wp_skip ?_
    refine then_norm ?_
    refine sr ?_
    refine s_faddrB 0 Try.underlying30 rfl sc22.size (sx hS_ 1 rfl) rfl ?_
    refine s_loadS hC 2 (u0_0) rfl sc22 rfl rfl ?_
    refine s_loadA hC 1 [u2_0] rfl ag59 (sx hS_ 2 rfl) rfl rfl ?_
    refine s_call [u0_0, .agg #[u2_0]] _ Try.func55 rfl rfl rfl (c_spec_l01Degree a0.degrees a2 h _ (hC.getP 2 rfl) (form_mk (hC.getP 0 rfl))) (fun ret156 w158 hR157 => ?_)
    obtain ⟨r159, r160, rfl, h, hB161⟩ := hR157
    refine ⟨_, rfl, ?_⟩
    replace hC := hC.grow hB161
    refine s_mv (v := .tuple #[.int .i64 r159, .bool r160]) rfl ?_
    refine s_ext (v := .int .i64 r159) rfl rfl ?_
    refine s_ext (v := .bool r160) rfl rfl ?_
    refine s_as (v := .int .i64 r159) rfl ?_
    refine s_as (v := .bool r160) rfl ?_
    refine dn ?_
    refine wp_seq ?_
    refine wp_block ?_
    refine wp_seq ?_
    obtain ⟨jn201, hj202, h⟩ := joinP_elim h
    refine reg_join (fun e_ w_ => ∃ (x200 : Bool), Slots e_ [(1, .int .i64 a1), (3, .pointer (some ⟨b8, 0, none⟩)), (5, .pointer (some ⟨b11, 0, none⟩)), (6, .pointer (some ⟨b14, 0, none⟩)), (7, .int .i64 0), (32, .bool x200)] ∧ Ctx Nox w0 w_ [blk b14 30 [.slice none 0 0, .slice none 0 0], blk b11 59 [u2_0], blk b8 30 [u0_0, u0_1]] [Ty.item ETerm.ty.sl a2.terms [u2_0] fp2, Ty.item TForm.sl a0.images [u0_1] fp0, Ty.item ((EI .i64).ty.sl) a0.degrees [u0_0] fp0, Ty.item TAlg a0 [u0_0, u0_1] fp0, Ty.item TForm a2 [u2_0] fp2] ∧ jn201 x200) ?_ ?_
    ·skip
     refine cw_region ?_
     refine s_mv (v := .bool r160) rfl ?_
     refine s_not rfl ?_
     refine s_mv (v := .bool (!r160)) rfl ?_
     refine bsplit (!r160) (fun hb203 => ?_) (fun hb203 => ?_)
     ·replace h := ift h (ne_t (not_t hb203))
      refine guardOff (b := true) 2 35 rfl (tr rfl (congrArg _ hb203)) (by decide) ?_
      refine guardOff (b := true) 2 35 rfl (tr rfl (congrArg _ hb203)) (by decide) ?_
      refine guardOff (b := true) 2 35 rfl (tr rfl (congrArg _ hb203)) (by decide) ?_
      refine guardOff (b := true) 2 35 rfl (tr rfl (congrArg _ hb203)) (by decide) ?_
      refine guardOff (b := true) 2 35 rfl (tr rfl (congrArg _ hb203)) (by decide) ?_
      refine guardOffU 7 40 rfl rfl ?_
      refine guardOffU 7 40 rfl rfl ?_
      refine guardOffU 7 40 rfl rfl ?_
      refine guardOffU 7 40 rfl rfl ?_
      refine guardOff (b := true) 2 35 rfl (tr rfl (congrArg _ hb203)) (by decide) ?_
      refine s_pick (v := .bool true) (b := true) (tr rfl (congrArg _ hb203)) rfl ?_
      refine s_mv (v := .bool true) rfl ?_
      refine guardOff (b := true) 14 47 rfl (tr rfl (congrArg _ rfl)) (by decide) ?_
      refine guardOff (b := true) 14 47 rfl (tr rfl (congrArg _ rfl)) (by decide) ?_
      refine guardOff (b := true) 14 47 rfl (tr rfl (congrArg _ rfl)) (by decide) ?_
      refine guardOff (b := true) 14 47 rfl (tr rfl (congrArg _ rfl)) (by decide) ?_
      refine guardOff (b := true) 14 47 rfl (tr rfl (congrArg _ rfl)) (by decide) ?_
      refine guardOff (b := true) 14 47 rfl (tr rfl (congrArg _ rfl)) (by decide) ?_
      refine s_pick (v := .bool true) (b := true) rfl rfl ?_
      refine s_as (v := .bool true) rfl ?_
      refine done ?_
      exact ⟨rfl, _, rfl, true, (sk (sx hS_ 0 rfl) (sk (sx hS_ 1 rfl) (sk (sx hS_ 2 rfl) (sk (sx hS_ 3 rfl) (sk (sx hS_ 4 rfl) (sk rfl sn)))))), hC, h⟩
     ·replace h := iff_ h (not_not_intro ((not_f hb203)))
      refine guardOn 2 35 rfl rfl hb203 ?_
      refine s_faddrB 0 Try.underlying59 rfl sc57.size (sx hS_ 2 rfl) rfl ?_
      refine guardOn 2 35 rfl rfl hb203 ?_
      refine s_loadS hC 1 (u2_0) rfl sc57 rfl rfl ?_
      refine guardOn 2 35 rfl rfl hb203 ?_
      obtain ⟨Ad204, c205, hv206⟩ := sl_len (hC.getP 0 rfl)
      refine s_len Try.underlying57 (tr rfl hv206) ?_
      refine guardOn 2 35 rfl rfl hb203 ?_
      refine s_gtr rfl rfl ?_
      refine guardOn 2 35 rfl rfl hb203 ?_
      refine s_mv (v := .bool (decide ((a2.terms.length : Int) > 0))) rfl ?_
      refine bsplit (decide ((a2.terms.length : Int) > 0)) (fun hb207 => ?_) (fun hb207 => ?_)
      ·replace h := ift h (ct hb207)
       refine guardOn 7 40 rfl rfl hb207 ?_
       refine s_mv (v := .int .i64 r159) rfl ?_
       refine guardOn 7 40 rfl rfl hb207 ?_
       refine s_mv (v := .int .i64 a1) (sx hS_ 0 rfl) ?_
       refine guardOn 7 40 rfl rfl hb207 ?_
       refine s_add rfl rfl ?_
       refine guardOn 7 40 rfl rfl hb207 ?_
       refine s_neq rfl rfl ?_
       refine guardOn 2 35 rfl rfl hb203 ?_
       refine s_pick (v := .bool (decide (r159 ≠ IntKind.i64.wrap (a1 + 1)))) (b := true) (tr rfl (congrArg _ hb207)) rfl ?_
       refine s_pick (v := .bool (decide (r159 ≠ IntKind.i64.wrap (a1 + 1)))) (b := false) (tr rfl (congrArg _ hb203)) rfl ?_
       refine s_mv (v := .bool (decide (r159 ≠ IntKind.i64.wrap (a1 + 1)))) rfl ?_
       refine bsplit (decide (r159 ≠ IntKind.i64.wrap (a1 + 1))) (fun hb208 => ?_) (fun hb208 => ?_)
       ·replace h := ift h (ct hb208)
        refine guardOff (b := true) 14 47 rfl (tr rfl (congrArg _ hb208)) (by decide) ?_
        refine guardOff (b := true) 14 47 rfl (tr rfl (congrArg _ hb208)) (by decide) ?_
        refine guardOff (b := true) 14 47 rfl (tr rfl (congrArg _ hb208)) (by decide) ?_
        refine guardOff (b := true) 14 47 rfl (tr rfl (congrArg _ hb208)) (by decide) ?_
        refine guardOff (b := true) 14 47 rfl (tr rfl (congrArg _ hb208)) (by decide) ?_
        refine guardOff (b := true) 14 47 rfl (tr rfl (congrArg _ hb208)) (by decide) ?_
        refine s_pick (v := .bool true) (b := true) (tr rfl (congrArg _ hb208)) rfl ?_
        refine s_as (v := .bool true) rfl ?_
        refine done ?_
        exact ⟨rfl, _, rfl, true, (sk (sx hS_ 0 rfl) (sk (sx hS_ 1 rfl) (sk (sx hS_ 2 rfl) (sk (sx hS_ 3 rfl) (sk (sx hS_ 4 rfl) (sk rfl sn)))))), hC, h⟩
       ·replace h := iff_ h (cf hb208)
        refine guardOn 14 47 rfl rfl hb208 ?_
        refine s_loadA hC 2 [u0_0, u0_1] rfl ag30 (sx hS_ 1 rfl) rfl rfl ?_
        refine guardOn 14 47 rfl rfl hb208 ?_
        refine s_loadA hC 1 [u2_0] rfl ag59 (sx hS_ 2 rfl) rfl rfl ?_
        refine guardOn 14 47 rfl rfl hb208 ?_
        refine s_call [.agg #[u0_0, u0_1], .agg #[u2_0]] _ Try.func56 rfl rfl rfl (c_spec_l02D a0 a2 h _ (alg_mk (hC.getP 2 rfl) (hC.getP 1 rfl)) (form_mk (hC.getP 0 rfl))) (fun ret209 w211 hR210 => ?_)
        obtain ⟨r212, u213, f214, rfl, h, hr215, hf216, hB217⟩ := hR210
        refine ⟨_, rfl, ?_⟩
        replace hC := hC.push hB217 (Tr.item (TrForm 76) r212 [u213] f214) hr215 hf216
        obtain ⟨ho219, hf220⟩ := form_split (hC.getM 0 rfl)
        subst hf220
        replace hC := hC.recast (c := own 76 9 u213 r212.terms.length (ETerm.encs r212.terms)) (fun _ h_ => h_) (fun _ => ho219)
        refine guardOn 14 47 rfl rfl hb208 ?_
        refine s_fieldS (u213) Try.underlying59 rfl sc57 rfl rfl ?_
        refine guardOn 14 47 rfl rfl hb208 ?_
        obtain ⟨Ad222, c223, hv224⟩ := own_form (hC.getM 0 rfl)
        refine s_len Try.underlying57 (tr rfl hv224) ?_
        refine guardOn 14 47 rfl rfl hb208 ?_
        refine s_gtr rfl rfl ?_
        refine s_pick (v := .bool (decide ((r212.terms.length : Int) > 0))) (b := false) (tr rfl (congrArg _ hb208)) rfl ?_
        refine s_as (v := .bool (decide ((r212.terms.length : Int) > 0))) rfl ?_
        refine done ?_
        replace hC := hC.sM [1, 2, 3] (M' := [blk b14 30 [.slice none 0 0, .slice none 0 0], blk b11 59 [u2_0], blk b8 30 [u0_0, u0_1]]) (by decide) rfl
        exact ⟨rfl, _, rfl, decide ((r212.terms.length : Int) > 0), (sk (sx hS_ 0 rfl) (sk (sx hS_ 1 rfl) (sk (sx hS_ 2 rfl) (sk (sx hS_ 3 rfl) (sk (sx hS_ 4 rfl) (sk rfl sn)))))), hC, h⟩
      ·replace h := iff_ h (cf hb207)
       refine guardOff (b := false) 7 40 rfl (tr rfl (congrArg _ hb207)) (by decide) ?_
       refine guardOff (b := false) 7 40 rfl (tr rfl (congrArg _ hb207)) (by decide) ?_
       refine guardOff (b := false) 7 40 rfl (tr rfl (congrArg _ hb207)) (by decide) ?_
       refine guardOff (b := false) 7 40 rfl (tr rfl (congrArg _ hb207)) (by decide) ?_
       refine guardOn 2 35 rfl rfl hb203 ?_
       refine s_pick (v := .bool false) (b := false) (tr rfl (congrArg _ hb207)) rfl ?_
       refine s_pick (v := .bool false) (b := false) (tr rfl (congrArg _ hb203)) rfl ?_
       refine s_mv (v := .bool false) rfl ?_
       refine guardOn 14 47 rfl rfl rfl ?_
       refine s_loadA hC 2 [u0_0, u0_1] rfl ag30 (sx hS_ 1 rfl) rfl rfl ?_
       refine guardOn 14 47 rfl rfl rfl ?_
       refine s_loadA hC 1 [u2_0] rfl ag59 (sx hS_ 2 rfl) rfl rfl ?_
       refine guardOn 14 47 rfl rfl rfl ?_
       refine s_call [.agg #[u0_0, u0_1], .agg #[u2_0]] _ Try.func56 rfl rfl rfl (c_spec_l02D a0 a2 h _ (alg_mk (hC.getP 2 rfl) (hC.getP 1 rfl)) (form_mk (hC.getP 0 rfl))) (fun ret225 w227 hR226 => ?_)
       obtain ⟨r228, u229, f230, rfl, h, hr231, hf232, hB233⟩ := hR226
       refine ⟨_, rfl, ?_⟩
       replace hC := hC.push hB233 (Tr.item (TrForm 76) r228 [u229] f230) hr231 hf232
       obtain ⟨ho235, hf236⟩ := form_split (hC.getM 0 rfl)
       subst hf236
       replace hC := hC.recast (c := own 76 9 u229 r228.terms.length (ETerm.encs r228.terms)) (fun _ h_ => h_) (fun _ => ho235)
       refine guardOn 14 47 rfl rfl rfl ?_
       refine s_fieldS (u229) Try.underlying59 rfl sc57 rfl rfl ?_
       refine guardOn 14 47 rfl rfl rfl ?_
       obtain ⟨Ad238, c239, hv240⟩ := own_form (hC.getM 0 rfl)
       refine s_len Try.underlying57 (tr rfl hv240) ?_
       refine guardOn 14 47 rfl rfl rfl ?_
       refine s_gtr rfl rfl ?_
       refine s_pick (v := .bool (decide ((r228.terms.length : Int) > 0))) (b := false) rfl rfl ?_
       refine s_as (v := .bool (decide ((r228.terms.length : Int) > 0))) rfl ?_
       refine done ?_
       replace hC := hC.sM [1, 2, 3] (M' := [blk b14 30 [.slice none 0 0, .slice none 0 0], blk b11 59 [u2_0], blk b8 30 [u0_0, u0_1]]) (by decide) rfl
       exact ⟨rfl, _, rfl, decide ((r228.terms.length : Int) > 0), (sk (sx hS_ 0 rfl) (sk (sx hS_ 1 rfl) (sk (sx hS_ 2 rfl) (sk (sx hS_ 3 rfl) (sk (sx hS_ 4 rfl) (sk rfl sn)))))), hC, h⟩
    ·clear hC h
     rintro e_ w241 ⟨x200, hS_, hC, h⟩
     replace h := hj202 _ h
     refine then_norm ?_
     refine cw_cond (sx hS_ 5 rfl) (fun hb242 => ?_) (fun hb242 => ?_)
     ·replace h := ift h (hb242)
      refine sr ?_
      refine s_build [] rfl (bl30   _) ?_
      refine s_store (v := .agg #[.slice none 0 0, .slice none 0 0]) hC 0 [.slice none 0 0, .slice none 0 0] [.slice none 0 0, .slice none 0 0] rfl ag30.size (sx hS_ 3 rfl) rfl rfl rfl rfl (Nat.le_of_ble_eq_true rfl) rfl fun w243 hC => ?_
      refine s_as (v := .int .i64 5) rfl ?_
      refine dn ?_
      refine wp_ret (blk_ret (then_ret ?_))
      refine ret2 (fn := Try.f31) rfl ?_ ?_ ⟨(⟨[], []⟩ : Alg), .slice none 0 0, .slice none 0 0, ([] ++ []), 5, rfl, h, (alg_join (nil_item _ _ _) (nil_item _ _ _) (fun x hx => absurd hx (by simp))), (fun b hb => (List.mem_append.1 hb).elim (fun hb => (fun b hb => absurd hb (by simp)) b hb) (fun hb => (fun b hb => absurd hb (by simp)) b hb)), hC.below⟩ (.inl rfl)
      ·exact res_cellA hC 0 rfl ag30 (sx hS_ 3 rfl) rfl
      ·exact res_tmp rfl
     ·replace h := iff_ h (ne_t hb242)
      refine sr ?_
      refine s_faddrB 0 Try.underlying30 rfl sc22.size (sx hS_ 1 rfl) rfl ?_
      refine s_loadS hC 2 (u0_0) rfl sc22 rfl rfl ?_
      obtain ⟨Ad244, c245, hv246⟩ := sl_len (hC.getP 2 rfl)
      refine s_len Try.underlying22 (tr rfl hv246) ?_
      refine s_eql rfl rfl ?_
      refine s_as (v := .bool (decide ((a0.degrees.length : Int) = 8))) rfl ?_
      refine dn ?_
      refine cw_cond rfl (fun hb247 => ?_) (fun hb247 => ?_)
      ·replace h := ift h (ct hb247)
       refine sr ?_
       refine s_build [] rfl (bl30   _) ?_
       refine s_store (v := .agg #[.slice none 0 0, .slice none 0 0]) hC 0 [.slice none 0 0, .slice none 0 0] [.slice none 0 0, .slice none 0 0] rfl ag30.size (sx hS_ 3 rfl) rfl rfl rfl rfl (Nat.le_of_ble_eq_true rfl) rfl fun w248 hC => ?_
       refine s_as (v := .int .i64 3) rfl ?_
       refine dn ?_
       refine wp_ret (blk_ret (then_ret ?_))
       refine ret2 (fn := Try.f31) rfl ?_ ?_ ⟨(⟨[], []⟩ : Alg), .slice none 0 0, .slice none 0 0, ([] ++ []), 3, rfl, h, (alg_join (nil_item _ _ _) (nil_item _ _ _) (fun x hx => absurd hx (by simp))), (fun b hb => (List.mem_append.1 hb).elim (fun hb => (fun b hb => absurd hb (by simp)) b hb) (fun hb => (fun b hb => absurd hb (by simp)) b hb)), hC.below⟩ (.inl rfl)
       ·exact res_cellA hC 0 rfl ag30 (sx hS_ 3 rfl) rfl
       ·exact res_tmp rfl
      ·replace h := iff_ h (cf hb247)
       refine wp_skip ?_
       refine blk_norm ?_
       refine then_norm ?_
       refine sr ?_
       refine s_loadA hC 2 [u0_0, u0_1] rfl ag30 (sx hS_ 1 rfl) rfl rfl ?_
       refine s_mv (v := .int .i64 a1) (sx hS_ 0 rfl) ?_
       refine s_loadA hC 1 [u2_0] rfl ag59 (sx hS_ 2 rfl) rfl rfl ?_
       refine s_call [.agg #[u0_0, u0_1], .int .i64 a1, .agg #[u2_0]] _ Try.func61 rfl rfl rfl (c_spec_l02With a0 a1 a2 h _ (alg_mk (hC.getP 2 rfl) (hC.getP 1 rfl)) (form_mk (hC.getP 0 rfl))) (fun ret249 w251 hR250 => ?_)
       obtain ⟨r252, u253, u254, f255, rfl, h, hr256, hf257, hB258⟩ := hR250
       refine ⟨_, rfl, ?_⟩
       replace hC := hC.push hB258 (Tr.item (TrAlg 2 76 59) r252 [u253, u254] f255) hr256 hf257
       obtain ⟨f260, ho261, ho262, hs263, hs264, hd265⟩ := alg_split (hC.getM 0 rfl)
       replace hC := hC.split (a := own 2 1 u253 r252.degrees.length ((EI .i64).encs r252.degrees)) (b := Tr.item (Tr.sl 59 (TrForm 76)) r252.images [u254] f260) hs263 hs264 ⟨ho261, ho262, hd265⟩
       refine s_store (v := .agg #[u253, u254]) hC 2 [u253, u254] [u253, u254] rfl ag30.size (sx hS_ 3 rfl) rfl rfl rfl (all_c (own_oneC (hC.getM 0 rfl)) (all_c (rep_oneC (Tr.trep _ (hC.getM 1 rfl).1)) rfl)) (Nat.le_of_ble_eq_true rfl) rfl fun w268 hC => ?_
       refine s_as (v := .int .i64 0) rfl ?_
       refine dn ?_
       refine wp_ret ?_
       refine ret2 (fn := Try.f31) rfl ?_ ?_ ⟨r252, u253, u254, ((Option.toList (Value.ownBlock u253)) ++ f260), 0, rfl, h, (alg_join (own_item (hC.getM 0 rfl)) (hC.getM 1 rfl) (fun x hx hx' => hC.mm 0 1 rfl rfl (by decide) x hx hx')), (fun b hb => (List.mem_append.1 hb).elim (fun hb => (own_fresh hC 0 rfl) b hb) (fun hb => (tr_fresh hC 1 rfl) b hb)), hC.below⟩ (.inl rfl)
       ·exact res_cellA hC 2 rfl ag30 (sx hS_ 3 rfl) rfl
       ·exact res_tmp rfl
def f_spec_FibrationOver (a0 : Alg) (a1 : List Int) (a2 : List Vc.Form) (K : Alg → Int → Prop) : Prop :=
 f_spec_l02Is a0 (fun r16 => (if ¬ (r16 = true) then K (⟨[], []⟩ : Alg) 1 else (if (a1.length : Int) ≠ (a2.length : Int) then K (⟨[], []⟩ : Alg) 2 else f_spec_l02Own a0 (fun r31 => forN (fun i307 (s308 : (List Int) × (List Vc.Form)) next315 => ((0 ≤ (i307 : Int) ∧ (i307 : Int) < (a2.length : Int)) ∧ f_spec_WithGenerator (⟨s308.1, s308.2⟩ : Alg) (a1.getD i307 default) (a2.getD i307 default) (fun r395 r401 => (if r401 ≠ 0 then K (⟨[], []⟩ : Alg) r401 else next315 (r395.degrees, r395.images))))) (fun (s308 : (List Int) × (List Vc.Form)) => K (⟨s308.1, s308.2⟩ : Alg) 0) a1.length 0 (r31.degrees, r31.images)))))
theorem c_spec_FibrationOver (a0 : Alg) (a1 : List Int) (a2 : List Vc.Form) {u0_0 : Value} {u0_1 : Value} {u1_0 : Value} {u2_0 : Value} {fp0 : List Nat} {fp1 : List Nat} {fp2 : List Nat} {K : Alg → Int → Prop} (h : f_spec_FibrationOver a0 a1 a2 K) (w0 : World) (q0 : TAlg.rep a0 [u0_0, u0_1] fp0 w0) (q1 : ((EI .i64).ty.sl).rep a1 [u1_0] fp1 w0) (q2 : TForm.sl.rep a2 [u2_0] fp2 w0) :
  Calls Try.prog 8 #[.agg #[u0_0, u0_1], u1_0, u2_0] w0 fun e w' => ∃ (r0 : Alg) (z0_0 : Value) (z0_1 : Value) (fz0 : List Nat) (r1 : Int), 
   e = .returned (.tuple #[.agg #[z0_0, z0_1], .int .i64 r1]) ∧ K r0 r1 ∧ (Tr.item (TrAlg 2 76 59) r0 [z0_0, z0_1] fz0).holds w' ∧ (∀ b, b ∈ fz0 → w0.heap.size ≤ b) ∧ Bel w0 w' := by
 unfold f_spec_FibrationOver at h
 refine calls_of (args := [.agg #[u0_0, u0_1], u1_0, u2_0]) Try.func8 rfl 51 Try.ntmps8 (Nat.le_of_ble_eq_true rfl) ?_
 have hC := Ctx.start (X := Nox) w0 [Ty.item TAlg a0 [u0_0, u0_1] fp0, Ty.item ((EI .i64).ty.sl) a1 [u1_0] fp1, Ty.item TForm.sl a2 [u2_0] fp2] (by simp only [List.mem_cons, List.not_mem_nil, or_false, forall_eq_or_imp, forall_eq]; exact ⟨q0, q1, q2⟩)
 have hp4 := (hC.getP 0 rfl)
 replace hC := hC.derive 0 rfl (Ty.item ((EI .i64).ty.sl) a0.degrees [u0_0] fp0) (fun _ => (alg_parts hp4).1) (fun _ hb_ => hb_)
 replace hC := hC.derive 1 rfl (Ty.item TForm.sl a0.images [u0_1] fp0) (fun _ => (alg_parts hp4).2) (fun _ hb_ => hb_)
 refine sr ?_
 refine s_box (v := .agg #[u0_0, u0_1]) hC [u0_0, u0_1] rfl rfl fun b7 w9 hB_ hC => ?_
 refine s_alloc hC [.slice none 0 0, .slice none 0 0] z30 rfl fun b10 w12 hB_ hC => ?_
 refine s_as (v := .int .i64 0) rfl ?_
 refine dn ?_
 refine wp_seq ?_
 refine wp_block ?_
 refine sr ?_
 refine s_loadA hC 1 [u0_0, u0_1] rfl ag30 rfl rfl rfl ?_
 refine s_call [.agg #[u0_0, u0_1]] _ Try.func29 rfl rfl rfl (c_spec_l02Is a0 h _ (alg_mk (hC.getP 1 rfl) (hC.getP 0 rfl))) (fun ret13 w15 hR14 => ?_)
 obtain ⟨r16, rfl, h, hB17⟩ := hR14
 refine ⟨_, rfl, ?_⟩
 replace hC := hC.grow hB17
 refine s_not rfl ?_
 refine s_as (v := .bool (!r16)) rfl ?_
 refine dn ?_
 refine cw_cond rfl (fun hb18 => ?_) (fun hb18 => ?_)
 ·replace h := ift h (ne_t (not_t hb18))
  refine sr ?_
  refine s_build [] rfl (bl30   _) ?_
  refine s_store (v := .agg #[.slice none 0 0, .slice none 0 0]) hC 0 [.slice none 0 0, .slice none 0 0] [.slice none 0 0, .slice none 0 0] rfl ag30.size rfl rfl rfl rfl rfl (Nat.le_of_ble_eq_true rfl) rfl fun w19 hC => ?_
  refine s_as (v := .int .i64 1) rfl ?_
  refine dn ?_
  refine wp_ret (blk_ret (then_ret ?_))
  refine ret2 (fn := Try.f8) rfl ?_ ?_ ⟨(⟨[], []⟩ : Alg), .slice none 0 0, .slice none 0 0, ([] ++ []), 1, rfl, h, (alg_join (nil_item _ _ _) (nil_item _ _ _) (fun x hx => absurd hx (by simp))), (fun b hb => (List.mem_append.1 hb).elim (fun hb => (fun b hb => absurd hb (by simp)) b hb) (fun hb => (fun b hb => absurd hb (by simp)) b hb)), hC.below⟩ (.inl rfl)
  ·exact res_cellA hC 0 rfl ag30 rfl rfl
  ·exact res_tmp rfl
 ·replace h := iff_ h (not_not_intro ((not_f hb18)))
  refine sr ?_
  refine s_mv (v := u1_0) rfl ?_
  obtain ⟨Ad20, c21, hv22⟩ := sl_len (hC.getP 3 rfl)
  refine s_len Try.underlying22 (tr rfl hv22) ?_
  refine s_mv (v := u2_0) rfl ?_
  obtain ⟨Ad23, c24, hv25⟩ := sl_len (hC.getP 4 rfl)
  refine s_len Try.underlying28 (tr rfl hv25) ?_
  refine s_neq rfl rfl ?_
  refine s_as (v := .bool (decide ((a1.length : Int) ≠ (a2.length : Int)))) rfl ?_
  refine dn ?_
  refine cw_cond rfl (fun hb26 => ?_) (fun hb26 => ?_)
  ·replace h := ift h (ct hb26)
   refine sr ?_
   refine s_build [] rfl (bl30   _) ?_
   refine s_store (v := .agg #[.slice none 0 0, .slice none 0 0]) hC 0 [.slice none 0 0, .slice none 0 0] [.slice none 0 0, .slice none 0 0] rfl ag30.size rfl rfl rfl rfl rfl (Nat.le_of_ble_eq_true rfl) rfl fun w27 hC => ?_
   refine s_as (v := .int .i64 2) rfl ?_
   refine dn ?_
   refine wp_ret (blk_ret (then_ret ?_))
   refine ret2 (fn := Try.f8) rfl ?_ ?_ ⟨(⟨[], []⟩ : Alg), .slice none 0 0, .slice none 0 0, ([] ++ []), 2, rfl, h, (alg_join (nil_item _ _ _) (nil_item _ _ _) (fun x hx => absurd hx (by simp))), (fun b hb => (List.mem_append.1 hb).elim (fun hb => (fun b hb => absurd hb (by simp)) b hb) (fun hb => (fun b hb => absurd hb (by simp)) b hb)), hC.below⟩ (.inl rfl)
   ·exact res_cellA hC 0 rfl ag30 rfl rfl
   ·exact res_tmp rfl
  ·replace h := iff_ h (cf hb26)
   refine wp_skip ?_
   refine blk_norm ?_
   refine then_norm ?_
   refine sr ?_
   refine s_loadA hC 1 [u0_0, u0_1] rfl ag30 rfl rfl rfl ?_
   refine s_call [.agg #[u0_0, u0_1]] _ Try.func30 rfl rfl rfl (c_spec_l02Own a0 h _ (alg_mk (hC.getP 1 rfl) (hC.getP 0 rfl))) (fun ret28 w30 hR29 => ?_)
   obtain ⟨r31, u32, u33, f34, rfl, h, hr35, hf36, hB37⟩ := hR29
   refine ⟨_, rfl, ?_⟩
   replace hC := hC.push hB37 (Tr.item (TrAlg 2 76 59) r31 [u32, u33] f34) hr35 hf36
   obtain ⟨f39, ho40, ho41, hs42, hs43, hd44⟩ := alg_split (hC.getM 0 rfl)
   replace hC := hC.split (a := own 2 1 u32 r31.degrees.length ((EI .i64).encs r31.degrees)) (b := Tr.item (Tr.sl 59 (TrForm 76)) r31.images [u33] f39) hs42 hs43 ⟨ho40, ho41, hd44⟩
   refine s_alloc hC [.slice none 0 0, .slice none 0 0] z30 rfl fun b47 w49 hB_ hC => ?_
   refine s_store (v := .agg #[u32, u33]) hC 0 [u32, u33] [u32, u33] rfl ag30.size rfl rfl rfl rfl (all_c (own_oneC (hC.getM 1 rfl)) (all_c (rep_oneC (Tr.trep _ (hC.getM 2 rfl).1)) rfl)) (Nat.le_of_ble_eq_true rfl) rfl fun w50 hC => ?_
   refine dn ?_
   refine wp_seq ?_
   refine sr ?_
   refine s_as (v := .int .i64 0) rfl ?_
   refine dn ?_
   refine wp_block ?_
   have hN314 : a1.length ≤ 9223372036854775807 := sl_max (hC.getP 3 rfl)
   refine loopN (S := (List Int) × (List Vc.Form)) _ _ (fun i307 s308 e_ w_ => ∃ (v309 : Value), ∃ (v311 : Value), ∃ (f313 : List Nat), Slots e_ [(1, u1_0), (2, u2_0), (6, .pointer (some ⟨b10, 0, none⟩)), (7, .int .i64 0), (8, .pointer (some ⟨b47, 0, none⟩)), (9, .int .i64 (i307 : Int))] ∧ Ctx Nox w0 w_ [Tr.item (Tr.sl 59 (TrForm 76)) s308.2 [v311] f313, own 2 1 v309 s308.1.length ((EI .i64).encs s308.1), blk b47 30 [v309, v311], blk b10 30 [.slice none 0 0, .slice none 0 0]] [Ty.item TForm.sl a0.images [u0_1] fp0, Ty.item ((EI .i64).ty.sl) a0.degrees [u0_0] fp0, Ty.item TAlg a0 [u0_0, u0_1] fp0, Ty.item ((EI .i64).ty.sl) a1 [u1_0] fp1, Ty.item TForm.sl a2 [u2_0] fp2]) a1.length ?_ ?_ (s0 := (r31.degrees, r31.images)) ?_ h
   ·clear hC h
    rintro i307 s308 e_ w319 next315 K316 hi318 ⟨v309, v311, f313, hS_, hC⟩ h hK317
    refine wp_seq ?_
    refine sr ?_
    refine s_mv (v := .int .i64 (i307 : Int)) (sx hS_ 5 rfl) ?_
    refine s_mv (v := u1_0) (sx hS_ 0 rfl) ?_
    obtain ⟨Ad320, c321, hv322⟩ := sl_len (hC.getP 3 rfl)
    refine s_len Try.underlying22 (tr rfl hv322) ?_
    refine s_lss rfl rfl ?_
    refine dn ?_
    refine cw_true rfl (decide_eq_true (by omega)) ?_
    refine wp_skip ?_
    refine then_norm ?_
    refine wp_seq ?_
    refine wp_block ?_
    refine wp_seq ?_
    refine cw_draw 14 mixed [0, 0, 0, 6, 14, 0, 0, 96, 224, 511, 1023, 2047, 2047, 0, 12287, 32767] [0, 3, 4, 7, 8] [1, 2, 5, 6, 10, 11, 12] (by kernel_rfl) (by kernel_rfl) (by kernel_rfl) (fun hM324 hM325 w323 hB_ => ?_)
    replace hC := hC.grow hB_
    refine aL 0 (.agg #[v309, v311]) rfl rfl (hM324 0 rfl) (rfl) (fun _ hB_ => by exact r_loadA (hC.grow hB_) 2 [v309, v311] rfl ag30 (sx hS_ 4 rfl) rfl rfl) (dbits 16 1) ?_
    refine aF 1 (u1_0) rfl rfl (hM325 1 rfl) (rfl) (fun _ => by exact r_mv (v := u1_0) (sx hS_ 0 rfl)) (dbits 16 3) ?_
    refine aF 2 (.int .i64 (i307 : Int)) rfl rfl (hM325 2 rfl) (rfl) (fun _ => by exact r_mv (v := .int .i64 (i307 : Int)) (sx hS_ 5 rfl)) (dbits 16 7) ?_
    obtain ⟨Ad326, c327, hv328⟩ := sl_form (hC.getP 3 rfl) i307 hi318
    refine aL 3 (.pointer (some (Ad326.add (i307 * 1)))) rfl rfl (hM324 3 rfl) (rfl) (fun _ hB_ => by exact r_iaddrS (len := a1.length) Try.underlying22 sc2.size (by exact tr rfl hv328) rfl (Int.natCast_nonneg _) (Int.ofNat_lt.2 hi318)) (dbits 16 15) ?_
    refine aL 4 (.int .i64 (a1.getD i307 default)) rfl rfl (hM324 4 rfl) (rfl) (fun _ hB_ => by exact r_loadCS (.int .i64 (a1.getD i307 default)) (sl_cellsE ((hC.grow hB_).getP 3 rfl) hv328 i307 hi318) sc2 rfl) (dbits 16 31) ?_
    refine aF 5 (u2_0) rfl rfl (hM325 5 rfl) (rfl) (fun _ => by exact r_mv (v := u2_0) (sx hS_ 1 rfl)) (dbits 16 63) ?_
    refine aF 6 (.int .i64 (i307 : Int)) rfl rfl (hM325 6 rfl) (rfl) (fun _ => by exact r_mv (v := .int .i64 (i307 : Int)) (sx hS_ 5 rfl)) (dbits 16 127) ?_
    obtain ⟨⟨h0_329, h1_330⟩, h⟩ := h
    obtain ⟨Ad331, c332, hv333⟩ := sl_form (hC.getP 4 rfl) i307 (show i307 < a2.length by omega)
    refine aL 7 (.pointer (some (Ad331.add (i307 * 1)))) rfl rfl (hM324 7 rfl) (rfl) (fun _ hB_ => by exact r_iaddrS (len := a2.length) Try.underlying28 ag59.size (by exact tr rfl hv333) rfl h0_329 h1_330) (dbits 16 255) ?_
    obtain ⟨cs_, hl335, hc336, hr337⟩ := sl_cells (hC.getP 4 rfl) hv333 i307 (show i307 < a2.length by omega)
    obtain ⟨u334, rfl⟩ := List.length_eq_one_iff.1 hl335
    clear hl335
    rw [getD_eq _ _ (show i307 < a2.length by omega)] at hr337
    have hp338 := hr337
    replace hC := hC.derive 4 rfl (Ty.item ETerm.ty.sl ((a2.getD i307 default).terms) [u334] fp2) (fun _ => (form_parts hp338)) (fun _ hb_ => hb_)
    refine aL 8 (.agg #[u334]) rfl rfl (hM324 8 rfl) (rfl) (fun _ hB_ => by exact r_loadCA [u334] (cellsAt_bel hB_ hc336) ag59 rfl rfl) (dbits 16 511) ?_
    refine ae_join (fun e_ w_ => ∃ (b360 : Nat), ∃ (u344 : Value), ∃ (u345 : Value), ∃ (r343 : Alg), ∃ (f352 : List Nat), ∃ (r349 : Int), Slots e_ [(1, u1_0), (2, u2_0), (6, .pointer (some ⟨b10, 0, none⟩)), (7, .int .i64 0), (8, .pointer (some ⟨b47, 0, none⟩)), (9, .int .i64 (i307 : Int)), (10, .pointer (some ⟨b360, 0, none⟩)), (11, .int .i64 r349), (26, .int .i64 (i307 : Int)), (27, u1_0), (28, .int .i64 (a1.length : Int)), (29, .bool (decide ((i307 : Int) < (a1.length : Int)))), (32, .tuple #[.agg #[u344, u345], .int .i64 r349]), (33, .agg #[v309, v311]), (34, u1_0), (35, .int .i64 (i307 : Int)), (36, .pointer (some (Ad326.add (i307 * 1)))), (37, .int .i64 (a1.getD i307 default)), (38, u2_0), (39, .int .i64 (i307 : Int)), (40, .pointer (some (Ad331.add (i307 * 1)))), (41, .agg #[u334]), (42, .tuple #[.agg #[u344, u345], .int .i64 r349]), (43, .agg #[u344, u345]), (44, .int .i64 r349)] ∧ Ctx Nox w0 w_ [blk b360 30 [u344, u345], own 2 1 u344 r343.degrees.length ((EI .i64).encs r343.degrees), Tr.item (Tr.sl 59 (TrForm 76)) r343.images [u345] f352, Tr.item (Tr.sl 59 (TrForm 76)) s308.2 [v311] f313, own 2 1 v309 s308.1.length ((EI .i64).encs s308.1), blk b47 30 [v309, v311], blk b10 30 [.slice none 0 0, .slice none 0 0]] [Ty.item ETerm.ty.sl ((a2.getD i307 default).terms) [u334] fp2, Ty.item TForm.sl a0.images [u0_1] fp0, Ty.item ((EI .i64).ty.sl) a0.degrees [u0_0] fp0, Ty.item TAlg a0 [u0_0, u0_1] fp0, Ty.item ((EI .i64).ty.sl) a1 [u1_0] fp1, Ty.item TForm.sl a2 [u2_0] fp2] ∧ (if r349 ≠ 0 then K (⟨[], []⟩ : Alg) r349 else next315 (r343.degrees, r343.images))) ?_ ?_
    ·clear hC h
     rintro e_ w388 ⟨b360, u344, u345, r343, f352, r349, hS_, hC, h⟩
     refine then_norm ?_
     refine wp_seq ?_
     refine sr ?_
     refine s_mv (v := .int .i64 r349) (sx hS_ 7 rfl) ?_
     refine s_neq rfl rfl ?_
     refine dn ?_
     refine cw_cond rfl (fun hb389 => ?_) (fun hb389 => ?_)
     ·replace h := ift h (ct hb389)
      refine sr ?_
      refine s_build [] rfl (bl30   _) ?_
      refine s_mv (v := .int .i64 r349) (sx hS_ 7 rfl) ?_
      refine s_store (v := .agg #[.slice none 0 0, .slice none 0 0]) hC 6 [.slice none 0 0, .slice none 0 0] [.slice none 0 0, .slice none 0 0] rfl ag30.size (sx hS_ 2 rfl) rfl rfl rfl rfl (Nat.le_of_ble_eq_true rfl) rfl fun w390 hC => ?_
      refine s_as (v := .int .i64 r349) rfl ?_
      refine dn ?_
      refine wp_ret (then_ret (blk_ret (then_ret (then_ret (blk_ret (then_ret ?_))))))
      refine ret2 (fn := Try.f8) rfl ?_ ?_ ⟨(⟨[], []⟩ : Alg), .slice none 0 0, .slice none 0 0, ([] ++ []), r349, rfl, h, (alg_join (nil_item _ _ _) (nil_item _ _ _) (fun x hx => absurd hx (by simp))), (fun b hb => (List.mem_append.1 hb).elim (fun hb => (fun b hb => absurd hb (by simp)) b hb) (fun hb => (fun b hb => absurd hb (by simp)) b hb)), hC.below⟩ (.inl rfl)
      ·exact res_cellA hC 6 rfl ag30 (sx hS_ 2 rfl) rfl
      ·exact res_tmp rfl
     ·replace h := iff_ h (cf hb389)
      refine wp_skip ?_
      refine then_norm ?_
      refine cw_region ?_
      refine s_loadA hC 0 [u344, u345] rfl ag30 (sx hS_ 6 rfl) rfl rfl ?_
      refine s_store (v := .agg #[u344, u345]) hC 5 [u344, u345] [u344, u345] rfl ag30.size (sx hS_ 4 rfl) rfl rfl rfl (all_c (own_oneC (hC.getM 1 rfl)) (all_c (rep_oneC (Tr.trep _ (hC.getM 2 rfl).1)) rfl)) (Nat.le_of_ble_eq_true rfl) rfl fun w391 hC => ?_
      refine done ?_
      refine blk_norm ?_
      refine then_norm ?_
      refine cw_region ?_
      refine s_mv (v := .int .i64 (i307 : Int)) (sx hS_ 5 rfl) ?_
      refine s_add rfl rfl ?_
      refine s_as (v := .int .i64 (IntKind.i64.wrap ((i307 : Int) + 1))) rfl ?_
      refine done ?_
      replace hC := hC.sM [2, 1, 5, 6] (M' := [Tr.item (Tr.sl 59 (TrForm 76)) r343.images [u345] f352, own 2 1 u344 r343.degrees.length ((EI .i64).encs r343.degrees), blk b47 30 [u344, u345], blk b10 30 [.slice none 0 0, .slice none 0 0]]) (by decide) rfl
      replace hC := hC.sP [1, 2, 3, 4, 5] (Ps' := [Ty.item TForm.sl a0.images [u0_1] fp0, Ty.item ((EI .i64).ty.sl) a0.degrees [u0_0] fp0, Ty.item TAlg a0 [u0_0, u0_1] fp0, Ty.item ((EI .i64).ty.sl) a1 [u1_0] fp1, Ty.item TForm.sl a2 [u2_0] fp2]) rfl
      exact hK317 (r343.degrees, r343.images) _ _ ⟨u344, u345, f352, (sk (sx hS_ 0 rfl) (sk (sx hS_ 1 rfl) (sk (sx hS_ 2 rfl) (sk (sx hS_ 3 rfl) (sk (sx hS_ 4 rfl) (sk (tr rfl (congrArg _ (wrap64_nat hi318 hN314))) sn)))))), hC⟩ h
    refine ae_two 9 13 rfl rfl (by kernel_rfl) ?_ ?_
    ·skip
     refine s_call [.agg #[v309, v311], .int .i64 (a1.getD i307 default), .agg #[u334]] _ Try.func31 rfl rfl rfl (c_spec_WithGenerator (⟨s308.1, s308.2⟩ : Alg) (a1.getD i307 default) (a2.getD i307 default) h _ (alg_mk (own_repE (hC.getM 1 rfl)) (Tr.trep _ (hC.getM 0 rfl).1)) (form_mk (hC.getP 0 rfl))) (fun ret392 w394 hR393 => ?_)
     obtain ⟨r395, u396, u397, f398, r401, rfl, h, hr399, hf400, hB402⟩ := hR393
     refine ⟨_, rfl, ?_⟩
     replace hC := hC.push hB402 (Tr.item (TrAlg 2 76 59) r395 [u396, u397] f398) hr399 hf400
     obtain ⟨f404, ho405, ho406, hs407, hs408, hd409⟩ := alg_split (hC.getM 0 rfl)
     replace hC := hC.split (a := own 2 1 u396 r395.degrees.length ((EI .i64).encs r395.degrees)) (b := Tr.item (Tr.sl 59 (TrForm 76)) r395.images [u397] f404) hs407 hs408 ⟨ho405, ho406, hd409⟩
     refine done ?_
     refine aK (by assumption) (dbits 16 1023) ?_
     refine aF 10 (.tuple #[.agg #[u396, u397], .int .i64 r401]) rfl rfl (hM325 10 rfl) (rfl) (fun _ => by exact r_mv (v := .tuple #[.agg #[u396, u397], .int .i64 r401]) rfl) (dbits 16 2047) ?_
     refine aF 11 (.agg #[u396, u397]) rfl rfl (hM325 11 rfl) (rfl) (fun _ => by exact r_ext (v := .agg #[u396, u397]) rfl rfl) (dbits 16 4095) ?_
     refine aF 12 (.int .i64 r401) rfl rfl (hM325 12 rfl) (rfl) (fun _ => by exact r_ext (v := .int .i64 r401) rfl rfl) (dbits 16 8191) ?_
     refine aO 13 rfl ?_
     refine s_alloc hC [.slice none 0 0, .slice none 0 0] z30 rfl fun b412 w414 hB_ hC => ?_
     refine done ?_
     refine aK (by assumption) (dbits 16 16383) ?_
     refine aO 14 rfl ?_
     refine s_store (v := .agg #[u396, u397]) hC 0 [u396, u397] [u396, u397] rfl ag30.size rfl rfl rfl rfl (all_c (own_oneC (hC.getM 1 rfl)) (all_c (rep_oneC (Tr.trep _ (hC.getM 2 rfl).1)) rfl)) (Nat.le_of_ble_eq_true rfl) rfl fun w415 hC => ?_
     refine done ?_
     refine ak_introN (by decide) (l9 := (dbits 16 32767)) (by kernel_rfl) ?_
     refine ae_tail 15 (by decide) (by decide) (by kernel_rfl) (by kernel_rfl) rfl ?_
     refine s_as (v := .int .i64 r401) rfl ?_
     refine done ?_
     refine qn_norm ?_
     exact ⟨rfl, _, rfl, ⟨b412, u396, u397, r395, f404, r401, (sk (sx hS_ 0 rfl) (sk (sx hS_ 1 rfl) (sk (sx hS_ 2 rfl) (sk (sx hS_ 3 rfl) (sk (sx hS_ 4 rfl) (sk (sx hS_ 5 rfl) (sk rfl (sk rfl (sk rfl (sk rfl (sk rfl (sk rfl (sk rfl (sk rfl (sk rfl (sk rfl (sk rfl (sk rfl (sk rfl (sk rfl (sk rfl (sk rfl (sk rfl (sk rfl (sk rfl sn))))))))))))))))))))))))), hC, h⟩⟩
    ·skip
     refine s_alloc hC [.slice none 0 0, .slice none 0 0] z30 rfl fun b416 w418 hB_ hC => ?_
     refine done ?_
     refine aK (by assumption) (dbits 16 8703) ?_
     refine aO 9 rfl ?_
     refine s_call [.agg #[v309, v311], .int .i64 (a1.getD i307 default), .agg #[u334]] _ Try.func31 rfl rfl rfl (c_spec_WithGenerator (⟨s308.1, s308.2⟩ : Alg) (a1.getD i307 default) (a2.getD i307 default) h _ (alg_mk (own_repE (hC.getM 2 rfl)) (Tr.trep _ (hC.getM 1 rfl).1)) (form_mk (hC.getP 0 rfl))) (fun ret419 w421 hR420 => ?_)
     obtain ⟨r422, u423, u424, f425, r428, rfl, h, hr426, hf427, hB429⟩ := hR420
     refine ⟨_, rfl, ?_⟩
     replace hC := hC.push hB429 (Tr.item (TrAlg 2 76 59) r422 [u423, u424] f425) hr426 hf427
     obtain ⟨f431, ho432, ho433, hs434, hs435, hd436⟩ := alg_split (hC.getM 0 rfl)
     replace hC := hC.split (a := own 2 1 u423 r422.degrees.length ((EI .i64).encs r422.degrees)) (b := Tr.item (Tr.sl 59 (TrForm 76)) r422.images [u424] f431) hs434 hs435 ⟨ho432, ho433, hd436⟩
     refine done ?_
     refine aK (by assumption) (dbits 16 9215) ?_
     refine aF 10 (.tuple #[.agg #[u423, u424], .int .i64 r428]) rfl rfl (hM325 10 rfl) (rfl) (fun _ => by exact r_mv (v := .tuple #[.agg #[u423, u424], .int .i64 r428]) rfl) (dbits 16 10239) ?_
     refine aF 11 (.agg #[u423, u424]) rfl rfl (hM325 11 rfl) (rfl) (fun _ => by exact r_ext (v := .agg #[u423, u424]) rfl rfl) (dbits 16 12287) ?_
     refine aF 12 (.int .i64 r428) rfl rfl (hM325 12 rfl) (rfl) (fun _ => by exact r_ext (v := .int .i64 r428) rfl rfl) (dbits 16 16383) ?_
     refine aO 14 rfl ?_
     refine s_store (v := .agg #[u423, u424]) hC 2 [u423, u424] [u423, u424] rfl ag30.size rfl rfl rfl rfl (all_c (own_oneC (hC.getM 0 rfl)) (all_c (rep_oneC (Tr.trep _ (hC.getM 1 rfl).1)) rfl)) (Nat.le_of_ble_eq_true rfl) rfl fun w439 hC => ?_
     refine done ?_
     refine ak_introN (by decide) (l9 := (dbits 16 32767)) (by kernel_rfl) ?_
     refine ae_tail 15 (by decide) (by decide) (by kernel_rfl) (by kernel_rfl) rfl ?_
     refine s_as (v := .int .i64 r428) rfl ?_
     refine done ?_
     refine qn_norm ?_
     replace hC := hC.sM [2, 0, 1, 3, 4, 5, 6] (M' := [blk b416 30 [u423, u424], own 2 1 u423 r422.degrees.length ((EI .i64).encs r422.degrees), Tr.item (Tr.sl 59 (TrForm 76)) r422.images [u424] f431, Tr.item (Tr.sl 59 (TrForm 76)) s308.2 [v311] f313, own 2 1 v309 s308.1.length ((EI .i64).encs s308.1), blk b47 30 [v309, v311], blk b10 30 [.slice none 0 0, .slice none 0 0]]) (by decide) rfl
     exact ⟨rfl, _, rfl, ⟨b416, u423, u424, r422, f431, r428, (sk (sx hS_ 0 rfl) (sk (sx hS_ 1 rfl) (sk (sx hS_ 2 rfl) (sk (sx hS_ 3 rfl) (sk (sx hS_ 4 rfl) (sk (sx hS_ 5 rfl) (sk rfl (sk rfl (sk rfl (sk rfl (sk rfl (sk rfl (sk rfl (sk rfl (sk rfl (sk rfl (sk rfl (sk rfl (sk rfl (sk rfl (sk rfl (sk rfl (sk rfl (sk rfl (sk rfl sn))))))))))))))))))))))))), hC, h⟩⟩
   ·clear hC h
    rintro s308 e_ w440 K316 ⟨v309, v311, f313, hS_, hC⟩ h
    refine wp_seq ?_
    refine sr ?_
    refine s_mv (v := .int .i64 (a1.length : Int)) (sx hS_ 5 rfl) ?_
    refine s_mv (v := u1_0) (sx hS_ 0 rfl) ?_
    obtain ⟨Ad441, c442, hv443⟩ := sl_len (hC.getP 3 rfl)
    refine s_len Try.underlying22 (tr rfl hv443) ?_
    refine s_lss rfl rfl ?_
    refine dn ?_
    refine cw_false rfl (decide_eq_false (by omega)) ?_
    refine wp_exit (then_exit (then_exit (exit_in ?_)))
    refine then_norm ?_
    refine sr ?_
    refine s_loadA hC 2 [v309, v311] rfl ag30 (sx hS_ 4 rfl) rfl rfl ?_
    refine s_store (v := .agg #[v309, v311]) hC 3 [v309, v311] [v309, v311] rfl ag30.size (sx hS_ 2 rfl) rfl rfl rfl (all_c (own_oneC (hC.getM 1 rfl)) (all_c (rep_oneC (Tr.trep _ (hC.getM 0 rfl).1)) rfl)) (Nat.le_of_ble_eq_true rfl) rfl fun w444 hC => ?_
    refine s_as (v := .int .i64 0) rfl ?_
    refine dn ?_
    refine wp_ret ?_
    refine ret2 (fn := Try.f8) rfl ?_ ?_ ⟨(⟨s308.1, s308.2⟩ : Alg), v309, v311, ((Option.toList (Value.ownBlock v309)) ++ f313), 0, rfl, h, (alg_join (own_item (hC.getM 1 rfl)) (hC.getM 0 rfl) (fun x hx hx' => hC.mm 1 0 rfl rfl (by decide) x hx hx')), (fun b hb => (List.mem_append.1 hb).elim (fun hb => (own_fresh hC 1 rfl) b hb) (fun hb => (tr_fresh hC 0 rfl) b hb)), hC.below⟩ (.inl rfl)
    ·exact res_cellA hC 3 rfl ag30 (sx hS_ 2 rfl) rfl
    ·exact res_tmp rfl
   ·skip
    replace hC := hC.sM [2, 1, 0, 3] (M' := [Tr.item (Tr.sl 59 (TrForm 76)) r31.images [u33] f39, own 2 1 u32 r31.degrees.length ((EI .i64).encs r31.degrees), blk b47 30 [u32, u33], blk b10 30 [.slice none 0 0, .slice none 0 0]]) (by decide) rfl
    exact ⟨u32, u33, f39, (sk rfl (sk rfl (sk rfl (sk rfl (sk rfl (sk rfl sn)))))), hC⟩
def f_slices_Grow_int64_int64 (a1 : Int) (K : List Int → Prop) : Prop :=
 (¬ (a1 < 0) ∧ (if IntKind.i64.wrap (a1 - (IntKind.i64.wrap (0 - 0))) > 0 then ((0 ≤ IntKind.i64.wrap (a1 - (IntKind.i64.wrap (0 - 0))) ∧ Room (0 + ((IntKind.i64.wrap (a1 - (IntKind.i64.wrap (0 - 0)))).toNat)) 8) ∧ (((0 : Int) ≤ 0 ∧ 0 ≤ ((List.replicate ((IntKind.i64.wrap (a1 - (IntKind.i64.wrap (0 - 0)))).toNat) (0 : Int)).length : Int)) ∧ K ((List.replicate ((IntKind.i64.wrap (a1 - (IntKind.i64.wrap (0 - 0)))).toNat) (0 : Int)).take 0))) else K []))
theorem c_slices_Grow_int64_int64 (a1 : Int)  {K : List Int → Prop} (h : f_slices_Grow_int64_int64 a1 K) (w0 : World)  :
  Calls Try.prog 130 #[.slice none 0 0, .int .i64 a1] w0 fun e w' => ∃ (r0 : List Int) (z0_0 : Value) (fz0 : List Nat), 
   e = .returned (z0_0) ∧ K r0 ∧ (Tr.item (Tr.sl 2 ((EI .i64).tr)) r0 [z0_0] fz0).holds w' ∧ (∀ b, b ∈ fz0 → w0.heap.size ≤ b) ∧ Bel w0 w' := by
 unfold f_slices_Grow_int64_int64 at h
 refine calls_of (args := [.slice none 0 0, .int .i64 a1]) Try.func130 rfl 27 Try.ntmps130 (Nat.le_of_ble_eq_true rfl) ?_
 have hC := Ctx.start (X := Nox) w0 [] (by simp)
 refine sr ?_
 refine s_as (v := .slice none 0 0) rfl ?_
 refine dn ?_
 refine wp_seq ?_
 refine sr ?_
 refine s_mv (v := .int .i64 a1) rfl ?_
 refine s_lss rfl rfl ?_
 refine dn ?_
 obtain ⟨hb1, h⟩ := h
 refine cw_false rfl (decide_eq_false hb1) ?_
 refine wp_skip ?_
 refine then_norm ?_
 refine wp_seq ?_
 refine sr ?_
 refine s_mv (v := .int .i64 a1) rfl ?_
 refine s_mv (v := .slice none 0 0) rfl ?_
 refine s_cap Try.underlying22 rfl ?_
 refine s_mv (v := .slice none 0 0) rfl ?_
 refine s_len Try.underlying22 rfl ?_
 refine s_sub rfl rfl ?_
 refine s_sub rfl rfl ?_
 refine s_as (v := .int .i64 (IntKind.i64.wrap (a1 - (IntKind.i64.wrap (0 - 0))))) rfl ?_
 refine dn ?_
 refine sr ?_
 refine s_mv (v := .int .i64 (IntKind.i64.wrap (a1 - (IntKind.i64.wrap (0 - 0))))) rfl ?_
 refine s_gtr rfl rfl ?_
 refine dn ?_
 refine cw_cond rfl (fun hb2 => ?_) (fun hb2 => ?_)
 ·replace h := ift h (ct hb2)
  refine cw_region ?_
  refine s_mv (v := .slice none 0 0) rfl ?_
  refine s_mv (v := .slice none 0 0) rfl ?_
  refine s_cap Try.underlying22 rfl ?_
  refine s_sliceN Try.underlying22 sc2.size rfl rfl ?_
  refine s_mv (v := .int .i64 (IntKind.i64.wrap (a1 - (IntKind.i64.wrap (0 - 0))))) rfl ?_
  replace hC := hC.pushNil 2 1
  obtain ⟨hm6, h⟩ := h
  refine s_appZ0 hC 0 Try.underlying22 Try.underlying3 el2 rfl rfl (by decide) rfl rfl (tr rfl (congrArg (Value.int .i64) (Int.toNat_of_nonneg hm6.1).symm)) hm6.2 fun v4 w5 hC => ?_
  replace hC := own_re hC 0 ((List.replicate ((IntKind.i64.wrap (a1 - (IntKind.i64.wrap (0 - 0)))).toNat) (0 : Int)).length) ((EI .i64).encs (List.replicate ((IntKind.i64.wrap (a1 - (IntKind.i64.wrap (0 - 0)))).toNat) (0 : Int))) rfl (by simp) (encsI_zeros _ [] _)
  refine s_mv (v := .slice none 0 0) rfl ?_
  refine s_len Try.underlying22 rfl ?_
  obtain ⟨h0_7, h⟩ := h
  refine s_sliceH hC 0 rfl Try.underlying22 sc2.size rfl rfl h0_7.1 h0_7.2 fun v8 hC => ?_
  replace hC := own_re hC 0 (((List.replicate ((IntKind.i64.wrap (a1 - (IntKind.i64.wrap (0 - 0)))).toNat) (0 : Int)).take 0).length) ((EI .i64).encs ((List.replicate ((IntKind.i64.wrap (a1 - (IntKind.i64.wrap (0 - 0)))).toNat) (0 : Int)).take 0)) rfl (List.length_take_of_le (by omega)).symm (Enc.encs_take (EI .i64) _ _)
  refine s_as (v := v8) rfl ?_
  refine dn ?_
  refine sr ?_
  refine s_mv (v := v8) rfl ?_
  refine s_as (v := v8) rfl ?_
  refine dn ?_
  refine wp_ret ?_
  refine ret1 (fn := Try.f130) rfl ?_ ⟨(List.replicate ((IntKind.i64.wrap (a1 - (IntKind.i64.wrap (0 - 0)))).toNat) (0 : Int)).take 0, v8, (Option.toList (Value.ownBlock v8)), rfl, h, (own_item (hC.getM 0 rfl)), (own_fresh hC 0 rfl), hC.below⟩ (.inl rfl)
  exact res_tmp rfl
 ·replace h := iff_ h (cf hb2)
  refine wp_skip ?_
  refine then_norm ?_
  refine sr ?_
  refine s_mv (v := .slice none 0 0) rfl ?_
  refine s_as (v := .slice none 0 0) rfl ?_
  refine dn ?_
  refine wp_ret ?_
  refine ret1 (fn := Try.f130) rfl ?_ ⟨[], .slice none 0 0, [], rfl, h, (nil_item _ _ _), (fun b hb => absurd hb (by simp)), hC.below⟩ (.inl rfl)
  exact res_tmp rfl
def f_slices_Concat_int64_int64 (a0 : List (List Int)) (K : List Int → Prop) : Prop :=
 forN (fun i167 (s168 : Int) next170 => (¬ (IntKind.i64.wrap (s168 + ((a0.getD i167 default).length : Int)) < 0) ∧ next170 (IntKind.i64.wrap (s168 + ((a0.getD i167 default).length : Int))))) (fun (s168 : Int) => f_slices_Grow_int64_int64 s168 (fun r191 => forN (fun i233 (s234 : (List Int)) next237 => (Room (s234.length + (a0.getD i233 default).length) 8 ∧ next237 (s234 ++ (a0.getD i233 default)))) (fun (s234 : (List Int)) => K s234) a0.length 0 r191)) a0.length 0 0
theorem c_slices_Concat_int64_int64 (a0 : List (List Int)) {u0_0 : Value} {fp0 : List Nat} {K : List Int → Prop} (h : f_slices_Concat_int64_int64 a0 K) (w0 : World) (q0 : (((EI .i64).ty.sl).sl).rep a0 [u0_0] fp0 w0) :
  Calls Try.prog 98 #[u0_0] w0 fun e w' => ∃ (r0 : List Int) (z0_0 : Value) (fz0 : List Nat), 
   e = .returned (z0_0) ∧ K r0 ∧ (Tr.item (Tr.sl 2 ((EI .i64).tr)) r0 [z0_0] fz0).holds w' ∧ (∀ b, b ∈ fz0 → w0.heap.size ≤ b) ∧ Bel w0 w' := by
 unfold f_slices_Concat_int64_int64 at h
 refine calls_of (args := [u0_0]) Try.func98 rfl 36 Try.ntmps98 (Nat.le_of_ble_eq_true rfl) ?_
 have hC := Ctx.start (X := Nox) w0 [Ty.item (((EI .i64).ty.sl).sl) a0 [u0_0] fp0] (by simp only [List.mem_cons, List.not_mem_nil, or_false, forall_eq_or_imp, forall_eq]; exact q0)
 refine sr ?_
 refine s_as (v := .slice none 0 0) rfl ?_
 refine dn ?_
 refine sr ?_
 refine s_as (v := .int .i64 0) rfl ?_
 refine dn ?_
 refine wp_seq ?_
 refine sr ?_
 refine s_mv (v := u0_0) rfl ?_
 obtain ⟨Ad2, c3, hv4⟩ := sl_len (hC.getP 0 rfl)
 refine s_len Try.underlying45 (tr rfl hv4) ?_
 refine s_mv (v := .int .i64 0) rfl ?_
 refine dn ?_
 refine wp_block ?_
 have hN169 : a0.length ≤ 9223372036854775807 := sl_max (hC.getP 0 rfl)
 refine loopN (S := Int) _ _ (fun i167 s168 e_ w_ => Slots e_ [(0, u0_0), (2, .slice none 0 0), (3, .int .i64 s168), (9, u0_0), (10, .int .i64 (a0.length : Int)), (11, .int .i64 (i167 : Int))] ∧ Ctx Nox w0 w_ [] [Ty.item (((EI .i64).ty.sl).sl) a0 [u0_0] fp0]) a0.length ?_ ?_ (s0 := 0) ?_ h
 ·clear hC h
  rintro i167 s168 e_ w174 next170 K171 hi173 ⟨hS_, hC⟩ h hK172
  refine sr ?_
  refine s_lss (sx hS_ 5 rfl) (sx hS_ 4 rfl) ?_
  refine dn ?_
  refine wp_seq ?_
  refine cw_true rfl (decide_eq_true (by omega)) ?_
  refine wp_skip ?_
  refine then_norm ?_
  refine wp_seq ?_
  refine wp_block ?_
  refine sr ?_
  obtain ⟨Ad175, c176, hv177⟩ := sl_form (hC.getP 0 rfl) i167 hi173
  refine s_iaddrS (len := a0.length) Try.underlying45 sc22.size (tr (sx hS_ 3 rfl) hv177) (sx hS_ 5 rfl) (Int.natCast_nonneg _) (Int.ofNat_lt.2 hi173) ?_
  obtain ⟨cs_, hl179, hc180, hr181⟩ := sl_cells (hC.getP 0 rfl) hv177 i167 hi173
  obtain ⟨u178, rfl⟩ := List.length_eq_one_iff.1 hl179
  clear hl179
  rw [getD_eq _ _ hi173] at hr181
  replace hC := hC.derive 0 rfl (Ty.item ((EI .i64).ty.sl) (a0.getD i167 default) [u178] fp0) (fun _ => hr181) (fun _ hb_ => hb_)
  refine s_loadCS (u178) hc180 sc22 rfl ?_
  refine s_as (v := u178) rfl ?_
  refine dn ?_
  refine sr ?_
  refine s_mv (v := .int .i64 s168) (sx hS_ 2 rfl) ?_
  refine s_mv (v := u178) rfl ?_
  obtain ⟨Ad183, c184, hv185⟩ := sl_len (hC.getP 0 rfl)
  refine s_len Try.underlying22 (tr rfl hv185) ?_
  refine s_add rfl rfl ?_
  refine s_as (v := .int .i64 (IntKind.i64.wrap (s168 + ((a0.getD i167 default).length : Int)))) rfl ?_
  refine dn ?_
  refine sr ?_
  refine s_mv (v := .int .i64 (IntKind.i64.wrap (s168 + ((a0.getD i167 default).length : Int)))) rfl ?_
  refine s_lss rfl rfl ?_
  refine dn ?_
  obtain ⟨hb186, h⟩ := h
  refine cw_false rfl (decide_eq_false hb186) ?_
  refine wp_skip ?_
  refine blk_norm ?_
  refine then_norm ?_
  refine cw_region ?_
  refine s_add (sx hS_ 5 rfl) rfl ?_
  refine s_mv (v := .int .i64 (IntKind.i64.wrap ((i167 : Int) + 1))) rfl ?_
  refine done ?_
  replace hC := hC.sP [1] (Ps' := [Ty.item (((EI .i64).ty.sl).sl) a0 [u0_0] fp0]) rfl
  exact hK172 (IntKind.i64.wrap (s168 + ((a0.getD i167 default).length : Int))) _ _ ⟨(sk (sx hS_ 0 rfl) (sk (sx hS_ 1 rfl) (sk rfl (sk (sx hS_ 3 rfl) (sk (sx hS_ 4 rfl) (sk (tr rfl (congrArg _ (wrap64_nat hi173 hN169))) sn)))))), hC⟩ h
 ·clear hC h
  rintro s168 e_ w187 K171 ⟨hS_, hC⟩ h
  refine sr ?_
  refine s_lss (sx hS_ 5 rfl) (sx hS_ 4 rfl) ?_
  refine dn ?_
  refine wp_seq ?_
  refine cw_false rfl (decide_eq_false (by omega)) ?_
  refine wp_exit (then_exit (then_exit (exit_in ?_)))
  refine then_norm ?_
  refine sr ?_
  refine s_mv (v := .int .i64 s168) (sx hS_ 2 rfl) ?_
  refine s_call [.slice none 0 0, .int .i64 s168] _ Try.func130 rfl rfl rfl (c_slices_Grow_int64_int64 s168 h _) (fun ret188 w190 hR189 => ?_)
  obtain ⟨r191, u192, f193, rfl, h, hr194, hf195, hB196⟩ := hR189
  refine ⟨_, rfl, ?_⟩
  replace hC := hC.push hB196 (Tr.item (Tr.sl 2 ((EI .i64).tr)) r191 [u192] f193) hr194 hf195
  obtain ⟨ho198, hf199⟩ := flat_tr (hC.getM 0 rfl).1
  subst hf199
  replace hC := hC.recast (c := own 2 1 u192 r191.length ((EI .i64).encs r191)) (fun _ h_ => h_) (fun _ => ho198)
  refine s_as (v := u192) rfl ?_
  refine dn ?_
  refine wp_seq ?_
  refine sr ?_
  refine s_mv (v := u0_0) (sx hS_ 0 rfl) ?_
  obtain ⟨Ad201, c202, hv203⟩ := sl_len (hC.getP 0 rfl)
  refine s_len Try.underlying45 (tr rfl hv203) ?_
  refine s_mv (v := .int .i64 0) rfl ?_
  refine dn ?_
  refine wp_block ?_
  have hN236 : a0.length ≤ 9223372036854775807 := sl_max (hC.getP 0 rfl)
  refine loopN (S := (List Int)) _ _ (fun i233 s234 e_ w_ => ∃ (v235 : Value), Slots e_ [(2, .slice none 0 0), (6, v235), (25, u0_0), (26, .int .i64 (a0.length : Int)), (27, .int .i64 (i233 : Int))] ∧ Ctx Nox w0 w_ [own 2 1 v235 s234.length ((EI .i64).encs s234)] [Ty.item (((EI .i64).ty.sl).sl) a0 [u0_0] fp0]) a0.length ?_ ?_ (s0 := r191) ?_ h
  ·clear hC h
   rintro i233 s234 e_ w241 next237 K238 hi240 ⟨v235, hS_, hC⟩ h hK239
   refine sr ?_
   refine s_lss (sx hS_ 4 rfl) (sx hS_ 3 rfl) ?_
   refine dn ?_
   refine wp_seq ?_
   refine cw_true rfl (decide_eq_true (by omega)) ?_
   refine wp_skip ?_
   refine then_norm ?_
   refine wp_seq ?_
   refine wp_block ?_
   refine sr ?_
   obtain ⟨Ad242, c243, hv244⟩ := sl_form (hC.getP 0 rfl) i233 hi240
   refine s_iaddrS (len := a0.length) Try.underlying45 sc22.size (tr (sx hS_ 2 rfl) hv244) (sx hS_ 4 rfl) (Int.natCast_nonneg _) (Int.ofNat_lt.2 hi240) ?_
   obtain ⟨cs_, hl246, hc247, hr248⟩ := sl_cells (hC.getP 0 rfl) hv244 i233 hi240
   obtain ⟨u245, rfl⟩ := List.length_eq_one_iff.1 hl246
   clear hl246
   rw [getD_eq _ _ hi240] at hr248
   replace hC := hC.derive 0 rfl (Ty.item ((EI .i64).ty.sl) (a0.getD i233 default) [u245] fp0) (fun _ => hr248) (fun _ hb_ => hb_)
   refine s_loadCS (u245) hc247 sc22 rfl ?_
   refine s_as (v := u245) rfl ?_
   refine dn ?_
   refine cw_region ?_
   refine s_mv (v := v235) (sx hS_ 1 rfl) ?_
   refine s_mv (v := u245) rfl ?_
   obtain ⟨hm252, h⟩ := h
   refine s_app hC 0 Try.underlying22 el2 rfl (by decide) (by decide) rfl (sl_rdr (hC.getP 0 rfl)) (fun q hq => Enc.encs_one' (E := (EI .i64)) _ q hq) rfl rfl hm252 fun v250 w251 hC => ?_
   replace hC := own_re hC 0 ((s234 ++ (a0.getD i233 default)).length) ((EI .i64).encs (s234 ++ (a0.getD i233 default))) rfl (by simp) (by first | (simp [Enc.encs_append]; done) | simp [Enc.encs_append, Enc.encs])
   refine s_as (v := v250) rfl ?_
   refine done ?_
   refine blk_norm ?_
   refine then_norm ?_
   refine cw_region ?_
   refine s_add (sx hS_ 4 rfl) rfl ?_
   refine s_mv (v := .int .i64 (IntKind.i64.wrap ((i233 : Int) + 1))) rfl ?_
   refine done ?_
   replace hC := hC.sP [1] (Ps' := [Ty.item (((EI .i64).ty.sl).sl) a0 [u0_0] fp0]) rfl
   exact hK239 (s234 ++ (a0.getD i233 default)) _ _ ⟨v250, (sk (sx hS_ 0 rfl) (sk rfl (sk (sx hS_ 2 rfl) (sk (sx hS_ 3 rfl) (sk (tr rfl (congrArg _ (wrap64_nat hi240 hN236))) sn))))), hC⟩ h
  ·clear hC h
   rintro s234 e_ w253 K238 ⟨v235, hS_, hC⟩ h
   refine sr ?_
   refine s_lss (sx hS_ 4 rfl) (sx hS_ 3 rfl) ?_
   refine dn ?_
   refine wp_seq ?_
   refine cw_false rfl (decide_eq_false (by omega)) ?_
   refine wp_exit (then_exit (then_exit (exit_in ?_)))
   refine then_norm ?_
   refine sr ?_
   refine s_mv (v := v235) (sx hS_ 1 rfl) ?_
   refine s_as (v := v235) rfl ?_
   refine dn ?_
   refine wp_ret ?_
   refine ret1 (fn := Try.f98) rfl ?_ ⟨s234, v235, (Option.toList (Value.ownBlock v235)), rfl, h, (own_item (hC.getM 0 rfl)), (own_fresh hC 0 rfl), hC.below⟩ (.inl rfl)
   exact res_tmp rfl
  ·skip
   exact ⟨u192, (sk (sx hS_ 1 rfl) (sk rfl (sk rfl (sk rfl (sk rfl sn))))), hC⟩
 ·skip
  exact ⟨(sk rfl (sk rfl (sk rfl (sk rfl (sk rfl (sk rfl sn)))))), hC⟩
def f_impl_shifted (a0 : Vc.Form) (a1 : Int) (K : Vc.Form → Prop) : Prop :=
 forN (fun i74 (s75 : (List Term)) next79 => ((0 ≤ a1 ∧ a1 ≤ (8 : Int)) ∧ (Room (s75.length + 1) 16 ∧ next79 (s75 ++ [(⟨A8.pasted A8.zero ((a0.terms.getD i74 default).mono) a1.toNat, (a0.terms.getD i74 default).factor⟩ : Term)])))) (fun (s75 : (List Term)) => K (⟨s75⟩ : Vc.Form)) a0.terms.length 0 []
theorem c_impl_shifted (a0 : Vc.Form) (a1 : Int) {u0_0 : Value} {fp0 : List Nat} {K : Vc.Form → Prop} (h : f_impl_shifted a0 a1 K) (w0 : World) (q0 : TForm.rep a0 [u0_0] fp0 w0) :
  Calls Try.prog 99 #[.agg #[u0_0], .int .i64 a1] w0 fun e w' => ∃ (r0 : Vc.Form) (z0_0 : Value) (fz0 : List Nat), 
   e = .returned (.agg #[z0_0]) ∧ K r0 ∧ (Tr.item (TrForm 76) r0 [z0_0] fz0).holds w' ∧ (∀ b, b ∈ fz0 → w0.heap.size ≤ b) ∧ Bel w0 w' := by
 unfold f_impl_shifted at h
 refine calls_of (args := [.agg #[u0_0], .int .i64 a1]) Try.func99 rfl 34 Try.ntmps99 (Nat.le_of_ble_eq_true rfl) ?_
 have hC := Ctx.start (X := Nox) w0 [Ty.item TForm a0 [u0_0] fp0] (by simp only [List.mem_cons, List.not_mem_nil, or_false, forall_eq_or_imp, forall_eq]; exact q0)
 have hp2 := (hC.getP 0 rfl)
 replace hC := hC.derive 0 rfl (Ty.item ETerm.ty.sl a0.terms [u0_0] fp0) (fun _ => (form_parts hp2)) (fun _ hb_ => hb_)
 refine sr ?_
 refine s_box (v := .agg #[u0_0]) hC [u0_0] rfl rfl fun b4 w6 hB_ hC => ?_
 refine s_alloc hC [.slice none 0 0] z59 rfl fun b7 w9 hB_ hC => ?_
 refine dn ?_
 refine sr ?_
 refine s_build [] rfl (bl59   _) ?_
 refine s_alloc hC [.slice none 0 0] z59 rfl fun b10 w12 hB_ hC => ?_
 refine s_store (v := .agg #[.slice none 0 0]) hC 0 [.slice none 0 0] [.slice none 0 0] rfl ag59.size rfl rfl rfl rfl rfl (Nat.le_of_ble_eq_true rfl) rfl fun w13 hC => ?_
 refine dn ?_
 refine wp_seq ?_
 refine sr ?_
 refine s_faddrB 0 Try.underlying59 rfl sc57.size rfl rfl ?_
 refine s_loadS hC 2 (u0_0) rfl sc57 rfl rfl ?_
 obtain ⟨Ad14, c15, hv16⟩ := sl_len (hC.getP 0 rfl)
 refine s_len Try.underlying57 (tr rfl hv16) ?_
 refine s_mv (v := .int .i64 0) rfl ?_
 refine dn ?_
 refine wp_block ?_
 have hN78 : a0.terms.length ≤ 9223372036854775807 := sl_max (hC.getP 0 rfl)
 refine loopN (S := (List Term)) _ _ (fun i74 s75 e_ w_ => ∃ (v76 : Value), Slots e_ [(1, .int .i64 a1), (4, .pointer (some ⟨b7, 0, none⟩)), (5, .pointer (some ⟨b10, 0, none⟩)), (11, u0_0), (12, .int .i64 (a0.terms.length : Int)), (13, .int .i64 (i74 : Int))] ∧ Ctx Nox w0 w_ [own 76 9 v76 s75.length (ETerm.encs s75), blk b10 59 [v76], blk b7 59 [.slice none 0 0]] [Ty.item ETerm.ty.sl a0.terms [u0_0] fp0, Ty.item TForm a0 [u0_0] fp0]) a0.terms.length ?_ ?_ (s0 := []) ?_ h
 ·clear hC h
  rintro i74 s75 e_ w83 next79 K80 hi82 ⟨v76, hS_, hC⟩ h hK81
  refine sr ?_
  refine s_lss (sx hS_ 5 rfl) (sx hS_ 4 rfl) ?_
  refine dn ?_
  refine wp_seq ?_
  refine cw_true rfl (decide_eq_true (by omega)) ?_
  refine wp_skip ?_
  refine then_norm ?_
  refine wp_seq ?_
  refine wp_block ?_
  refine sr ?_
  obtain ⟨Ad84, c85, hv86⟩ := sl_form (hC.getP 0 rfl) i74 hi82
  refine s_iaddrS (len := a0.terms.length) Try.underlying57 ag76.size (tr (sx hS_ 3 rfl) hv86) (sx hS_ 5 rfl) (Int.natCast_nonneg _) (Int.ofNat_lt.2 hi82) ?_
  refine s_loadCA (Term.enc (a0.terms.getD i74 default)) (sl_cellsE (hC.getP 0 rfl) hv86 i74 hi82) ag76 rfl rfl ?_
  refine s_alloc hC (Term.enc (⟨A8.zero, 0⟩ : Term)) z76 rfl fun b87 w89 hB_ hC => ?_
  refine s_store (v := .agg (List.toArray (Term.enc (a0.terms.getD i74 default)))) hC 0 (Term.enc (a0.terms.getD i74 default)) (Term.enc (a0.terms.getD i74 default)) rfl ag76.size rfl rfl rfl rfl rfl (Nat.le_of_ble_eq_true rfl) rfl fun w90 hC => ?_
  refine dn ?_
  refine sr ?_
  refine s_build [] rfl (bl74   _) ?_
  refine s_alloc hC (A8.enc .u8 A8.zero) z74 rfl fun b91 w93 hB_ hC => ?_
  refine s_store (v := .agg (List.toArray (A8.enc .u8 A8.zero))) hC 0 (A8.enc .u8 A8.zero) (A8.enc .u8 A8.zero) rfl ag74.size rfl rfl rfl rfl rfl (Nat.le_of_ble_eq_true rfl) rfl fun w94 hC => ?_
  refine dn ?_
  refine wp_seq ?_
  refine cw_draw 4 mixed [0, 1, 0, 4, 15] [] [0, 1, 2, 3] (by kernel_rfl) (by kernel_rfl) (by kernel_rfl) (fun hM96 hM97 w95 hB_ => ?_)
  replace hC := hC.grow hB_
  refine aF 0 (.int .i64 a1) rfl rfl (hM97 0 rfl) (rfl) (fun _ => by exact r_mv (v := .int .i64 a1) (sx hS_ 0 rfl)) (dbits 5 1) ?_
  obtain ⟨h0_98, h⟩ := h
  refine aF 1 (slicedAt ⟨b91, 0, none⟩ (a1.toNat) 8 8 1) rfl rfl (hM97 1 rfl) (rfl) (fun _ => by exact r_slA Try.underlying74 sc5.size rfl rfl h0_98.1 h0_98.2) (dbits 5 3) ?_
  refine aF 2 (.pointer (some ⟨b87, 0, none⟩)) rfl rfl (hM97 2 rfl) (rfl) (fun _ => by exact r_faddrB 0 Try.underlying76 rfl ag74.size rfl rfl) (dbits 5 7) ?_
  refine aF 3 (.slice (some ⟨b87, 0, none⟩) 8 8) rfl rfl (hM97 3 rfl) (rfl) (fun _ => by exact r_slA0 Try.underlying74 sc5.size rfl) (dbits 5 15) ?_
  refine ae_tail 4 (by decide) (by decide) (by kernel_rfl) (by kernel_rfl) rfl ?_
  refine s_copyA hC 0 (c := (a0.terms.getD i74 default).mono) rfl Try.underlying154 el5 rfl rfl (by omega) (blk_cells (hC.getM 1 rfl) (o := 0) rfl) fun w99 hC => ?_
  refine done ?_
  refine qn_norm ?_
  refine then_norm ?_
  refine cw_region ?_
  refine s_faddrB 0 Try.underlying59 rfl sc57.size (sx hS_ 2 rfl) rfl ?_
  refine s_loadS hC 3 (v76) rfl sc57 rfl rfl ?_
  refine s_loadA hC 0 (A8.enc .u8 (A8.pasted A8.zero ((a0.terms.getD i74 default).mono) a1.toNat)) rfl ag74 rfl rfl rfl ?_
  refine s_faddrB 8 Try.underlying76 rfl sc2.size rfl rfl ?_
  refine s_loadS hC 1 (.int .i64 ((a0.terms.getD i74 default).factor)) rfl sc2 rfl rfl ?_
  refine s_build [(0, .agg (List.toArray (A8.enc .u8 (A8.pasted A8.zero ((a0.terms.getD i74 default).mono) a1.toNat)))), (1, .int .i64 ((a0.terms.getD i74 default).factor))] rfl (bl76_0flat_1int (A8.pasted A8.zero ((a0.terms.getD i74 default).mono) a1.toNat) ((a0.terms.getD i74 default).factor)  _) ?_
  refine s_bslice (sz := 9) hC [(0, .agg (List.toArray (Term.enc (⟨A8.pasted A8.zero ((a0.terms.getD i74 default).mono) a1.toNat, (a0.terms.getD i74 default).factor⟩ : Term))))] (ETerm.encs [(⟨A8.pasted A8.zero ((a0.terms.getD i74 default).mono) a1.toNat, (a0.terms.getD i74 default).factor⟩ : Term)]) rfl (fun _ => bs57_1 (⟨A8.pasted A8.zero ((a0.terms.getD i74 default).mono) a1.toNat, (a0.terms.getD i74 default).factor⟩ : Term) _) rfl (by decide) fun b100 w101 hB_ hC => ?_
  obtain ⟨hm105, h⟩ := h
  refine s_app hC 3 Try.underlying57 el76 rfl (by decide) (by decide) rfl (own_rdr (hC.getM 0 rfl)) (fun q hq => Enc.encs_one' (E := ETerm) _ q hq) rfl rfl hm105 fun v103 w104 hC => ?_
  replace hC := own_re hC 3 ((s75 ++ [(⟨A8.pasted A8.zero ((a0.terms.getD i74 default).mono) a1.toNat, (a0.terms.getD i74 default).factor⟩ : Term)]).length) (ETerm.encs (s75 ++ [(⟨A8.pasted A8.zero ((a0.terms.getD i74 default).mono) a1.toNat, (a0.terms.getD i74 default).factor⟩ : Term)])) rfl (by simp) (by first | (simp [Enc.encs_append]; done) | simp [Enc.encs_append, Enc.encs])
  refine s_faddrB 0 Try.underlying59 rfl sc57.size (sx hS_ 2 rfl) rfl ?_
  refine s_store (v := v103) hC 4 [v103] [v103] rfl sc57.size rfl rfl (own_cellsV (hC.getM 3 rfl)) rfl (all_c (own_oneC (hC.getM 3 rfl)) rfl) (Nat.le_of_ble_eq_true rfl) rfl fun w106 hC => ?_
  refine done ?_
  refine blk_norm ?_
  refine then_norm ?_
  refine cw_region ?_
  refine s_add (sx hS_ 5 rfl) rfl ?_
  refine s_mv (v := .int .i64 (IntKind.i64.wrap ((i74 : Int) + 1))) rfl ?_
  refine done ?_
  replace hC := hC.sM [3, 4, 5] (M' := [own 76 9 v103 ((s75 ++ [(⟨A8.pasted A8.zero ((a0.terms.getD i74 default).mono) a1.toNat, (a0.terms.getD i74 default).factor⟩ : Term)]).length) (ETerm.encs (s75 ++ [(⟨A8.pasted A8.zero ((a0.terms.getD i74 default).mono) a1.toNat, (a0.terms.getD i74 default).factor⟩ : Term)])), blk b10 59 [v103], blk b7 59 [.slice none 0 0]]) (by decide) rfl
  exact hK81 (s75 ++ [(⟨A8.pasted A8.zero ((a0.terms.getD i74 default).mono) a1.toNat, (a0.terms.getD i74 default).factor⟩ : Term)]) _ _ ⟨v103, (sk (sx hS_ 0 rfl) (sk (sx hS_ 1 rfl) (sk (sx hS_ 2 rfl) (sk (sx hS_ 3 rfl) (sk (sx hS_ 4 rfl) (sk (tr rfl (congrArg _ (wrap64_nat hi82 hN78))) sn)))))), hC⟩ h
 ·clear hC h
  rintro s75 e_ w107 K80 ⟨v76, hS_, hC⟩ h
  refine sr ?_
  refine s_lss (sx hS_ 5 rfl) (sx hS_ 4 rfl) ?_
  refine dn ?_
  refine wp_seq ?_
  refine cw_false rfl (decide_eq_false (by omega)) ?_
  refine wp_exit (then_exit (then_exit (exit_in ?_)))
  refine then_norm ?_
  refine sr ?_
  refine s_loadA hC 1 [v76] rfl ag59 (sx hS_ 2 rfl) rfl rfl ?_
  refine s_store (v := .agg #[v76]) hC 2 [v76] [v76] rfl ag59.size (sx hS_ 1 rfl) rfl rfl rfl (all_c (own_oneC (hC.getM 0 rfl)) rfl) (Nat.le_of_ble_eq_true rfl) rfl fun w108 hC => ?_
  refine dn ?_
  refine wp_ret ?_
  refine ret1 (fn := Try.f99) rfl ?_ ⟨(⟨s75⟩ : Vc.Form), v76, (Option.toList (Value.ownBlock v76)), rfl, h, (form_join (own_item (hC.getM 0 rfl))), (own_fresh hC 0 rfl), hC.below⟩ (.inl rfl)
  exact res_cellA hC 2 rfl ag59 (sx hS_ 1 rfl) rfl
 ·skip
  replace hC := hC.pushNil 76 9
  replace hC := hC.sM [0, 1, 2] (M' := [own 76 9 (.slice none 0 0) 0 (ETerm.encs []), blk b10 59 [.slice none 0 0], blk b7 59 [.slice none 0 0]]) (by decide) rfl
  exact ⟨.slice none 0 0, (sk rfl (sk rfl (sk rfl (sk rfl (sk rfl (sk rfl sn)))))), hC⟩
def f_impl_productOf (a0 : Alg) (a1 : Alg) (K : Alg → Int → Prop) : Prop :=
 (if IntKind.i64.wrap ((a0.degrees.length : Int) + (a1.degrees.length : Int)) > 8 then K (⟨[], []⟩ : Alg) 3 else f_slices_Concat_int64_int64 [a0.degrees, a1.degrees] (fun r677 => forN (fun i472 (s473 : (List Vc.Form)) next478 => f_impl_shifted (a0.images.getD i472 default) 0 (fun r502 => (Room (s473.length + 1) 24 ∧ next478 (s473 ++ [r502])))) (fun (s473 : (List Vc.Form)) => forN (fun i614 (s615 : (List Vc.Form)) next619 => f_impl_shifted (a1.images.getD i614 default) (a0.degrees.length : Int) (fun r643 => (Room (s615.length + 1) 24 ∧ next619 (s615 ++ [r643])))) (fun (s615 : (List Vc.Form)) => K (⟨r677, s615⟩ : Alg) 0) a1.images.length 0 s473) a0.images.length 0 []))
theorem c_impl_productOf (a0 : Alg) (a1 : Alg) {b0 : Nat} {b1 : Nat} {u0_0 : Value} {u0_1 : Value} {u1_0 : Value} {u1_1 : Value} {fp0 : List Nat} {fp1 : List Nat} {K : Alg → Int → Prop} (h : f_impl_productOf a0 a1 K) (w0 : World) (q0 : TAlg.rep a0 [u0_0, u0_1] fp0 w0) (qb0 : (blk b0 30 [u0_0, u0_1]).holds w0) (q1 : TAlg.rep a1 [u1_0, u1_1] fp1 w0) (qb1 : (blk b1 30 [u1_0, u1_1]).holds w0) :
  Calls Try.prog 67 #[.pointer (some ⟨b0, 0, none⟩), .pointer (some ⟨b1, 0, none⟩)] w0 fun e w' => ∃ (r0 : Alg) (z0_0 : Value) (z0_1 : Value) (fz0 : List Nat) (r1 : Int), 
   e = .returned (.tuple #[.agg #[z0_0, z0_1], .int .i64 r1]) ∧ K r0 r1 ∧ (Tr.item (TrAlg 2 76 59) r0 [z0_0, z0_1] fz0).holds w' ∧ (∀ b, b ∈ fz0 → w0.heap.size ≤ b) ∧ Bel w0 w' := by
 unfold f_impl_productOf at h
 refine calls_of (args := [.pointer (some ⟨b0, 0, none⟩), .pointer (some ⟨b1, 0, none⟩)]) Try.func67 rfl 73 Try.ntmps67 (Nat.le_of_ble_eq_true rfl) ?_
 have hC := Ctx.start (X := Nox) w0 [Ty.item TAlg a0 [u0_0, u0_1] fp0, Ty.item TAlg a1 [u1_0, u1_1] fp1, blk b0 30 [u0_0, u0_1], blk b1 30 [u1_0, u1_1]] (by simp only [List.mem_cons, List.not_mem_nil, or_false, forall_eq_or_imp, forall_eq]; exact ⟨q0, q1, qb0, qb1⟩)
 have hp5 := (hC.getP 0 rfl)
 replace hC := hC.derive 0 rfl (Ty.item ((EI .i64).ty.sl) a0.degrees [u0_0] fp0) (fun _ => (alg_parts hp5).1) (fun _ hb_ => hb_)
 replace hC := hC.derive 1 rfl (Ty.item TForm.sl a0.images [u0_1] fp0) (fun _ => (alg_parts hp5).2) (fun _ hb_ => hb_)
 have hp8 := (hC.getP 3 rfl)
 replace hC := hC.derive 3 rfl (Ty.item ((EI .i64).ty.sl) a1.degrees [u1_0] fp1) (fun _ => (alg_parts hp8).1) (fun _ hb_ => hb_)
 replace hC := hC.derive 4 rfl (Ty.item TForm.sl a1.images [u1_1] fp1) (fun _ => (alg_parts hp8).2) (fun _ hb_ => hb_)
 refine sr ?_
 refine s_alloc hC [.slice none 0 0, .slice none 0 0] z30 rfl fun b11 w13 hB_ hC => ?_
 refine s_as (v := .int .i64 0) rfl ?_
 refine dn ?_
 refine sr ?_
 refine s_mv (v := .pointer (some ⟨b0, 0, none⟩)) rfl ?_
 refine s_nilchk rfl ?_
 refine s_faddrB 0 Try.underlying30 rfl sc22.size rfl rfl ?_
 refine s_loadSh (u0_0) (hC.getP 6 rfl) sc22 rfl rfl ?_
 obtain ⟨Ad14, c15, hv16⟩ := sl_len (hC.getP 3 rfl)
 refine s_len Try.underlying22 (tr rfl hv16) ?_
 refine s_as (v := .int .i64 (a0.degrees.length : Int)) rfl ?_
 refine dn ?_
 refine wp_seq ?_
 refine sr ?_
 refine s_mv (v := .int .i64 (a0.degrees.length : Int)) rfl ?_
 refine s_mv (v := .pointer (some ⟨b1, 0, none⟩)) rfl ?_
 refine s_nilchk rfl ?_
 refine s_faddrB 0 Try.underlying30 rfl sc22.size rfl rfl ?_
 refine s_loadSh (u1_0) (hC.getP 7 rfl) sc22 rfl rfl ?_
 obtain ⟨Ad17, c18, hv19⟩ := sl_len (hC.getP 1 rfl)
 refine s_len Try.underlying22 (tr rfl hv19) ?_
 refine s_add rfl rfl ?_
 refine s_gtr rfl rfl ?_
 refine dn ?_
 refine cw_cond rfl (fun hb20 => ?_) (fun hb20 => ?_)
 ·replace h := ift h (ct hb20)
  refine sr ?_
  refine s_build [] rfl (bl30   _) ?_
  refine s_store (v := .agg #[.slice none 0 0, .slice none 0 0]) hC 0 [.slice none 0 0, .slice none 0 0] [.slice none 0 0, .slice none 0 0] rfl ag30.size rfl rfl rfl rfl rfl (Nat.le_of_ble_eq_true rfl) rfl fun w21 hC => ?_
  refine s_as (v := .int .i64 3) rfl ?_
  refine dn ?_
  refine wp_ret (then_ret ?_)
  refine ret2 (fn := Try.f67) rfl ?_ ?_ ⟨(⟨[], []⟩ : Alg), .slice none 0 0, .slice none 0 0, ([] ++ []), 3, rfl, h, (alg_join (nil_item _ _ _) (nil_item _ _ _) (fun x hx => absurd hx (by simp))), (fun b hb => (List.mem_append.1 hb).elim (fun hb => (fun b hb => absurd hb (by simp)) b hb) (fun hb => (fun b hb => absurd hb (by simp)) b hb)), hC.below⟩ (.inl rfl)
  ·exact res_cellA hC 0 rfl ag30 rfl rfl
  ·exact res_tmp rfl
 ·replace h := iff_ h (cf hb20)
  refine wp_skip ?_
  refine then_norm ?_
  refine wp_seq ?_
  refine cw_draw 12 mixed [0, 1, 3, 7, 0, 16, 48, 112, 255, 511, 1023, 0, 4095] [3, 7, 10] [0, 1, 2, 4, 5, 6] (by kernel_rfl) (by kernel_rfl) (by kernel_rfl) (fun hM23 hM24 w22 hB_ => ?_)
  replace hC := hC.grow hB_
  refine aF 0 (.pointer (some ⟨b0, 0, none⟩)) rfl rfl (hM24 0 rfl) (rfl) (fun _ => by exact r_mv (v := .pointer (some ⟨b0, 0, none⟩)) rfl) (dbits 13 1) ?_
  refine aF 1 (.pointer (some ⟨b0, 0, none⟩)) rfl rfl (hM24 1 rfl) (rfl) (fun _ => by exact r_nilchk rfl) (dbits 13 3) ?_
  refine aF 2 (.pointer (some ⟨b0, 0, none⟩)) rfl rfl (hM24 2 rfl) (rfl) (fun _ => by exact r_faddrB 0 Try.underlying30 rfl sc22.size rfl rfl) (dbits 13 7) ?_
  refine aL 3 (u0_0) rfl rfl (hM23 3 rfl) (rfl) (fun _ hB_ => by exact r_loadSh (u0_0) ((hC.grow hB_).getP 6 rfl) sc22 rfl rfl) (dbits 13 15) ?_
  refine aF 4 (.pointer (some ⟨b1, 0, none⟩)) rfl rfl (hM24 4 rfl) (rfl) (fun _ => by exact r_mv (v := .pointer (some ⟨b1, 0, none⟩)) rfl) (dbits 13 31) ?_
  refine aF 5 (.pointer (some ⟨b1, 0, none⟩)) rfl rfl (hM24 5 rfl) (rfl) (fun _ => by exact r_nilchk rfl) (dbits 13 63) ?_
  refine aF 6 (.pointer (some ⟨b1, 0, none⟩)) rfl rfl (hM24 6 rfl) (rfl) (fun _ => by exact r_faddrB 0 Try.underlying30 rfl sc22.size rfl rfl) (dbits 13 127) ?_
  refine aL 7 (u1_0) rfl rfl (hM23 7 rfl) (rfl) (fun _ hB_ => by exact r_loadSh (u1_0) ((hC.grow hB_).getP 7 rfl) sc22 rfl rfl) (dbits 13 255) ?_
  refine ae_join (fun e_ w_ => ∃ (b46 : Nat), ∃ (u37 : Value), ∃ (r36 : List Int), Slots e_ [(0, .pointer (some ⟨b0, 0, none⟩)), (1, .pointer (some ⟨b1, 0, none⟩)), (4, .pointer (some ⟨b11, 0, none⟩)), (5, .int .i64 0), (6, .int .i64 (a0.degrees.length : Int)), (7, .pointer (some ⟨b46, 0, none⟩))] ∧ Ctx Nox w0 w_ [blk b46 30 [u37, .slice none 0 0], own 2 1 u37 r36.length ((EI .i64).encs r36), blk b11 30 [.slice none 0 0, .slice none 0 0]] [Ty.item TForm.sl a1.images [u1_1] fp1, Ty.item ((EI .i64).ty.sl) a1.degrees [u1_0] fp1, Ty.item TForm.sl a0.images [u0_1] fp0, Ty.item ((EI .i64).ty.sl) a0.degrees [u0_0] fp0, Ty.item TAlg a0 [u0_0, u0_1] fp0, Ty.item TAlg a1 [u1_0, u1_1] fp1, blk b0 30 [u0_0, u0_1], blk b1 30 [u1_0, u1_1]] ∧ (forN (fun i472 (s473 : (List Vc.Form)) next478 => f_impl_shifted (a0.images.getD i472 default) 0 (fun r502 => (Room (s473.length + 1) 24 ∧ next478 (s473 ++ [r502])))) (fun (s473 : (List Vc.Form)) => forN (fun i614 (s615 : (List Vc.Form)) next619 => f_impl_shifted (a1.images.getD i614 default) (a0.degrees.length : Int) (fun r643 => (Room (s615.length + 1) 24 ∧ next619 (s615 ++ [r643])))) (fun (s615 : (List Vc.Form)) => K (⟨r36, s615⟩ : Alg) 0) a1.images.length 0 s473) a0.images.length 0 [])) ?_ ?_
  ·clear hC h
   rintro e_ w92 ⟨b46, u37, r36, hS_, hC, h⟩
   refine then_norm ?_
   refine wp_seq ?_
   refine sr ?_
   refine s_mv (v := .pointer (some ⟨b0, 0, none⟩)) (sx hS_ 0 rfl) ?_
   refine s_nilchk rfl ?_
   refine s_faddrB 1 Try.underlying30 rfl sc28.size rfl rfl ?_
   refine s_loadSh (u0_1) (hC.getP 6 rfl) sc28 rfl rfl ?_
   obtain ⟨Ad93, c94, hv95⟩ := sl_len (hC.getP 2 rfl)
   refine s_len Try.underlying28 (tr rfl hv95) ?_
   refine s_mv (v := .int .i64 0) rfl ?_
   refine dn ?_
   refine wp_block ?_
   have hN477 : a0.images.length ≤ 9223372036854775807 := sl_max (hC.getP 2 rfl)
   refine loopN (S := (List Vc.Form)) _ _ (fun i472 s473 e_ w_ => ∃ (v474 : Value), ∃ (f476 : List Nat), Slots e_ [(1, .pointer (some ⟨b1, 0, none⟩)), (4, .pointer (some ⟨b11, 0, none⟩)), (5, .int .i64 0), (6, .int .i64 (a0.degrees.length : Int)), (7, .pointer (some ⟨b46, 0, none⟩)), (40, u0_1), (41, .int .i64 (a0.images.length : Int)), (42, .int .i64 (i472 : Int))] ∧ Ctx Nox w0 w_ [Tr.item (Tr.sl 59 (TrForm 76)) s473 [v474] f476, blk b46 30 [u37, v474], own 2 1 u37 r36.length ((EI .i64).encs r36), blk b11 30 [.slice none 0 0, .slice none 0 0]] [Ty.item TForm.sl a1.images [u1_1] fp1, Ty.item ((EI .i64).ty.sl) a1.degrees [u1_0] fp1, Ty.item TForm.sl a0.images [u0_1] fp0, Ty.item ((EI .i64).ty.sl) a0.degrees [u0_0] fp0, Ty.item TAlg a0 [u0_0, u0_1] fp0, Ty.item TAlg a1 [u1_0, u1_1] fp1, blk b0 30 [u0_0, u0_1], blk b1 30 [u1_0, u1_1]]) a0.images.length ?_ ?_ (s0 := []) ?_ h
   ·clear hC h
    rintro i472 s473 e_ w482 next478 K479 hi481 ⟨v474, f476, hS_, hC⟩ h hK480
    refine sr ?_
    refine s_lss (sx hS_ 7 rfl) (sx hS_ 6 rfl) ?_
    refine dn ?_
    refine wp_seq ?_
    refine cw_true rfl (decide_eq_true (by omega)) ?_
    refine wp_skip ?_
    refine then_norm ?_
    refine wp_seq ?_
    refine wp_block ?_
    refine sr ?_
    obtain ⟨Ad483, c484, hv485⟩ := sl_form (hC.getP 2 rfl) i472 hi481
    refine s_iaddrS (len := a0.images.length) Try.underlying28 ag59.size (tr (sx hS_ 5 rfl) hv485) (sx hS_ 7 rfl) (Int.natCast_nonneg _) (Int.ofNat_lt.2 hi481) ?_
    obtain ⟨cs_, hl487, hc488, hr489⟩ := sl_cells (hC.getP 2 rfl) hv485 i472 hi481
    obtain ⟨u486, rfl⟩ := List.length_eq_one_iff.1 hl487
    clear hl487
    rw [getD_eq _ _ hi481] at hr489
    have hp490 := hr489
    replace hC := hC.derive 2 rfl (Ty.item ETerm.ty.sl ((a0.images.getD i472 default).terms) [u486] fp0) (fun _ => (form_parts hp490)) (fun _ hb_ => hb_)
    refine s_loadCA [u486] hc488 ag59 rfl rfl ?_
    refine s_alloc hC [.slice none 0 0] z59 rfl fun b492 w494 hB_ hC => ?_
    refine s_store (v := .agg #[u486]) hC 0 [u486] [u486] rfl ag59.size rfl rfl rfl rfl (all_c (rep_oneC (hC.getP 0 rfl)) rfl) (Nat.le_of_ble_eq_true rfl) rfl fun w495 hC => ?_
    refine dn ?_
    refine cw_draw 5 mixed [0, 1, 0, 4, 12, 31, 63, 127] [1, 2] [0] (by kernel_rfl) (by kernel_rfl) (by kernel_rfl) (fun hM497 hM498 w496 hB_ => ?_)
    replace hC := hC.grow hB_
    refine aF 0 (.pointer (some ⟨b46, 1, none⟩)) rfl rfl (hM498 0 rfl) (rfl) (fun _ => by exact r_faddrB 1 Try.underlying30 rfl sc28.size (sx hS_ 4 rfl) rfl) (dbits 8 1) ?_
    refine aL 1 (v474) rfl rfl (hM497 1 rfl) (rfl) (fun _ hB_ => by exact r_loadS (hC.grow hB_) 2 (v474) rfl sc28 rfl rfl) (dbits 8 3) ?_
    refine aL 2 (.agg #[u486]) rfl rfl (hM497 2 rfl) (rfl) (fun _ hB_ => by exact r_loadA (hC.grow hB_) 0 [u486] rfl ag59 rfl rfl rfl) (dbits 8 7) ?_
    refine aO 3 rfl ?_
    refine s_call [.agg #[u486], .int .i64 0] _ Try.func99 rfl rfl rfl (c_impl_shifted (a0.images.getD i472 default) 0 h _ (form_mk (hC.getP 0 rfl))) (fun ret499 w501 hR500 => ?_)
    obtain ⟨r502, u503, f504, rfl, h, hr505, hf506, hB507⟩ := hR500
    refine ⟨_, rfl, ?_⟩
    replace hC := hC.push hB507 (Tr.item (TrForm 76) r502 [u503] f504) hr505 hf506
    obtain ⟨ho509, hf510⟩ := form_split (hC.getM 0 rfl)
    subst hf510
    replace hC := hC.recast (c := own 76 9 u503 r502.terms.length (ETerm.encs r502.terms)) (fun _ h_ => h_) (fun _ => ho509)
    refine done ?_
    refine aK (by assumption) (dbits 8 15) ?_
    refine aO 4 rfl ?_
    refine s_bslice (sz := 1) hC [(0, .agg #[u503])] [u503] rfl (fun _ => bsr28_1_s u503 (own_isSl (hC.getM 0 rfl)) _) rfl (by decide) fun b512 w513 hB_ hC => ?_
    replace hC := hC.pushM0 (forest (TrForm 76) [] [] []) (forest_nil _ _) rfl
    replace hC := hC.sM [2, 0, 1, 3, 4, 5, 6, 7] (M' := [own 76 9 u503 r502.terms.length (ETerm.encs r502.terms), forest (TrForm 76) [] [] [], own 59 1 (.slice (some ⟨b512, 0, none⟩) 1 1) 1 [u503], blk b492 59 [u486], Tr.item (Tr.sl 59 (TrForm 76)) s473 [v474] f476, blk b46 30 [u37, v474], own 2 1 u37 r36.length ((EI .i64).encs r36), blk b11 30 [.slice none 0 0, .slice none 0 0]]) (by decide) rfl
    replace hC := hC.gather (c := forest (TrForm 76) [r502] [u503] [(Option.toList (Value.ownBlock u503))]) (fun x_ hx_ => forest_mem hx_) (fun h1_ h2_ hd_ => forest_cons (c := [u503]) (form_join (own_item h1_)) h2_ hd_)
    replace hC := hC.sM [1, 0, 2, 3, 4, 5, 6] (M' := [own 59 1 (.slice (some ⟨b512, 0, none⟩) 1 1) 1 [u503], forest (TrForm 76) [r502] [u503] [(Option.toList (Value.ownBlock u503))], blk b492 59 [u486], Tr.item (Tr.sl 59 (TrForm 76)) s473 [v474] f476, blk b46 30 [u37, v474], own 2 1 u37 r36.length ((EI .i64).encs r36), blk b11 30 [.slice none 0 0, .slice none 0 0]]) (by decide) rfl
    replace hC := hC.gather (c := Tr.item (Tr.sl 59 (TrForm 76)) [r502] [.slice (some ⟨b512, 0, none⟩) 1 1] ((Option.toList (Value.ownBlock (.slice (some ⟨b512, 0, none⟩) 1 1))) ++ ([(Option.toList (Value.ownBlock u503))] : List (List Nat)).flatten)) (fun x_ hx_ => List.mem_append.1 hx_) (fun h1_ h2_ hd_ => forest_up h1_ h2_ hd_)
    refine done ?_
    refine aK (by assumption) (dbits 8 31) ?_
    refine ae_tail 5 (by decide) (by decide) (by kernel_rfl) (by kernel_rfl) rfl ?_
    replace hC := hC.sM [2, 0, 1, 3, 4, 5] (M' := [Tr.item (Tr.sl 59 (TrForm 76)) s473 [v474] f476, Tr.item (Tr.sl 59 (TrForm 76)) [r502] [.slice (some ⟨b512, 0, none⟩) 1 1] ((Option.toList (Value.ownBlock (.slice (some ⟨b512, 0, none⟩) 1 1))) ++ ([(Option.toList (Value.ownBlock u503))] : List (List Nat)).flatten), blk b492 59 [u486], blk b46 30 [u37, v474], own 2 1 u37 r36.length ((EI .i64).encs r36), blk b11 30 [.slice none 0 0, .slice none 0 0]]) (by decide) rfl
    obtain ⟨hm520, h⟩ := h
    refine s_appT hC Try.underlying28 el59 rfl (by decide) (by decide) rfl rfl hm520 fun v517 f519 w518 hC => ?_
    refine s_faddrB 1 Try.underlying30 rfl sc28.size (sx hS_ 4 rfl) rfl ?_
    refine s_store (v := v517) hC 2 [v517] [u37, v517] rfl sc28.size rfl rfl (rep_cellsV (Tr.trep _ (hC.getM 0 rfl).1)) rfl (all_c (rep_oneC (Tr.trep _ (hC.getM 0 rfl).1)) rfl) (Nat.le_of_ble_eq_true rfl) rfl fun w521 hC => ?_
    refine done ?_
    refine qn_norm ?_
    refine blk_norm ?_
    refine then_norm ?_
    refine cw_region ?_
    refine s_add (sx hS_ 7 rfl) rfl ?_
    refine s_mv (v := .int .i64 (IntKind.i64.wrap ((i472 : Int) + 1))) rfl ?_
    refine done ?_
    replace hC := hC.sM [0, 2, 3, 4] (M' := [Tr.item (Tr.sl 59 (TrForm 76)) (s473 ++ [r502]) [v517] f519, blk b46 30 [u37, v517], own 2 1 u37 r36.length ((EI .i64).encs r36), blk b11 30 [.slice none 0 0, .slice none 0 0]]) (by decide) rfl
    replace hC := hC.sP [1, 2, 3, 4, 5, 6, 7, 8] (Ps' := [Ty.item TForm.sl a1.images [u1_1] fp1, Ty.item ((EI .i64).ty.sl) a1.degrees [u1_0] fp1, Ty.item TForm.sl a0.images [u0_1] fp0, Ty.item ((EI .i64).ty.sl) a0.degrees [u0_0] fp0, Ty.item TAlg a0 [u0_0, u0_1] fp0, Ty.item TAlg a1 [u1_0, u1_1] fp1, blk b0 30 [u0_0, u0_1], blk b1 30 [u1_0, u1_1]]) rfl
    exact hK480 (s473 ++ [r502]) _ _ ⟨v517, f519, (sk (sx hS_ 0 rfl) (sk (sx hS_ 1 rfl) (sk (sx hS_ 2 rfl) (sk (sx hS_ 3 rfl) (sk (sx hS_ 4 rfl) (sk (sx hS_ 5 rfl) (sk (sx hS_ 6 rfl) (sk (tr rfl (congrArg _ (wrap64_nat hi481 hN477))) sn)))))))), hC⟩ h
   ·clear hC h
    rintro s473 e_ w522 K479 ⟨v474, f476, hS_, hC⟩ h
    refine sr ?_
    refine s_lss (sx hS_ 7 rfl) (sx hS_ 6 rfl) ?_
    refine dn ?_
    refine wp_seq ?_
    refine cw_false rfl (decide_eq_false (by omega)) ?_
    refine wp_exit (then_exit (then_exit (exit_in ?_)))
    refine then_norm ?_
    refine wp_seq ?_
    refine sr ?_
    refine s_mv (v := .pointer (some ⟨b1, 0, none⟩)) (sx hS_ 0 rfl) ?_
    refine s_nilchk rfl ?_
    refine s_faddrB 1 Try.underlying30 rfl sc28.size rfl rfl ?_
    refine s_loadSh (u1_1) (hC.getP 7 rfl) sc28 rfl rfl ?_
    obtain ⟨Ad523, c524, hv525⟩ := sl_len (hC.getP 0 rfl)
    refine s_len Try.underlying28 (tr rfl hv525) ?_
    refine s_mv (v := .int .i64 0) rfl ?_
    refine dn ?_
    refine wp_block ?_
    have hN618 : a1.images.length ≤ 9223372036854775807 := sl_max (hC.getP 0 rfl)
    refine loopN (S := (List Vc.Form)) _ _ (fun i614 s615 e_ w_ => ∃ (v616 : Value), ∃ (f617 : List Nat), Slots e_ [(4, .pointer (some ⟨b11, 0, none⟩)), (5, .int .i64 0), (6, .int .i64 (a0.degrees.length : Int)), (7, .pointer (some ⟨b46, 0, none⟩)), (57, u1_1), (58, .int .i64 (a1.images.length : Int)), (59, .int .i64 (i614 : Int))] ∧ Ctx Nox w0 w_ [Tr.item (Tr.sl 59 (TrForm 76)) s615 [v616] f617, blk b46 30 [u37, v616], own 2 1 u37 r36.length ((EI .i64).encs r36), blk b11 30 [.slice none 0 0, .slice none 0 0]] [Ty.item TForm.sl a1.images [u1_1] fp1, Ty.item ((EI .i64).ty.sl) a1.degrees [u1_0] fp1, Ty.item TForm.sl a0.images [u0_1] fp0, Ty.item ((EI .i64).ty.sl) a0.degrees [u0_0] fp0, Ty.item TAlg a0 [u0_0, u0_1] fp0, Ty.item TAlg a1 [u1_0, u1_1] fp1, blk b0 30 [u0_0, u0_1], blk b1 30 [u1_0, u1_1]]) a1.images.length ?_ ?_ (s0 := s473) ?_ h
    ·clear hC h
     rintro i614 s615 e_ w623 next619 K620 hi622 ⟨v616, f617, hS_, hC⟩ h hK621
     refine sr ?_
     refine s_lss (sx hS_ 6 rfl) (sx hS_ 5 rfl) ?_
     refine dn ?_
     refine wp_seq ?_
     refine cw_true rfl (decide_eq_true (by omega)) ?_
     refine wp_skip ?_
     refine then_norm ?_
     refine wp_seq ?_
     refine wp_block ?_
     refine sr ?_
     obtain ⟨Ad624, c625, hv626⟩ := sl_form (hC.getP 0 rfl) i614 hi622
     refine s_iaddrS (len := a1.images.length) Try.underlying28 ag59.size (tr (sx hS_ 4 rfl) hv626) (sx hS_ 6 rfl) (Int.natCast_nonneg _) (Int.ofNat_lt.2 hi622) ?_
     obtain ⟨cs_, hl628, hc629, hr630⟩ := sl_cells (hC.getP 0 rfl) hv626 i614 hi622
     obtain ⟨u627, rfl⟩ := List.length_eq_one_iff.1 hl628
     clear hl628
     rw [getD_eq _ _ hi622] at hr630
     have hp631 := hr630
     replace hC := hC.derive 0 rfl (Ty.item ETerm.ty.sl ((a1.images.getD i614 default).terms) [u627] fp1) (fun _ => (form_parts hp631)) (fun _ hb_ => hb_)
     refine s_loadCA [u627] hc629 ag59 rfl rfl ?_
     refine s_alloc hC [.slice none 0 0] z59 rfl fun b633 w635 hB_ hC => ?_
     refine s_store (v := .agg #[u627]) hC 0 [u627] [u627] rfl ag59.size rfl rfl rfl rfl (all_c (rep_oneC (hC.getP 0 rfl)) rfl) (Nat.le_of_ble_eq_true rfl) rfl fun w636 hC => ?_
     refine dn ?_
     refine cw_draw 6 mixed [0, 1, 0, 0, 12, 28, 63, 127, 255] [1, 2] [0, 3] (by kernel_rfl) (by kernel_rfl) (by kernel_rfl) (fun hM638 hM639 w637 hB_ => ?_)
     replace hC := hC.grow hB_
     refine aF 0 (.pointer (some ⟨b46, 1, none⟩)) rfl rfl (hM639 0 rfl) (rfl) (fun _ => by exact r_faddrB 1 Try.underlying30 rfl sc28.size (sx hS_ 3 rfl) rfl) (dbits 9 1) ?_
     refine aL 1 (v616) rfl rfl (hM638 1 rfl) (rfl) (fun _ hB_ => by exact r_loadS (hC.grow hB_) 2 (v616) rfl sc28 rfl rfl) (dbits 9 3) ?_
     refine aL 2 (.agg #[u627]) rfl rfl (hM638 2 rfl) (rfl) (fun _ hB_ => by exact r_loadA (hC.grow hB_) 0 [u627] rfl ag59 rfl rfl rfl) (dbits 9 7) ?_
     refine aF 3 (.int .i64 (a0.degrees.length : Int)) rfl rfl (hM639 3 rfl) (rfl) (fun _ => by exact r_mv (v := .int .i64 (a0.degrees.length : Int)) (sx hS_ 2 rfl)) (dbits 9 15) ?_
     refine aO 4 rfl ?_
     refine s_call [.agg #[u627], .int .i64 (a0.degrees.length : Int)] _ Try.func99 rfl rfl rfl (c_impl_shifted (a1.images.getD i614 default) (a0.degrees.length : Int) h _ (form_mk (hC.getP 0 rfl))) (fun ret640 w642 hR641 => ?_)
     obtain ⟨r643, u644, f645, rfl, h, hr646, hf647, hB648⟩ := hR641
     refine ⟨_, rfl, ?_⟩
     replace hC := hC.push hB648 (Tr.item (TrForm 76) r643 [u644] f645) hr646 hf647
     obtain ⟨ho650, hf651⟩ := form_split (hC.getM 0 rfl)
     subst hf651
     replace hC := hC.recast (c := own 76 9 u644 r643.terms.length (ETerm.encs r643.terms)) (fun _ h_ => h_) (fun _ => ho650)
     refine done ?_
     refine aK (by assumption) (dbits 9 31) ?_
     refine aO 5 rfl ?_
     refine s_bslice (sz := 1) hC [(0, .agg #[u644])] [u644] rfl (fun _ => bsr28_1_s u644 (own_isSl (hC.getM 0 rfl)) _) rfl (by decide) fun b653 w654 hB_ hC => ?_
     replace hC := hC.pushM0 (forest (TrForm 76) [] [] []) (forest_nil _ _) rfl
     replace hC := hC.sM [2, 0, 1, 3, 4, 5, 6, 7] (M' := [own 76 9 u644 r643.terms.length (ETerm.encs r643.terms), forest (TrForm 76) [] [] [], own 59 1 (.slice (some ⟨b653, 0, none⟩) 1 1) 1 [u644], blk b633 59 [u627], Tr.item (Tr.sl 59 (TrForm 76)) s615 [v616] f617, blk b46 30 [u37, v616], own 2 1 u37 r36.length ((EI .i64).encs r36), blk b11 30 [.slice none 0 0, .slice none 0 0]]) (by decide) rfl
     replace hC := hC.gather (c := forest (TrForm 76) [r643] [u644] [(Option.toList (Value.ownBlock u644))]) (fun x_ hx_ => forest_mem hx_) (fun h1_ h2_ hd_ => forest_cons (c := [u644]) (form_join (own_item h1_)) h2_ hd_)
     replace hC := hC.sM [1, 0, 2, 3, 4, 5, 6] (M' := [own 59 1 (.slice (some ⟨b653, 0, none⟩) 1 1) 1 [u644], forest (TrForm 76) [r643] [u644] [(Option.toList (Value.ownBlock u644))], blk b633 59 [u627], Tr.item (Tr.sl 59 (TrForm 76)) s615 [v616] f617, blk b46 30 [u37, v616], own 2 1 u37 r36.length ((EI .i64).encs r36), blk b11 30 [.slice none 0 0, .slice none 0 0]]) (by decide) rfl
     replace hC := hC.gather (c := Tr.item (Tr.sl 59 (TrForm 76)) [r643] [.slice (some ⟨b653, 0, none⟩) 1 1] ((Option.toList (Value.ownBlock (.slice (some ⟨b653, 0, none⟩) 1 1))) ++ ([(Option.toList (Value.ownBlock u644))] : List (List Nat)).flatten)) (fun x_ hx_ => List.mem_append.1 hx_) (fun h1_ h2_ hd_ => forest_up h1_ h2_ hd_)
     refine done ?_
     refine aK (by assumption) (dbits 9 63) ?_
     refine ae_tail 6 (by decide) (by decide) (by kernel_rfl) (by kernel_rfl) rfl ?_
     replace hC := hC.sM [2, 0, 1, 3, 4, 5] (M' := [Tr.item (Tr.sl 59 (TrForm 76)) s615 [v616] f617, Tr.item (Tr.sl 59 (TrForm 76)) [r643] [.slice (some ⟨b653, 0, none⟩) 1 1] ((Option.toList (Value.ownBlock (.slice (some ⟨b653, 0, none⟩) 1 1))) ++ ([(Option.toList (Value.ownBlock u644))] : List (List Nat)).flatten), blk b633 59 [u627], blk b46 30 [u37, v616], own 2 1 u37 r36.length ((EI .i64).encs r36), blk b11 30 [.slice none 0 0, .slice none 0 0]]) (by decide) rfl
     obtain ⟨hm661, h⟩ := h
     refine s_appT hC Try.underlying28 el59 rfl (by decide) (by decide) rfl rfl hm661 fun v658 f660 w659 hC => ?_
     refine s_faddrB 1 Try.underlying30 rfl sc28.size (sx hS_ 3 rfl) rfl ?_
     refine s_store (v := v658) hC 2 [v658] [u37, v658] rfl sc28.size rfl rfl (rep_cellsV (Tr.trep _ (hC.getM 0 rfl).1)) rfl (all_c (rep_oneC (Tr.trep _ (hC.getM 0 rfl).1)) rfl) (Nat.le_of_ble_eq_true rfl) rfl fun w662 hC => ?_
     refine done ?_
     refine qn_norm ?_
     refine blk_norm ?_
     refine then_norm ?_
     refine cw_region ?_
     refine s_add (sx hS_ 6 rfl) rfl ?_
     refine s_mv (v := .int .i64 (IntKind.i64.wrap ((i614 : Int) + 1))) rfl ?_
     refine done ?_
     replace hC := hC.sM [0, 2, 3, 4] (M' := [Tr.item (Tr.sl 59 (TrForm 76)) (s615 ++ [r643]) [v658] f660, blk b46 30 [u37, v658], own 2 1 u37 r36.length ((EI .i64).encs r36), blk b11 30 [.slice none 0 0, .slice none 0 0]]) (by decide) rfl
     replace hC := hC.sP [1, 2, 3, 4, 5, 6, 7, 8] (Ps' := [Ty.item TForm.sl a1.images [u1_1] fp1, Ty.item ((EI .i64).ty.sl) a1.degrees [u1_0] fp1, Ty.item TForm.sl a0.images [u0_1] fp0, Ty.item ((EI .i64).ty.sl) a0.degrees [u0_0] fp0, Ty.item TAlg a0 [u0_0, u0_1] fp0, Ty.item TAlg a1 [u1_0, u1_1] fp1, blk b0 30 [u0_0, u0_1], blk b1 30 [u1_0, u1_1]]) rfl
     exact hK621 (s615 ++ [r643]) _ _ ⟨v658, f660, (sk (sx hS_ 0 rfl) (sk (sx hS_ 1 rfl) (sk (sx hS_ 2 rfl) (sk (sx hS_ 3 rfl) (sk (sx hS_ 4 rfl) (sk (sx hS_ 5 rfl) (sk (tr rfl (congrArg _ (wrap64_nat hi622 hN618))) sn))))))), hC⟩ h
    ·clear hC h
     rintro s615 e_ w663 K620 ⟨v616, f617, hS_, hC⟩ h
     refine sr ?_
     refine s_lss (sx hS_ 6 rfl) (sx hS_ 5 rfl) ?_
     refine dn ?_
     refine wp_seq ?_
     refine cw_false rfl (decide_eq_false (by omega)) ?_
     refine wp_exit (then_exit (then_exit (exit_in ?_)))
     refine then_norm ?_
     refine sr ?_
     refine s_loadA hC 1 [u37, v616] rfl ag30 (sx hS_ 3 rfl) rfl rfl ?_
     refine s_store (v := .agg #[u37, v616]) hC 3 [u37, v616] [u37, v616] rfl ag30.size (sx hS_ 0 rfl) rfl rfl rfl (all_c (own_oneC (hC.getM 2 rfl)) (all_c (rep_oneC (Tr.trep _ (hC.getM 0 rfl).1)) rfl)) (Nat.le_of_ble_eq_true rfl) rfl fun w664 hC => ?_
     refine s_as (v := .int .i64 0) rfl ?_
     refine dn ?_
     refine wp_ret ?_
     refine ret2 (fn := Try.f67) rfl ?_ ?_ ⟨(⟨r36, s615⟩ : Alg), u37, v616, ((Option.toList (Value.ownBlock u37)) ++ f617), 0, rfl, h, (alg_join (own_item (hC.getM 2 rfl)) (hC.getM 0 rfl) (fun x hx hx' => hC.mm 2 0 rfl rfl (by decide) x hx hx')), (fun b hb => (List.mem_append.1 hb).elim (fun hb => (own_fresh hC 2 rfl) b hb) (fun hb => (tr_fresh hC 0 rfl) b hb)), hC.below⟩ (.inl rfl)
     ·exact res_cellA hC 3 rfl ag30 (sx hS_ 0 rfl) rfl
     ·exact res_tmp rfl
    ·skip
     exact ⟨v474, f476, (sk (sx hS_ 1 rfl) (sk (sx hS_ 2 rfl) (sk (sx hS_ 3 rfl) (sk (sx hS_ 4 rfl) (sk rfl (sk rfl (sk rfl sn))))))), hC⟩
   ·skip
    replace hC := hC.pushM0 (Tr.item (Tr.sl 59 (TrForm 76)) [] [.slice none 0 0] []) (nil_item _ _ _) rfl
    exact ⟨.slice none 0 0, [], (sk (sx hS_ 1 rfl) (sk (sx hS_ 2 rfl) (sk (sx hS_ 3 rfl) (sk (sx hS_ 4 rfl) (sk (sx hS_ 5 rfl) (sk rfl (sk rfl (sk rfl sn)))))))), hC⟩
  refine ae_two 8 11 rfl rfl (by kernel_rfl) ?_ ?_
  ·skip
   refine s_bslice (sz := 1) hC [(0, u0_0), (1, u1_0)] [u0_0, u1_0] rfl (fun _ => bsr45_2_s_s u0_0 u1_0 (rep_isSl (hC.getP 3 rfl)) (rep_isSl (hC.getP 1 rfl)) _) rfl (by decide) fun b666 w667 hB_ hC => ?_
   have hf669 := own_fresh hC 0 rfl
   replace hC := hC.joinP 3 1 rfl rfl (Ty.allItem ((EI .i64).ty.sl) [a0.degrees, a1.degrees] [u0_0, u1_0] (fp0 ++ fp1)) (fun a_ b_ => all_twoI a_ b_) (fun c_ hc_ => List.mem_append.1 hc_)
   replace hC := hC.thaw 0 rfl (own 22 1 (.slice (some ⟨b666, 0, none⟩) 2 2) 2 [u0_0, u1_0]) id (fun _ hb_ => hb_)
   replace hC := hC.joinP 0 1 rfl rfl (Ty.item (((EI .i64).ty.sl).sl) [a0.degrees, a1.degrees] [.slice (some ⟨b666, 0, none⟩) 2 2] ((Option.toList (Value.ownBlock (.slice (some ⟨b666, 0, none⟩) 2 2))) ++ (fp0 ++ fp1))) (fun a_ b_ => own_rep a_ b_) (fun c_ hc_ => List.mem_append.1 hc_)
   have hs670 : ∀ b, b ∈ ((Option.toList (Value.ownBlock (.slice (some ⟨b666, 0, none⟩) 2 2))) ++ (fp0 ++ fp1)) → w0.heap.size ≤ b ∨ b ∈ (fp0 ++ (fp1)) := (fun b hb => (List.mem_append.1 hb).elim (fun hb => .inl (hf669 b hb)) (fun hb => (List.mem_append.1 hb).elim (fun hb => .inr (List.mem_append_left _ hb)) (fun hb => .inr (List.mem_append_right _ hb))))
   refine done ?_
   refine aK (by assumption) (dbits 13 511) ?_
   refine ae_two 9 11 rfl rfl (by kernel_rfl) ?_ ?_
   ·skip
    refine s_call [.slice (some ⟨b666, 0, none⟩) 2 2] _ Try.func98 rfl rfl rfl (c_slices_Concat_int64_int64 [a0.degrees, a1.degrees] h _ (hC.getP 0 rfl)) (fun ret674 w676 hR675 => ?_)
    obtain ⟨r677, u678, f679, rfl, h, hr680, hf681, hB682⟩ := hR675
    refine ⟨_, rfl, ?_⟩
    replace hC := hC.push hB682 (Tr.item (Tr.sl 2 ((EI .i64).tr)) r677 [u678] f679) hr680 hf681
    obtain ⟨ho684, hf685⟩ := flat_tr (hC.getM 0 rfl).1
    subst hf685
    replace hC := hC.recast (c := own 2 1 u678 r677.length ((EI .i64).encs r677)) (fun _ h_ => h_) (fun _ => ho684)
    refine done ?_
    refine aK (by assumption) (dbits 13 1023) ?_
    refine aL 10 (.agg #[u678, .slice none 0 0]) rfl rfl (hM23 10 rfl) (rfl) (fun _ hB_ => by exact r_build [(0, u678)] rfl (bl30_0sl u678 (own_isSl ((hC.grow hB_).getM 0 rfl)) _)) (dbits 13 2047) ?_
    refine aO 11 rfl ?_
    refine s_alloc hC [.slice none 0 0, .slice none 0 0] z30 rfl fun b687 w689 hB_ hC => ?_
    refine done ?_
    refine aK (by assumption) (dbits 13 4095) ?_
    refine ae_tail 12 (by decide) (by decide) (by kernel_rfl) (by kernel_rfl) rfl ?_
    refine s_store (v := .agg #[u678, .slice none 0 0]) hC 0 [u678, .slice none 0 0] [u678, .slice none 0 0] rfl ag30.size rfl rfl rfl rfl (all_c (own_oneC (hC.getM 1 rfl)) (all_c rfl rfl)) (Nat.le_of_ble_eq_true rfl) rfl fun w690 hC => ?_
    refine done ?_
    refine qn_norm ?_
    replace hC := hC.sP [3, 4, 5, 6, 7, 8, 9, 10] (Ps' := [Ty.item TForm.sl a1.images [u1_1] fp1, Ty.item ((EI .i64).ty.sl) a1.degrees [u1_0] fp1, Ty.item TForm.sl a0.images [u0_1] fp0, Ty.item ((EI .i64).ty.sl) a0.degrees [u0_0] fp0, Ty.item TAlg a0 [u0_0, u0_1] fp0, Ty.item TAlg a1 [u1_0, u1_1] fp1, blk b0 30 [u0_0, u0_1], blk b1 30 [u1_0, u1_1]]) rfl
    exact ⟨rfl, _, rfl, ⟨b687, u678, r677, (sk rfl (sk rfl (sk rfl (sk rfl (sk rfl (sk rfl sn)))))), hC, h⟩⟩
   ·skip
    refine s_alloc hC [.slice none 0 0, .slice none 0 0] z30 rfl fun b691 w693 hB_ hC => ?_
    refine done ?_
    refine aK (by assumption) (dbits 13 2559) ?_
    refine aO 9 rfl ?_
    refine s_call [.slice (some ⟨b666, 0, none⟩) 2 2] _ Try.func98 rfl rfl rfl (c_slices_Concat_int64_int64 [a0.degrees, a1.degrees] h _ (hC.getP 0 rfl)) (fun ret694 w696 hR695 => ?_)
    obtain ⟨r697, u698, f699, rfl, h, hr700, hf701, hB702⟩ := hR695
    refine ⟨_, rfl, ?_⟩
    replace hC := hC.push hB702 (Tr.item (Tr.sl 2 ((EI .i64).tr)) r697 [u698] f699) hr700 hf701
    obtain ⟨ho704, hf705⟩ := flat_tr (hC.getM 0 rfl).1
    subst hf705
    replace hC := hC.recast (c := own 2 1 u698 r697.length ((EI .i64).encs r697)) (fun _ h_ => h_) (fun _ => ho704)
    refine done ?_
    refine aK (by assumption) (dbits 13 3071) ?_
    refine aL 10 (.agg #[u698, .slice none 0 0]) rfl rfl (hM23 10 rfl) (rfl) (fun _ hB_ => by exact r_build [(0, u698)] rfl (bl30_0sl u698 (own_isSl ((hC.grow hB_).getM 0 rfl)) _)) (dbits 13 4095) ?_
    refine ae_tail 12 (by decide) (by decide) (by kernel_rfl) (by kernel_rfl) rfl ?_
    refine s_store (v := .agg #[u698, .slice none 0 0]) hC 1 [u698, .slice none 0 0] [u698, .slice none 0 0] rfl ag30.size rfl rfl rfl rfl (all_c (own_oneC (hC.getM 0 rfl)) (all_c rfl rfl)) (Nat.le_of_ble_eq_true rfl) rfl fun w707 hC => ?_
    refine done ?_
    refine qn_norm ?_
    replace hC := hC.sM [1, 0, 2] (M' := [blk b691 30 [u698, .slice none 0 0], own 2 1 u698 r697.length ((EI .i64).encs r697), blk b11 30 [.slice none 0 0, .slice none 0 0]]) (by decide) rfl
    replace hC := hC.sP [3, 4, 5, 6, 7, 8, 9, 10] (Ps' := [Ty.item TForm.sl a1.images [u1_1] fp1, Ty.item ((EI .i64).ty.sl) a1.degrees [u1_0] fp1, Ty.item TForm.sl a0.images [u0_1] fp0, Ty.item ((EI .i64).ty.sl) a0.degrees [u0_0] fp0, Ty.item TAlg a0 [u0_0, u0_1] fp0, Ty.item TAlg a1 [u1_0, u1_1] fp1, blk b0 30 [u0_0, u0_1], blk b1 30 [u1_0, u1_1]]) rfl
    exact ⟨rfl, _, rfl, ⟨b691, u698, r697, (sk rfl (sk rfl (sk rfl (sk rfl (sk rfl (sk rfl sn)))))), hC, h⟩⟩
  ·skip
   refine s_alloc hC [.slice none 0 0, .slice none 0 0] z30 rfl fun b708 w710 hB_ hC => ?_
   refine done ?_
   refine aK (by assumption) (dbits 13 2303) ?_
   refine aO 8 rfl ?_
   refine s_bslice (sz := 1) hC [(0, u0_0), (1, u1_0)] [u0_0, u1_0] rfl (fun _ => bsr45_2_s_s u0_0 u1_0 (rep_isSl (hC.getP 3 rfl)) (rep_isSl (hC.getP 1 rfl)) _) rfl (by decide) fun b711 w712 hB_ hC => ?_
   have hf714 := own_fresh hC 0 rfl
   replace hC := hC.joinP 3 1 rfl rfl (Ty.allItem ((EI .i64).ty.sl) [a0.degrees, a1.degrees] [u0_0, u1_0] (fp0 ++ fp1)) (fun a_ b_ => all_twoI a_ b_) (fun c_ hc_ => List.mem_append.1 hc_)
   replace hC := hC.thaw 0 rfl (own 22 1 (.slice (some ⟨b711, 0, none⟩) 2 2) 2 [u0_0, u1_0]) id (fun _ hb_ => hb_)
   replace hC := hC.joinP 0 1 rfl rfl (Ty.item (((EI .i64).ty.sl).sl) [a0.degrees, a1.degrees] [.slice (some ⟨b711, 0, none⟩) 2 2] ((Option.toList (Value.ownBlock (.slice (some ⟨b711, 0, none⟩) 2 2))) ++ (fp0 ++ fp1))) (fun a_ b_ => own_rep a_ b_) (fun c_ hc_ => List.mem_append.1 hc_)
   have hs715 : ∀ b, b ∈ ((Option.toList (Value.ownBlock (.slice (some ⟨b711, 0, none⟩) 2 2))) ++ (fp0 ++ fp1)) → w0.heap.size ≤ b ∨ b ∈ (fp0 ++ (fp1)) := (fun b hb => (List.mem_append.1 hb).elim (fun hb => .inl (hf714 b hb)) (fun hb => (List.mem_append.1 hb).elim (fun hb => .inr (List.mem_append_left _ hb)) (fun hb => .inr (List.mem_append_right _ hb))))
   refine done ?_
   refine aK (by assumption) (dbits 13 2559) ?_
   refine aO 9 rfl ?_
   refine s_call [.slice (some ⟨b711, 0, none⟩) 2 2] _ Try.func98 rfl rfl rfl (c_slices_Concat_int64_int64 [a0.degrees, a1.degrees] h _ (hC.getP 0 rfl)) (fun ret719 w721 hR720 => ?_)
   obtain ⟨r722, u723, f724, rfl, h, hr725, hf726, hB727⟩ := hR720
   refine ⟨_, rfl, ?_⟩
   replace hC := hC.push hB727 (Tr.item (Tr.sl 2 ((EI .i64).tr)) r722 [u723] f724) hr725 hf726
   obtain ⟨ho729, hf730⟩ := flat_tr (hC.getM 0 rfl).1
   subst hf730
   replace hC := hC.recast (c := own 2 1 u723 r722.length ((EI .i64).encs r722)) (fun _ h_ => h_) (fun _ => ho729)
   refine done ?_
   refine aK (by assumption) (dbits 13 3071) ?_
   refine aL 10 (.agg #[u723, .slice none 0 0]) rfl rfl (hM23 10 rfl) (rfl) (fun _ hB_ => by exact r_build [(0, u723)] rfl (bl30_0sl u723 (own_isSl ((hC.grow hB_).getM 0 rfl)) _)) (dbits 13 4095) ?_
   refine ae_tail 12 (by decide) (by decide) (by kernel_rfl) (by kernel_rfl) rfl ?_
   refine s_store (v := .agg #[u723, .slice none 0 0]) hC 1 [u723, .slice none 0 0] [u723, .slice none 0 0] rfl ag30.size rfl rfl rfl rfl (all_c (own_oneC (hC.getM 0 rfl)) (all_c rfl rfl)) (Nat.le_of_ble_eq_true rfl) rfl fun w732 hC => ?_
   refine done ?_
   refine qn_norm ?_
   replace hC := hC.sM [1, 0, 2] (M' := [blk b708 30 [u723, .slice none 0 0], own 2 1 u723 r722.length ((EI .i64).encs r722), blk b11 30 [.slice none 0 0, .slice none 0 0]]) (by decide) rfl
   replace hC := hC.sP [3, 4, 5, 6, 7, 8, 9, 10] (Ps' := [Ty.item TForm.sl a1.images [u1_1] fp1, Ty.item ((EI .i64).ty.sl) a1.degrees [u1_0] fp1, Ty.item TForm.sl a0.images [u0_1] fp0, Ty.item ((EI .i64).ty.sl) a0.degrees [u0_0] fp0, Ty.item TAlg a0 [u0_0, u0_1] fp0, Ty.item TAlg a1 [u1_0, u1_1] fp1, blk b0 30 [u0_0, u0_1], blk b1 30 [u1_0, u1_1]]) rfl
   exact ⟨rfl, _, rfl, ⟨b708, u723, r722, (sk rfl (sk rfl (sk rfl (sk rfl (sk rfl (sk rfl sn)))))), hC, h⟩⟩
def f_impl_Algebra_copied (a0 : Alg) (K : Alg → Int → Prop) : Prop :=
 f_impl_productOf a0 (⟨[], []⟩ : Alg) (fun r15 r21 => K r15 r21)
theorem c_impl_Algebra_copied (a0 : Alg) {b0 : Nat} {u0_0 : Value} {u0_1 : Value} {fp0 : List Nat} {K : Alg → Int → Prop} (h : f_impl_Algebra_copied a0 K) (w0 : World) (q0 : TAlg.rep a0 [u0_0, u0_1] fp0 w0) (qb0 : (blk b0 30 [u0_0, u0_1]).holds w0) :
  Calls Try.prog 36 #[.pointer (some ⟨b0, 0, none⟩)] w0 fun e w' => ∃ (r0 : Alg) (z0_0 : Value) (z0_1 : Value) (fz0 : List Nat) (r1 : Int), 
   e = .returned (.tuple #[.agg #[z0_0, z0_1], .int .i64 r1]) ∧ K r0 r1 ∧ (Tr.item (TrAlg 2 76 59) r0 [z0_0, z0_1] fz0).holds w' ∧ (∀ b, b ∈ fz0 → w0.heap.size ≤ b) ∧ Bel w0 w' := by
 unfold f_impl_Algebra_copied at h
 refine calls_of (args := [.pointer (some ⟨b0, 0, none⟩)]) Try.func36 rfl 10 Try.ntmps36 (Nat.le_of_ble_eq_true rfl) ?_
 have hC := Ctx.start (X := Nox) w0 [Ty.item TAlg a0 [u0_0, u0_1] fp0, blk b0 30 [u0_0, u0_1]] (by simp only [List.mem_cons, List.not_mem_nil, or_false, forall_eq_or_imp, forall_eq]; exact ⟨q0, qb0⟩)
 have hp3 := (hC.getP 0 rfl)
 replace hC := hC.derive 0 rfl (Ty.item ((EI .i64).ty.sl) a0.degrees [u0_0] fp0) (fun _ => (alg_parts hp3).1) (fun _ hb_ => hb_)
 replace hC := hC.derive 1 rfl (Ty.item TForm.sl a0.images [u0_1] fp0) (fun _ => (alg_parts hp3).2) (fun _ hb_ => hb_)
 refine sr ?_
 refine s_alloc hC [.slice none 0 0, .slice none 0 0] z30 rfl fun b6 w8 hB_ hC => ?_
 refine s_as (v := .int .i64 0) rfl ?_
 refine dn ?_
 refine sr ?_
 refine s_mv (v := .pointer (some ⟨b0, 0, none⟩)) rfl ?_
 refine s_build [] rfl (bl30   _) ?_
 refine s_box (v := .agg #[.slice none 0 0, .slice none 0 0]) hC [.slice none 0 0, .slice none 0 0] rfl rfl fun b9 w11 hB_ hC => ?_
 refine s_call [.pointer (some ⟨b0, 0, none⟩), .pointer (some ⟨b9, 0, none⟩)] _ Try.func67 rfl rfl rfl (c_impl_productOf a0 (⟨[], []⟩ : Alg) h _ (alg_mk (hC.getP 1 rfl) (hC.getP 0 rfl)) (hC.getP 3 rfl) (alg_mk (rep_nil _ _) (rep_nil _ _)) (hC.getM 0 rfl)) (fun ret12 w14 hR13 => ?_)
 obtain ⟨r15, u16, u17, f18, r21, rfl, h, hr19, hf20, hB22⟩ := hR13
 refine ⟨_, rfl, ?_⟩
 replace hC := hC.push hB22 (Tr.item (TrAlg 2 76 59) r15 [u16, u17] f18) hr19 hf20
 obtain ⟨f24, ho25, ho26, hs27, hs28, hd29⟩ := alg_split (hC.getM 0 rfl)
 replace hC := hC.split (a := own 2 1 u16 r15.degrees.length ((EI .i64).encs r15.degrees)) (b := Tr.item (Tr.sl 59 (TrForm 76)) r15.images [u17] f24) hs27 hs28 ⟨ho25, ho26, hd29⟩
 refine s_ext (v := .agg #[u16, u17]) rfl rfl ?_
 refine s_ext (v := .int .i64 r21) rfl rfl ?_
 refine s_store (v := .agg #[u16, u17]) hC 3 [u16, u17] [u16, u17] rfl ag30.size rfl rfl rfl rfl (all_c (own_oneC (hC.getM 0 rfl)) (all_c (rep_oneC (Tr.trep _ (hC.getM 1 rfl).1)) rfl)) (Nat.le_of_ble_eq_true rfl) rfl fun w32 hC => ?_
 refine s_as (v := .int .i64 r21) rfl ?_
 refine dn ?_
 refine wp_ret ?_
 refine ret2 (fn := Try.f36) rfl ?_ ?_ ⟨r15, u16, u17, ((Option.toList (Value.ownBlock u16)) ++ f24), r21, rfl, h, (alg_join (own_item (hC.getM 0 rfl)) (hC.getM 1 rfl) (fun x hx hx' => hC.mm 0 1 rfl rfl (by decide) x hx hx')), (fun b hb => (List.mem_append.1 hb).elim (fun hb => (own_fresh hC 0 rfl) b hb) (fun hb => (tr_fresh hC 1 rfl) b hb)), hC.below⟩ (.inl rfl)
 ·exact res_cellA hC 3 rfl ag30 rfl rfl
 ·exact res_tmp rfl
def f_impl_Algebra_isClosed (a0 : Alg) (a1 : Vc.Form) (K : Bool → Prop) : Prop :=
 f_impl_sumOf a1 (fun r15 => f_impl_Algebra_d a0 r15 (fun r24 => K (decide ((r24.length : Int) = 0))))
theorem c_impl_Algebra_isClosed (a0 : Alg) (a1 : Vc.Form) {b0 : Nat} {u0_0 : Value} {u0_1 : Value} {u1_0 : Value} {fp0 : List Nat} {fp1 : List Nat} {K : Bool → Prop} (h : f_impl_Algebra_isClosed a0 a1 K) (w0 : World) (q0 : TAlg.rep a0 [u0_0, u0_1] fp0 w0) (qb0 : (blk b0 30 [u0_0, u0_1]).holds w0) (q1 : TForm.rep a1 [u1_0] fp1 w0) :
  Calls Try.prog 70 #[.pointer (some ⟨b0, 0, none⟩), .agg #[u1_0]] w0 fun e w' => ∃ (r0 : Bool), 
   e = .returned (.bool r0) ∧ K r0 ∧ Bel w0 w' := by
 unfold f_impl_Algebra_isClosed at h
 refine calls_of (args := [.pointer (some ⟨b0, 0, none⟩), .agg #[u1_0]]) Try.func70 rfl 11 Try.ntmps70 (Nat.le_of_ble_eq_true rfl) ?_
 have hC := Ctx.start (X := Nox) w0 [Ty.item TAlg a0 [u0_0, u0_1] fp0, Ty.item TForm a1 [u1_0] fp1, blk b0 30 [u0_0, u0_1]] (by simp only [List.mem_cons, List.not_mem_nil, or_false, forall_eq_or_imp, forall_eq]; exact ⟨q0, q1, qb0⟩)
 have hp4 := (hC.getP 0 rfl)
 replace hC := hC.derive 0 rfl (Ty.item ((EI .i64).ty.sl) a0.degrees [u0_0] fp0) (fun _ => (alg_parts hp4).1) (fun _ hb_ => hb_)
 replace hC := hC.derive 1 rfl (Ty.item TForm.sl a0.images [u0_1] fp0) (fun _ => (alg_parts hp4).2) (fun _ hb_ => hb_)
 have hp7 := (hC.getP 3 rfl)
 replace hC := hC.derive 3 rfl (Ty.item ETerm.ty.sl a1.terms [u1_0] fp1) (fun _ => (form_parts hp7)) (fun _ hb_ => hb_)
 refine sr ?_
 refine s_box (v := .agg #[u1_0]) hC [u1_0] rfl rfl fun b9 w11 hB_ hC => ?_
 refine s_as (v := .bool false) rfl ?_
 refine dn ?_
 refine sr ?_
 refine s_mv (v := .pointer (some ⟨b0, 0, none⟩)) rfl ?_
 refine s_loadA hC 0 [u1_0] rfl ag59 rfl rfl rfl ?_
 refine s_call [.agg #[u1_0]] _ Try.func93 rfl rfl rfl (c_impl_sumOf a1 h _ (form_mk (hC.getP 0 rfl))) (fun ret12 w14 hR13 => ?_)
 obtain ⟨r15, b16, rfl, h, hr17, hf18, hB19⟩ := hR13
 refine ⟨_, rfl, ?_⟩
 replace hC := hC.push hB19 (mapI (kvA .i64) (vvI .i64) b16 r15) hr17 (fun b_ hb_ => by obtain rfl := List.mem_singleton.1 hb_; exact hf18)
 refine s_call [.pointer (some ⟨b0, 0, none⟩), .map (some b16)] _ Try.func92 rfl rfl rfl (c_impl_Algebra_d a0 r15 h _ (alg_mk (hC.getP 2 rfl) (hC.getP 1 rfl)) (hC.getP 5 rfl) (hC.getM 0 rfl)) (fun ret21 w23 hR22 => ?_)
 obtain ⟨r24, b25, rfl, h, hr26, hf27, hB28⟩ := hR22
 refine ⟨_, rfl, ?_⟩
 replace hC := hC.push hB28 (mapI (kvA .i64) (vvI .i64) b25 r24) hr26 (fun b_ hb_ => by obtain rfl := List.mem_singleton.1 hb_; exact hf27)
 refine s_maplen (hC.getM 0 rfl) Try.underlying119 rfl rfl ?_
 refine s_eql rfl rfl ?_
 refine s_as (v := .bool (decide ((r24.length : Int) = 0))) rfl ?_
 refine dn ?_
 refine wp_ret ?_
 refine ret1 (fn := Try.f70) rfl ?_ ⟨decide ((r24.length : Int) = 0), rfl, h, hC.below⟩ (.inl rfl)
 exact res_tmp rfl
def f_slices_Clone_int64_int64 (a0 : List Int) (K : List Int → Prop) : Prop :=
 ((a0 = [] → K []) ∧ (Room (0 + a0.length) 8 ∧ K a0))
theorem c_slices_Clone_int64_int64 (a0 : List Int) {u0_0 : Value} {fp0 : List Nat} {K : List Int → Prop} (h : f_slices_Clone_int64_int64 a0 K) (w0 : World) (q0 : ((EI .i64).ty.sl).rep a0 [u0_0] fp0 w0) :
  Calls Try.prog 46 #[u0_0] w0 fun e w' => ∃ (r0 : List Int) (z0_0 : Value) (fz0 : List Nat), 
   e = .returned (z0_0) ∧ K r0 ∧ (Tr.item (Tr.sl 2 ((EI .i64).tr)) r0 [z0_0] fz0).holds w' ∧ (∀ b, b ∈ fz0 → w0.heap.size ≤ b) ∧ Bel w0 w' := by
 unfold f_slices_Clone_int64_int64 at h
 refine calls_of (args := [u0_0]) Try.func46 rfl 8 Try.ntmps46 (Nat.le_of_ble_eq_true rfl) ?_
 have hC := Ctx.start (X := Nox) w0 [Ty.item ((EI .i64).ty.sl) a0 [u0_0] fp0] (by simp only [List.mem_cons, List.not_mem_nil, or_false, forall_eq_or_imp, forall_eq]; exact q0)
 refine sr ?_
 refine s_as (v := .slice none 0 0) rfl ?_
 refine dn ?_
 refine wp_seq ?_
 refine sr ?_
 refine s_mv (v := u0_0) rfl ?_
 rcases nil_or (hC.getP 0 rfl) with ⟨z4, z5, he2, ha3⟩ | ⟨z6, z7, z8, he2⟩
 ·replace h := h.1 ha3
  refine s_eqnil true Try.underlying22 (tr rfl he2) rfl rfl ?_
  refine dn ?_
  refine cw_true rfl rfl ?_
  refine sr ?_
  refine s_as (v := .slice none 0 0) rfl ?_
  refine dn ?_
  refine wp_ret (then_ret ?_)
  refine ret1 (fn := Try.f46) rfl ?_ ⟨[], .slice none 0 0, [], rfl, h, (nil_item _ _ _), (fun b hb => absurd hb (by simp)), hC.below⟩ (.inl rfl)
  exact res_tmp rfl
 ·replace h := h.2
  refine s_eqnil false Try.underlying22 (tr rfl he2) rfl rfl ?_
  refine dn ?_
  refine cw_false rfl rfl ?_
  refine wp_skip ?_
  refine then_norm ?_
  refine sr ?_
  refine s_bslice (sz := 1) hC [] ((EI .i64).encs []) rfl (fun _ => bs22_0  _) rfl (by decide) fun b9 w10 hB_ hC => ?_
  refine s_mv (v := u0_0) rfl ?_
  obtain ⟨hm14, h⟩ := h
  refine s_app hC 0 Try.underlying22 el2 rfl (by decide) (by decide) rfl (sl_rdr (hC.getP 0 rfl)) (fun q hq => Enc.encs_one' (E := (EI .i64)) _ q hq) rfl rfl hm14 fun v12 w13 hC => ?_
  replace hC := own_re hC 0 (a0.length) ((EI .i64).encs a0) rfl (by simp) (by first | (simp [Enc.encs_append]; done) | simp [Enc.encs_append, Enc.encs])
  refine s_as (v := v12) rfl ?_
  refine dn ?_
  refine wp_ret ?_
  refine ret1 (fn := Try.f46) rfl ?_ ⟨a0, v12, (Option.toList (Value.ownBlock v12)), rfl, h, (own_item (hC.getM 0 rfl)), (own_fresh hC 0 rfl), hC.below⟩ (.inl rfl)
  exact res_tmp rfl
def f_slices_Clone_impl_Form_impl_Form (a0 : List Vc.Form) (K : List Vc.Form → Prop) : Prop :=
 ((a0 = [] → K []) ∧ (Room (0 + a0.length) 24 ∧ K a0))
theorem c_slices_Clone_impl_Form_impl_Form (a0 : List Vc.Form) {u0_0 : Value} {fp0 : List Nat} {K : List Vc.Form → Prop} (h : f_slices_Clone_impl_Form_impl_Form a0 K) (w0 : World) (q0 : TForm.sl.rep a0 [u0_0] fp0 w0) :
  Calls Try.prog 101 #[u0_0] w0 fun e w' => ∃ (r0 : List Vc.Form) (z0_0 : Value) (zc0 : List Value) (fz0 : List Nat), 
   e = .returned (z0_0) ∧ K r0 ∧ (own 59 1 z0_0 r0.length zc0).holds w' ∧ (Ty.allItem TForm r0 zc0 fz0).holds w' ∧ (∀ b, b ∈ Option.toList (Value.ownBlock z0_0) → w0.heap.size ≤ b) ∧ (∀ b, b ∈ fz0 → b ∈ (fp0)) ∧ Bel w0 w' := by
 unfold f_slices_Clone_impl_Form_impl_Form at h
 refine calls_of (args := [u0_0]) Try.func101 rfl 8 Try.ntmps101 (Nat.le_of_ble_eq_true rfl) ?_
 have hC := Ctx.start (X := Nox) w0 [Ty.item TForm.sl a0 [u0_0] fp0] (by simp only [List.mem_cons, List.not_mem_nil, or_false, forall_eq_or_imp, forall_eq]; exact q0)
 refine sr ?_
 refine s_as (v := .slice none 0 0) rfl ?_
 refine dn ?_
 refine wp_seq ?_
 refine sr ?_
 refine s_mv (v := u0_0) rfl ?_
 rcases nil_or (hC.getP 0 rfl) with ⟨z4, z5, he2, ha3⟩ | ⟨z6, z7, z8, he2⟩
 ·replace h := h.1 ha3
  refine s_eqnil true Try.underlying28 (tr rfl he2) rfl rfl ?_
  refine dn ?_
  refine cw_true rfl rfl ?_
  refine sr ?_
  refine s_as (v := .slice none 0 0) rfl ?_
  refine dn ?_
  refine wp_ret (then_ret ?_)
  refine ret1 (fn := Try.f101) rfl ?_ ⟨[], .slice none 0 0, [], [], rfl, h, (own_nil _ _ _), (all_nilI _ _), (fun b_ hb_ => absurd hb_ (by simp [Value.ownBlock])), (fun b_ hb_ => absurd hb_ (by simp)), hC.below⟩ (.inl rfl)
  exact res_tmp rfl
 ·replace h := h.2
  refine s_eqnil false Try.underlying28 (tr rfl he2) rfl rfl ?_
  refine dn ?_
  refine cw_false rfl rfl ?_
  refine wp_skip ?_
  refine then_norm ?_
  refine sr ?_
  refine s_bslice (sz := 1) hC [] [] rfl (fun _ => bs28_0 _) rfl (by decide) fun b9 w10 hB_ hC => ?_
  replace hC := hC.pushM0 (forest (TrForm 76) ([] : List Vc.Form) [] []) (forest_nil _ _) rfl
  replace hC := hC.gather (c := Tr.item (Tr.sl 59 (TrForm 76)) [] [.slice (some ⟨b9, 0, none⟩) 0 0] ((Option.toList (Value.ownBlock (.slice (some ⟨b9, 0, none⟩) 0 0))) ++ ([] : List (List Nat)).flatten)) (fun x_ hx_ => (List.mem_append.1 hx_).symm) (fun h1_ h2_ hd_ => forest_up h2_ h1_ (fun b_ hb_ hb2_ => hd_ b_ hb2_ hb_))
  refine s_mv (v := u0_0) rfl ?_
  replace hC := hC.recast (c := own 59 1 (.slice (some ⟨b9, 0, none⟩) 0 0) 0 []) (fun x_ hx_ => (tr_empty (hC.getM 0 rfl)).2 x_ hx_) (fun h_ => (tr_empty h_).1)
  obtain ⟨cs12, hd13, ha14⟩ := sl_open (hC.getP 0 rfl)
  replace hC := hC.derive 0 rfl (Ty.allItem TForm a0 cs12 fp0) (fun _ => ha14) (fun _ h_ => h_)
  obtain ⟨hm16, h⟩ := h
  refine s_app hC 0 Try.underlying28 el59 rfl (by decide) (by decide) rfl hd13 (fun q_ hq_ => ha14.2.2.1 q_ hq_) rfl rfl hm16 fun v17 w18 hC => ?_
  replace hC := own_re hC 0 (a0.length) cs12 rfl (by simp) (by simp)
  refine s_as (v := v17) rfl ?_
  refine dn ?_
  refine wp_ret ?_
  refine ret1 (fn := Try.f101) rfl ?_ ⟨a0, v17, cs12, fp0, rfl, h, (hC.getM 0 rfl), (hC.getP 0 rfl), (own_fresh hC 0 rfl), (fun _ hb_ => hb_), hC.below⟩ (.inl rfl)
  exact res_tmp rfl
def f_impl_Algebra_withGenerator (a0 : Alg) (a1 : Int) (a2 : Vc.Form) (K : Alg → Int → Prop) : Prop :=
 (if (a0.degrees.length : Int) = 8 then K (⟨[], []⟩ : Alg) 3 else f_slices_Clone_int64_int64 a0.degrees (fun r23 => (Room (r23.length + 1) 8 ∧ f_slices_Clone_impl_Form_impl_Form a0.images (fun r416 => (Room (r416.length + 1) 24 ∧ forN (fun i360 (s361 : (List Vc.Form)) next366 => f_impl_shifted ((r416 ++ [a2]).getD i360 default) 0 (fun r390 => (Room (s361.length + 1) 24 ∧ next366 (s361 ++ [r390])))) (fun (s361 : (List Vc.Form)) => K (⟨r23 ++ [a1], s361⟩ : Alg) 0) ((r416 ++ [a2]).length) 0 [])))))
theorem c_impl_Algebra_withGenerator (a0 : Alg) (a1 : Int) (a2 : Vc.Form) {b0 : Nat} {u0_0 : Value} {u0_1 : Value} {u2_0 : Value} {fp0 : List Nat} {fp2 : List Nat} {K : Alg → Int → Prop} (h : f_impl_Algebra_withGenerator a0 a1 a2 K) (w0 : World) (q0 : TAlg.rep a0 [u0_0, u0_1] fp0 w0) (qb0 : (blk b0 30 [u0_0, u0_1]).holds w0) (q2 : TForm.rep a2 [u2_0] fp2 w0) :
  Calls Try.prog 71 #[.pointer (some ⟨b0, 0, none⟩), .int .i64 a1, .agg #[u2_0]] w0 fun e w' => ∃ (r0 : Alg) (z0_0 : Value) (z0_1 : Value) (fz0 : List Nat) (r1 : Int), 
   e = .returned (.tuple #[.agg #[z0_0, z0_1], .int .i64 r1]) ∧ K r0 r1 ∧ (Tr.item (TrAlg 2 76 59) r0 [z0_0, z0_1] fz0).holds w' ∧ (∀ b, b ∈ fz0 → w0.heap.size ≤ b) ∧ Bel w0 w' := by
 unfold f_impl_Algebra_withGenerator at h
 refine calls_of (args := [.pointer (some ⟨b0, 0, none⟩), .int .i64 a1, .agg #[u2_0]]) Try.func71 rfl 49 Try.ntmps71 (Nat.le_of_ble_eq_true rfl) ?_
 have hC := Ctx.start (X := Nox) w0 [Ty.item TAlg a0 [u0_0, u0_1] fp0, Ty.item TForm a2 [u2_0] fp2, blk b0 30 [u0_0, u0_1]] (by simp only [List.mem_cons, List.not_mem_nil, or_false, forall_eq_or_imp, forall_eq]; exact ⟨q0, q2, qb0⟩)
 have hp4 := (hC.getP 0 rfl)
 replace hC := hC.derive 0 rfl (Ty.item ((EI .i64).ty.sl) a0.degrees [u0_0] fp0) (fun _ => (alg_parts hp4).1) (fun _ hb_ => hb_)
 replace hC := hC.derive 1 rfl (Ty.item TForm.sl a0.images [u0_1] fp0) (fun _ => (alg_parts hp4).2) (fun _ hb_ => hb_)
 have hp7 := (hC.getP 3 rfl)
 replace hC := hC.derive 3 rfl (Ty.item ETerm.ty.sl a2.terms [u2_0] fp2) (fun _ => (form_parts hp7)) (fun _ hb_ => hb_)
 refine sr ?_
 refine s_box (v := .agg #[u2_0]) hC [u2_0] rfl rfl fun b9 w11 hB_ hC => ?_
 refine s_alloc hC [.slice none 0 0, .slice none 0 0] z30 rfl fun b12 w14 hB_ hC => ?_
 refine s_as (v := .int .i64 0) rfl ?_
 refine dn ?_
 refine wp_seq ?_
 refine sr ?_
 refine s_mv (v := .pointer (some ⟨b0, 0, none⟩)) rfl ?_
 refine s_nilchk rfl ?_
 refine s_faddrB 0 Try.underlying30 rfl sc22.size rfl rfl ?_
 refine s_loadSh (u0_0) (hC.getP 5 rfl) sc22 rfl rfl ?_
 obtain ⟨Ad15, c16, hv17⟩ := sl_len (hC.getP 2 rfl)
 refine s_len Try.underlying22 (tr rfl hv17) ?_
 refine s_eql rfl rfl ?_
 refine dn ?_
 refine cw_cond rfl (fun hb18 => ?_) (fun hb18 => ?_)
 ·replace h := ift h (ct hb18)
  refine sr ?_
  refine s_build [] rfl (bl30   _) ?_
  refine s_store (v := .agg #[.slice none 0 0, .slice none 0 0]) hC 0 [.slice none 0 0, .slice none 0 0] [.slice none 0 0, .slice none 0 0] rfl ag30.size rfl rfl rfl rfl rfl (Nat.le_of_ble_eq_true rfl) rfl fun w19 hC => ?_
  refine s_as (v := .int .i64 3) rfl ?_
  refine dn ?_
  refine wp_ret (then_ret ?_)
  refine ret2 (fn := Try.f71) rfl ?_ ?_ ⟨(⟨[], []⟩ : Alg), .slice none 0 0, .slice none 0 0, ([] ++ []), 3, rfl, h, (alg_join (nil_item _ _ _) (nil_item _ _ _) (fun x hx => absurd hx (by simp))), (fun b hb => (List.mem_append.1 hb).elim (fun hb => (fun b hb => absurd hb (by simp)) b hb) (fun hb => (fun b hb => absurd hb (by simp)) b hb)), hC.below⟩ (.inl rfl)
  ·exact res_cellA hC 0 rfl ag30 rfl rfl
  ·exact res_tmp rfl
 ·replace h := iff_ h (cf hb18)
  refine wp_skip ?_
  refine then_norm ?_
  refine sr ?_
  refine s_mv (v := .pointer (some ⟨b0, 0, none⟩)) rfl ?_
  refine s_nilchk rfl ?_
  refine s_faddrB 0 Try.underlying30 rfl sc22.size rfl rfl ?_
  refine s_loadSh (u0_0) (hC.getP 5 rfl) sc22 rfl rfl ?_
  refine s_call [u0_0] _ Try.func46 rfl rfl rfl (c_slices_Clone_int64_int64 a0.degrees h _ (hC.getP 2 rfl)) (fun ret20 w22 hR21 => ?_)
  obtain ⟨r23, u24, f25, rfl, h, hr26, hf27, hB28⟩ := hR21
  refine ⟨_, rfl, ?_⟩
  replace hC := hC.push hB28 (Tr.item (Tr.sl 2 ((EI .i64).tr)) r23 [u24] f25) hr26 hf27
  obtain ⟨ho30, hf31⟩ := flat_tr (hC.getM 0 rfl).1
  subst hf31
  replace hC := hC.recast (c := own 2 1 u24 r23.length ((EI .i64).encs r23)) (fun _ h_ => h_) (fun _ => ho30)
  refine s_mv (v := .int .i64 a1) rfl ?_
  refine s_bslice (sz := 1) hC [(0, .int .i64 a1)] ((EI .i64).encs [a1]) rfl (fun _ => bs22_1 a1 _) rfl (by decide) fun b33 w34 hB_ hC => ?_
  obtain ⟨hm38, h⟩ := h
  refine s_app hC 1 Try.underlying22 el2 rfl (by decide) (by decide) rfl (own_rdr (hC.getM 0 rfl)) (fun q hq => Enc.encs_one' (E := (EI .i64)) _ q hq) rfl rfl hm38 fun v36 w37 hC => ?_
  replace hC := own_re hC 1 ((r23 ++ [a1]).length) ((EI .i64).encs (r23 ++ [a1])) rfl (by simp) (by first | (simp [Enc.encs_append]; done) | simp [Enc.encs_append, Enc.encs])
  refine s_build [(0, v36)] rfl (bl30_0sl v36 (own_isSl (hC.getM 1 rfl)) _) ?_
  refine s_alloc hC [.slice none 0 0, .slice none 0 0] z30 rfl fun b39 w41 hB_ hC => ?_
  refine s_store (v := .agg #[v36, .slice none 0 0]) hC 0 [v36, .slice none 0 0] [v36, .slice none 0 0] rfl ag30.size rfl rfl rfl rfl (all_c (own_oneC (hC.getM 2 rfl)) (all_c rfl rfl)) (Nat.le_of_ble_eq_true rfl) rfl fun w42 hC => ?_
  refine dn ?_
  refine wp_seq ?_
  refine wp_seq ?_
  refine cw_draw 7 mixed [0, 1, 3, 7, 15, 0, 32, 127, 255, 0] [] [0, 1, 2, 9] (by kernel_rfl) (by kernel_rfl) (by kernel_rfl) (fun hM44 hM45 w43 hB_ => ?_)
  replace hC := hC.grow hB_
  refine aF 0 (.pointer (some ⟨b0, 0, none⟩)) rfl rfl (hM45 0 rfl) (rfl) (fun _ => by exact r_mv (v := .pointer (some ⟨b0, 0, none⟩)) rfl) (dbits 10 1) ?_
  refine aF 1 (.pointer (some ⟨b0, 0, none⟩)) rfl rfl (hM45 1 rfl) (rfl) (fun _ => by exact r_nilchk rfl) (dbits 10 3) ?_
  refine aF 2 (.pointer (some ⟨b0, 1, none⟩)) rfl rfl (hM45 2 rfl) (rfl) (fun _ => by exact r_faddrB 1 Try.underlying30 rfl sc28.size rfl rfl) (dbits 10 7) ?_
  refine aF 9 (.int .i64 0) rfl rfl (hM45 9 rfl) (rfl) (fun _ => by exact r_mv (v := .int .i64 0) rfl) (dbits 10 519) ?_
  refine ae_join (fun e_ w_ => ∃ (r49 : List Vc.Form), ∃ (v72 : Value), ∃ (f52 : List Nat), ∃ (b60 : Nat), Slots e_ [(6, .pointer (some ⟨b12, 0, none⟩)), (7, .int .i64 0), (8, .pointer (some ⟨b39, 0, none⟩)), (34, v72), (35, .int .i64 ((r49 ++ [a2]).length : Int)), (36, .int .i64 0)] ∧ (∀ b, b ∈ ((Option.toList (Value.ownBlock v72)) ++ (f52 ++ ((Option.toList (Value.ownBlock (.slice (some ⟨b60, 0, none⟩) 1 1))) ++ fp2))) → w0.heap.size ≤ b ∨ b ∈ (fp0 ++ (fp2))) ∧ Ctx Nox w0 w_ [blk b39 30 [v36, .slice none 0 0], own 2 1 v36 ((r23 ++ [a1]).length) ((EI .i64).encs (r23 ++ [a1])), blk b12 30 [.slice none 0 0, .slice none 0 0]] [Ty.item TForm.sl (r49 ++ [a2]) [v72] ((Option.toList (Value.ownBlock v72)) ++ (f52 ++ ((Option.toList (Value.ownBlock (.slice (some ⟨b60, 0, none⟩) 1 1))) ++ fp2))), Ty.item ETerm.ty.sl a2.terms [u2_0] fp2, Ty.item TForm.sl a0.images [u0_1] fp0, Ty.item ((EI .i64).ty.sl) a0.degrees [u0_0] fp0, Ty.item TAlg a0 [u0_0, u0_1] fp0, Ty.item TForm a2 [u2_0] fp2, blk b0 30 [u0_0, u0_1]] ∧ (forN (fun i360 (s361 : (List Vc.Form)) next366 => f_impl_shifted ((r49 ++ [a2]).getD i360 default) 0 (fun r390 => (Room (s361.length + 1) 24 ∧ next366 (s361 ++ [r390])))) (fun (s361 : (List Vc.Form)) => K (⟨r23 ++ [a1], s361⟩ : Alg) 0) ((r49 ++ [a2]).length) 0 [])) ?_ ?_
  ·clear hC h
   rintro e_ w269 ⟨r49, v72, f52, b60, hS_, hq268, hC, h⟩
   refine then_norm ?_
   refine wp_block ?_
   have hN365 : (r49 ++ [a2]).length ≤ 9223372036854775807 := sl_max (hC.getP 0 rfl)
   refine loopN (S := (List Vc.Form)) _ _ (fun i360 s361 e_ w_ => ∃ (v362 : Value), ∃ (f364 : List Nat), Slots e_ [(6, .pointer (some ⟨b12, 0, none⟩)), (7, .int .i64 0), (8, .pointer (some ⟨b39, 0, none⟩)), (34, v72), (35, .int .i64 ((r49 ++ [a2]).length : Int)), (36, .int .i64 (i360 : Int))] ∧ Ctx Nox w0 w_ [Tr.item (Tr.sl 59 (TrForm 76)) s361 [v362] f364, blk b39 30 [v36, v362], own 2 1 v36 ((r23 ++ [a1]).length) ((EI .i64).encs (r23 ++ [a1])), blk b12 30 [.slice none 0 0, .slice none 0 0]] [Ty.item TForm.sl (r49 ++ [a2]) [v72] ((Option.toList (Value.ownBlock v72)) ++ (f52 ++ ((Option.toList (Value.ownBlock (.slice (some ⟨b60, 0, none⟩) 1 1))) ++ fp2))), Ty.item ETerm.ty.sl a2.terms [u2_0] fp2, Ty.item TForm.sl a0.images [u0_1] fp0, Ty.item ((EI .i64).ty.sl) a0.degrees [u0_0] fp0, Ty.item TAlg a0 [u0_0, u0_1] fp0, Ty.item TForm a2 [u2_0] fp2, blk b0 30 [u0_0, u0_1]]) ((r49 ++ [a2]).length) ?_ ?_ (s0 := []) ?_ h
   ·clear hC h
    rintro i360 s361 e_ w370 next366 K367 hi369 ⟨v362, f364, hS_, hC⟩ h hK368
    refine sr ?_
    refine s_lss (sx hS_ 5 rfl) (sx hS_ 4 rfl) ?_
    refine dn ?_
    refine wp_seq ?_
    refine cw_true rfl (decide_eq_true (by omega)) ?_
    refine wp_skip ?_
    refine then_norm ?_
    refine wp_seq ?_
    refine wp_block ?_
    refine sr ?_
    obtain ⟨Ad371, c372, hv373⟩ := sl_form (hC.getP 0 rfl) i360 hi369
    refine s_iaddrS (len := (r49 ++ [a2]).length) Try.underlying28 ag59.size (tr (sx hS_ 3 rfl) hv373) (sx hS_ 5 rfl) (Int.natCast_nonneg _) (Int.ofNat_lt.2 hi369) ?_
    obtain ⟨cs_, hl375, hc376, hr377⟩ := sl_cells (hC.getP 0 rfl) hv373 i360 hi369
    obtain ⟨u374, rfl⟩ := List.length_eq_one_iff.1 hl375
    clear hl375
    rw [getD_eq _ _ hi369] at hr377
    have hp378 := hr377
    replace hC := hC.derive 0 rfl (Ty.item ETerm.ty.sl (((r49 ++ [a2]).getD i360 default).terms) [u374] ((Option.toList (Value.ownBlock v72)) ++ (f52 ++ ((Option.toList (Value.ownBlock (.slice (some ⟨b60, 0, none⟩) 1 1))) ++ fp2)))) (fun _ => (form_parts hp378)) (fun _ hb_ => hb_)
    refine s_loadCA [u374] hc376 ag59 rfl rfl ?_
    refine s_alloc hC [.slice none 0 0] z59 rfl fun b380 w382 hB_ hC => ?_
    refine s_store (v := .agg #[u374]) hC 0 [u374] [u374] rfl ag59.size rfl rfl rfl rfl (all_c (rep_oneC (hC.getP 0 rfl)) rfl) (Nat.le_of_ble_eq_true rfl) rfl fun w383 hC => ?_
    refine dn ?_
    refine cw_draw 5 mixed [0, 1, 0, 4, 12, 31, 63, 127] [1, 2] [0] (by kernel_rfl) (by kernel_rfl) (by kernel_rfl) (fun hM385 hM386 w384 hB_ => ?_)
    replace hC := hC.grow hB_
    refine aF 0 (.pointer (some ⟨b39, 1, none⟩)) rfl rfl (hM386 0 rfl) (rfl) (fun _ => by exact r_faddrB 1 Try.underlying30 rfl sc28.size (sx hS_ 2 rfl) rfl) (dbits 8 1) ?_
    refine aL 1 (v362) rfl rfl (hM385 1 rfl) (rfl) (fun _ hB_ => by exact r_loadS (hC.grow hB_) 2 (v362) rfl sc28 rfl rfl) (dbits 8 3) ?_
    refine aL 2 (.agg #[u374]) rfl rfl (hM385 2 rfl) (rfl) (fun _ hB_ => by exact r_loadA (hC.grow hB_) 0 [u374] rfl ag59 rfl rfl rfl) (dbits 8 7) ?_
    refine aO 3 rfl ?_
    refine s_call [.agg #[u374], .int .i64 0] _ Try.func99 rfl rfl rfl (c_impl_shifted ((r49 ++ [a2]).getD i360 default) 0 h _ (form_mk (hC.getP 0 rfl))) (fun ret387 w389 hR388 => ?_)
    obtain ⟨r390, u391, f392, rfl, h, hr393, hf394, hB395⟩ := hR388
    refine ⟨_, rfl, ?_⟩
    replace hC := hC.push hB395 (Tr.item (TrForm 76) r390 [u391] f392) hr393 hf394
    obtain ⟨ho397, hf398⟩ := form_split (hC.getM 0 rfl)
    subst hf398
    replace hC := hC.recast (c := own 76 9 u391 r390.terms.length (ETerm.encs r390.terms)) (fun _ h_ => h_) (fun _ => ho397)
    refine done ?_
    refine aK (by assumption) (dbits 8 15) ?_
    refine aO 4 rfl ?_
    refine s_bslice (sz := 1) hC [(0, .agg #[u391])] [u391] rfl (fun _ => bsr28_1_s u391 (own_isSl (hC.getM 0 rfl)) _) rfl (by decide) fun b400 w401 hB_ hC => ?_
    replace hC := hC.pushM0 (forest (TrForm 76) [] [] []) (forest_nil _ _) rfl
    replace hC := hC.sM [2, 0, 1, 3, 4, 5, 6, 7] (M' := [own 76 9 u391 r390.terms.length (ETerm.encs r390.terms), forest (TrForm 76) [] [] [], own 59 1 (.slice (some ⟨b400, 0, none⟩) 1 1) 1 [u391], blk b380 59 [u374], Tr.item (Tr.sl 59 (TrForm 76)) s361 [v362] f364, blk b39 30 [v36, v362], own 2 1 v36 ((r23 ++ [a1]).length) ((EI .i64).encs (r23 ++ [a1])), blk b12 30 [.slice none 0 0, .slice none 0 0]]) (by decide) rfl
    replace hC := hC.gather (c := forest (TrForm 76) [r390] [u391] [(Option.toList (Value.ownBlock u391))]) (fun x_ hx_ => forest_mem hx_) (fun h1_ h2_ hd_ => forest_cons (c := [u391]) (form_join (own_item h1_)) h2_ hd_)
    replace hC := hC.sM [1, 0, 2, 3, 4, 5, 6] (M' := [own 59 1 (.slice (some ⟨b400, 0, none⟩) 1 1) 1 [u391], forest (TrForm 76) [r390] [u391] [(Option.toList (Value.ownBlock u391))], blk b380 59 [u374], Tr.item (Tr.sl 59 (TrForm 76)) s361 [v362] f364, blk b39 30 [v36, v362], own 2 1 v36 ((r23 ++ [a1]).length) ((EI .i64).encs (r23 ++ [a1])), blk b12 30 [.slice none 0 0, .slice none 0 0]]) (by decide) rfl
    replace hC := hC.gather (c := Tr.item (Tr.sl 59 (TrForm 76)) [r390] [.slice (some ⟨b400, 0, none⟩) 1 1] ((Option.toList (Value.ownBlock (.slice (some ⟨b400, 0, none⟩) 1 1))) ++ ([(Option.toList (Value.ownBlock u391))] : List (List Nat)).flatten)) (fun x_ hx_ => List.mem_append.1 hx_) (fun h1_ h2_ hd_ => forest_up h1_ h2_ hd_)
    refine done ?_
    refine aK (by assumption) (dbits 8 31) ?_
    refine ae_tail 5 (by decide) (by decide) (by kernel_rfl) (by kernel_rfl) rfl ?_
    replace hC := hC.sM [2, 0, 1, 3, 4, 5] (M' := [Tr.item (Tr.sl 59 (TrForm 76)) s361 [v362] f364, Tr.item (Tr.sl 59 (TrForm 76)) [r390] [.slice (some ⟨b400, 0, none⟩) 1 1] ((Option.toList (Value.ownBlock (.slice (some ⟨b400, 0, none⟩) 1 1))) ++ ([(Option.toList (Value.ownBlock u391))] : List (List Nat)).flatten), blk b380 59 [u374], blk b39 30 [v36, v362], own 2 1 v36 ((r23 ++ [a1]).length) ((EI .i64).encs (r23 ++ [a1])), blk b12 30 [.slice none 0 0, .slice none 0 0]]) (by decide) rfl
    obtain ⟨hm408, h⟩ := h
    refine s_appT hC Try.underlying28 el59 rfl (by decide) (by decide) rfl rfl hm408 fun v405 f407 w406 hC => ?_
    refine s_faddrB 1 Try.underlying30 rfl sc28.size (sx hS_ 2 rfl) rfl ?_
    refine s_store (v := v405) hC 2 [v405] [v36, v405] rfl sc28.size rfl rfl (rep_cellsV (Tr.trep _ (hC.getM 0 rfl).1)) rfl (all_c (rep_oneC (Tr.trep _ (hC.getM 0 rfl).1)) rfl) (Nat.le_of_ble_eq_true rfl) rfl fun w409 hC => ?_
    refine done ?_
    refine qn_norm ?_
    refine blk_norm ?_
    refine then_norm ?_
    refine cw_region ?_
    refine s_add (sx hS_ 5 rfl) rfl ?_
    refine s_mv (v := .int .i64 (IntKind.i64.wrap ((i360 : Int) + 1))) rfl ?_
    refine done ?_
    replace hC := hC.sM [0, 2, 3, 4] (M' := [Tr.item (Tr.sl 59 (TrForm 76)) (s361 ++ [r390]) [v405] f407, blk b39 30 [v36, v405], own 2 1 v36 ((r23 ++ [a1]).length) ((EI .i64).encs (r23 ++ [a1])), blk b12 30 [.slice none 0 0, .slice none 0 0]]) (by decide) rfl
    replace hC := hC.sP [1, 2, 3, 4, 5, 6, 7] (Ps' := [Ty.item TForm.sl (r49 ++ [a2]) [v72] ((Option.toList (Value.ownBlock v72)) ++ (f52 ++ ((Option.toList (Value.ownBlock (.slice (some ⟨b60, 0, none⟩) 1 1))) ++ fp2))), Ty.item ETerm.ty.sl a2.terms [u2_0] fp2, Ty.item TForm.sl a0.images [u0_1] fp0, Ty.item ((EI .i64).ty.sl) a0.degrees [u0_0] fp0, Ty.item TAlg a0 [u0_0, u0_1] fp0, Ty.item TForm a2 [u2_0] fp2, blk b0 30 [u0_0, u0_1]]) rfl
    exact hK368 (s361 ++ [r390]) _ _ ⟨v405, f407, (sk (sx hS_ 0 rfl) (sk (sx hS_ 1 rfl) (sk (sx hS_ 2 rfl) (sk (sx hS_ 3 rfl) (sk (sx hS_ 4 rfl) (sk (tr rfl (congrArg _ (wrap64_nat hi369 hN365))) sn)))))), hC⟩ h
   ·clear hC h
    rintro s361 e_ w410 K367 ⟨v362, f364, hS_, hC⟩ h
    refine sr ?_
    refine s_lss (sx hS_ 5 rfl) (sx hS_ 4 rfl) ?_
    refine dn ?_
    refine wp_seq ?_
    refine cw_false rfl (decide_eq_false (by omega)) ?_
    refine wp_exit (then_exit (then_exit (exit_in ?_)))
    refine then_norm ?_
    refine sr ?_
    refine s_loadA hC 1 [v36, v362] rfl ag30 (sx hS_ 2 rfl) rfl rfl ?_
    refine s_store (v := .agg #[v36, v362]) hC 3 [v36, v362] [v36, v362] rfl ag30.size (sx hS_ 0 rfl) rfl rfl rfl (all_c (own_oneC (hC.getM 2 rfl)) (all_c (rep_oneC (Tr.trep _ (hC.getM 0 rfl).1)) rfl)) (Nat.le_of_ble_eq_true rfl) rfl fun w411 hC => ?_
    refine s_as (v := .int .i64 0) rfl ?_
    refine dn ?_
    refine wp_ret ?_
    refine ret2 (fn := Try.f71) rfl ?_ ?_ ⟨(⟨r23 ++ [a1], s361⟩ : Alg), v36, v362, ((Option.toList (Value.ownBlock v36)) ++ f364), 0, rfl, h, (alg_join (own_item (hC.getM 2 rfl)) (hC.getM 0 rfl) (fun x hx hx' => hC.mm 2 0 rfl rfl (by decide) x hx hx')), (fun b hb => (List.mem_append.1 hb).elim (fun hb => (own_fresh hC 2 rfl) b hb) (fun hb => (tr_fresh hC 0 rfl) b hb)), hC.below⟩ (.inl rfl)
    ·exact res_cellA hC 3 rfl ag30 (sx hS_ 0 rfl) rfl
    ·exact res_tmp rfl
   ·skip
    replace hC := hC.pushM0 (Tr.item (Tr.sl 59 (TrForm 76)) [] [.slice none 0 0] []) (nil_item _ _ _) rfl
    exact ⟨.slice none 0 0, [], (sk (sx hS_ 0 rfl) (sk (sx hS_ 1 rfl) (sk (sx hS_ 2 rfl) (sk (sx hS_ 3 rfl) (sk (sx hS_ 4 rfl) (sk (sx hS_ 5 rfl) sn)))))), hC⟩
  refine ae_two 3 5 rfl rfl (by kernel_rfl) ?_ ?_
  ·skip
   refine s_loadSh (u0_1) (hC.getP 5 rfl) sc28 rfl rfl ?_
   refine done ?_
   refine aK (Bel.refl _) (dbits 10 527) ?_
   refine ae_two 4 5 rfl rfl (by kernel_rfl) ?_ ?_
   ·skip
    refine s_call [u0_1] _ Try.func101 rfl rfl rfl (c_slices_Clone_impl_Form_impl_Form a0.images h _ (hC.getP 1 rfl)) (fun ret413 w415 hR414 => ?_)
    obtain ⟨r416, v417, cs418, f419, rfl, h, hr420, hr421, hr422, hr423, hB424⟩ := hR414
    refine ⟨_, rfl, ?_⟩
    replace hC := hC.push hB424 (own 59 1 v417 r416.length cs418) hr420 hr422
    replace hC := hC.pushP (Ty.allItem TForm r416 cs418 f419) hr421 (fun b_ hb_ m_ hm_ => hC.pd _ (List.mem_of_getElem? (i := 1) rfl) b_ (hr423 b_ hb_) m_ hm_)
    refine done ?_
    refine aK (by assumption) (dbits 10 543) ?_
    refine aO 5 rfl ?_
    refine s_loadA hC 5 [u2_0] rfl ag59 rfl rfl rfl ?_
    refine done ?_
    refine aK (Bel.refl _) (dbits 10 575) ?_
    refine aO 6 rfl ?_
    refine s_bslice (sz := 1) hC [(0, .agg #[u2_0])] [u2_0] rfl (fun _ => bsr28_1_s u2_0 (rep_isSl (hC.getP 1 rfl)) _) rfl (by decide) fun b427 w428 hB_ hC => ?_
    have hf430 := own_fresh hC 0 rfl
    replace hC := hC.thaw 0 rfl (own 59 1 (.slice (some ⟨b427, 0, none⟩) 1 1) 1 [u2_0]) id (fun _ hb_ => hb_)
    replace hC := hC.joinP 0 2 rfl rfl (Ty.item TForm.sl [a2] [.slice (some ⟨b427, 0, none⟩) 1 1] ((Option.toList (Value.ownBlock (.slice (some ⟨b427, 0, none⟩) 1 1))) ++ fp2)) (fun a_ b_ => own_rep a_ (all_one (form_mk b_))) (fun c_ hc_ => List.mem_append.1 hc_)
    have hs431 : ∀ b, b ∈ ((Option.toList (Value.ownBlock (.slice (some ⟨b427, 0, none⟩) 1 1))) ++ fp2) → w0.heap.size ≤ b ∨ b ∈ (fp0 ++ (fp2)) := (fun b hb => (List.mem_append.1 hb).elim (fun hb => .inl (hf430 b hb)) (fun hb => .inr (List.mem_append_right _ hb)))
    refine done ?_
    refine aK (by assumption) (dbits 10 639) ?_
    refine aO 7 rfl ?_
    obtain ⟨cs434, hd435, ha436⟩ := sl_open (hC.getP 0 rfl)
    replace hC := hC.derive 0 rfl (Ty.allItem TForm [a2] cs434 ((Option.toList (Value.ownBlock (.slice (some ⟨b427, 0, none⟩) 1 1))) ++ fp2)) (fun _ => ha436) (fun _ h_ => h_)
    obtain ⟨hm438, h⟩ := h
    refine s_app hC 0 Try.underlying28 el59 rfl (by decide) (by decide) rfl hd435 (fun q_ hq_ => ha436.2.2.1 q_ hq_) rfl rfl hm438 fun v439 w440 hC => ?_
    replace hC := own_re hC 0 ((r416 ++ [a2]).length) (cs418 ++ cs434) rfl (by simp) (by simp)
    have hs442 : ∀ b, b ∈ (f419 ++ ((Option.toList (Value.ownBlock (.slice (some ⟨b427, 0, none⟩) 1 1))) ++ fp2)) → w0.heap.size ≤ b ∨ b ∈ (fp0 ++ (fp2)) := (fun b hb => (List.mem_append.1 hb).elim (fun hb => have hb := hr423 b hb; .inr (List.mem_append_left _ hb)) (fun hb => hs431 b hb))
    replace hC := hC.joinP 3 0 rfl rfl (Ty.allItem TForm (r416 ++ [a2]) (cs418 ++ cs434) (f419 ++ ((Option.toList (Value.ownBlock (.slice (some ⟨b427, 0, none⟩) 1 1))) ++ fp2))) (fun a_ b_ => all_join a_ b_) (fun c_ hc_ => List.mem_append.1 hc_)
    have hf443 := own_fresh hC 0 rfl
    replace hC := hC.thaw 0 rfl (own 59 1 v439 ((r416 ++ [a2]).length) (cs418 ++ cs434)) id (fun _ hb_ => hb_)
    replace hC := hC.joinP 0 1 rfl rfl (Ty.item TForm.sl (r416 ++ [a2]) [v439] ((Option.toList (Value.ownBlock v439)) ++ (f419 ++ ((Option.toList (Value.ownBlock (.slice (some ⟨b427, 0, none⟩) 1 1))) ++ fp2)))) (fun a_ b_ => own_rep a_ b_) (fun c_ hc_ => List.mem_append.1 hc_)
    have hs446 : ∀ b, b ∈ ((Option.toList (Value.ownBlock v439)) ++ (f419 ++ ((Option.toList (Value.ownBlock (.slice (some ⟨b427, 0, none⟩) 1 1))) ++ fp2))) → w0.heap.size ≤ b ∨ b ∈ (fp0 ++ (fp2)) := (fun b hb => (List.mem_append.1 hb).elim (fun hb => .inl (hf443 b hb)) (fun hb => hs442 b hb))
    refine done ?_
    refine ak_introN (by decide) (l9 := (dbits 10 767)) (by kernel_rfl) ?_
    refine aO 8 rfl ?_
    obtain ⟨Ad447, c448, hv449⟩ := sl_len (hC.getP 0 rfl)
    refine s_len Try.underlying28 (tr rfl hv449) ?_
    refine done ?_
    refine ak_introN (by decide) (l9 := (dbits 10 1023)) (by kernel_rfl) ?_
    refine ae_tail 10 (by decide) (by decide) (by kernel_rfl) (by kernel_rfl) rfl ?_
    refine done ?_
    refine qn_norm ?_
    replace hC := hC.sM [0, 2, 3] (M' := [blk b39 30 [v36, .slice none 0 0], own 2 1 v36 ((r23 ++ [a1]).length) ((EI .i64).encs (r23 ++ [a1])), blk b12 30 [.slice none 0 0, .slice none 0 0]]) (by decide) rfl
    replace hC := hC.sP [0, 7, 8, 9, 10, 11, 12] (Ps' := [Ty.item TForm.sl (r416 ++ [a2]) [v439] ((Option.toList (Value.ownBlock v439)) ++ (f419 ++ ((Option.toList (Value.ownBlock (.slice (some ⟨b427, 0, none⟩) 1 1))) ++ fp2))), Ty.item ETerm.ty.sl a2.terms [u2_0] fp2, Ty.item TForm.sl a0.images [u0_1] fp0, Ty.item ((EI .i64).ty.sl) a0.degrees [u0_0] fp0, Ty.item TAlg a0 [u0_0, u0_1] fp0, Ty.item TForm a2 [u2_0] fp2, blk b0 30 [u0_0, u0_1]]) rfl
    exact ⟨rfl, _, rfl, ⟨r416, v439, f419, b427, (sk rfl (sk rfl (sk rfl (sk rfl (sk rfl (sk rfl sn)))))), hs446, hC, h⟩⟩
   ·skip
    refine s_loadA hC 4 [u2_0] rfl ag59 rfl rfl rfl ?_
    refine done ?_
    refine aK (Bel.refl _) (dbits 10 559) ?_
    refine ae_two 4 6 rfl rfl (by kernel_rfl) ?_ ?_
    ·skip
     refine s_call [u0_1] _ Try.func101 rfl rfl rfl (c_slices_Clone_impl_Form_impl_Form a0.images h _ (hC.getP 1 rfl)) (fun ret450 w452 hR451 => ?_)
     obtain ⟨r453, v454, cs455, f456, rfl, h, hr457, hr458, hr459, hr460, hB461⟩ := hR451
     refine ⟨_, rfl, ?_⟩
     replace hC := hC.push hB461 (own 59 1 v454 r453.length cs455) hr457 hr459
     replace hC := hC.pushP (Ty.allItem TForm r453 cs455 f456) hr458 (fun b_ hb_ m_ hm_ => hC.pd _ (List.mem_of_getElem? (i := 1) rfl) b_ (hr460 b_ hb_) m_ hm_)
     refine done ?_
     refine aK (by assumption) (dbits 10 575) ?_
     refine aO 6 rfl ?_
     refine s_bslice (sz := 1) hC [(0, .agg #[u2_0])] [u2_0] rfl (fun _ => bsr28_1_s u2_0 (rep_isSl (hC.getP 1 rfl)) _) rfl (by decide) fun b464 w465 hB_ hC => ?_
     have hf467 := own_fresh hC 0 rfl
     replace hC := hC.thaw 0 rfl (own 59 1 (.slice (some ⟨b464, 0, none⟩) 1 1) 1 [u2_0]) id (fun _ hb_ => hb_)
     replace hC := hC.joinP 0 2 rfl rfl (Ty.item TForm.sl [a2] [.slice (some ⟨b464, 0, none⟩) 1 1] ((Option.toList (Value.ownBlock (.slice (some ⟨b464, 0, none⟩) 1 1))) ++ fp2)) (fun a_ b_ => own_rep a_ (all_one (form_mk b_))) (fun c_ hc_ => List.mem_append.1 hc_)
     have hs468 : ∀ b, b ∈ ((Option.toList (Value.ownBlock (.slice (some ⟨b464, 0, none⟩) 1 1))) ++ fp2) → w0.heap.size ≤ b ∨ b ∈ (fp0 ++ (fp2)) := (fun b hb => (List.mem_append.1 hb).elim (fun hb => .inl (hf467 b hb)) (fun hb => .inr (List.mem_append_right _ hb)))
     refine done ?_
     refine aK (by assumption) (dbits 10 639) ?_
     refine aO 7 rfl ?_
     obtain ⟨cs471, hd472, ha473⟩ := sl_open (hC.getP 0 rfl)
     replace hC := hC.derive 0 rfl (Ty.allItem TForm [a2] cs471 ((Option.toList (Value.ownBlock (.slice (some ⟨b464, 0, none⟩) 1 1))) ++ fp2)) (fun _ => ha473) (fun _ h_ => h_)
     obtain ⟨hm475, h⟩ := h
     refine s_app hC 0 Try.underlying28 el59 rfl (by decide) (by decide) rfl hd472 (fun q_ hq_ => ha473.2.2.1 q_ hq_) rfl rfl hm475 fun v476 w477 hC => ?_
     replace hC := own_re hC 0 ((r453 ++ [a2]).length) (cs455 ++ cs471) rfl (by simp) (by simp)
     have hs479 : ∀ b, b ∈ (f456 ++ ((Option.toList (Value.ownBlock (.slice (some ⟨b464, 0, none⟩) 1 1))) ++ fp2)) → w0.heap.size ≤ b ∨ b ∈ (fp0 ++ (fp2)) := (fun b hb => (List.mem_append.1 hb).elim (fun hb => have hb := hr460 b hb; .inr (List.mem_append_left _ hb)) (fun hb => hs468 b hb))
     replace hC := hC.joinP 3 0 rfl rfl (Ty.allItem TForm (r453 ++ [a2]) (cs455 ++ cs471) (f456 ++ ((Option.toList (Value.ownBlock (.slice (some ⟨b464, 0, none⟩) 1 1))) ++ fp2))) (fun a_ b_ => all_join a_ b_) (fun c_ hc_ => List.mem_append.1 hc_)
     have hf480 := own_fresh hC 0 rfl
     replace hC := hC.thaw 0 rfl (own 59 1 v476 ((r453 ++ [a2]).length) (cs455 ++ cs471)) id (fun _ hb_ => hb_)
     replace hC := hC.joinP 0 1 rfl rfl (Ty.item TForm.sl (r453 ++ [a2]) [v476] ((Option.toList (Value.ownBlock v476)) ++ (f456 ++ ((Option.toList (Value.ownBlock (.slice (some ⟨b464, 0, none⟩) 1 1))) ++ fp2)))) (fun a_ b_ => own_rep a_ b_) (fun c_ hc_ => List.mem_append.1 hc_)
     have hs483 : ∀ b, b ∈ ((Option.toList (Value.ownBlock v476)) ++ (f456 ++ ((Option.toList (Value.ownBlock (.slice (some ⟨b464, 0, none⟩) 1 1))) ++ fp2))) → w0.heap.size ≤ b ∨ b ∈ (fp0 ++ (fp2)) := (fun b hb => (List.mem_append.1 hb).elim (fun hb => .inl (hf480 b hb)) (fun hb => hs479 b hb))
     refine done ?_
     refine ak_introN (by decide) (l9 := (dbits 10 767)) (by kernel_rfl) ?_
     refine aO 8 rfl ?_
     obtain ⟨Ad484, c485, hv486⟩ := sl_len (hC.getP 0 rfl)
     refine s_len Try.underlying28 (tr rfl hv486) ?_
     refine done ?_
     refine ak_introN (by decide) (l9 := (dbits 10 1023)) (by kernel_rfl) ?_
     refine ae_tail 10 (by decide) (by decide) (by kernel_rfl) (by kernel_rfl) rfl ?_
     refine done ?_
     refine qn_norm ?_
     replace hC := hC.sM [0, 2, 3] (M' := [blk b39 30 [v36, .slice none 0 0], own 2 1 v36 ((r23 ++ [a1]).length) ((EI .i64).encs (r23 ++ [a1])), blk b12 30 [.slice none 0 0, .slice none 0 0]]) (by decide) rfl
     replace hC := hC.sP [0, 7, 8, 9, 10, 11, 12] (Ps' := [Ty.item TForm.sl (r453 ++ [a2]) [v476] ((Option.toList (Value.ownBlock v476)) ++ (f456 ++ ((Option.toList (Value.ownBlock (.slice (some ⟨b464, 0, none⟩) 1 1))) ++ fp2))), Ty.item ETerm.ty.sl a2.terms [u2_0] fp2, Ty.item TForm.sl a0.images [u0_1] fp0, Ty.item ((EI .i64).ty.sl) a0.degrees [u0_0] fp0, Ty.item TAlg a0 [u0_0, u0_1] fp0, Ty.item TForm a2 [u2_0] fp2, blk b0 30 [u0_0, u0_1]]) rfl
     exact ⟨rfl, _, rfl, ⟨r453, v476, f456, b464, (sk rfl (sk rfl (sk rfl (sk rfl (sk rfl (sk rfl sn)))))), hs483, hC, h⟩⟩
    ·skip
     refine s_bslice (sz := 1) hC [(0, .agg #[u2_0])] [u2_0] rfl (fun _ => bsr28_1_s u2_0 (rep_isSl (hC.getP 0 rfl)) _) rfl (by decide) fun b487 w488 hB_ hC => ?_
     have hf490 := own_fresh hC 0 rfl
     replace hC := hC.thaw 0 rfl (own 59 1 (.slice (some ⟨b487, 0, none⟩) 1 1) 1 [u2_0]) id (fun _ hb_ => hb_)
     replace hC := hC.joinP 0 1 rfl rfl (Ty.item TForm.sl [a2] [.slice (some ⟨b487, 0, none⟩) 1 1] ((Option.toList (Value.ownBlock (.slice (some ⟨b487, 0, none⟩) 1 1))) ++ fp2)) (fun a_ b_ => own_rep a_ (all_one (form_mk b_))) (fun c_ hc_ => List.mem_append.1 hc_)
     have hs491 : ∀ b, b ∈ ((Option.toList (Value.ownBlock (.slice (some ⟨b487, 0, none⟩) 1 1))) ++ fp2) → w0.heap.size ≤ b ∨ b ∈ (fp0 ++ (fp2)) := (fun b hb => (List.mem_append.1 hb).elim (fun hb => .inl (hf490 b hb)) (fun hb => .inr (List.mem_append_right _ hb)))
     refine done ?_
     refine aK (by assumption) (dbits 10 623) ?_
     refine aO 4 rfl ?_
     refine s_call [u0_1] _ Try.func101 rfl rfl rfl (c_slices_Clone_impl_Form_impl_Form a0.images h _ (hC.getP 3 rfl)) (fun ret494 w496 hR495 => ?_)
     obtain ⟨r497, v498, cs499, f500, rfl, h, hr501, hr502, hr503, hr504, hB505⟩ := hR495
     refine ⟨_, rfl, ?_⟩
     replace hC := hC.push hB505 (own 59 1 v498 r497.length cs499) hr501 hr503
     replace hC := hC.pushP (Ty.allItem TForm r497 cs499 f500) hr502 (fun b_ hb_ m_ hm_ => hC.pd _ (List.mem_of_getElem? (i := 3) rfl) b_ (hr504 b_ hb_) m_ hm_)
     refine done ?_
     refine aK (by assumption) (dbits 10 639) ?_
     refine aO 7 rfl ?_
     obtain ⟨cs508, hd509, ha510⟩ := sl_open (hC.getP 1 rfl)
     replace hC := hC.derive 1 rfl (Ty.allItem TForm [a2] cs508 ((Option.toList (Value.ownBlock (.slice (some ⟨b487, 0, none⟩) 1 1))) ++ fp2)) (fun _ => ha510) (fun _ h_ => h_)
     obtain ⟨hm512, h⟩ := h
     refine s_app hC 0 Try.underlying28 el59 rfl (by decide) (by decide) rfl hd509 (fun q_ hq_ => ha510.2.2.1 q_ hq_) rfl rfl hm512 fun v513 w514 hC => ?_
     replace hC := own_re hC 0 ((r497 ++ [a2]).length) (cs499 ++ cs508) rfl (by simp) (by simp)
     have hs516 : ∀ b, b ∈ (f500 ++ ((Option.toList (Value.ownBlock (.slice (some ⟨b487, 0, none⟩) 1 1))) ++ fp2)) → w0.heap.size ≤ b ∨ b ∈ (fp0 ++ (fp2)) := (fun b hb => (List.mem_append.1 hb).elim (fun hb => have hb := hr504 b hb; .inr (List.mem_append_left _ hb)) (fun hb => hs491 b hb))
     replace hC := hC.joinP 1 0 rfl rfl (Ty.allItem TForm (r497 ++ [a2]) (cs499 ++ cs508) (f500 ++ ((Option.toList (Value.ownBlock (.slice (some ⟨b487, 0, none⟩) 1 1))) ++ fp2))) (fun a_ b_ => all_join a_ b_) (fun c_ hc_ => List.mem_append.1 hc_)
     have hf517 := own_fresh hC 0 rfl
     replace hC := hC.thaw 0 rfl (own 59 1 v513 ((r497 ++ [a2]).length) (cs499 ++ cs508)) id (fun _ hb_ => hb_)
     replace hC := hC.joinP 0 1 rfl rfl (Ty.item TForm.sl (r497 ++ [a2]) [v513] ((Option.toList (Value.ownBlock v513)) ++ (f500 ++ ((Option.toList (Value.ownBlock (.slice (some ⟨b487, 0, none⟩) 1 1))) ++ fp2)))) (fun a_ b_ => own_rep a_ b_) (fun c_ hc_ => List.mem_append.1 hc_)
     have hs520 : ∀ b, b ∈ ((Option.toList (Value.ownBlock v513)) ++ (f500 ++ ((Option.toList (Value.ownBlock (.slice (some ⟨b487, 0, none⟩) 1 1))) ++ fp2))) → w0.heap.size ≤ b ∨ b ∈ (fp0 ++ (fp2)) := (fun b hb => (List.mem_append.1 hb).elim (fun hb => .inl (hf517 b hb)) (fun hb => hs516 b hb))
     refine done ?_
     refine ak_introN (by decide) (l9 := (dbits 10 767)) (by kernel_rfl) ?_
     refine aO 8 rfl ?_
     obtain ⟨Ad521, c522, hv523⟩ := sl_len (hC.getP 0 rfl)
     refine s_len Try.underlying28 (tr rfl hv523) ?_
     refine done ?_
     refine ak_introN (by decide) (l9 := (dbits 10 1023)) (by kernel_rfl) ?_
     refine ae_tail 10 (by decide) (by decide) (by kernel_rfl) (by kernel_rfl) rfl ?_
     refine done ?_
     refine qn_norm ?_
     replace hC := hC.sM [0, 2, 3] (M' := [blk b39 30 [v36, .slice none 0 0], own 2 1 v36 ((r23 ++ [a1]).length) ((EI .i64).encs (r23 ++ [a1])), blk b12 30 [.slice none 0 0, .slice none 0 0]]) (by decide) rfl
     replace hC := hC.sP [0, 7, 8, 9, 10, 11, 12] (Ps' := [Ty.item TForm.sl (r497 ++ [a2]) [v513] ((Option.toList (Value.ownBlock v513)) ++ (f500 ++ ((Option.toList (Value.ownBlock (.slice (some ⟨b487, 0, none⟩) 1 1))) ++ fp2))), Ty.item ETerm.ty.sl a2.terms [u2_0] fp2, Ty.item TForm.sl a0.images [u0_1] fp0, Ty.item ((EI .i64).ty.sl) a0.degrees [u0_0] fp0, Ty.item TAlg a0 [u0_0, u0_1] fp0, Ty.item TForm a2 [u2_0] fp2, blk b0 30 [u0_0, u0_1]]) rfl
     exact ⟨rfl, _, rfl, ⟨r497, v513, f500, b487, (sk rfl (sk rfl (sk rfl (sk rfl (sk rfl (sk rfl sn)))))), hs520, hC, h⟩⟩
  ·skip
   refine s_loadA hC 4 [u2_0] rfl ag59 rfl rfl rfl ?_
   refine done ?_
   refine aK (Bel.refl _) (dbits 10 551) ?_
   refine ae_two 3 6 rfl rfl (by kernel_rfl) ?_ ?_
   ·skip
    refine s_loadSh (u0_1) (hC.getP 5 rfl) sc28 rfl rfl ?_
    refine done ?_
    refine aK (Bel.refl _) (dbits 10 559) ?_
    refine ae_two 4 6 rfl rfl (by kernel_rfl) ?_ ?_
    ·skip
     refine s_call [u0_1] _ Try.func101 rfl rfl rfl (c_slices_Clone_impl_Form_impl_Form a0.images h _ (hC.getP 1 rfl)) (fun ret524 w526 hR525 => ?_)
     obtain ⟨r527, v528, cs529, f530, rfl, h, hr531, hr532, hr533, hr534, hB535⟩ := hR525
     refine ⟨_, rfl, ?_⟩
     replace hC := hC.push hB535 (own 59 1 v528 r527.length cs529) hr531 hr533
     replace hC := hC.pushP (Ty.allItem TForm r527 cs529 f530) hr532 (fun b_ hb_ m_ hm_ => hC.pd _ (List.mem_of_getElem? (i := 1) rfl) b_ (hr534 b_ hb_) m_ hm_)
     refine done ?_
     refine aK (by assumption) (dbits 10 575) ?_
     refine aO 6 rfl ?_
     refine s_bslice (sz := 1) hC [(0, .agg #[u2_0])] [u2_0] rfl (fun _ => bsr28_1_s u2_0 (rep_isSl (hC.getP 1 rfl)) _) rfl (by decide) fun b538 w539 hB_ hC => ?_
     have hf541 := own_fresh hC 0 rfl
     replace hC := hC.thaw 0 rfl (own 59 1 (.slice (some ⟨b538, 0, none⟩) 1 1) 1 [u2_0]) id (fun _ hb_ => hb_)
     replace hC := hC.joinP 0 2 rfl rfl (Ty.item TForm.sl [a2] [.slice (some ⟨b538, 0, none⟩) 1 1] ((Option.toList (Value.ownBlock (.slice (some ⟨b538, 0, none⟩) 1 1))) ++ fp2)) (fun a_ b_ => own_rep a_ (all_one (form_mk b_))) (fun c_ hc_ => List.mem_append.1 hc_)
     have hs542 : ∀ b, b ∈ ((Option.toList (Value.ownBlock (.slice (some ⟨b538, 0, none⟩) 1 1))) ++ fp2) → w0.heap.size ≤ b ∨ b ∈ (fp0 ++ (fp2)) := (fun b hb => (List.mem_append.1 hb).elim (fun hb => .inl (hf541 b hb)) (fun hb => .inr (List.mem_append_right _ hb)))
     refine done ?_
     refine aK (by assumption) (dbits 10 639) ?_
     refine aO 7 rfl ?_
     obtain ⟨cs545, hd546, ha547⟩ := sl_open (hC.getP 0 rfl)
     replace hC := hC.derive 0 rfl (Ty.allItem TForm [a2] cs545 ((Option.toList (Value.ownBlock (.slice (some ⟨b538, 0, none⟩) 1 1))) ++ fp2)) (fun _ => ha547) (fun _ h_ => h_)
     obtain ⟨hm549, h⟩ := h
     refine s_app hC 0 Try.underlying28 el59 rfl (by decide) (by decide) rfl hd546 (fun q_ hq_ => ha547.2.2.1 q_ hq_) rfl rfl hm549 fun v550 w551 hC => ?_
     replace hC := own_re hC 0 ((r527 ++ [a2]).length) (cs529 ++ cs545) rfl (by simp) (by simp)
     have hs553 : ∀ b, b ∈ (f530 ++ ((Option.toList (Value.ownBlock (.slice (some ⟨b538, 0, none⟩) 1 1))) ++ fp2)) → w0.heap.size ≤ b ∨ b ∈ (fp0 ++ (fp2)) := (fun b hb => (List.mem_append.1 hb).elim (fun hb => have hb := hr534 b hb; .inr (List.mem_append_left _ hb)) (fun hb => hs542 b hb))
     replace hC := hC.joinP 3 0 rfl rfl (Ty.allItem TForm (r527 ++ [a2]) (cs529 ++ cs545) (f530 ++ ((Option.toList (Value.ownBlock (.slice (some ⟨b538, 0, none⟩) 1 1))) ++ fp2))) (fun a_ b_ => all_join a_ b_) (fun c_ hc_ => List.mem_append.1 hc_)
     have hf554 := own_fresh hC 0 rfl
     replace hC := hC.thaw 0 rfl (own 59 1 v550 ((r527 ++ [a2]).length) (cs529 ++ cs545)) id (fun _ hb_ => hb_)
     replace hC := hC.joinP 0 1 rfl rfl (Ty.item TForm.sl (r527 ++ [a2]) [v550] ((Option.toList (Value.ownBlock v550)) ++ (f530 ++ ((Option.toList (Value.ownBlock (.slice (some ⟨b538, 0, none⟩) 1 1))) ++ fp2)))) (fun a_ b_ => own_rep a_ b_) (fun c_ hc_ => List.mem_append.1 hc_)
     have hs557 : ∀ b, b ∈ ((Option.toList (Value.ownBlock v550)) ++ (f530 ++ ((Option.toList (Value.ownBlock (.slice (some ⟨b538, 0, none⟩) 1 1))) ++ fp2))) → w0.heap.size ≤ b ∨ b ∈ (fp0 ++ (fp2)) := (fun b hb => (List.mem_append.1 hb).elim (fun hb => .inl (hf554 b hb)) (fun hb => hs553 b hb))
     refine done ?_
     refine ak_introN (by decide) (l9 := (dbits 10 767)) (by kernel_rfl) ?_
     refine aO 8 rfl ?_
     obtain ⟨Ad558, c559, hv560⟩ := sl_len (hC.getP 0 rfl)
     refine s_len Try.underlying28 (tr rfl hv560) ?_
     refine done ?_
     refine ak_introN (by decide) (l9 := (dbits 10 1023)) (by kernel_rfl) ?_
     refine ae_tail 10 (by decide) (by decide) (by kernel_rfl) (by kernel_rfl) rfl ?_
     refine done ?_
     refine qn_norm ?_
     replace hC := hC.sM [0, 2, 3] (M' := [blk b39 30 [v36, .slice none 0 0], own 2 1 v36 ((r23 ++ [a1]).length) ((EI .i64).encs (r23 ++ [a1])), blk b12 30 [.slice none 0 0, .slice none 0 0]]) (by decide) rfl
     replace hC := hC.sP [0, 7, 8, 9, 10, 11, 12] (Ps' := [Ty.item TForm.sl (r527 ++ [a2]) [v550] ((Option.toList (Value.ownBlock v550)) ++ (f530 ++ ((Option.toList (Value.ownBlock (.slice (some ⟨b538, 0, none⟩) 1 1))) ++ fp2))), Ty.item ETerm.ty.sl a2.terms [u2_0] fp2, Ty.item TForm.sl a0.images [u0_1] fp0, Ty.item ((EI .i64).ty.sl) a0.degrees [u0_0] fp0, Ty.item TAlg a0 [u0_0, u0_1] fp0, Ty.item TForm a2 [u2_0] fp2, blk b0 30 [u0_0, u0_1]]) rfl
     exact ⟨rfl, _, rfl, ⟨r527, v550, f530, b538, (sk rfl (sk rfl (sk rfl (sk rfl (sk rfl (sk rfl sn)))))), hs557, hC, h⟩⟩
    ·skip
     refine s_bslice (sz := 1) hC [(0, .agg #[u2_0])] [u2_0] rfl (fun _ => bsr28_1_s u2_0 (rep_isSl (hC.getP 0 rfl)) _) rfl (by decide) fun b561 w562 hB_ hC => ?_
     have hf564 := own_fresh hC 0 rfl
     replace hC := hC.thaw 0 rfl (own 59 1 (.slice (some ⟨b561, 0, none⟩) 1 1) 1 [u2_0]) id (fun _ hb_ => hb_)
     replace hC := hC.joinP 0 1 rfl rfl (Ty.item TForm.sl [a2] [.slice (some ⟨b561, 0, none⟩) 1 1] ((Option.toList (Value.ownBlock (.slice (some ⟨b561, 0, none⟩) 1 1))) ++ fp2)) (fun a_ b_ => own_rep a_ (all_one (form_mk b_))) (fun c_ hc_ => List.mem_append.1 hc_)
     have hs565 : ∀ b, b ∈ ((Option.toList (Value.ownBlock (.slice (some ⟨b561, 0, none⟩) 1 1))) ++ fp2) → w0.heap.size ≤ b ∨ b ∈ (fp0 ++ (fp2)) := (fun b hb => (List.mem_append.1 hb).elim (fun hb => .inl (hf564 b hb)) (fun hb => .inr (List.mem_append_right _ hb)))
     refine done ?_
     refine aK (by assumption) (dbits 10 623) ?_
     refine aO 4 rfl ?_
     refine s_call [u0_1] _ Try.func101 rfl rfl rfl (c_slices_Clone_impl_Form_impl_Form a0.images h _ (hC.getP 3 rfl)) (fun ret568 w570 hR569 => ?_)
     obtain ⟨r571, v572, cs573, f574, rfl, h, hr575, hr576, hr577, hr578, hB579⟩ := hR569
     refine ⟨_, rfl, ?_⟩
     replace hC := hC.push hB579 (own 59 1 v572 r571.length cs573) hr575 hr577
     replace hC := hC.pushP (Ty.allItem TForm r571 cs573 f574) hr576 (fun b_ hb_ m_ hm_ => hC.pd _ (List.mem_of_getElem? (i := 3) rfl) b_ (hr578 b_ hb_) m_ hm_)
     refine done ?_
     refine aK (by assumption) (dbits 10 639) ?_
     refine aO 7 rfl ?_
     obtain ⟨cs582, hd583, ha584⟩ := sl_open (hC.getP 1 rfl)
     replace hC := hC.derive 1 rfl (Ty.allItem TForm [a2] cs582 ((Option.toList (Value.ownBlock (.slice (some ⟨b561, 0, none⟩) 1 1))) ++ fp2)) (fun _ => ha584) (fun _ h_ => h_)
     obtain ⟨hm586, h⟩ := h
     refine s_app hC 0 Try.underlying28 el59 rfl (by decide) (by decide) rfl hd583 (fun q_ hq_ => ha584.2.2.1 q_ hq_) rfl rfl hm586 fun v587 w588 hC => ?_
     replace hC := own_re hC 0 ((r571 ++ [a2]).length) (cs573 ++ cs582) rfl (by simp) (by simp)
     have hs590 : ∀ b, b ∈ (f574 ++ ((Option.toList (Value.ownBlock (.slice (some ⟨b561, 0, none⟩) 1 1))) ++ fp2)) → w0.heap.size ≤ b ∨ b ∈ (fp0 ++ (fp2)) := (fun b hb => (List.mem_append.1 hb).elim (fun hb => have hb := hr578 b hb; .inr (List.mem_append_left _ hb)) (fun hb => hs565 b hb))
     replace hC := hC.joinP 1 0 rfl rfl (Ty.allItem TForm (r571 ++ [a2]) (cs573 ++ cs582) (f574 ++ ((Option.toList (Value.ownBlock (.slice (some ⟨b561, 0, none⟩) 1 1))) ++ fp2))) (fun a_ b_ => all_join a_ b_) (fun c_ hc_ => List.mem_append.1 hc_)
     have hf591 := own_fresh hC 0 rfl
     replace hC := hC.thaw 0 rfl (own 59 1 v587 ((r571 ++ [a2]).length) (cs573 ++ cs582)) id (fun _ hb_ => hb_)
     replace hC := hC.joinP 0 1 rfl rfl (Ty.item TForm.sl (r571 ++ [a2]) [v587] ((Option.toList (Value.ownBlock v587)) ++ (f574 ++ ((Option.toList (Value.ownBlock (.slice (some ⟨b561, 0, none⟩) 1 1))) ++ fp2)))) (fun a_ b_ => own_rep a_ b_) (fun c_ hc_ => List.mem_append.1 hc_)
     have hs594 : ∀ b, b ∈ ((Option.toList (Value.ownBlock v587)) ++ (f574 ++ ((Option.toList (Value.ownBlock (.slice (some ⟨b561, 0, none⟩) 1 1))) ++ fp2))) → w0.heap.size ≤ b ∨ b ∈ (fp0 ++ (fp2)) := (fun b hb => (List.mem_append.1 hb).elim (fun hb => .inl (hf591 b hb)) (fun hb => hs590 b hb))
     refine done ?_
     refine ak_introN (by decide) (l9 := (dbits 10 767)) (by kernel_rfl) ?_
     refine aO 8 rfl ?_
     obtain ⟨Ad595, c596, hv597⟩ := sl_len (hC.getP 0 rfl)
     refine s_len Try.underlying28 (tr rfl hv597) ?_
     refine done ?_
     refine ak_introN (by decide) (l9 := (dbits 10 1023)) (by kernel_rfl) ?_
     refine ae_tail 10 (by decide) (by decide) (by kernel_rfl) (by kernel_rfl) rfl ?_
     refine done ?_
     refine qn_norm ?_
     replace hC := hC.sM [0, 2, 3] (M' := [blk b39 30 [v36, .slice none 0 0], own 2 1 v36 ((r23 ++ [a1]).length) ((EI .i64).encs (r23 ++ [a1])), blk b12 30 [.slice none 0 0, .slice none 0 0]]) (by decide) rfl
     replace hC := hC.sP [0, 7, 8, 9, 10, 11, 12] (Ps' := [Ty.item TForm.sl (r571 ++ [a2]) [v587] ((Option.toList (Value.ownBlock v587)) ++ (f574 ++ ((Option.toList (Value.ownBlock (.slice (some ⟨b561, 0, none⟩) 1 1))) ++ fp2))), Ty.item ETerm.ty.sl a2.terms [u2_0] fp2, Ty.item TForm.sl a0.images [u0_1] fp0, Ty.item ((EI .i64).ty.sl) a0.degrees [u0_0] fp0, Ty.item TAlg a0 [u0_0, u0_1] fp0, Ty.item TForm a2 [u2_0] fp2, blk b0 30 [u0_0, u0_1]]) rfl
     exact ⟨rfl, _, rfl, ⟨r571, v587, f574, b561, (sk rfl (sk rfl (sk rfl (sk rfl (sk rfl (sk rfl sn)))))), hs594, hC, h⟩⟩
   ·skip
    refine s_bslice (sz := 1) hC [(0, .agg #[u2_0])] [u2_0] rfl (fun _ => bsr28_1_s u2_0 (rep_isSl (hC.getP 0 rfl)) _) rfl (by decide) fun b598 w599 hB_ hC => ?_
    have hf601 := own_fresh hC 0 rfl
    replace hC := hC.thaw 0 rfl (own 59 1 (.slice (some ⟨b598, 0, none⟩) 1 1) 1 [u2_0]) id (fun _ hb_ => hb_)
    replace hC := hC.joinP 0 1 rfl rfl (Ty.item TForm.sl [a2] [.slice (some ⟨b598, 0, none⟩) 1 1] ((Option.toList (Value.ownBlock (.slice (some ⟨b598, 0, none⟩) 1 1))) ++ fp2)) (fun a_ b_ => own_rep a_ (all_one (form_mk b_))) (fun c_ hc_ => List.mem_append.1 hc_)
    have hs602 : ∀ b, b ∈ ((Option.toList (Value.ownBlock (.slice (some ⟨b598, 0, none⟩) 1 1))) ++ fp2) → w0.heap.size ≤ b ∨ b ∈ (fp0 ++ (fp2)) := (fun b hb => (List.mem_append.1 hb).elim (fun hb => .inl (hf601 b hb)) (fun hb => .inr (List.mem_append_right _ hb)))
    refine done ?_
    refine aK (by assumption) (dbits 10 615) ?_
    refine aO 3 rfl ?_
    refine s_loadSh (u0_1) (hC.getP 7 rfl) sc28 rfl rfl ?_
    refine done ?_
    refine aK (Bel.refl _) (dbits 10 623) ?_
    refine aO 4 rfl ?_
    refine s_call [u0_1] _ Try.func101 rfl rfl rfl (c_slices_Clone_impl_Form_impl_Form a0.images h _ (hC.getP 3 rfl)) (fun ret605 w607 hR606 => ?_)
    obtain ⟨r608, v609, cs610, f611, rfl, h, hr612, hr613, hr614, hr615, hB616⟩ := hR606
    refine ⟨_, rfl, ?_⟩
    replace hC := hC.push hB616 (own 59 1 v609 r608.length cs610) hr612 hr614
    replace hC := hC.pushP (Ty.allItem TForm r608 cs610 f611) hr613 (fun b_ hb_ m_ hm_ => hC.pd _ (List.mem_of_getElem? (i := 3) rfl) b_ (hr615 b_ hb_) m_ hm_)
    refine done ?_
    refine aK (by assumption) (dbits 10 639) ?_
    refine aO 7 rfl ?_
    obtain ⟨cs619, hd620, ha621⟩ := sl_open (hC.getP 1 rfl)
    replace hC := hC.derive 1 rfl (Ty.allItem TForm [a2] cs619 ((Option.toList (Value.ownBlock (.slice (some ⟨b598, 0, none⟩) 1 1))) ++ fp2)) (fun _ => ha621) (fun _ h_ => h_)
    obtain ⟨hm623, h⟩ := h
    refine s_app hC 0 Try.underlying28 el59 rfl (by decide) (by decide) rfl hd620 (fun q_ hq_ => ha621.2.2.1 q_ hq_) rfl rfl hm623 fun v624 w625 hC => ?_
    replace hC := own_re hC 0 ((r608 ++ [a2]).length) (cs610 ++ cs619) rfl (by simp) (by simp)
    have hs627 : ∀ b, b ∈ (f611 ++ ((Option.toList (Value.ownBlock (.slice (some ⟨b598, 0, none⟩) 1 1))) ++ fp2)) → w0.heap.size ≤ b ∨ b ∈ (fp0 ++ (fp2)) := (fun b hb => (List.mem_append.1 hb).elim (fun hb => have hb := hr615 b hb; .inr (List.mem_append_left _ hb)) (fun hb => hs602 b hb))
    replace hC := hC.joinP 1 0 rfl rfl (Ty.allItem TForm (r608 ++ [a2]) (cs610 ++ cs619) (f611 ++ ((Option.toList (Value.ownBlock (.slice (some ⟨b598, 0, none⟩) 1 1))) ++ fp2))) (fun a_ b_ => all_join a_ b_) (fun c_ hc_ => List.mem_append.1 hc_)
    have hf628 := own_fresh hC 0 rfl
    replace hC := hC.thaw 0 rfl (own 59 1 v624 ((r608 ++ [a2]).length) (cs610 ++ cs619)) id (fun _ hb_ => hb_)
    replace hC := hC.joinP 0 1 rfl rfl (Ty.item TForm.sl (r608 ++ [a2]) [v624] ((Option.toList (Value.ownBlock v624)) ++ (f611 ++ ((Option.toList (Value.ownBlock (.slice (some ⟨b598, 0, none⟩) 1 1))) ++ fp2)))) (fun a_ b_ => own_rep a_ b_) (fun c_ hc_ => List.mem_append.1 hc_)
    have hs631 : ∀ b, b ∈ ((Option.toList (Value.ownBlock v624)) ++ (f611 ++ ((Option.toList (Value.ownBlock (.slice (some ⟨b598, 0, none⟩) 1 1))) ++ fp2))) → w0.heap.size ≤ b ∨ b ∈ (fp0 ++ (fp2)) := (fun b hb => (List.mem_append.1 hb).elim (fun hb => .inl (hf628 b hb)) (fun hb => hs627 b hb))
    refine done ?_
    refine ak_introN (by decide) (l9 := (dbits 10 767)) (by kernel_rfl) ?_
    refine aO 8 rfl ?_
    obtain ⟨Ad632, c633, hv634⟩ := sl_len (hC.getP 0 rfl)
    refine s_len Try.underlying28 (tr rfl hv634) ?_
    refine done ?_
    refine ak_introN (by decide) (l9 := (dbits 10 1023)) (by kernel_rfl) ?_
    refine ae_tail 10 (by decide) (by decide) (by kernel_rfl) (by kernel_rfl) rfl ?_
    refine done ?_
    refine qn_norm ?_
    replace hC := hC.sM [0, 2, 3] (M' := [blk b39 30 [v36, .slice none 0 0], own 2 1 v36 ((r23 ++ [a1]).length) ((EI .i64).encs (r23 ++ [a1])), blk b12 30 [.slice none 0 0, .slice none 0 0]]) (by decide) rfl
    replace hC := hC.sP [0, 7, 8, 9, 10, 11, 12] (Ps' := [Ty.item TForm.sl (r608 ++ [a2]) [v624] ((Option.toList (Value.ownBlock v624)) ++ (f611 ++ ((Option.toList (Value.ownBlock (.slice (some ⟨b598, 0, none⟩) 1 1))) ++ fp2))), Ty.item ETerm.ty.sl a2.terms [u2_0] fp2, Ty.item TForm.sl a0.images [u0_1] fp0, Ty.item ((EI .i64).ty.sl) a0.degrees [u0_0] fp0, Ty.item TAlg a0 [u0_0, u0_1] fp0, Ty.item TForm a2 [u2_0] fp2, blk b0 30 [u0_0, u0_1]]) rfl
    exact ⟨rfl, _, rfl, ⟨r608, v624, f611, b598, (sk rfl (sk rfl (sk rfl (sk rfl (sk rfl (sk rfl sn)))))), hs631, hC, h⟩⟩
def f_impl_WithGenerator (a0 : Alg) (a1 : Int) (a2 : Vc.Form) (K : Alg → Int → Prop) : Prop :=
 f_impl_algebraCode a0 [a2] (fun r27 => f_impl_within a1 1 12 (fun r32 => f_impl_when (!r32) 2 (fun r37 => f_impl_first [r27, r37] (fun r45 => joinP (fun (jn60 : Bool → Prop) => (if r45 = 0 then f_impl_isOfDegree a0.degrees a2 (IntKind.i64.wrap (a1 + 1)) (fun r66 => (if ¬ (r66 = true) then jn60 true else f_impl_Algebra_isClosed a0 a2 (fun r72 => jn60 (!r72)))) else jn60 false)) (fun (x59 : Bool) => (if x59 = true then (if 5 ≠ 0 then K (⟨[], []⟩ : Alg) 5 else f_impl_Algebra_withGenerator a0 a1 a2 (fun r81 r87 => K r81 r87)) else (if r45 ≠ 0 then K (⟨[], []⟩ : Alg) r45 else f_impl_Algebra_withGenerator a0 a1 a2 (fun r104 r110 => K r104 r110))))))))
theorem c_impl_WithGenerator (a0 : Alg) (a1 : Int) (a2 : Vc.Form) {u0_0 : Value} {u0_1 : Value} {u2_0 : Value} {fp0 : List Nat} {fp2 : List Nat} {K : Alg → Int → Prop} (h : f_impl_WithGenerator a0 a1 a2 K) (w0 : World) (q0 : TAlg.rep a0 [u0_0, u0_1] fp0 w0) (q2 : TForm.rep a2 [u2_0] fp2 w0) :
  Calls Try.prog 37 #[.agg #[u0_0, u0_1], .int .i64 a1, .agg #[u2_0]] w0 fun e w' => ∃ (r0 : Alg) (z0_0 : Value) (z0_1 : Value) (fz0 : List Nat) (r1 : Int), 
   e = .returned (.tuple #[.agg #[z0_0, z0_1], .int .i64 r1]) ∧ K r0 r1 ∧ (Tr.item (TrAlg 2 76 59) r0 [z0_0, z0_1] fz0).holds w' ∧ (∀ b, b ∈ fz0 → w0.heap.size ≤ b) ∧ Bel w0 w' := by
 unfold f_impl_WithGenerator at h
 refine calls_of (args := [.agg #[u0_0, u0_1], .int .i64 a1, .agg #[u2_0]]) Try.func37 rfl 43 Try.ntmps37 (Nat.le_of_ble_eq_true rfl) ?_
 have hC := Ctx.start (X := Nox) w0 [Ty.item TAlg a0 [u0_0, u0_1] fp0, Ty.item TForm a2 [u2_0] fp2] (by simp only [List.mem_cons, List.not_mem_nil, or_false, forall_eq_or_imp, forall_eq]; exact ⟨q0, q2⟩)
 have hp3 := (hC.getP 0 rfl)
 replace hC := hC.derive 0 rfl (Ty.item ((EI .i64).ty.sl) a0.degrees [u0_0] fp0) (fun _ => (alg_parts hp3).1) (fun _ hb_ => hb_)
 replace hC := hC.derive 1 rfl (Ty.item TForm.sl a0.images [u0_1] fp0) (fun _ => (alg_parts hp3).2) (fun _ hb_ => hb_)
 have hp6 := (hC.getP 3 rfl)
 replace hC := hC.derive 3 rfl (Ty.item ETerm.ty.sl a2.terms [u2_0] fp2) (fun _ => (form_parts hp6)) (fun _ hb_ => hb_)
 refine sr ?_
 refine s_box (v := .agg #[u0_0, u0_1]) hC [u0_0, u0_1] rfl rfl fun b8 w10 hB_ hC => ?_
 refine s_box (v := .agg #[u2_0]) hC [u2_0] rfl rfl fun b11 w13 hB_ hC => ?_
 refine s_alloc hC [.slice none 0 0, .slice none 0 0] z30 rfl fun b14 w16 hB_ hC => ?_
 refine s_as (v := .int .i64 0) rfl ?_
 refine dn ?_
 refine sr ?_
 refine s_loadA hC 1 [u2_0] rfl ag59 rfl rfl rfl ?_
 refine s_bslice (sz := 1) hC [(0, .agg #[u2_0])] [u2_0] rfl (fun _ => bsr28_1_s u2_0 (rep_isSl (hC.getP 0 rfl)) _) rfl (by decide) fun b17 w18 hB_ hC => ?_
 have hf20 := own_fresh hC 0 rfl
 replace hC := hC.thaw 0 rfl (own 59 1 (.slice (some ⟨b17, 0, none⟩) 1 1) 1 [u2_0]) id (fun _ hb_ => hb_)
 replace hC := hC.joinP 0 1 rfl rfl (Ty.item TForm.sl [a2] [.slice (some ⟨b17, 0, none⟩) 1 1] ((Option.toList (Value.ownBlock (.slice (some ⟨b17, 0, none⟩) 1 1))) ++ fp2)) (fun a_ b_ => own_rep a_ (all_one (form_mk b_))) (fun c_ hc_ => List.mem_append.1 hc_)
 have hs21 : ∀ b, b ∈ ((Option.toList (Value.ownBlock (.slice (some ⟨b17, 0, none⟩) 1 1))) ++ fp2) → w0.heap.size ≤ b ∨ b ∈ (fp0 ++ (fp2)) := (fun b hb => (List.mem_append.1 hb).elim (fun hb => .inl (hf20 b hb)) (fun hb => .inr (List.mem_append_right _ hb)))
 refine s_call [.pointer (some ⟨b8, 0, none⟩), .slice (some ⟨b17, 0, none⟩) 1 1] _ Try.func34 rfl rfl rfl (c_impl_algebraCode a0 [a2] h _ (alg_mk (hC.getP 4 rfl) (hC.getP 3 rfl)) (hC.getM 2 rfl) (hC.getP 0 rfl)) (fun ret24 w26 hR25 => ?_)
 obtain ⟨r27, rfl, h, hB28⟩ := hR25
 refine ⟨_, rfl, ?_⟩
 replace hC := hC.grow hB28
 refine s_mv (v := .int .i64 a1) rfl ?_
 refine s_call [.int .i64 a1, .int .i64 1, .int .i64 12] _ Try.func68 rfl rfl rfl (c_impl_within a1 1 12 h _) (fun ret29 w31 hR30 => ?_)
 obtain ⟨r32, rfl, h, hB33⟩ := hR30
 refine ⟨_, rfl, ?_⟩
 replace hC := hC.grow hB33
 refine s_not rfl ?_
 refine s_call [.bool (!r32), .int .i64 2] _ Try.func35 rfl rfl rfl (c_impl_when (!r32) 2 h _) (fun ret34 w36 hR35 => ?_)
 obtain ⟨r37, rfl, h, hB38⟩ := hR35
 refine ⟨_, rfl, ?_⟩
 replace hC := hC.grow hB38
 refine s_bslice (sz := 1) hC [(0, .int .i64 r27), (1, .int .i64 r37)] ((EI .i64).encs [r27, r37]) rfl (fun _ => bs22_2 r27 r37 _) rfl (by decide) fun b39 w40 hB_ hC => ?_
 refine s_call [.slice (some ⟨b39, 0, none⟩) 2 2] _ Try.func33 rfl rfl rfl (c_impl_first [r27, r37] h _ (own_repE (hC.getM 0 rfl))) (fun ret42 w44 hR43 => ?_)
 obtain ⟨r45, rfl, h, hB46⟩ := hR43
 refine ⟨_, rfl, ?_⟩
 replace hC := hC.grow hB46
 refine s_as (v := .int .i64 r45) rfl ?_
 refine dn ?_
 refine wp_seq ?_
 refine wp_seq ?_
 obtain ⟨jn60, hj61, h⟩ := joinP_elim h
 refine reg_join (fun e_ w_ => ∃ (x59 : Bool), Slots e_ [(1, .int .i64 a1), (3, .pointer (some ⟨b8, 0, none⟩)), (5, .pointer (some ⟨b11, 0, none⟩)), (6, .pointer (some ⟨b14, 0, none⟩)), (7, .int .i64 0), (8, .int .i64 r45), (33, .bool x59)] ∧ Ctx Nox w0 w_ [own 2 1 (.slice (some ⟨b39, 0, none⟩) 2 2) ([r27, r37].length) ((EI .i64).encs [r27, r37]), blk b14 30 [.slice none 0 0, .slice none 0 0], blk b11 59 [u2_0], blk b8 30 [u0_0, u0_1]] [Ty.item TForm.sl [a2] [.slice (some ⟨b17, 0, none⟩) 1 1] ((Option.toList (Value.ownBlock (.slice (some ⟨b17, 0, none⟩) 1 1))) ++ fp2), own 59 1 (.slice (some ⟨b17, 0, none⟩) 1 1) 1 [u2_0], Ty.item ETerm.ty.sl a2.terms [u2_0] fp2, Ty.item TForm.sl a0.images [u0_1] fp0, Ty.item ((EI .i64).ty.sl) a0.degrees [u0_0] fp0, Ty.item TAlg a0 [u0_0, u0_1] fp0, Ty.item TForm a2 [u2_0] fp2] ∧ jn60 x59) ?_ ?_
 ·skip
  refine cw_region ?_
  refine s_mv (v := .int .i64 r45) rfl ?_
  refine s_eql rfl rfl ?_
  refine s_mv (v := .bool (decide (r45 = 0))) rfl ?_
  refine bsplit (decide (r45 = 0)) (fun hb62 => ?_) (fun hb62 => ?_)
  ·replace h := ift h (ct hb62)
   refine guardOn 2 20 rfl rfl hb62 ?_
   refine s_faddrB 0 Try.underlying30 rfl sc22.size rfl rfl ?_
   refine guardOn 2 20 rfl rfl hb62 ?_
   refine s_loadS hC 3 (u0_0) rfl sc22 rfl rfl ?_
   refine guardOn 2 20 rfl rfl hb62 ?_
   refine s_loadA hC 2 [u2_0] rfl ag59 rfl rfl rfl ?_
   refine guardOn 2 20 rfl rfl hb62 ?_
   refine s_mv (v := .int .i64 a1) rfl ?_
   refine guardOn 2 20 rfl rfl hb62 ?_
   refine s_add rfl rfl ?_
   refine guardOn 2 20 rfl rfl hb62 ?_
   refine s_call [u0_0, .agg #[u2_0], .int .i64 (IntKind.i64.wrap (a1 + 1))] _ Try.func69 rfl rfl rfl (c_impl_isOfDegree a0.degrees a2 (IntKind.i64.wrap (a1 + 1)) h _ (hC.getP 4 rfl) (form_mk (hC.getP 2 rfl))) (fun ret63 w65 hR64 => ?_)
   obtain ⟨r66, rfl, h, hB67⟩ := hR64
   refine ⟨_, rfl, ?_⟩
   replace hC := hC.grow hB67
   refine guardOn 2 20 rfl rfl hb62 ?_
   refine s_not rfl ?_
   refine guardOn 2 20 rfl rfl hb62 ?_
   refine s_mv (v := .bool (!r66)) rfl ?_
   refine bsplit (!r66) (fun hb68 => ?_) (fun hb68 => ?_)
   ·replace h := ift h (ne_t (not_t hb68))
    refine guardOff (b := true) 10 28 rfl (tr rfl (congrArg _ hb68)) (by decide) ?_
    refine guardOff (b := true) 10 28 rfl (tr rfl (congrArg _ hb68)) (by decide) ?_
    refine guardOff (b := true) 10 28 rfl (tr rfl (congrArg _ hb68)) (by decide) ?_
    refine guardOn 2 20 rfl rfl hb62 ?_
    refine s_pick (v := .bool true) (b := true) (tr rfl (congrArg _ hb68)) rfl ?_
    refine s_pick (v := .bool true) (b := true) (tr rfl (congrArg _ hb62)) rfl ?_
    refine done ?_
    exact ⟨rfl, _, rfl, true, (sk rfl (sk rfl (sk rfl (sk rfl (sk rfl (sk rfl (sk rfl sn))))))), hC, h⟩
   ·replace h := iff_ h (not_not_intro ((not_f hb68)))
    refine guardOn 10 28 rfl rfl hb68 ?_
    refine s_loadA hC 2 [u2_0] rfl ag59 rfl rfl rfl ?_
    refine guardOn 10 28 rfl rfl hb68 ?_
    refine s_call [.pointer (some ⟨b8, 0, none⟩), .agg #[u2_0]] _ Try.func70 rfl rfl rfl (c_impl_Algebra_isClosed a0 a2 h _ (alg_mk (hC.getP 4 rfl) (hC.getP 3 rfl)) (hC.getM 3 rfl) (form_mk (hC.getP 2 rfl))) (fun ret69 w71 hR70 => ?_)
    obtain ⟨r72, rfl, h, hB73⟩ := hR70
    refine ⟨_, rfl, ?_⟩
    replace hC := hC.grow hB73
    refine guardOn 10 28 rfl rfl hb68 ?_
    refine s_not rfl ?_
    refine guardOn 2 20 rfl rfl hb62 ?_
    refine s_pick (v := .bool (!r72)) (b := false) (tr rfl (congrArg _ hb68)) rfl ?_
    refine s_pick (v := .bool (!r72)) (b := true) (tr rfl (congrArg _ hb62)) rfl ?_
    refine done ?_
    exact ⟨rfl, _, rfl, !r72, (sk rfl (sk rfl (sk rfl (sk rfl (sk rfl (sk rfl (sk rfl sn))))))), hC, h⟩
  ·replace h := iff_ h (cf hb62)
   refine guardOff (b := false) 2 20 rfl (tr rfl (congrArg _ hb62)) (by decide) ?_
   refine guardOff (b := false) 2 20 rfl (tr rfl (congrArg _ hb62)) (by decide) ?_
   refine guardOff (b := false) 2 20 rfl (tr rfl (congrArg _ hb62)) (by decide) ?_
   refine guardOff (b := false) 2 20 rfl (tr rfl (congrArg _ hb62)) (by decide) ?_
   refine guardOff (b := false) 2 20 rfl (tr rfl (congrArg _ hb62)) (by decide) ?_
   refine guardOff (b := false) 2 20 rfl (tr rfl (congrArg _ hb62)) (by decide) ?_
   refine guardOff (b := false) 2 20 rfl (tr rfl (congrArg _ hb62)) (by decide) ?_
   refine guardOff (b := false) 2 20 rfl (tr rfl (congrArg _ hb62)) (by decide) ?_
   refine guardOffU 10 28 rfl rfl ?_
   refine guardOffU 10 28 rfl rfl ?_
   refine guardOffU 10 28 rfl rfl ?_
   refine guardOff (b := false) 2 20 rfl (tr rfl (congrArg _ hb62)) (by decide) ?_
   refine s_pick (v := .bool false) (b := false) (tr rfl (congrArg _ hb62)) rfl ?_
   refine done ?_
   exact ⟨rfl, _, rfl, false, (sk rfl (sk rfl (sk rfl (sk rfl (sk rfl (sk rfl (sk rfl sn))))))), hC, h⟩
 ·clear hC h
  rintro e_ w74 ⟨x59, hS_, hC, h⟩
  replace h := hj61 _ h
  refine then_norm ?_
  refine cw_cond (sx hS_ 6 rfl) (fun hb75 => ?_) (fun hb75 => ?_)
  ·replace h := ift h (hb75)
   refine cw_region ?_
   refine s_as (v := .int .i64 5) rfl ?_
   refine dn ?_
   refine wp_seq ?_
   refine sr ?_
   refine s_mv (v := .int .i64 5) rfl ?_
   refine s_neq rfl rfl ?_
   refine dn ?_
   refine cw_cond rfl (fun hb76 => ?_) (fun hb76 => ?_)
   ·replace h := ift h (ct hb76)
    refine sr ?_
    refine s_build [] rfl (bl30   _) ?_
    refine s_mv (v := .int .i64 5) rfl ?_
    refine s_store (v := .agg #[.slice none 0 0, .slice none 0 0]) hC 1 [.slice none 0 0, .slice none 0 0] [.slice none 0 0, .slice none 0 0] rfl ag30.size (sx hS_ 3 rfl) rfl rfl rfl rfl (Nat.le_of_ble_eq_true rfl) rfl fun w77 hC => ?_
    refine s_as (v := .int .i64 5) rfl ?_
    refine dn ?_
    refine wp_ret (then_ret ?_)
    refine ret2 (fn := Try.f37) rfl ?_ ?_ ⟨(⟨[], []⟩ : Alg), .slice none 0 0, .slice none 0 0, ([] ++ []), 5, rfl, h, (alg_join (nil_item _ _ _) (nil_item _ _ _) (fun x hx => absurd hx (by simp))), (fun b hb => (List.mem_append.1 hb).elim (fun hb => (fun b hb => absurd hb (by simp)) b hb) (fun hb => (fun b hb => absurd hb (by simp)) b hb)), hC.below⟩ (.inl rfl)
    ·exact res_cellA hC 1 rfl ag30 (sx hS_ 3 rfl) rfl
    ·exact res_tmp rfl
   ·replace h := iff_ h (cf hb76)
    refine wp_skip ?_
    refine then_norm ?_
    refine sr ?_
    refine s_mv (v := .int .i64 a1) (sx hS_ 0 rfl) ?_
    refine s_loadA hC 2 [u2_0] rfl ag59 (sx hS_ 2 rfl) rfl rfl ?_
    refine s_call [.pointer (some ⟨b8, 0, none⟩), .int .i64 a1, .agg #[u2_0]] _ Try.func71 rfl rfl (ev_cons (sx hS_ 1 rfl) (ev_cons rfl (ev_cons rfl rfl))) (c_impl_Algebra_withGenerator a0 a1 a2 h _ (alg_mk (hC.getP 4 rfl) (hC.getP 3 rfl)) (hC.getM 3 rfl) (form_mk (hC.getP 2 rfl))) (fun ret78 w80 hR79 => ?_)
    obtain ⟨r81, u82, u83, f84, r87, rfl, h, hr85, hf86, hB88⟩ := hR79
    refine ⟨_, rfl, ?_⟩
    replace hC := hC.push hB88 (Tr.item (TrAlg 2 76 59) r81 [u82, u83] f84) hr85 hf86
    obtain ⟨f90, ho91, ho92, hs93, hs94, hd95⟩ := alg_split (hC.getM 0 rfl)
    replace hC := hC.split (a := own 2 1 u82 r81.degrees.length ((EI .i64).encs r81.degrees)) (b := Tr.item (Tr.sl 59 (TrForm 76)) r81.images [u83] f90) hs93 hs94 ⟨ho91, ho92, hd95⟩
    refine s_ext (v := .agg #[u82, u83]) rfl rfl ?_
    refine s_ext (v := .int .i64 r87) rfl rfl ?_
    refine s_store (v := .agg #[u82, u83]) hC 3 [u82, u83] [u82, u83] rfl ag30.size (sx hS_ 3 rfl) rfl rfl rfl (all_c (own_oneC (hC.getM 0 rfl)) (all_c (rep_oneC (Tr.trep _ (hC.getM 1 rfl).1)) rfl)) (Nat.le_of_ble_eq_true rfl) rfl fun w98 hC => ?_
    refine s_as (v := .int .i64 r87) rfl ?_
    refine dn ?_
    refine wp_ret ?_
    refine ret2 (fn := Try.f37) rfl ?_ ?_ ⟨r81, u82, u83, ((Option.toList (Value.ownBlock u82)) ++ f90), r87, rfl, h, (alg_join (own_item (hC.getM 0 rfl)) (hC.getM 1 rfl) (fun x hx hx' => hC.mm 0 1 rfl rfl (by decide) x hx hx')), (fun b hb => (List.mem_append.1 hb).elim (fun hb => (own_fresh hC 0 rfl) b hb) (fun hb => (tr_fresh hC 1 rfl) b hb)), hC.below⟩ (.inl rfl)
    ·exact res_cellA hC 3 rfl ag30 (sx hS_ 3 rfl) rfl
    ·exact res_tmp rfl
  ·replace h := iff_ h (ne_t hb75)
   refine wp_skip ?_
   refine then_norm ?_
   refine wp_seq ?_
   refine sr ?_
   refine s_mv (v := .int .i64 r45) (sx hS_ 5 rfl) ?_
   refine s_neq rfl rfl ?_
   refine dn ?_
   refine cw_cond rfl (fun hb99 => ?_) (fun hb99 => ?_)
   ·replace h := ift h (ct hb99)
    refine sr ?_
    refine s_build [] rfl (bl30   _) ?_
    refine s_mv (v := .int .i64 r45) (sx hS_ 5 rfl) ?_
    refine s_store (v := .agg #[.slice none 0 0, .slice none 0 0]) hC 1 [.slice none 0 0, .slice none 0 0] [.slice none 0 0, .slice none 0 0] rfl ag30.size (sx hS_ 3 rfl) rfl rfl rfl rfl (Nat.le_of_ble_eq_true rfl) rfl fun w100 hC => ?_
    refine s_as (v := .int .i64 r45) rfl ?_
    refine dn ?_
    refine wp_ret (then_ret ?_)
    refine ret2 (fn := Try.f37) rfl ?_ ?_ ⟨(⟨[], []⟩ : Alg), .slice none 0 0, .slice none 0 0, ([] ++ []), r45, rfl, h, (alg_join (nil_item _ _ _) (nil_item _ _ _) (fun x hx => absurd hx (by simp))), (fun b hb => (List.mem_append.1 hb).elim (fun hb => (fun b hb => absurd hb (by simp)) b hb) (fun hb => (fun b hb => absurd hb (by simp)) b hb)), hC.below⟩ (.inl rfl)
    ·exact res_cellA hC 1 rfl ag30 (sx hS_ 3 rfl) rfl
    ·exact res_tmp rfl
   ·replace h := iff_ h (cf hb99)
    refine wp_skip ?_
    refine then_norm ?_
    refine sr ?_
    refine s_mv (v := .int .i64 a1) (sx hS_ 0 rfl) ?_
    refine s_loadA hC 2 [u2_0] rfl ag59 (sx hS_ 2 rfl) rfl rfl ?_
    refine s_call [.pointer (some ⟨b8, 0, none⟩), .int .i64 a1, .agg #[u2_0]] _ Try.func71 rfl rfl (ev_cons (sx hS_ 1 rfl) (ev_cons rfl (ev_cons rfl rfl))) (c_impl_Algebra_withGenerator a0 a1 a2 h _ (alg_mk (hC.getP 4 rfl) (hC.getP 3 rfl)) (hC.getM 3 rfl) (form_mk (hC.getP 2 rfl))) (fun ret101 w103 hR102 => ?_)
    obtain ⟨r104, u105, u106, f107, r110, rfl, h, hr108, hf109, hB111⟩ := hR102
    refine ⟨_, rfl, ?_⟩
    replace hC := hC.push hB111 (Tr.item (TrAlg 2 76 59) r104 [u105, u106] f107) hr108 hf109
    obtain ⟨f113, ho114, ho115, hs116, hs117, hd118⟩ := alg_split (hC.getM 0 rfl)
    replace hC := hC.split (a := own 2 1 u105 r104.degrees.length ((EI .i64).encs r104.degrees)) (b := Tr.item (Tr.sl 59 (TrForm 76)) r104.images [u106] f113) hs116 hs117 ⟨ho114, ho115, hd118⟩
    refine s_ext (v := .agg #[u105, u106]) rfl rfl ?_
    refine s_ext (v := .int .i64 r110) rfl rfl ?_
    refine s_store (v := .agg #[u105, u106]) hC 3 [u105, u106] [u105, u106] rfl ag30.size (sx hS_ 3 rfl) rfl rfl rfl (all_c (own_oneC (hC.getM 0 rfl)) (all_c (rep_oneC (Tr.trep _ (hC.getM 1 rfl).1)) rfl)) (Nat.le_of_ble_eq_true rfl) rfl fun w121 hC => ?_
    refine s_as (v := .int .i64 r110) rfl ?_
    refine dn ?_
    refine wp_ret ?_
    refine ret2 (fn := Try.f37) rfl ?_ ?_ ⟨r104, u105, u106, ((Option.toList (Value.ownBlock u105)) ++ f113), r110, rfl, h, (alg_join (own_item (hC.getM 0 rfl)) (hC.getM 1 rfl) (fun x hx hx' => hC.mm 0 1 rfl rfl (by decide) x hx hx')), (fun b hb => (List.mem_append.1 hb).elim (fun hb => (own_fresh hC 0 rfl) b hb) (fun hb => (tr_fresh hC 1 rfl) b hb)), hC.below⟩ (.inl rfl)
    ·exact res_cellA hC 3 rfl ag30 (sx hS_ 3 rfl) rfl
    ·exact res_tmp rfl
end Go.Proofs.Ytgmldfmfpodgiaa
