/- Printed by vcgen.py: functions of the program as predicates, and that the machine's calls meet them. -/
import Derived.Test.YtjngkbalaipdbaaGCa
set_option linter.unusedVariables false
set_option linter.unusedSimpArgs false
set_option maxRecDepth 4000
set_option maxHeartbeats 4000000
namespace Go.Proofs.Ytjngkbalaipdbaa
open Go Go.RowKit Vc
def f_spec_l01Shift (a0 : List Int) (a1 : Term) (a2 : Vc.Form) (K : Vc.Form → Prop) : Prop :=
  whileP (fun (s214 : (List Term) × Int) next217 => (if s214.2 < (a2.terms.length : Int) then ((0 ≤ s214.2 ∧ s214.2 < (a2.terms.length : Int)) ∧ f_spec_l01Joined a0 a1.mono ((a2.terms.getD s214.2.toNat default).mono) (fun r256 r257 => (if r257 ≠ 0 then ((0 ≤ s214.2 ∧ s214.2 < (a2.terms.length : Int)) ∧ f_spec_l01Mod (IntKind.i64.wrap ((IntKind.i64.wrap (r257 * a1.factor)) * ((a2.terms.getD s214.2.toNat default).factor))) (fun r275 => (Room (s214.1.length + 1) 16 ∧ next217 (s214.1 ++ [(⟨r256, r275⟩ : Term)], IntKind.i64.wrap (s214.2 + 1))))) else next217 (s214.1, IntKind.i64.wrap (s214.2 + 1))))) else K (⟨s214.1⟩ : Vc.Form))) ([], 0)
theorem c_spec_l01Shift (a0 : List Int) (a1 : Term) (a2 : Vc.Form) {u0_0 : Value} {u2_0 : Value} {fp0 : List Nat} {fp2 : List Nat} {K : Vc.Form → Prop} (h : f_spec_l01Shift a0 a1 a2 K) (w0 : World) (q0 : ((EI .i64).ty.sl).rep a0 [u0_0] fp0 w0) (q2 : TForm.rep a2 [u2_0] fp2 w0) :
    Calls Try.prog 126 #[u0_0, .agg (List.toArray (Term.enc a1)), .agg #[u2_0]] w0 fun e w' => ∃ (r0 : Vc.Form) (z0_0 : Value) (fz0 : List Nat), 
      e = .returned (.agg #[z0_0]) ∧ K r0 ∧ (Tr.item (TrForm 93) r0 [z0_0] fz0).holds w' ∧ (∀ b, b ∈ fz0 → w0.heap.size ≤ b) ∧ Bel w0 w' := by
  unfold f_spec_l01Shift at h
  refine calls_of (args := [u0_0, .agg (List.toArray (Term.enc a1)), .agg #[u2_0]]) Try.func126 rfl 54 Try.ntmps126 (Nat.le_of_ble_eq_true rfl) ?_
  have hC := Ctx.start (X := Nox) w0 [Ty.item ((EI .i64).ty.sl) a0 [u0_0] fp0, Ty.item TForm a2 [u2_0] fp2] (by simp only [List.mem_cons, List.not_mem_nil, or_false, forall_eq_or_imp, forall_eq]; exact ⟨q0, q2⟩)
  have hp3 := (hC.getP 1 rfl)
  replace hC := hC.derive 1 rfl (Ty.item ETerm.ty.sl a2.terms [u2_0] fp2) (fun _ => (form_parts hp3)) (fun _ hb_ => hb_)
  refine wp_seq ?_
  refine cw_region ?_
  refine s_box (v := .agg (List.toArray (Term.enc a1))) hC (Term.enc a1) rfl rfl fun b5 w7 hB_ hC => ?_
  refine s_box (v := .agg #[u2_0]) hC [u2_0] rfl rfl fun b8 w10 hB_ hC => ?_
  refine s_alloc hC [.slice none 0 0] z51 rfl fun b11 w13 hB_ hC => ?_
  refine done ?_
  refine then_norm ?_
  refine wp_seq ?_
  refine cw_region ?_
  refine s_build [] rfl (bl51   _) ?_
  refine s_alloc hC [.slice none 0 0] z51 rfl fun b14 w16 hB_ hC => ?_
  refine s_store (v := .agg #[.slice none 0 0]) hC 0 [.slice none 0 0] [.slice none 0 0] rfl ag51.size rfl rfl rfl rfl rfl (Nat.le_of_ble_eq_true rfl) rfl fun w17 hC => ?_
  refine done ?_
  refine then_norm ?_
  refine wp_seq ?_
  refine wp_seq ?_
  refine cw_region ?_
  refine s_as (v := .int .i64 0) rfl ?_
  refine done ?_
  refine then_norm ?_
  refine wp_block ?_
  refine loopW (S := (List Term) × Int) _ (fun s214 e_ w_ => ∃ (v215 : Value), e_ 0 = u0_0 ∧ e_ 4 = .pointer (some ⟨b5, 0, none⟩) ∧ e_ 5 = .pointer (some ⟨b8, 0, none⟩) ∧ e_ 6 = .pointer (some ⟨b11, 0, none⟩) ∧ e_ 7 = .pointer (some ⟨b14, 0, none⟩) ∧ e_ 8 = .int .i64 s214.2 ∧ Ctx Nox w0 w_ [own 93 9 v215 s214.1.length (ETerm.encs s214.1), blk b14 51 [v215], blk b11 51 [.slice none 0 0], blk b8 51 [u2_0], blk b5 93 (Term.enc a1)] [Ty.item ETerm.ty.sl a2.terms [u2_0] fp2, Ty.item ((EI .i64).ty.sl) a0 [u0_0] fp0, Ty.item TForm a2 [u2_0] fp2]) ?_ (s0 := ([], 0)) ?_ h
  · clear hC h
    rintro s214 e_ w220 next217 K218 ⟨v215, h0_, h4_, h5_, h6_, h7_, h8_, hC⟩ h hK219
    refine wp_seq ?_
    refine wp_seq ?_
    refine cw_region ?_
    refine s_mv (v := .int .i64 s214.2) h8_ ?_
    refine s_faddrB 0 Try.underlying51 rfl sc49.size h5_ rfl ?_
    refine s_loadS hC 3 (u2_0) rfl sc49 rfl rfl ?_
    obtain ⟨Ad221, c222, hv223⟩ := sl_len (hC.getP 0 rfl)
    refine s_len Try.underlying49 (tr rfl hv223) ?_
    refine s_lss rfl rfl ?_
    refine done ?_
    refine then_norm ?_
    refine cw_cond rfl (fun hb224 => ?_) (fun hb224 => ?_)
    · replace h := ift h (ct hb224)
      refine wp_skip ?_
      refine then_norm ?_
      refine wp_seq ?_
      refine wp_block ?_
      refine wp_seq ?_
      refine cw_draw 14 mixed [0, 0, 2, 0, 8, 0, 56, 120, 248, 511, 1023, 2047, 2047, 0, 12287, 32767] [2, 4, 6, 8] [0, 1, 3, 5, 7, 10, 11, 12] (by kernel_rfl) (by kernel_rfl) (by kernel_rfl) (fun hM226 hM227 w225 hB_ => ?_)
      replace hC := hC.grow hB_
      refine ae_lookF 0 (u0_0) rfl rfl (by kernel_rfl) (hM227 0 rfl) (fun w_ => .inl ⟨rfl, by exact r_mv (v := u0_0) h0_⟩) (listed' := (List.toArray [true, false, false, false, false, false, false, false, false, false, false, false, false, false, false, false])) rfl ?_
      refine ae_lookF 1 (.pointer (some ⟨b5, 0, none⟩)) rfl rfl (by kernel_rfl) (hM227 1 rfl) (fun w_ => .inl ⟨rfl, by exact r_faddrB 0 Try.underlying93 rfl ag24.size h4_ rfl⟩) (listed' := (List.toArray [true, true, false, false, false, false, false, false, false, false, false, false, false, false, false, false])) rfl ?_
      refine ae_look 2 (.agg (List.toArray (A8.enc .u8 a1.mono))) rfl rfl (by kernel_rfl) (hM226 2 rfl) (fun w_ hB_ => .inl ⟨rfl, by exact r_loadA (hC.grow hB_) 4 (A8.enc .u8 a1.mono) rfl ag24 rfl rfl rfl⟩) (listed' := (List.toArray [true, true, true, false, false, false, false, false, false, false, false, false, false, false, false, false])) rfl ?_
      refine ae_lookF 3 (.pointer (some ⟨b8, 0, none⟩)) rfl rfl (by kernel_rfl) (hM227 3 rfl) (fun w_ => .inl ⟨rfl, by exact r_faddrB 0 Try.underlying51 rfl sc49.size h5_ rfl⟩) (listed' := (List.toArray [true, true, true, true, false, false, false, false, false, false, false, false, false, false, false, false])) rfl ?_
      refine ae_look 4 (u2_0) rfl rfl (by kernel_rfl) (hM226 4 rfl) (fun w_ hB_ => .inl ⟨rfl, by exact r_loadS (hC.grow hB_) 3 (u2_0) rfl sc49 rfl rfl⟩) (listed' := (List.toArray [true, true, true, true, true, false, false, false, false, false, false, false, false, false, false, false])) rfl ?_
      refine ae_lookF 5 (.int .i64 s214.2) rfl rfl (by kernel_rfl) (hM227 5 rfl) (fun w_ => .inl ⟨rfl, by exact r_mv (v := .int .i64 s214.2) h8_⟩) (listed' := (List.toArray [true, true, true, true, true, true, false, false, false, false, false, false, false, false, false, false])) rfl ?_
      obtain ⟨⟨h0_228, h1_229⟩, h⟩ := h
      obtain ⟨Ad230, c231, hv232⟩ := sl_form (hC.getP 0 rfl) s214.2.toNat (show s214.2.toNat < a2.terms.length by omega)
      refine ae_look 6 (.pointer (some (Ad230.add (s214.2.toNat * 9)))) rfl rfl (by kernel_rfl) (hM226 6 rfl) (fun w_ hB_ => .inl ⟨rfl, by exact r_iaddrS (len := a2.terms.length) Try.underlying49 ag93.size (by exact tr rfl hv232) rfl h0_228 h1_229⟩) (listed' := (List.toArray [true, true, true, true, true, true, true, false, false, false, false, false, false, false, false, false])) rfl ?_
      refine ae_lookF 7 (.pointer (some (Ad230.add (s214.2.toNat * 9 + 0)))) rfl rfl (by kernel_rfl) (hM227 7 rfl) (fun w_ => .inl ⟨rfl, by exact r_faddrS (s214.2.toNat * 9 + 0) Try.underlying93 rfl ag24.size rfl rfl⟩) (listed' := (List.toArray [true, true, true, true, true, true, true, true, false, false, false, false, false, false, false, false])) rfl ?_
      refine ae_look 8 (.agg (List.toArray (A8.enc .u8 ((a2.terms.getD s214.2.toNat default).mono)))) rfl rfl (by kernel_rfl) (hM226 8 rfl) (fun w_ hB_ => .inl ⟨rfl, by exact r_loadCA (A8.enc .u8 ((a2.terms.getD s214.2.toNat default).mono)) (cells_subS (o := 0) (k := 8) (sl_cellsE ((hC.grow hB_).getP 0 rfl) hv232 s214.2.toNat (show s214.2.toNat < a2.terms.length by omega)) rfl) ag24 rfl rfl⟩) (listed' := (List.toArray [true, true, true, true, true, true, true, true, true, false, false, false, false, false, false, false])) rfl ?_
      refine ae_two 9 13 rfl rfl (by kernel_rfl) ?_ ?_
      · skip
        refine s_call [u0_0, .agg (List.toArray (A8.enc .u8 a1.mono)), .agg (List.toArray (A8.enc .u8 ((a2.terms.getD s214.2.toNat default).mono)))] _ Try.func63 rfl rfl rfl (c_spec_l01Joined a0 a1.mono ((a2.terms.getD s214.2.toNat default).mono) h _ (hC.getP 1 rfl)) (fun ret253 w255 hR254 => ?_)
        obtain ⟨r256, r257, rfl, h, hB258⟩ := hR254
        refine ⟨_, rfl, ?_⟩
        replace hC := hC.grow hB258
        refine done ?_
        refine ak_intro (by assumption) (listed' := (List.toArray [true, true, true, true, true, true, true, true, true, true, false, false, false, false, false, false])) rfl ?_
        refine ae_lookF 10 (.tuple #[.agg (List.toArray (A8.enc .u8 r256)), .int .i64 r257]) rfl rfl (by kernel_rfl) (hM227 10 rfl) (fun w_ => .inl ⟨rfl, by exact r_mv (v := .tuple #[.agg (List.toArray (A8.enc .u8 r256)), .int .i64 r257]) rfl⟩) (listed' := (List.toArray [true, true, true, true, true, true, true, true, true, true, true, false, false, false, false, false])) rfl ?_
        refine ae_lookF 11 (.agg (List.toArray (A8.enc .u8 r256))) rfl rfl (by kernel_rfl) (hM227 11 rfl) (fun w_ => .inl ⟨rfl, by exact r_ext (v := .agg (List.toArray (A8.enc .u8 r256))) rfl rfl⟩) (listed' := (List.toArray [true, true, true, true, true, true, true, true, true, true, true, true, false, false, false, false])) rfl ?_
        refine ae_lookF 12 (.int .i64 r257) rfl rfl (by kernel_rfl) (hM227 12 rfl) (fun w_ => .inl ⟨rfl, by exact r_ext (v := .int .i64 r257) rfl rfl⟩) (listed' := (List.toArray [true, true, true, true, true, true, true, true, true, true, true, true, true, false, false, false])) rfl ?_
        refine ae_one 13 rfl (by kernel_rfl) ?_
        refine s_alloc hC (A8.enc .u8 A8.zero) z24 rfl fun b259 w261 hB_ hC => ?_
        refine done ?_
        refine ak_intro (by assumption) (listed' := (List.toArray [true, true, true, true, true, true, true, true, true, true, true, true, true, true, false, false])) rfl ?_
        refine ae_one 14 rfl (by kernel_rfl) ?_
        refine s_store (v := .agg (List.toArray (A8.enc .u8 r256))) hC 0 (A8.enc .u8 r256) (A8.enc .u8 r256) rfl ag24.size rfl rfl rfl rfl rfl (Nat.le_of_ble_eq_true rfl) rfl fun w262 hC => ?_
        refine done ?_
        refine ak_introN (by decide) (listed' := (List.toArray [true, true, true, true, true, true, true, true, true, true, true, true, true, true, true, false])) rfl ?_
        refine ae_tail 15 (by decide) (by decide) (by kernel_rfl) rfl rfl ?_
        refine s_as (v := .int .i64 r257) rfl ?_
        refine done ?_
        refine qn_norm ?_
        refine then_norm ?_
        refine wp_seq ?_
        refine cw_region ?_
        refine s_mv (v := .int .i64 r257) rfl ?_
        refine s_neq rfl rfl ?_
        refine done ?_
        refine then_norm ?_
        refine cw_cond rfl (fun hb263 => ?_) (fun hb263 => ?_)
        · replace h := ift h (ct hb263)
          refine cw_draw 17 mixed [0, 1, 0, 0, 0, 16, 56, 0, 128, 0, 896, 1920, 3968, 8184, 16376, 32764, 65532, 131071, 262143, 524287] [1, 2, 5, 8, 10, 12, 15] [0, 3, 4, 6, 7, 9, 11, 13] (by kernel_rfl) (by kernel_rfl) (by kernel_rfl) (fun hM265 hM266 w264 hB_ => ?_)
          replace hC := hC.grow hB_
          refine ae_lookF 0 (.pointer (some ⟨b14, 0, none⟩)) rfl rfl (by kernel_rfl) (hM266 0 rfl) (fun w_ => .inl ⟨rfl, by exact r_faddrB 0 Try.underlying51 rfl sc49.size h7_ rfl⟩) (listed' := (List.toArray [true, false, false, false, false, false, false, false, false, false, false, false, false, false, false, false, false, false, false, false])) rfl ?_
          refine ae_look 1 (v215) rfl rfl (by kernel_rfl) (hM265 1 rfl) (fun w_ hB_ => .inl ⟨rfl, by exact r_loadS (hC.grow hB_) 2 (v215) rfl sc49 rfl rfl⟩) (listed' := (List.toArray [true, true, false, false, false, false, false, false, false, false, false, false, false, false, false, false, false, false, false, false])) rfl ?_
          refine ae_look 2 (.agg (List.toArray (A8.enc .u8 r256))) rfl rfl (by kernel_rfl) (hM265 2 rfl) (fun w_ hB_ => .inl ⟨rfl, by exact r_loadA (hC.grow hB_) 0 (A8.enc .u8 r256) rfl ag24 rfl rfl rfl⟩) (listed' := (List.toArray [true, true, true, false, false, false, false, false, false, false, false, false, false, false, false, false, false, false, false, false])) rfl ?_
          refine ae_lookF 3 (.int .i64 r257) rfl rfl (by kernel_rfl) (hM266 3 rfl) (fun w_ => .inl ⟨rfl, by exact r_mv (v := .int .i64 r257) rfl⟩) (listed' := (List.toArray [true, true, true, true, false, false, false, false, false, false, false, false, false, false, false, false, false, false, false, false])) rfl ?_
          refine ae_lookF 4 (.pointer (some ⟨b5, 8, none⟩)) rfl rfl (by kernel_rfl) (hM266 4 rfl) (fun w_ => .inl ⟨rfl, by exact r_faddrB 8 Try.underlying93 rfl sc2.size h4_ rfl⟩) (listed' := (List.toArray [true, true, true, true, true, false, false, false, false, false, false, false, false, false, false, false, false, false, false, false])) rfl ?_
          refine ae_look 5 (.int .i64 a1.factor) rfl rfl (by kernel_rfl) (hM265 5 rfl) (fun w_ hB_ => .inl ⟨rfl, by exact r_loadS (hC.grow hB_) 5 (.int .i64 a1.factor) rfl sc2 rfl rfl⟩) (listed' := (List.toArray [true, true, true, true, true, true, false, false, false, false, false, false, false, false, false, false, false, false, false, false])) rfl ?_
          refine ae_lookF 6 (.int .i64 (IntKind.i64.wrap (r257 * a1.factor))) rfl rfl (by kernel_rfl) (hM266 6 rfl) (fun w_ => .inl ⟨rfl, by exact r_mul rfl rfl⟩) (listed' := (List.toArray [true, true, true, true, true, true, true, false, false, false, false, false, false, false, false, false, false, false, false, false])) rfl ?_
          refine ae_lookF 7 (.pointer (some ⟨b8, 0, none⟩)) rfl rfl (by kernel_rfl) (hM266 7 rfl) (fun w_ => .inl ⟨rfl, by exact r_faddrB 0 Try.underlying51 rfl sc49.size h5_ rfl⟩) (listed' := (List.toArray [true, true, true, true, true, true, true, true, false, false, false, false, false, false, false, false, false, false, false, false])) rfl ?_
          refine ae_look 8 (u2_0) rfl rfl (by kernel_rfl) (hM265 8 rfl) (fun w_ hB_ => .inl ⟨rfl, by exact r_loadS (hC.grow hB_) 4 (u2_0) rfl sc49 rfl rfl⟩) (listed' := (List.toArray [true, true, true, true, true, true, true, true, true, false, false, false, false, false, false, false, false, false, false, false])) rfl ?_
          refine ae_lookF 9 (.int .i64 s214.2) rfl rfl (by kernel_rfl) (hM266 9 rfl) (fun w_ => .inl ⟨rfl, by exact r_mv (v := .int .i64 s214.2) h8_⟩) (listed' := (List.toArray [true, true, true, true, true, true, true, true, true, true, false, false, false, false, false, false, false, false, false, false])) rfl ?_
          obtain ⟨⟨h0_267, h1_268⟩, h⟩ := h
          obtain ⟨Ad269, c270, hv271⟩ := sl_form (hC.getP 0 rfl) s214.2.toNat (show s214.2.toNat < a2.terms.length by omega)
          refine ae_look 10 (.pointer (some (Ad269.add (s214.2.toNat * 9)))) rfl rfl (by kernel_rfl) (hM265 10 rfl) (fun w_ hB_ => .inl ⟨rfl, by exact r_iaddrS (len := a2.terms.length) Try.underlying49 ag93.size (by exact tr rfl hv271) rfl h0_267 h1_268⟩) (listed' := (List.toArray [true, true, true, true, true, true, true, true, true, true, true, false, false, false, false, false, false, false, false, false])) rfl ?_
          refine ae_lookF 11 (.pointer (some (Ad269.add (s214.2.toNat * 9 + 8)))) rfl rfl (by kernel_rfl) (hM266 11 rfl) (fun w_ => .inl ⟨rfl, by exact r_faddrS (s214.2.toNat * 9 + 8) Try.underlying93 rfl sc2.size rfl rfl⟩) (listed' := (List.toArray [true, true, true, true, true, true, true, true, true, true, true, true, false, false, false, false, false, false, false, false])) rfl ?_
          refine ae_look 12 (.int .i64 ((a2.terms.getD s214.2.toNat default).factor)) rfl rfl (by kernel_rfl) (hM265 12 rfl) (fun w_ hB_ => .inl ⟨rfl, by exact r_loadCS (.int .i64 ((a2.terms.getD s214.2.toNat default).factor)) (cells_subS (o := 8) (k := 1) (sl_cellsE ((hC.grow hB_).getP 0 rfl) hv271 s214.2.toNat (show s214.2.toNat < a2.terms.length by omega)) rfl) sc2 rfl⟩) (listed' := (List.toArray [true, true, true, true, true, true, true, true, true, true, true, true, true, false, false, false, false, false, false, false])) rfl ?_
          refine ae_lookF 13 (.int .i64 (IntKind.i64.wrap ((IntKind.i64.wrap (r257 * a1.factor)) * ((a2.terms.getD s214.2.toNat default).factor)))) rfl rfl (by kernel_rfl) (hM266 13 rfl) (fun w_ => .inl ⟨rfl, by exact r_mul rfl rfl⟩) (listed' := (List.toArray [true, true, true, true, true, true, true, true, true, true, true, true, true, true, false, false, false, false, false, false])) rfl ?_
          refine ae_one 14 rfl (by kernel_rfl) ?_
          refine s_call [.int .i64 (IntKind.i64.wrap ((IntKind.i64.wrap (r257 * a1.factor)) * ((a2.terms.getD s214.2.toNat default).factor)))] _ Try.func119 rfl rfl rfl (c_spec_l01Mod (IntKind.i64.wrap ((IntKind.i64.wrap (r257 * a1.factor)) * ((a2.terms.getD s214.2.toNat default).factor))) h _) (fun ret272 w274 hR273 => ?_)
          obtain ⟨r275, rfl, h, hB276⟩ := hR273
          refine ⟨_, rfl, ?_⟩
          replace hC := hC.grow hB276
          refine done ?_
          refine ak_intro (by assumption) (listed' := (List.toArray [true, true, true, true, true, true, true, true, true, true, true, true, true, true, true, false, false, false, false, false])) rfl ?_
          refine ae_look 15 (.agg (List.toArray (Term.enc (⟨r256, r275⟩ : Term)))) rfl rfl (by kernel_rfl) (hM265 15 rfl) (fun w_ hB_ => .inl ⟨rfl, by exact r_build [(0, .agg (List.toArray (A8.enc .u8 r256))), (1, .int .i64 r275)] rfl (bl93_0flat_1int r256 r275  _)⟩) (listed' := (List.toArray [true, true, true, true, true, true, true, true, true, true, true, true, true, true, true, true, false, false, false, false])) rfl ?_
          refine ae_one 16 rfl (by kernel_rfl) ?_
          refine s_bslice (sz := 9) hC [(0, .agg (List.toArray (Term.enc (⟨r256, r275⟩ : Term))))] (ETerm.encs [(⟨r256, r275⟩ : Term)]) rfl (fun _ => bs49_1 (⟨r256, r275⟩ : Term) _) rfl (by decide) fun b277 w278 hB_ hC => ?_
          refine done ?_
          refine ak_intro (by assumption) (listed' := (List.toArray [true, true, true, true, true, true, true, true, true, true, true, true, true, true, true, true, true, false, false, false])) rfl ?_
          refine ae_tail 17 (by decide) (by decide) (by kernel_rfl) rfl rfl ?_
          obtain ⟨hm282, h⟩ := h
          refine s_app hC 2 Try.underlying49 el93 rfl (by decide) (by decide) rfl (own_rdr (hC.getM 0 rfl)) (fun q hq => Enc.encs_one' (E := ETerm) _ q hq) rfl rfl hm282 fun v280 w281 hC => ?_
          replace hC := own_re hC 2 ((s214.1 ++ [(⟨r256, r275⟩ : Term)]).length) (ETerm.encs (s214.1 ++ [(⟨r256, r275⟩ : Term)])) rfl (by simp) (by first | (simp [Enc.encs_append]; done) | simp [Enc.encs_append, Enc.encs])
          refine s_faddrB 0 Try.underlying51 rfl sc49.size h7_ rfl ?_
          refine s_store (v := v280) hC 3 [v280] [v280] rfl sc49.size rfl rfl (own_cellsV (hC.getM 2 rfl)) rfl (all_c (own_oneC (hC.getM 2 rfl)) rfl) (Nat.le_of_ble_eq_true rfl) rfl fun w283 hC => ?_
          refine done ?_
          refine qn_norm ?_
          refine blk_norm ?_
          refine then_norm ?_
          refine cw_region ?_
          refine s_mv (v := .int .i64 s214.2) h8_ ?_
          refine s_add rfl rfl ?_
          refine s_as (v := .int .i64 (IntKind.i64.wrap (s214.2 + 1))) rfl ?_
          refine done ?_
          replace hC := hC.sel [2, 3, 4, 5, 6] [0, 1, 2] (M' := [own 93 9 v280 ((s214.1 ++ [(⟨r256, r275⟩ : Term)]).length) (ETerm.encs (s214.1 ++ [(⟨r256, r275⟩ : Term)])), blk b14 51 [v280], blk b11 51 [.slice none 0 0], blk b8 51 [u2_0], blk b5 93 (Term.enc a1)]) (Ps' := [Ty.item ETerm.ty.sl a2.terms [u2_0] fp2, Ty.item ((EI .i64).ty.sl) a0 [u0_0] fp0, Ty.item TForm a2 [u2_0] fp2]) (by decide) rfl rfl
          exact hK219 (s214.1 ++ [(⟨r256, r275⟩ : Term)], IntKind.i64.wrap (s214.2 + 1)) _ _ ⟨v280, h0_, h4_, h5_, h6_, h7_, rfl, hC⟩ h
        · replace h := iff_ h (cf hb263)
          refine wp_skip ?_
          refine blk_norm ?_
          refine then_norm ?_
          refine cw_region ?_
          refine s_mv (v := .int .i64 s214.2) h8_ ?_
          refine s_add rfl rfl ?_
          refine s_as (v := .int .i64 (IntKind.i64.wrap (s214.2 + 1))) rfl ?_
          refine done ?_
          replace hC := hC.sel [1, 2, 3, 4, 5] [0, 1, 2] (M' := [own 93 9 v215 s214.1.length (ETerm.encs s214.1), blk b14 51 [v215], blk b11 51 [.slice none 0 0], blk b8 51 [u2_0], blk b5 93 (Term.enc a1)]) (Ps' := [Ty.item ETerm.ty.sl a2.terms [u2_0] fp2, Ty.item ((EI .i64).ty.sl) a0 [u0_0] fp0, Ty.item TForm a2 [u2_0] fp2]) (by decide) rfl rfl
          exact hK219 (s214.1, IntKind.i64.wrap (s214.2 + 1)) _ _ ⟨v215, h0_, h4_, h5_, h6_, h7_, rfl, hC⟩ h
      · skip
        refine s_alloc hC (A8.enc .u8 A8.zero) z24 rfl fun b284 w286 hB_ hC => ?_
        refine done ?_
        refine ak_intro (by assumption) (listed' := (List.toArray [true, true, true, true, true, true, true, true, true, false, false, false, false, true, false, false])) rfl ?_
        refine ae_one 9 rfl (by kernel_rfl) ?_
        refine s_call [u0_0, .agg (List.toArray (A8.enc .u8 a1.mono)), .agg (List.toArray (A8.enc .u8 ((a2.terms.getD s214.2.toNat default).mono)))] _ Try.func63 rfl rfl rfl (c_spec_l01Joined a0 a1.mono ((a2.terms.getD s214.2.toNat default).mono) h _ (hC.getP 1 rfl)) (fun ret287 w289 hR288 => ?_)
        obtain ⟨r290, r291, rfl, h, hB292⟩ := hR288
        refine ⟨_, rfl, ?_⟩
        replace hC := hC.grow hB292
        refine done ?_
        refine ak_intro (by assumption) (listed' := (List.toArray [true, true, true, true, true, true, true, true, true, true, false, false, false, true, false, false])) rfl ?_
        refine ae_lookF 10 (.tuple #[.agg (List.toArray (A8.enc .u8 r290)), .int .i64 r291]) rfl rfl (by kernel_rfl) (hM227 10 rfl) (fun w_ => .inl ⟨rfl, by exact r_mv (v := .tuple #[.agg (List.toArray (A8.enc .u8 r290)), .int .i64 r291]) rfl⟩) (listed' := (List.toArray [true, true, true, true, true, true, true, true, true, true, true, false, false, true, false, false])) rfl ?_
        refine ae_lookF 11 (.agg (List.toArray (A8.enc .u8 r290))) rfl rfl (by kernel_rfl) (hM227 11 rfl) (fun w_ => .inl ⟨rfl, by exact r_ext (v := .agg (List.toArray (A8.enc .u8 r290))) rfl rfl⟩) (listed' := (List.toArray [true, true, true, true, true, true, true, true, true, true, true, true, false, true, false, false])) rfl ?_
        refine ae_lookF 12 (.int .i64 r291) rfl rfl (by kernel_rfl) (hM227 12 rfl) (fun w_ => .inl ⟨rfl, by exact r_ext (v := .int .i64 r291) rfl rfl⟩) (listed' := (List.toArray [true, true, true, true, true, true, true, true, true, true, true, true, true, true, false, false])) rfl ?_
        refine ae_one 14 rfl (by kernel_rfl) ?_
        refine s_store (v := .agg (List.toArray (A8.enc .u8 r290))) hC 0 (A8.enc .u8 r290) (A8.enc .u8 r290) rfl ag24.size rfl rfl rfl rfl rfl (Nat.le_of_ble_eq_true rfl) rfl fun w293 hC => ?_
        refine done ?_
        refine ak_introN (by decide) (listed' := (List.toArray [true, true, true, true, true, true, true, true, true, true, true, true, true, true, true, false])) rfl ?_
        refine ae_tail 15 (by decide) (by decide) (by kernel_rfl) rfl rfl ?_
        refine s_as (v := .int .i64 r291) rfl ?_
        refine done ?_
        refine qn_norm ?_
        refine then_norm ?_
        refine wp_seq ?_
        refine cw_region ?_
        refine s_mv (v := .int .i64 r291) rfl ?_
        refine s_neq rfl rfl ?_
        refine done ?_
        refine then_norm ?_
        refine cw_cond rfl (fun hb294 => ?_) (fun hb294 => ?_)
        · replace h := ift h (ct hb294)
          refine cw_draw 17 mixed [0, 1, 0, 0, 0, 16, 56, 0, 128, 0, 896, 1920, 3968, 8184, 16376, 32764, 65532, 131071, 262143, 524287] [1, 2, 5, 8, 10, 12, 15] [0, 3, 4, 6, 7, 9, 11, 13] (by kernel_rfl) (by kernel_rfl) (by kernel_rfl) (fun hM296 hM297 w295 hB_ => ?_)
          replace hC := hC.grow hB_
          refine ae_lookF 0 (.pointer (some ⟨b14, 0, none⟩)) rfl rfl (by kernel_rfl) (hM297 0 rfl) (fun w_ => .inl ⟨rfl, by exact r_faddrB 0 Try.underlying51 rfl sc49.size h7_ rfl⟩) (listed' := (List.toArray [true, false, false, false, false, false, false, false, false, false, false, false, false, false, false, false, false, false, false, false])) rfl ?_
          refine ae_look 1 (v215) rfl rfl (by kernel_rfl) (hM296 1 rfl) (fun w_ hB_ => .inl ⟨rfl, by exact r_loadS (hC.grow hB_) 2 (v215) rfl sc49 rfl rfl⟩) (listed' := (List.toArray [true, true, false, false, false, false, false, false, false, false, false, false, false, false, false, false, false, false, false, false])) rfl ?_
          refine ae_look 2 (.agg (List.toArray (A8.enc .u8 r290))) rfl rfl (by kernel_rfl) (hM296 2 rfl) (fun w_ hB_ => .inl ⟨rfl, by exact r_loadA (hC.grow hB_) 0 (A8.enc .u8 r290) rfl ag24 rfl rfl rfl⟩) (listed' := (List.toArray [true, true, true, false, false, false, false, false, false, false, false, false, false, false, false, false, false, false, false, false])) rfl ?_
          refine ae_lookF 3 (.int .i64 r291) rfl rfl (by kernel_rfl) (hM297 3 rfl) (fun w_ => .inl ⟨rfl, by exact r_mv (v := .int .i64 r291) rfl⟩) (listed' := (List.toArray [true, true, true, true, false, false, false, false, false, false, false, false, false, false, false, false, false, false, false, false])) rfl ?_
          refine ae_lookF 4 (.pointer (some ⟨b5, 8, none⟩)) rfl rfl (by kernel_rfl) (hM297 4 rfl) (fun w_ => .inl ⟨rfl, by exact r_faddrB 8 Try.underlying93 rfl sc2.size h4_ rfl⟩) (listed' := (List.toArray [true, true, true, true, true, false, false, false, false, false, false, false, false, false, false, false, false, false, false, false])) rfl ?_
          refine ae_look 5 (.int .i64 a1.factor) rfl rfl (by kernel_rfl) (hM296 5 rfl) (fun w_ hB_ => .inl ⟨rfl, by exact r_loadS (hC.grow hB_) 5 (.int .i64 a1.factor) rfl sc2 rfl rfl⟩) (listed' := (List.toArray [true, true, true, true, true, true, false, false, false, false, false, false, false, false, false, false, false, false, false, false])) rfl ?_
          refine ae_lookF 6 (.int .i64 (IntKind.i64.wrap (r291 * a1.factor))) rfl rfl (by kernel_rfl) (hM297 6 rfl) (fun w_ => .inl ⟨rfl, by exact r_mul rfl rfl⟩) (listed' := (List.toArray [true, true, true, true, true, true, true, false, false, false, false, false, false, false, false, false, false, false, false, false])) rfl ?_
          refine ae_lookF 7 (.pointer (some ⟨b8, 0, none⟩)) rfl rfl (by kernel_rfl) (hM297 7 rfl) (fun w_ => .inl ⟨rfl, by exact r_faddrB 0 Try.underlying51 rfl sc49.size h5_ rfl⟩) (listed' := (List.toArray [true, true, true, true, true, true, true, true, false, false, false, false, false, false, false, false, false, false, false, false])) rfl ?_
          refine ae_look 8 (u2_0) rfl rfl (by kernel_rfl) (hM296 8 rfl) (fun w_ hB_ => .inl ⟨rfl, by exact r_loadS (hC.grow hB_) 4 (u2_0) rfl sc49 rfl rfl⟩) (listed' := (List.toArray [true, true, true, true, true, true, true, true, true, false, false, false, false, false, false, false, false, false, false, false])) rfl ?_
          refine ae_lookF 9 (.int .i64 s214.2) rfl rfl (by kernel_rfl) (hM297 9 rfl) (fun w_ => .inl ⟨rfl, by exact r_mv (v := .int .i64 s214.2) h8_⟩) (listed' := (List.toArray [true, true, true, true, true, true, true, true, true, true, false, false, false, false, false, false, false, false, false, false])) rfl ?_
          obtain ⟨⟨h0_298, h1_299⟩, h⟩ := h
          obtain ⟨Ad300, c301, hv302⟩ := sl_form (hC.getP 0 rfl) s214.2.toNat (show s214.2.toNat < a2.terms.length by omega)
          refine ae_look 10 (.pointer (some (Ad300.add (s214.2.toNat * 9)))) rfl rfl (by kernel_rfl) (hM296 10 rfl) (fun w_ hB_ => .inl ⟨rfl, by exact r_iaddrS (len := a2.terms.length) Try.underlying49 ag93.size (by exact tr rfl hv302) rfl h0_298 h1_299⟩) (listed' := (List.toArray [true, true, true, true, true, true, true, true, true, true, true, false, false, false, false, false, false, false, false, false])) rfl ?_
          refine ae_lookF 11 (.pointer (some (Ad300.add (s214.2.toNat * 9 + 8)))) rfl rfl (by kernel_rfl) (hM297 11 rfl) (fun w_ => .inl ⟨rfl, by exact r_faddrS (s214.2.toNat * 9 + 8) Try.underlying93 rfl sc2.size rfl rfl⟩) (listed' := (List.toArray [true, true, true, true, true, true, true, true, true, true, true, true, false, false, false, false, false, false, false, false])) rfl ?_
          refine ae_look 12 (.int .i64 ((a2.terms.getD s214.2.toNat default).factor)) rfl rfl (by kernel_rfl) (hM296 12 rfl) (fun w_ hB_ => .inl ⟨rfl, by exact r_loadCS (.int .i64 ((a2.terms.getD s214.2.toNat default).factor)) (cells_subS (o := 8) (k := 1) (sl_cellsE ((hC.grow hB_).getP 0 rfl) hv302 s214.2.toNat (show s214.2.toNat < a2.terms.length by omega)) rfl) sc2 rfl⟩) (listed' := (List.toArray [true, true, true, true, true, true, true, true, true, true, true, true, true, false, false, false, false, false, false, false])) rfl ?_
          refine ae_lookF 13 (.int .i64 (IntKind.i64.wrap ((IntKind.i64.wrap (r291 * a1.factor)) * ((a2.terms.getD s214.2.toNat default).factor)))) rfl rfl (by kernel_rfl) (hM297 13 rfl) (fun w_ => .inl ⟨rfl, by exact r_mul rfl rfl⟩) (listed' := (List.toArray [true, true, true, true, true, true, true, true, true, true, true, true, true, true, false, false, false, false, false, false])) rfl ?_
          refine ae_one 14 rfl (by kernel_rfl) ?_
          refine s_call [.int .i64 (IntKind.i64.wrap ((IntKind.i64.wrap (r291 * a1.factor)) * ((a2.terms.getD s214.2.toNat default).factor)))] _ Try.func119 rfl rfl rfl (c_spec_l01Mod (IntKind.i64.wrap ((IntKind.i64.wrap (r291 * a1.factor)) * ((a2.terms.getD s214.2.toNat default).factor))) h _) (fun ret303 w305 hR304 => ?_)
          obtain ⟨r306, rfl, h, hB307⟩ := hR304
          refine ⟨_, rfl, ?_⟩
          replace hC := hC.grow hB307
          refine done ?_
          refine ak_intro (by assumption) (listed' := (List.toArray [true, true, true, true, true, true, true, true, true, true, true, true, true, true, true, false, false, false, false, false])) rfl ?_
          refine ae_look 15 (.agg (List.toArray (Term.enc (⟨r290, r306⟩ : Term)))) rfl rfl (by kernel_rfl) (hM296 15 rfl) (fun w_ hB_ => .inl ⟨rfl, by exact r_build [(0, .agg (List.toArray (A8.enc .u8 r290))), (1, .int .i64 r306)] rfl (bl93_0flat_1int r290 r306  _)⟩) (listed' := (List.toArray [true, true, true, true, true, true, true, true, true, true, true, true, true, true, true, true, false, false, false, false])) rfl ?_
          refine ae_one 16 rfl (by kernel_rfl) ?_
          refine s_bslice (sz := 9) hC [(0, .agg (List.toArray (Term.enc (⟨r290, r306⟩ : Term))))] (ETerm.encs [(⟨r290, r306⟩ : Term)]) rfl (fun _ => bs49_1 (⟨r290, r306⟩ : Term) _) rfl (by decide) fun b308 w309 hB_ hC => ?_
          refine done ?_
          refine ak_intro (by assumption) (listed' := (List.toArray [true, true, true, true, true, true, true, true, true, true, true, true, true, true, true, true, true, false, false, false])) rfl ?_
          refine ae_tail 17 (by decide) (by decide) (by kernel_rfl) rfl rfl ?_
          obtain ⟨hm313, h⟩ := h
          refine s_app hC 2 Try.underlying49 el93 rfl (by decide) (by decide) rfl (own_rdr (hC.getM 0 rfl)) (fun q hq => Enc.encs_one' (E := ETerm) _ q hq) rfl rfl hm313 fun v311 w312 hC => ?_
          replace hC := own_re hC 2 ((s214.1 ++ [(⟨r290, r306⟩ : Term)]).length) (ETerm.encs (s214.1 ++ [(⟨r290, r306⟩ : Term)])) rfl (by simp) (by first | (simp [Enc.encs_append]; done) | simp [Enc.encs_append, Enc.encs])
          refine s_faddrB 0 Try.underlying51 rfl sc49.size h7_ rfl ?_
          refine s_store (v := v311) hC 3 [v311] [v311] rfl sc49.size rfl rfl (own_cellsV (hC.getM 2 rfl)) rfl (all_c (own_oneC (hC.getM 2 rfl)) rfl) (Nat.le_of_ble_eq_true rfl) rfl fun w314 hC => ?_
          refine done ?_
          refine qn_norm ?_
          refine blk_norm ?_
          refine then_norm ?_
          refine cw_region ?_
          refine s_mv (v := .int .i64 s214.2) h8_ ?_
          refine s_add rfl rfl ?_
          refine s_as (v := .int .i64 (IntKind.i64.wrap (s214.2 + 1))) rfl ?_
          refine done ?_
          replace hC := hC.sel [2, 3, 4, 5, 6] [0, 1, 2] (M' := [own 93 9 v311 ((s214.1 ++ [(⟨r290, r306⟩ : Term)]).length) (ETerm.encs (s214.1 ++ [(⟨r290, r306⟩ : Term)])), blk b14 51 [v311], blk b11 51 [.slice none 0 0], blk b8 51 [u2_0], blk b5 93 (Term.enc a1)]) (Ps' := [Ty.item ETerm.ty.sl a2.terms [u2_0] fp2, Ty.item ((EI .i64).ty.sl) a0 [u0_0] fp0, Ty.item TForm a2 [u2_0] fp2]) (by decide) rfl rfl
          exact hK219 (s214.1 ++ [(⟨r290, r306⟩ : Term)], IntKind.i64.wrap (s214.2 + 1)) _ _ ⟨v311, h0_, h4_, h5_, h6_, h7_, rfl, hC⟩ h
        · replace h := iff_ h (cf hb294)
          refine wp_skip ?_
          refine blk_norm ?_
          refine then_norm ?_
          refine cw_region ?_
          refine s_mv (v := .int .i64 s214.2) h8_ ?_
          refine s_add rfl rfl ?_
          refine s_as (v := .int .i64 (IntKind.i64.wrap (s214.2 + 1))) rfl ?_
          refine done ?_
          replace hC := hC.sel [1, 2, 3, 4, 5] [0, 1, 2] (M' := [own 93 9 v215 s214.1.length (ETerm.encs s214.1), blk b14 51 [v215], blk b11 51 [.slice none 0 0], blk b8 51 [u2_0], blk b5 93 (Term.enc a1)]) (Ps' := [Ty.item ETerm.ty.sl a2.terms [u2_0] fp2, Ty.item ((EI .i64).ty.sl) a0 [u0_0] fp0, Ty.item TForm a2 [u2_0] fp2]) (by decide) rfl rfl
          exact hK219 (s214.1, IntKind.i64.wrap (s214.2 + 1)) _ _ ⟨v215, h0_, h4_, h5_, h6_, h7_, rfl, hC⟩ h
    · replace h := iff_ h (cf hb224)
      refine wp_exit (then_exit (then_exit (exit_in ?_)))
      refine then_norm ?_
      refine wp_seq ?_
      refine cw_region ?_
      refine s_loadA hC 1 [v215] rfl ag51 h7_ rfl rfl ?_
      refine s_store (v := .agg #[v215]) hC 2 [v215] [v215] rfl ag51.size h6_ rfl rfl rfl (all_c (own_oneC (hC.getM 0 rfl)) rfl) (Nat.le_of_ble_eq_true rfl) rfl fun w315 hC => ?_
      refine done ?_
      refine then_norm ?_
      refine wp_ret ?_
      refine ret1 (fn := Try.f126) rfl ?_ ⟨(⟨s214.1⟩ : Vc.Form), v215, (Option.toList (Value.ownBlock v215)), rfl, h, (form_join (own_item (hC.getM 0 rfl))), (own_fresh hC 0 rfl), hC.below⟩ (.inl rfl)
      exact res_cellA hC 2 rfl ag51 h6_ rfl
  · skip
    replace hC := hC.pushNil 93 9
    exact ⟨.slice none 0 0, rfl, rfl, rfl, rfl, rfl, rfl, hC⟩
def f_spec_l01Times (a0 : List Int) (a1 : Vc.Form) (a2 : Vc.Form) (K : Vc.Form → Prop) : Prop :=
  whileP (fun (s105 : (List Term) × Int) next108 => (if s105.2 < (a1.terms.length : Int) then ((0 ≤ s105.2 ∧ s105.2 < (a1.terms.length : Int)) ∧ f_spec_l01Shift a0 (a1.terms.getD s105.2.toNat default) a2 (fun r127 => f_spec_l01Add (⟨s105.1⟩ : Vc.Form) r127 1 (fun r140 => next108 (r140.terms, IntKind.i64.wrap (s105.2 + 1))))) else K (⟨s105.1⟩ : Vc.Form))) ([], 0)
theorem c_spec_l01Times (a0 : List Int) (a1 : Vc.Form) (a2 : Vc.Form) {u0_0 : Value} {u1_0 : Value} {u2_0 : Value} {fp0 : List Nat} {fp1 : List Nat} {fp2 : List Nat} {K : Vc.Form → Prop} (h : f_spec_l01Times a0 a1 a2 K) (w0 : World) (q0 : ((EI .i64).ty.sl).rep a0 [u0_0] fp0 w0) (q1 : TForm.rep a1 [u1_0] fp1 w0) (q2 : TForm.rep a2 [u2_0] fp2 w0) :
    Calls Try.prog 111 #[u0_0, .agg #[u1_0], .agg #[u2_0]] w0 fun e w' => ∃ (r0 : Vc.Form) (z0_0 : Value) (fz0 : List Nat), 
      e = .returned (.agg #[z0_0]) ∧ K r0 ∧ (Tr.item (TrForm 93) r0 [z0_0] fz0).holds w' ∧ (∀ b, b ∈ fz0 → w0.heap.size ≤ b) ∧ Bel w0 w' := by
  unfold f_spec_l01Times at h
  refine calls_of (args := [u0_0, .agg #[u1_0], .agg #[u2_0]]) Try.func111 rfl 28 Try.ntmps111 (Nat.le_of_ble_eq_true rfl) ?_
  have hC := Ctx.start (X := Nox) w0 [Ty.item ((EI .i64).ty.sl) a0 [u0_0] fp0, Ty.item TForm a1 [u1_0] fp1, Ty.item TForm a2 [u2_0] fp2] (by simp only [List.mem_cons, List.not_mem_nil, or_false, forall_eq_or_imp, forall_eq]; exact ⟨q0, q1, q2⟩)
  have hp4 := (hC.getP 1 rfl)
  replace hC := hC.derive 1 rfl (Ty.item ETerm.ty.sl a1.terms [u1_0] fp1) (fun _ => (form_parts hp4)) (fun _ hb_ => hb_)
  have hp6 := (hC.getP 3 rfl)
  replace hC := hC.derive 3 rfl (Ty.item ETerm.ty.sl a2.terms [u2_0] fp2) (fun _ => (form_parts hp6)) (fun _ hb_ => hb_)
  refine wp_seq ?_
  refine cw_region ?_
  refine s_box (v := .agg #[u1_0]) hC [u1_0] rfl rfl fun b8 w10 hB_ hC => ?_
  refine s_box (v := .agg #[u2_0]) hC [u2_0] rfl rfl fun b11 w13 hB_ hC => ?_
  refine s_alloc hC [.slice none 0 0] z51 rfl fun b14 w16 hB_ hC => ?_
  refine done ?_
  refine then_norm ?_
  refine wp_seq ?_
  refine cw_region ?_
  refine s_build [] rfl (bl51   _) ?_
  refine s_alloc hC [.slice none 0 0] z51 rfl fun b17 w19 hB_ hC => ?_
  refine s_store (v := .agg #[.slice none 0 0]) hC 0 [.slice none 0 0] [.slice none 0 0] rfl ag51.size rfl rfl rfl rfl rfl (Nat.le_of_ble_eq_true rfl) rfl fun w20 hC => ?_
  refine done ?_
  refine then_norm ?_
  refine wp_seq ?_
  refine wp_seq ?_
  refine cw_region ?_
  refine s_as (v := .int .i64 0) rfl ?_
  refine done ?_
  refine then_norm ?_
  refine wp_block ?_
  refine loopW (S := (List Term) × Int) _ (fun s105 e_ w_ => ∃ (v106 : Value), e_ 0 = u0_0 ∧ e_ 4 = .pointer (some ⟨b8, 0, none⟩) ∧ e_ 5 = .pointer (some ⟨b11, 0, none⟩) ∧ e_ 6 = .pointer (some ⟨b14, 0, none⟩) ∧ e_ 7 = .pointer (some ⟨b17, 0, none⟩) ∧ e_ 8 = .int .i64 s105.2 ∧ Ctx Nox w0 w_ [own 93 9 v106 s105.1.length (ETerm.encs s105.1), blk b17 51 [v106], blk b14 51 [.slice none 0 0], blk b11 51 [u2_0], blk b8 51 [u1_0]] [Ty.item ETerm.ty.sl a2.terms [u2_0] fp2, Ty.item ETerm.ty.sl a1.terms [u1_0] fp1, Ty.item ((EI .i64).ty.sl) a0 [u0_0] fp0, Ty.item TForm a1 [u1_0] fp1, Ty.item TForm a2 [u2_0] fp2]) ?_ (s0 := ([], 0)) ?_ h
  · clear hC h
    rintro s105 e_ w111 next108 K109 ⟨v106, h0_, h4_, h5_, h6_, h7_, h8_, hC⟩ h hK110
    refine wp_seq ?_
    refine wp_seq ?_
    refine cw_region ?_
    refine s_mv (v := .int .i64 s105.2) h8_ ?_
    refine s_faddrB 0 Try.underlying51 rfl sc49.size h4_ rfl ?_
    refine s_loadS hC 4 (u1_0) rfl sc49 rfl rfl ?_
    obtain ⟨Ad112, c113, hv114⟩ := sl_len (hC.getP 1 rfl)
    refine s_len Try.underlying49 (tr rfl hv114) ?_
    refine s_lss rfl rfl ?_
    refine done ?_
    refine then_norm ?_
    refine cw_cond rfl (fun hb115 => ?_) (fun hb115 => ?_)
    · replace h := ift h (ct hb115)
      refine wp_skip ?_
      refine then_norm ?_
      refine wp_seq ?_
      refine wp_block ?_
      refine cw_draw 9 mixed [0, 0, 0, 4, 0, 28, 60, 0, 254, 511, 1023] [0, 3, 5, 6, 7] [1, 2, 4] (by kernel_rfl) (by kernel_rfl) (by kernel_rfl) (fun hM117 hM118 w116 hB_ => ?_)
      replace hC := hC.grow hB_
      refine ae_look 0 (.agg #[v106]) rfl rfl (by kernel_rfl) (hM117 0 rfl) (fun w_ hB_ => .inl ⟨rfl, by exact r_loadA (hC.grow hB_) 1 [v106] rfl ag51 h7_ rfl rfl⟩) (listed' := (List.toArray [true, false, false, false, false, false, false, false, false, false, false])) rfl ?_
      refine ae_lookF 1 (u0_0) rfl rfl (by kernel_rfl) (hM118 1 rfl) (fun w_ => .inl ⟨rfl, by exact r_mv (v := u0_0) h0_⟩) (listed' := (List.toArray [true, true, false, false, false, false, false, false, false, false, false])) rfl ?_
      refine ae_lookF 2 (.pointer (some ⟨b8, 0, none⟩)) rfl rfl (by kernel_rfl) (hM118 2 rfl) (fun w_ => .inl ⟨rfl, by exact r_faddrB 0 Try.underlying51 rfl sc49.size h4_ rfl⟩) (listed' := (List.toArray [true, true, true, false, false, false, false, false, false, false, false])) rfl ?_
      refine ae_look 3 (u1_0) rfl rfl (by kernel_rfl) (hM117 3 rfl) (fun w_ hB_ => .inl ⟨rfl, by exact r_loadS (hC.grow hB_) 4 (u1_0) rfl sc49 rfl rfl⟩) (listed' := (List.toArray [true, true, true, true, false, false, false, false, false, false, false])) rfl ?_
      refine ae_lookF 4 (.int .i64 s105.2) rfl rfl (by kernel_rfl) (hM118 4 rfl) (fun w_ => .inl ⟨rfl, by exact r_mv (v := .int .i64 s105.2) h8_⟩) (listed' := (List.toArray [true, true, true, true, true, false, false, false, false, false, false])) rfl ?_
      obtain ⟨⟨h0_119, h1_120⟩, h⟩ := h
      obtain ⟨Ad121, c122, hv123⟩ := sl_form (hC.getP 1 rfl) s105.2.toNat (show s105.2.toNat < a1.terms.length by omega)
      refine ae_look 5 (.pointer (some (Ad121.add (s105.2.toNat * 9)))) rfl rfl (by kernel_rfl) (hM117 5 rfl) (fun w_ hB_ => .inl ⟨rfl, by exact r_iaddrS (len := a1.terms.length) Try.underlying49 ag93.size (by exact tr rfl hv123) rfl h0_119 h1_120⟩) (listed' := (List.toArray [true, true, true, true, true, true, false, false, false, false, false])) rfl ?_
      refine ae_look 6 (.agg (List.toArray (Term.enc (a1.terms.getD s105.2.toNat default)))) rfl rfl (by kernel_rfl) (hM117 6 rfl) (fun w_ hB_ => .inl ⟨rfl, by exact r_loadCA (Term.enc (a1.terms.getD s105.2.toNat default)) (sl_cellsE ((hC.grow hB_).getP 1 rfl) hv123 s105.2.toNat (show s105.2.toNat < a1.terms.length by omega)) ag93 rfl rfl⟩) (listed' := (List.toArray [true, true, true, true, true, true, true, false, false, false, false])) rfl ?_
      refine ae_look 7 (.agg #[u2_0]) rfl rfl (by kernel_rfl) (hM117 7 rfl) (fun w_ hB_ => .inl ⟨rfl, by exact r_loadA (hC.grow hB_) 3 [u2_0] rfl ag51 h5_ rfl rfl⟩) (listed' := (List.toArray [true, true, true, true, true, true, true, true, false, false, false])) rfl ?_
      refine ae_one 8 rfl (by kernel_rfl) ?_
      refine s_call [u0_0, .agg (List.toArray (Term.enc (a1.terms.getD s105.2.toNat default))), .agg #[u2_0]] _ Try.func126 rfl rfl rfl (c_spec_l01Shift a0 (a1.terms.getD s105.2.toNat default) a2 h _ (hC.getP 2 rfl) (form_mk (hC.getP 0 rfl))) (fun ret124 w126 hR125 => ?_)
      obtain ⟨r127, u128, f129, rfl, h, hr130, hf131, hB132⟩ := hR125
      refine ⟨_, rfl, ?_⟩
      replace hC := hC.push hB132 (Tr.item (TrForm 93) r127 [u128] f129) hr130 hf131
      obtain ⟨ho134, hf135⟩ := form_split (hC.getM 0 rfl)
      subst hf135
      replace hC := hC.recast (c := own 93 9 u128 r127.terms.length (ETerm.encs r127.terms)) (fun _ h_ => h_) (fun _ => ho134)
      refine done ?_
      refine ak_intro (by assumption) (listed' := (List.toArray [true, true, true, true, true, true, true, true, true, false, false])) rfl ?_
      refine ae_tail 9 (by decide) (by decide) (by kernel_rfl) rfl rfl ?_
      refine s_call [.agg #[v106], .agg #[u128], .int .i64 1] _ Try.func82 rfl rfl rfl (c_spec_l01Add (⟨s105.1⟩ : Vc.Form) r127 1 h _ (form_mk (own_repE (hC.getM 1 rfl))) (form_mk (own_repE (hC.getM 0 rfl)))) (fun ret137 w139 hR138 => ?_)
      obtain ⟨r140, u141, f142, rfl, h, hr143, hf144, hB145⟩ := hR138
      refine ⟨_, rfl, ?_⟩
      replace hC := hC.push hB145 (Tr.item (TrForm 93) r140 [u141] f142) hr143 hf144
      obtain ⟨ho147, hf148⟩ := form_split (hC.getM 0 rfl)
      subst hf148
      replace hC := hC.recast (c := own 93 9 u141 r140.terms.length (ETerm.encs r140.terms)) (fun _ h_ => h_) (fun _ => ho147)
      refine s_store (v := .agg #[u141]) hC 3 [u141] [u141] rfl ag51.size h7_ rfl rfl rfl (all_c (own_oneC (hC.getM 0 rfl)) rfl) (Nat.le_of_ble_eq_true rfl) rfl fun w150 hC => ?_
      refine done ?_
      refine qn_norm ?_
      refine blk_norm ?_
      refine then_norm ?_
      refine cw_region ?_
      refine s_mv (v := .int .i64 s105.2) h8_ ?_
      refine s_add rfl rfl ?_
      refine s_as (v := .int .i64 (IntKind.i64.wrap (s105.2 + 1))) rfl ?_
      refine done ?_
      replace hC := hC.sel [0, 3, 4, 5, 6] [0, 1, 2, 3, 4] (M' := [own 93 9 u141 r140.terms.length (ETerm.encs r140.terms), blk b17 51 [u141], blk b14 51 [.slice none 0 0], blk b11 51 [u2_0], blk b8 51 [u1_0]]) (Ps' := [Ty.item ETerm.ty.sl a2.terms [u2_0] fp2, Ty.item ETerm.ty.sl a1.terms [u1_0] fp1, Ty.item ((EI .i64).ty.sl) a0 [u0_0] fp0, Ty.item TForm a1 [u1_0] fp1, Ty.item TForm a2 [u2_0] fp2]) (by decide) rfl rfl
      exact hK110 (r140.terms, IntKind.i64.wrap (s105.2 + 1)) _ _ ⟨u141, h0_, h4_, h5_, h6_, h7_, rfl, hC⟩ h
    · replace h := iff_ h (cf hb115)
      refine wp_exit (then_exit (then_exit (exit_in ?_)))
      refine then_norm ?_
      refine wp_seq ?_
      refine cw_region ?_
      refine s_loadA hC 1 [v106] rfl ag51 h7_ rfl rfl ?_
      refine s_store (v := .agg #[v106]) hC 2 [v106] [v106] rfl ag51.size h6_ rfl rfl rfl (all_c (own_oneC (hC.getM 0 rfl)) rfl) (Nat.le_of_ble_eq_true rfl) rfl fun w151 hC => ?_
      refine done ?_
      refine then_norm ?_
      refine wp_ret ?_
      refine ret1 (fn := Try.f111) rfl ?_ ⟨(⟨s105.1⟩ : Vc.Form), v106, (Option.toList (Value.ownBlock v106)), rfl, h, (form_join (own_item (hC.getM 0 rfl))), (own_fresh hC 0 rfl), hC.below⟩ (.inl rfl)
      exact res_cellA hC 2 rfl ag51 h6_ rfl
  · skip
    replace hC := hC.pushNil 93 9
    exact ⟨.slice none 0 0, rfl, rfl, rfl, rfl, rfl, rfl, hC⟩
def f_spec_l01Is (a0 : List Int) (a1 : Vc.Form) (K : Bool → Prop) : Prop :=
  whileP (fun (s96 : Int) next97 => (if s96 < (a1.terms.length : Int) then ((0 ≤ s96 ∧ s96 < (a1.terms.length : Int)) ∧ f_spec_l01Mono a0 ((a1.terms.getD s96.toNat default).mono) (fun r120 => (if ¬ (r120 = true) then K false else f_spec_l01In ((a1.terms.getD s96.toNat default).factor) 1 10006 (fun r126 => (if ¬ (r126 = true) then K false else (if s96 > 0 then ((0 ≤ IntKind.i64.wrap (s96 - 1) ∧ IntKind.i64.wrap (s96 - 1) < (a1.terms.length : Int)) ∧ f_spec_l01Before ((a1.terms.getD ((IntKind.i64.wrap (s96 - 1)).toNat) default).mono) ((a1.terms.getD s96.toNat default).mono) (fun r138 => (if ¬ (r138 = true) then K false else next97 (IntKind.i64.wrap (s96 + 1))))) else next97 (IntKind.i64.wrap (s96 + 1)))))))) else K (decide ((a1.terms.length : Int) ≤ 400)))) 0
theorem c_spec_l01Is (a0 : List Int) (a1 : Vc.Form) {u0_0 : Value} {u1_0 : Value} {fp0 : List Nat} {fp1 : List Nat} {K : Bool → Prop} (h : f_spec_l01Is a0 a1 K) (w0 : World) (q0 : ((EI .i64).ty.sl).rep a0 [u0_0] fp0 w0) (q1 : TForm.rep a1 [u1_0] fp1 w0) :
    Calls Try.prog 87 #[u0_0, .agg #[u1_0]] w0 fun e w' => ∃ (r0 : Bool), 
      e = .returned (.bool r0) ∧ K r0 ∧ Bel w0 w' := by
  unfold f_spec_l01Is at h
  refine calls_of (args := [u0_0, .agg #[u1_0]]) Try.func87 rfl 51 Try.ntmps87 (Nat.le_of_ble_eq_true rfl) ?_
  have hC := Ctx.start (X := Nox) w0 [Ty.item ((EI .i64).ty.sl) a0 [u0_0] fp0, Ty.item TForm a1 [u1_0] fp1] (by simp only [List.mem_cons, List.not_mem_nil, or_false, forall_eq_or_imp, forall_eq]; exact ⟨q0, q1⟩)
  have hp3 := (hC.getP 1 rfl)
  replace hC := hC.derive 1 rfl (Ty.item ETerm.ty.sl a1.terms [u1_0] fp1) (fun _ => (form_parts hp3)) (fun _ hb_ => hb_)
  refine wp_seq ?_
  refine cw_region ?_
  refine s_box (v := .agg #[u1_0]) hC [u1_0] rfl rfl fun b5 w7 hB_ hC => ?_
  refine s_as (v := .bool false) rfl ?_
  refine done ?_
  refine then_norm ?_
  refine wp_seq ?_
  refine wp_seq ?_
  refine cw_region ?_
  refine s_as (v := .int .i64 0) rfl ?_
  refine done ?_
  refine then_norm ?_
  refine wp_block ?_
  refine loopW (S := Int) _ (fun s96 e_ w_ => e_ 0 = u0_0 ∧ e_ 3 = .pointer (some ⟨b5, 0, none⟩) ∧ e_ 4 = .bool false ∧ e_ 5 = .int .i64 s96 ∧ Ctx Nox w0 w_ [blk b5 51 [u1_0]] [Ty.item ETerm.ty.sl a1.terms [u1_0] fp1, Ty.item ((EI .i64).ty.sl) a0 [u0_0] fp0, Ty.item TForm a1 [u1_0] fp1]) ?_ (s0 := 0) ?_ h
  · clear hC h
    rintro s96 e_ w100 next97 K98 ⟨h0_, h3_, h4_, h5_, hC⟩ h hK99
    refine wp_seq ?_
    refine wp_seq ?_
    refine cw_region ?_
    refine s_mv (v := .int .i64 s96) h5_ ?_
    refine s_faddrB 0 Try.underlying51 rfl sc49.size h3_ rfl ?_
    refine s_loadS hC 0 (u1_0) rfl sc49 rfl rfl ?_
    obtain ⟨Ad101, c102, hv103⟩ := sl_len (hC.getP 0 rfl)
    refine s_len Try.underlying49 (tr rfl hv103) ?_
    refine s_lss rfl rfl ?_
    refine done ?_
    refine then_norm ?_
    refine cw_cond rfl (fun hb104 => ?_) (fun hb104 => ?_)
    · replace h := ift h (ct hb104)
      refine wp_skip ?_
      refine then_norm ?_
      refine wp_seq ?_
      refine wp_block ?_
      refine wp_seq ?_
      refine cw_region ?_
      refine s_faddrB 0 Try.underlying51 rfl sc49.size h3_ rfl ?_
      refine s_loadS hC 0 (u1_0) rfl sc49 rfl rfl ?_
      refine s_mv (v := .int .i64 s96) h5_ ?_
      obtain ⟨⟨h0_105, h1_106⟩, h⟩ := h
      obtain ⟨Ad107, c108, hv109⟩ := sl_form (hC.getP 0 rfl) s96.toNat (show s96.toNat < a1.terms.length by omega)
      refine s_iaddrS (len := a1.terms.length) Try.underlying49 ag93.size (tr rfl hv109) rfl h0_105 h1_106 ?_
      refine s_loadCA (Term.enc (a1.terms.getD s96.toNat default)) (sl_cellsE (hC.getP 0 rfl) hv109 s96.toNat (show s96.toNat < a1.terms.length by omega)) ag93 rfl rfl ?_
      refine s_alloc hC (Term.enc (⟨A8.zero, 0⟩ : Term)) z93 rfl fun b110 w112 hB_ hC => ?_
      refine s_store (v := .agg (List.toArray (Term.enc (a1.terms.getD s96.toNat default)))) hC 0 (Term.enc (a1.terms.getD s96.toNat default)) (Term.enc (a1.terms.getD s96.toNat default)) rfl ag93.size rfl rfl rfl rfl rfl (Nat.le_of_ble_eq_true rfl) rfl fun w113 hC => ?_
      refine done ?_
      refine then_norm ?_
      refine wp_seq ?_
      refine cw_draw 24 mixed [0, 0, 2, 7, 15, 31, 63, 127, 255, 511, 1023, 2047, 4095, 8191, 16383, 32767, 65535, 32767, 163839, 524287, 1048575, 2097151, 32767, 4227071, 16777215, 33554431, 67108863, 134217727] [2, 7, 16, 19, 21, 23] [0, 1, 4, 5, 6, 7, 8, 9, 10, 11, 12, 13, 14, 15, 16, 17, 18, 19, 20, 21, 22, 23] (by kernel_rfl) (by kernel_rfl) (by kernel_rfl) (fun hM115 hM116 w114 hB_ => ?_)
      replace hC := hC.grow hB_
      refine ae_lookF 0 (u0_0) rfl rfl (by kernel_rfl) (hM116 0 rfl) (fun w_ => .inl ⟨rfl, by exact r_mv (v := u0_0) h0_⟩) (listed' := (List.toArray [true, false, false, false, false, false, false, false, false, false, false, false, false, false, false, false, false, false, false, false, false, false, false, false, false, false, false, false])) rfl ?_
      refine ae_lookF 1 (.pointer (some ⟨b110, 0, none⟩)) rfl rfl (by kernel_rfl) (hM116 1 rfl) (fun w_ => .inl ⟨rfl, by exact r_faddrB 0 Try.underlying93 rfl ag24.size rfl rfl⟩) (listed' := (List.toArray [true, true, false, false, false, false, false, false, false, false, false, false, false, false, false, false, false, false, false, false, false, false, false, false, false, false, false, false])) rfl ?_
      refine ae_look 2 (.agg (List.toArray (A8.enc .u8 ((a1.terms.getD s96.toNat default).mono)))) rfl rfl (by kernel_rfl) (hM115 2 rfl) (fun w_ hB_ => .inl ⟨rfl, by exact r_loadA (hC.grow hB_) 0 (A8.enc .u8 ((a1.terms.getD s96.toNat default).mono)) rfl ag24 rfl rfl rfl⟩) (listed' := (List.toArray [true, true, true, false, false, false, false, false, false, false, false, false, false, false, false, false, false, false, false, false, false, false, false, false, false, false, false, false])) rfl ?_
      refine ae_one 3 rfl (by kernel_rfl) ?_
      refine s_call [u0_0, .agg (List.toArray (A8.enc .u8 ((a1.terms.getD s96.toNat default).mono)))] _ Try.func62 rfl rfl rfl (c_spec_l01Mono a0 ((a1.terms.getD s96.toNat default).mono) h _ (hC.getP 1 rfl)) (fun ret117 w119 hR118 => ?_)
      obtain ⟨r120, rfl, h, hB121⟩ := hR118
      refine ⟨_, rfl, ?_⟩
      replace hC := hC.grow hB121
      refine done ?_
      refine ak_intro (by assumption) (listed' := (List.toArray [true, true, true, true, false, false, false, false, false, false, false, false, false, false, false, false, false, false, false, false, false, false, false, false, false, false, false, false])) rfl ?_
      refine ae_lookF 4 (.bool (!r120)) rfl rfl (by kernel_rfl) (hM116 4 rfl) (fun w_ => .inl ⟨rfl, by exact r_not rfl⟩) (listed' := (List.toArray [true, true, true, true, true, false, false, false, false, false, false, false, false, false, false, false, false, false, false, false, false, false, false, false, false, false, false, false])) rfl ?_
      refine ae_lookF 5 (.bool (!r120)) rfl rfl (by kernel_rfl) (hM116 5 rfl) (fun w_ => .inl ⟨rfl, by exact r_mv (v := .bool (!r120)) rfl⟩) (listed' := (List.toArray [true, true, true, true, true, true, false, false, false, false, false, false, false, false, false, false, false, false, false, false, false, false, false, false, false, false, false, false])) rfl ?_
      refine bsplit (!r120) (fun hb122 => ?_) (fun hb122 => ?_)
      · replace h := ift h (ne_t (not_t hb122))
        refine ae_lookF 6 undef rfl rfl (by kernel_rfl) (hM116 6 rfl) (fun w_ => .inr ⟨wanted_off (b := true) 5 24 rfl (tr rfl (congrArg _ hb122)) (by decide), rfl⟩) (listed' := (List.toArray [true, true, true, true, true, true, true, false, false, false, false, false, false, false, false, false, false, false, false, false, false, false, false, false, false, false, false, false])) rfl ?_
        refine ae_lookF 7 undef rfl rfl (by kernel_rfl) (hM116 7 rfl) (fun w_ => .inr ⟨wanted_off (b := true) 5 24 rfl (tr rfl (congrArg _ hb122)) (by decide), rfl⟩) (listed' := (List.toArray [true, true, true, true, true, true, true, true, false, false, false, false, false, false, false, false, false, false, false, false, false, false, false, false, false, false, false, false])) rfl ?_
        refine ae_lookF 8 undef rfl rfl (by kernel_rfl) (hM116 8 rfl) (fun w_ => .inr ⟨wanted_off (b := true) 5 24 rfl (tr rfl (congrArg _ hb122)) (by decide), rfl⟩) (listed' := (List.toArray [true, true, true, true, true, true, true, true, true, false, false, false, false, false, false, false, false, false, false, false, false, false, false, false, false, false, false, false])) rfl ?_
        refine ae_lookF 9 undef rfl rfl (by kernel_rfl) (hM116 9 rfl) (fun w_ => .inr ⟨wanted_off (b := true) 5 24 rfl (tr rfl (congrArg _ hb122)) (by decide), rfl⟩) (listed' := (List.toArray [true, true, true, true, true, true, true, true, true, true, false, false, false, false, false, false, false, false, false, false, false, false, false, false, false, false, false, false])) rfl ?_
        refine ae_lookF 10 (.bool true) rfl rfl (by kernel_rfl) (hM116 10 rfl) (fun w_ => .inl ⟨rfl, by exact r_pick (v := .bool true) (b := true) (by exact tr rfl (congrArg _ hb122)) rfl⟩) (listed' := (List.toArray [true, true, true, true, true, true, true, true, true, true, true, false, false, false, false, false, false, false, false, false, false, false, false, false, false, false, false, false])) rfl ?_
        refine ae_lookF 11 (.bool true) rfl rfl (by kernel_rfl) (hM116 11 rfl) (fun w_ => .inl ⟨rfl, by exact r_mv (v := .bool true) rfl⟩) (listed' := (List.toArray [true, true, true, true, true, true, true, true, true, true, true, true, false, false, false, false, false, false, false, false, false, false, false, false, false, false, false, false])) rfl ?_
        refine ae_lookF 12 undef rfl rfl (by kernel_rfl) (hM116 12 rfl) (fun w_ => .inr ⟨wanted_off (b := true) 11 30 rfl (tr rfl (congrArg _ rfl)) (by decide), rfl⟩) (listed' := (List.toArray [true, true, true, true, true, true, true, true, true, true, true, true, true, false, false, false, false, false, false, false, false, false, false, false, false, false, false, false])) rfl ?_
        refine ae_lookF 13 undef rfl rfl (by kernel_rfl) (hM116 13 rfl) (fun w_ => .inr ⟨wanted_off (b := true) 11 30 rfl (tr rfl (congrArg _ rfl)) (by decide), rfl⟩) (listed' := (List.toArray [true, true, true, true, true, true, true, true, true, true, true, true, true, true, false, false, false, false, false, false, false, false, false, false, false, false, false, false])) rfl ?_
        refine ae_lookF 14 undef rfl rfl (by kernel_rfl) (hM116 14 rfl) (fun w_ => .inr ⟨wanted_off (b := true) 11 30 rfl (tr rfl (congrArg _ rfl)) (by decide), rfl⟩) (listed' := (List.toArray [true, true, true, true, true, true, true, true, true, true, true, true, true, true, true, false, false, false, false, false, false, false, false, false, false, false, false, false])) rfl ?_
        refine ae_lookF 15 undef rfl rfl (by kernel_rfl) (hM116 15 rfl) (fun w_ => .inr ⟨wanted_offU 14 33 rfl rfl, rfl⟩) (listed' := (List.toArray [true, true, true, true, true, true, true, true, true, true, true, true, true, true, true, true, false, false, false, false, false, false, false, false, false, false, false, false])) rfl ?_
        refine ae_lookF 16 undef rfl rfl (by kernel_rfl) (hM116 16 rfl) (fun w_ => .inr ⟨wanted_offU 14 33 rfl rfl, rfl⟩) (listed' := (List.toArray [true, true, true, true, true, true, true, true, true, true, true, true, true, true, true, true, true, false, false, false, false, false, false, false, false, false, false, false])) rfl ?_
        refine ae_lookF 17 undef rfl rfl (by kernel_rfl) (hM116 17 rfl) (fun w_ => .inr ⟨wanted_offU 14 33 rfl rfl, rfl⟩) (listed' := (List.toArray [true, true, true, true, true, true, true, true, true, true, true, true, true, true, true, true, true, true, false, false, false, false, false, false, false, false, false, false])) rfl ?_
        refine ae_lookF 18 undef rfl rfl (by kernel_rfl) (hM116 18 rfl) (fun w_ => .inr ⟨wanted_offU 14 33 rfl rfl, rfl⟩) (listed' := (List.toArray [true, true, true, true, true, true, true, true, true, true, true, true, true, true, true, true, true, true, true, false, false, false, false, false, false, false, false, false])) rfl ?_
        refine ae_lookF 19 undef rfl rfl (by kernel_rfl) (hM116 19 rfl) (fun w_ => .inr ⟨wanted_offU 14 33 rfl rfl, rfl⟩) (listed' := (List.toArray [true, true, true, true, true, true, true, true, true, true, true, true, true, true, true, true, true, true, true, true, false, false, false, false, false, false, false, false])) rfl ?_
        refine ae_lookF 20 undef rfl rfl (by kernel_rfl) (hM116 20 rfl) (fun w_ => .inr ⟨wanted_offU 14 33 rfl rfl, rfl⟩) (listed' := (List.toArray [true, true, true, true, true, true, true, true, true, true, true, true, true, true, true, true, true, true, true, true, true, false, false, false, false, false, false, false])) rfl ?_
        refine ae_lookF 21 undef rfl rfl (by kernel_rfl) (hM116 21 rfl) (fun w_ => .inr ⟨wanted_offU 14 33 rfl rfl, rfl⟩) (listed' := (List.toArray [true, true, true, true, true, true, true, true, true, true, true, true, true, true, true, true, true, true, true, true, true, true, false, false, false, false, false, false])) rfl ?_
        refine ae_lookF 22 undef rfl rfl (by kernel_rfl) (hM116 22 rfl) (fun w_ => .inr ⟨wanted_offU 14 33 rfl rfl, rfl⟩) (listed' := (List.toArray [true, true, true, true, true, true, true, true, true, true, true, true, true, true, true, true, true, true, true, true, true, true, true, false, false, false, false, false])) rfl ?_
        refine ae_lookF 23 undef rfl rfl (by kernel_rfl) (hM116 23 rfl) (fun w_ => .inr ⟨wanted_offU 14 33 rfl rfl, rfl⟩) (listed' := (List.toArray [true, true, true, true, true, true, true, true, true, true, true, true, true, true, true, true, true, true, true, true, true, true, true, true, false, false, false, false])) rfl ?_
        refine ae_tail 24 (by decide) (by decide) (by kernel_rfl) rfl rfl ?_
        refine guardOffU 14 33 rfl rfl ?_
        refine guardOffU 14 33 rfl rfl ?_
        refine guardOff (b := true) 11 30 rfl (tr rfl (congrArg _ rfl)) (by decide) ?_
        refine s_pick (v := .bool true) (b := true) rfl rfl ?_
        refine done ?_
        refine qn_norm ?_
        refine then_norm ?_
        refine cw_true rfl rfl ?_
        refine wp_seq ?_
        refine cw_region ?_
        refine s_as (v := .bool false) rfl ?_
        refine done ?_
        refine then_norm ?_
        refine wp_ret (blk_ret (then_ret (then_ret (blk_ret (then_ret ?_)))))
        refine ret1 (fn := Try.f87) rfl ?_ ⟨false, rfl, h, hC.below⟩ (.inl rfl)
        exact res_tmp rfl
      · replace h := iff_ h (not_not_intro ((not_f hb122)))
        refine ae_lookF 6 (.pointer (some ⟨b110, 8, none⟩)) rfl rfl (by kernel_rfl) (hM116 6 rfl) (fun w_ => .inl ⟨wanted_on 5 24 rfl rfl hb122, by exact r_faddrB 8 Try.underlying93 rfl sc2.size rfl rfl⟩) (listed' := (List.toArray [true, true, true, true, true, true, true, false, false, false, false, false, false, false, false, false, false, false, false, false, false, false, false, false, false, false, false, false])) rfl ?_
        refine ae_look 7 (.int .i64 ((a1.terms.getD s96.toNat default).factor)) rfl rfl (by kernel_rfl) (hM115 7 rfl) (fun w_ hB_ => .inl ⟨wanted_on 5 24 rfl rfl hb122, by exact r_loadS (hC.grow hB_) 0 (.int .i64 ((a1.terms.getD s96.toNat default).factor)) rfl sc2 rfl rfl⟩) (listed' := (List.toArray [true, true, true, true, true, true, true, true, false, false, false, false, false, false, false, false, false, false, false, false, false, false, false, false, false, false, false, false])) rfl ?_
        refine ae_one 8 rfl (by kernel_rfl) ?_
        refine guardOn 5 24 rfl rfl hb122 ?_
        refine s_call [.int .i64 ((a1.terms.getD s96.toNat default).factor), .int .i64 1, .int .i64 10006] _ Try.func67 rfl rfl rfl (c_spec_l01In ((a1.terms.getD s96.toNat default).factor) 1 10006 h _) (fun ret123 w125 hR124 => ?_)
        obtain ⟨r126, rfl, h, hB127⟩ := hR124
        refine ⟨_, rfl, ?_⟩
        replace hC := hC.grow hB127
        refine done ?_
        refine ak_intro (by assumption) (listed' := (List.toArray [true, true, true, true, true, true, true, true, true, false, false, false, false, false, false, false, false, false, false, false, false, false, false, false, false, false, false, false])) rfl ?_
        refine ae_lookF 9 (.bool (!r126)) rfl rfl (by kernel_rfl) (hM116 9 rfl) (fun w_ => .inl ⟨wanted_on 5 24 rfl rfl hb122, by exact r_not rfl⟩) (listed' := (List.toArray [true, true, true, true, true, true, true, true, true, true, false, false, false, false, false, false, false, false, false, false, false, false, false, false, false, false, false, false])) rfl ?_
        refine ae_lookF 10 (.bool (!r126)) rfl rfl (by kernel_rfl) (hM116 10 rfl) (fun w_ => .inl ⟨rfl, by exact r_pick (v := .bool (!r126)) (b := false) (by exact tr rfl (congrArg _ hb122)) rfl⟩) (listed' := (List.toArray [true, true, true, true, true, true, true, true, true, true, true, false, false, false, false, false, false, false, false, false, false, false, false, false, false, false, false, false])) rfl ?_
        refine ae_lookF 11 (.bool (!r126)) rfl rfl (by kernel_rfl) (hM116 11 rfl) (fun w_ => .inl ⟨rfl, by exact r_mv (v := .bool (!r126)) rfl⟩) (listed' := (List.toArray [true, true, true, true, true, true, true, true, true, true, true, true, false, false, false, false, false, false, false, false, false, false, false, false, false, false, false, false])) rfl ?_
        refine bsplit (!r126) (fun hb128 => ?_) (fun hb128 => ?_)
        · replace h := ift h (ne_t (not_t hb128))
          refine ae_lookF 12 undef rfl rfl (by kernel_rfl) (hM116 12 rfl) (fun w_ => .inr ⟨wanted_off (b := true) 11 30 rfl (tr rfl (congrArg _ hb128)) (by decide), rfl⟩) (listed' := (List.toArray [true, true, true, true, true, true, true, true, true, true, true, true, true, false, false, false, false, false, false, false, false, false, false, false, false, false, false, false])) rfl ?_
          refine ae_lookF 13 undef rfl rfl (by kernel_rfl) (hM116 13 rfl) (fun w_ => .inr ⟨wanted_off (b := true) 11 30 rfl (tr rfl (congrArg _ hb128)) (by decide), rfl⟩) (listed' := (List.toArray [true, true, true, true, true, true, true, true, true, true, true, true, true, true, false, false, false, false, false, false, false, false, false, false, false, false, false, false])) rfl ?_
          refine ae_lookF 14 undef rfl rfl (by kernel_rfl) (hM116 14 rfl) (fun w_ => .inr ⟨wanted_off (b := true) 11 30 rfl (tr rfl (congrArg _ hb128)) (by decide), rfl⟩) (listed' := (List.toArray [true, true, true, true, true, true, true, true, true, true, true, true, true, true, true, false, false, false, false, false, false, false, false, false, false, false, false, false])) rfl ?_
          refine ae_lookF 15 undef rfl rfl (by kernel_rfl) (hM116 15 rfl) (fun w_ => .inr ⟨wanted_offU 14 33 rfl rfl, rfl⟩) (listed' := (List.toArray [true, true, true, true, true, true, true, true, true, true, true, true, true, true, true, true, false, false, false, false, false, false, false, false, false, false, false, false])) rfl ?_
          refine ae_lookF 16 undef rfl rfl (by kernel_rfl) (hM116 16 rfl) (fun w_ => .inr ⟨wanted_offU 14 33 rfl rfl, rfl⟩) (listed' := (List.toArray [true, true, true, true, true, true, true, true, true, true, true, true, true, true, true, true, true, false, false, false, false, false, false, false, false, false, false, false])) rfl ?_
          refine ae_lookF 17 undef rfl rfl (by kernel_rfl) (hM116 17 rfl) (fun w_ => .inr ⟨wanted_offU 14 33 rfl rfl, rfl⟩) (listed' := (List.toArray [true, true, true, true, true, true, true, true, true, true, true, true, true, true, true, true, true, true, false, false, false, false, false, false, false, false, false, false])) rfl ?_
          refine ae_lookF 18 undef rfl rfl (by kernel_rfl) (hM116 18 rfl) (fun w_ => .inr ⟨wanted_offU 14 33 rfl rfl, rfl⟩) (listed' := (List.toArray [true, true, true, true, true, true, true, true, true, true, true, true, true, true, true, true, true, true, true, false, false, false, false, false, false, false, false, false])) rfl ?_
          refine ae_lookF 19 undef rfl rfl (by kernel_rfl) (hM116 19 rfl) (fun w_ => .inr ⟨wanted_offU 14 33 rfl rfl, rfl⟩) (listed' := (List.toArray [true, true, true, true, true, true, true, true, true, true, true, true, true, true, true, true, true, true, true, true, false, false, false, false, false, false, false, false])) rfl ?_
          refine ae_lookF 20 undef rfl rfl (by kernel_rfl) (hM116 20 rfl) (fun w_ => .inr ⟨wanted_offU 14 33 rfl rfl, rfl⟩) (listed' := (List.toArray [true, true, true, true, true, true, true, true, true, true, true, true, true, true, true, true, true, true, true, true, true, false, false, false, false, false, false, false])) rfl ?_
          refine ae_lookF 21 undef rfl rfl (by kernel_rfl) (hM116 21 rfl) (fun w_ => .inr ⟨wanted_offU 14 33 rfl rfl, rfl⟩) (listed' := (List.toArray [true, true, true, true, true, true, true, true, true, true, true, true, true, true, true, true, true, true, true, true, true, true, false, false, false, false, false, false])) rfl ?_
          refine ae_lookF 22 undef rfl rfl (by kernel_rfl) (hM116 22 rfl) (fun w_ => .inr ⟨wanted_offU 14 33 rfl rfl, rfl⟩) (listed' := (List.toArray [true, true, true, true, true, true, true, true, true, true, true, true, true, true, true, true, true, true, true, true, true, true, true, false, false, false, false, false])) rfl ?_
          refine ae_lookF 23 undef rfl rfl (by kernel_rfl) (hM116 23 rfl) (fun w_ => .inr ⟨wanted_offU 14 33 rfl rfl, rfl⟩) (listed' := (List.toArray [true, true, true, true, true, true, true, true, true, true, true, true, true, true, true, true, true, true, true, true, true, true, true, true, false, false, false, false])) rfl ?_
          refine ae_tail 24 (by decide) (by decide) (by kernel_rfl) rfl rfl ?_
          refine guardOffU 14 33 rfl rfl ?_
          refine guardOffU 14 33 rfl rfl ?_
          refine guardOff (b := true) 11 30 rfl (tr rfl (congrArg _ hb128)) (by decide) ?_
          refine s_pick (v := .bool true) (b := true) (tr rfl (congrArg _ hb128)) rfl ?_
          refine done ?_
          refine qn_norm ?_
          refine then_norm ?_
          refine cw_true rfl rfl ?_
          refine wp_seq ?_
          refine cw_region ?_
          refine s_as (v := .bool false) rfl ?_
          refine done ?_
          refine then_norm ?_
          refine wp_ret (blk_ret (then_ret (then_ret (blk_ret (then_ret ?_)))))
          refine ret1 (fn := Try.f87) rfl ?_ ⟨false, rfl, h, hC.below⟩ (.inl rfl)
          exact res_tmp rfl
        · replace h := iff_ h (not_not_intro ((not_f hb128)))
          refine ae_lookF 12 (.int .i64 s96) rfl rfl (by kernel_rfl) (hM116 12 rfl) (fun w_ => .inl ⟨wanted_on 11 30 rfl rfl hb128, by exact r_mv (v := .int .i64 s96) h5_⟩) (listed' := (List.toArray [true, true, true, true, true, true, true, true, true, true, true, true, true, false, false, false, false, false, false, false, false, false, false, false, false, false, false, false])) rfl ?_
          refine ae_lookF 13 (.bool (decide (s96 > 0))) rfl rfl (by kernel_rfl) (hM116 13 rfl) (fun w_ => .inl ⟨wanted_on 11 30 rfl rfl hb128, by exact r_gtr rfl rfl⟩) (listed' := (List.toArray [true, true, true, true, true, true, true, true, true, true, true, true, true, true, false, false, false, false, false, false, false, false, false, false, false, false, false, false])) rfl ?_
          refine ae_lookF 14 (.bool (decide (s96 > 0))) rfl rfl (by kernel_rfl) (hM116 14 rfl) (fun w_ => .inl ⟨wanted_on 11 30 rfl rfl hb128, by exact r_mv (v := .bool (decide (s96 > 0))) rfl⟩) (listed' := (List.toArray [true, true, true, true, true, true, true, true, true, true, true, true, true, true, true, false, false, false, false, false, false, false, false, false, false, false, false, false])) rfl ?_
          refine bsplit (decide (s96 > 0)) (fun hb129 => ?_) (fun hb129 => ?_)
          · replace h := ift h (ct hb129)
            refine ae_lookF 15 (.pointer (some ⟨b5, 0, none⟩)) rfl rfl (by kernel_rfl) (hM116 15 rfl) (fun w_ => .inl ⟨wanted_on 14 33 rfl rfl hb129, by exact r_faddrB 0 Try.underlying51 rfl sc49.size h3_ rfl⟩) (listed' := (List.toArray [true, true, true, true, true, true, true, true, true, true, true, true, true, true, true, true, false, false, false, false, false, false, false, false, false, false, false, false])) rfl ?_
            refine ae_look 16 (u1_0) rfl rfl (by kernel_rfl) (hM115 16 rfl) (fun w_ hB_ => .inl ⟨wanted_on 14 33 rfl rfl hb129, by exact r_loadS (hC.grow hB_) 1 (u1_0) rfl sc49 rfl rfl⟩) (listed' := (List.toArray [true, true, true, true, true, true, true, true, true, true, true, true, true, true, true, true, true, false, false, false, false, false, false, false, false, false, false, false])) rfl ?_
            refine ae_lookF 17 (.int .i64 s96) rfl rfl (by kernel_rfl) (hM116 17 rfl) (fun w_ => .inl ⟨wanted_on 14 33 rfl rfl hb129, by exact r_mv (v := .int .i64 s96) h5_⟩) (listed' := (List.toArray [true, true, true, true, true, true, true, true, true, true, true, true, true, true, true, true, true, true, false, false, false, false, false, false, false, false, false, false])) rfl ?_
            refine ae_lookF 18 (.int .i64 (IntKind.i64.wrap (s96 - 1))) rfl rfl (by kernel_rfl) (hM116 18 rfl) (fun w_ => .inl ⟨wanted_on 14 33 rfl rfl hb129, by exact r_sub rfl rfl⟩) (listed' := (List.toArray [true, true, true, true, true, true, true, true, true, true, true, true, true, true, true, true, true, true, true, false, false, false, false, false, false, false, false, false])) rfl ?_
            obtain ⟨⟨h0_130, h1_131⟩, h⟩ := h
            obtain ⟨Ad132, c133, hv134⟩ := sl_form (hC.getP 0 rfl) ((IntKind.i64.wrap (s96 - 1)).toNat) (show (IntKind.i64.wrap (s96 - 1)).toNat < a1.terms.length by omega)
            refine ae_look 19 (.pointer (some (Ad132.add ((IntKind.i64.wrap (s96 - 1)).toNat * 9)))) rfl rfl (by kernel_rfl) (hM115 19 rfl) (fun w_ hB_ => .inl ⟨wanted_on 14 33 rfl rfl hb129, by exact r_iaddrS (len := a1.terms.length) Try.underlying49 ag93.size (by exact tr rfl hv134) rfl h0_130 h1_131⟩) (listed' := (List.toArray [true, true, true, true, true, true, true, true, true, true, true, true, true, true, true, true, true, true, true, true, false, false, false, false, false, false, false, false])) rfl ?_
            refine ae_lookF 20 (.pointer (some (Ad132.add ((IntKind.i64.wrap (s96 - 1)).toNat * 9 + 0)))) rfl rfl (by kernel_rfl) (hM116 20 rfl) (fun w_ => .inl ⟨wanted_on 14 33 rfl rfl hb129, by exact r_faddrS ((IntKind.i64.wrap (s96 - 1)).toNat * 9 + 0) Try.underlying93 rfl ag24.size rfl rfl⟩) (listed' := (List.toArray [true, true, true, true, true, true, true, true, true, true, true, true, true, true, true, true, true, true, true, true, true, false, false, false, false, false, false, false])) rfl ?_
            refine ae_look 21 (.agg (List.toArray (A8.enc .u8 ((a1.terms.getD ((IntKind.i64.wrap (s96 - 1)).toNat) default).mono)))) rfl rfl (by kernel_rfl) (hM115 21 rfl) (fun w_ hB_ => .inl ⟨wanted_on 14 33 rfl rfl hb129, by exact r_loadCA (A8.enc .u8 ((a1.terms.getD ((IntKind.i64.wrap (s96 - 1)).toNat) default).mono)) (cells_subS (o := 0) (k := 8) (sl_cellsE ((hC.grow hB_).getP 0 rfl) hv134 ((IntKind.i64.wrap (s96 - 1)).toNat) (show (IntKind.i64.wrap (s96 - 1)).toNat < a1.terms.length by omega)) rfl) ag24 rfl rfl⟩) (listed' := (List.toArray [true, true, true, true, true, true, true, true, true, true, true, true, true, true, true, true, true, true, true, true, true, true, false, false, false, false, false, false])) rfl ?_
            refine ae_lookF 22 (.pointer (some ⟨b110, 0, none⟩)) rfl rfl (by kernel_rfl) (hM116 22 rfl) (fun w_ => .inl ⟨wanted_on 14 33 rfl rfl hb129, by exact r_faddrB 0 Try.underlying93 rfl ag24.size rfl rfl⟩) (listed' := (List.toArray [true, true, true, true, true, true, true, true, true, true, true, true, true, true, true, true, true, true, true, true, true, true, true, false, false, false, false, false])) rfl ?_
            refine ae_look 23 (.agg (List.toArray (A8.enc .u8 ((a1.terms.getD s96.toNat default).mono)))) rfl rfl (by kernel_rfl) (hM115 23 rfl) (fun w_ hB_ => .inl ⟨wanted_on 14 33 rfl rfl hb129, by exact r_loadA (hC.grow hB_) 0 (A8.enc .u8 ((a1.terms.getD s96.toNat default).mono)) rfl ag24 rfl rfl rfl⟩) (listed' := (List.toArray [true, true, true, true, true, true, true, true, true, true, true, true, true, true, true, true, true, true, true, true, true, true, true, true, false, false, false, false])) rfl ?_
            refine ae_tail 24 (by decide) (by decide) (by kernel_rfl) rfl rfl ?_
            refine guardOn 14 33 rfl rfl hb129 ?_
            refine s_call [.agg (List.toArray (A8.enc .u8 ((a1.terms.getD ((IntKind.i64.wrap (s96 - 1)).toNat) default).mono))), .agg (List.toArray (A8.enc .u8 ((a1.terms.getD s96.toNat default).mono)))] _ Try.func118 rfl rfl rfl (c_spec_l01Before ((a1.terms.getD ((IntKind.i64.wrap (s96 - 1)).toNat) default).mono) ((a1.terms.getD s96.toNat default).mono) h _) (fun ret135 w137 hR136 => ?_)
            obtain ⟨r138, rfl, h, hB139⟩ := hR136
            refine ⟨_, rfl, ?_⟩
            replace hC := hC.grow hB139
            refine guardOn 14 33 rfl rfl hb129 ?_
            refine s_not rfl ?_
            refine guardOn 11 30 rfl rfl hb128 ?_
            refine s_pick (v := .bool (!r138)) (b := true) (tr rfl (congrArg _ hb129)) rfl ?_
            refine s_pick (v := .bool (!r138)) (b := false) (tr rfl (congrArg _ hb128)) rfl ?_
            refine done ?_
            refine qn_norm ?_
            refine then_norm ?_
            refine cw_cond rfl (fun hb140 => ?_) (fun hb140 => ?_)
            · replace h := ift h (ne_t (not_t hb140))
              refine wp_seq ?_
              refine cw_region ?_
              refine s_as (v := .bool false) rfl ?_
              refine done ?_
              refine then_norm ?_
              refine wp_ret (blk_ret (then_ret (then_ret (blk_ret (then_ret ?_)))))
              refine ret1 (fn := Try.f87) rfl ?_ ⟨false, rfl, h, hC.below⟩ (.inl rfl)
              exact res_tmp rfl
            · replace h := iff_ h (not_not_intro ((not_f hb140)))
              refine wp_skip ?_
              refine blk_norm ?_
              refine then_norm ?_
              refine cw_region ?_
              refine s_mv (v := .int .i64 s96) h5_ ?_
              refine s_add rfl rfl ?_
              refine s_as (v := .int .i64 (IntKind.i64.wrap (s96 + 1))) rfl ?_
              refine done ?_
              replace hC := hC.sel [1] [0, 1, 2] (M' := [blk b5 51 [u1_0]]) (Ps' := [Ty.item ETerm.ty.sl a1.terms [u1_0] fp1, Ty.item ((EI .i64).ty.sl) a0 [u0_0] fp0, Ty.item TForm a1 [u1_0] fp1]) (by decide) rfl rfl
              exact hK99 (IntKind.i64.wrap (s96 + 1)) _ _ ⟨h0_, h3_, h4_, rfl, hC⟩ h
          · replace h := iff_ h (cf hb129)
            refine ae_lookF 15 undef rfl rfl (by kernel_rfl) (hM116 15 rfl) (fun w_ => .inr ⟨wanted_off (b := false) 14 33 rfl (tr rfl (congrArg _ hb129)) (by decide), rfl⟩) (listed' := (List.toArray [true, true, true, true, true, true, true, true, true, true, true, true, true, true, true, true, false, false, false, false, false, false, false, false, false, false, false, false])) rfl ?_
            refine ae_lookF 16 undef rfl rfl (by kernel_rfl) (hM116 16 rfl) (fun w_ => .inr ⟨wanted_off (b := false) 14 33 rfl (tr rfl (congrArg _ hb129)) (by decide), rfl⟩) (listed' := (List.toArray [true, true, true, true, true, true, true, true, true, true, true, true, true, true, true, true, true, false, false, false, false, false, false, false, false, false, false, false])) rfl ?_
            refine ae_lookF 17 undef rfl rfl (by kernel_rfl) (hM116 17 rfl) (fun w_ => .inr ⟨wanted_off (b := false) 14 33 rfl (tr rfl (congrArg _ hb129)) (by decide), rfl⟩) (listed' := (List.toArray [true, true, true, true, true, true, true, true, true, true, true, true, true, true, true, true, true, true, false, false, false, false, false, false, false, false, false, false])) rfl ?_
            refine ae_lookF 18 undef rfl rfl (by kernel_rfl) (hM116 18 rfl) (fun w_ => .inr ⟨wanted_off (b := false) 14 33 rfl (tr rfl (congrArg _ hb129)) (by decide), rfl⟩) (listed' := (List.toArray [true, true, true, true, true, true, true, true, true, true, true, true, true, true, true, true, true, true, true, false, false, false, false, false, false, false, false, false])) rfl ?_
            refine ae_lookF 19 undef rfl rfl (by kernel_rfl) (hM116 19 rfl) (fun w_ => .inr ⟨wanted_off (b := false) 14 33 rfl (tr rfl (congrArg _ hb129)) (by decide), rfl⟩) (listed' := (List.toArray [true, true, true, true, true, true, true, true, true, true, true, true, true, true, true, true, true, true, true, true, false, false, false, false, false, false, false, false])) rfl ?_
            refine ae_lookF 20 undef rfl rfl (by kernel_rfl) (hM116 20 rfl) (fun w_ => .inr ⟨wanted_off (b := false) 14 33 rfl (tr rfl (congrArg _ hb129)) (by decide), rfl⟩) (listed' := (List.toArray [true, true, true, true, true, true, true, true, true, true, true, true, true, true, true, true, true, true, true, true, true, false, false, false, false, false, false, false])) rfl ?_
            refine ae_lookF 21 undef rfl rfl (by kernel_rfl) (hM116 21 rfl) (fun w_ => .inr ⟨wanted_off (b := false) 14 33 rfl (tr rfl (congrArg _ hb129)) (by decide), rfl⟩) (listed' := (List.toArray [true, true, true, true, true, true, true, true, true, true, true, true, true, true, true, true, true, true, true, true, true, true, false, false, false, false, false, false])) rfl ?_
            refine ae_lookF 22 undef rfl rfl (by kernel_rfl) (hM116 22 rfl) (fun w_ => .inr ⟨wanted_off (b := false) 14 33 rfl (tr rfl (congrArg _ hb129)) (by decide), rfl⟩) (listed' := (List.toArray [true, true, true, true, true, true, true, true, true, true, true, true, true, true, true, true, true, true, true, true, true, true, true, false, false, false, false, false])) rfl ?_
            refine ae_lookF 23 undef rfl rfl (by kernel_rfl) (hM116 23 rfl) (fun w_ => .inr ⟨wanted_off (b := false) 14 33 rfl (tr rfl (congrArg _ hb129)) (by decide), rfl⟩) (listed' := (List.toArray [true, true, true, true, true, true, true, true, true, true, true, true, true, true, true, true, true, true, true, true, true, true, true, true, false, false, false, false])) rfl ?_
            refine ae_tail 24 (by decide) (by decide) (by kernel_rfl) rfl rfl ?_
            refine guardOff (b := false) 14 33 rfl (tr rfl (congrArg _ hb129)) (by decide) ?_
            refine guardOff (b := false) 14 33 rfl (tr rfl (congrArg _ hb129)) (by decide) ?_
            refine guardOn 11 30 rfl rfl hb128 ?_
            refine s_pick (v := .bool false) (b := false) (tr rfl (congrArg _ hb129)) rfl ?_
            refine s_pick (v := .bool false) (b := false) (tr rfl (congrArg _ hb128)) rfl ?_
            refine done ?_
            refine qn_norm ?_
            refine then_norm ?_
            refine cw_false rfl rfl ?_
            refine wp_skip ?_
            refine blk_norm ?_
            refine then_norm ?_
            refine cw_region ?_
            refine s_mv (v := .int .i64 s96) h5_ ?_
            refine s_add rfl rfl ?_
            refine s_as (v := .int .i64 (IntKind.i64.wrap (s96 + 1))) rfl ?_
            refine done ?_
            replace hC := hC.sel [1] [0, 1, 2] (M' := [blk b5 51 [u1_0]]) (Ps' := [Ty.item ETerm.ty.sl a1.terms [u1_0] fp1, Ty.item ((EI .i64).ty.sl) a0 [u0_0] fp0, Ty.item TForm a1 [u1_0] fp1]) (by decide) rfl rfl
            exact hK99 (IntKind.i64.wrap (s96 + 1)) _ _ ⟨h0_, h3_, h4_, rfl, hC⟩ h
    · replace h := iff_ h (cf hb104)
      refine wp_exit (then_exit (then_exit (exit_in ?_)))
      refine then_norm ?_
      refine wp_seq ?_
      refine cw_region ?_
      refine s_faddrB 0 Try.underlying51 rfl sc49.size h3_ rfl ?_
      refine s_loadS hC 0 (u1_0) rfl sc49 rfl rfl ?_
      obtain ⟨Ad141, c142, hv143⟩ := sl_len (hC.getP 0 rfl)
      refine s_len Try.underlying49 (tr rfl hv143) ?_
      refine s_leq rfl rfl ?_
      refine s_as (v := .bool (decide ((a1.terms.length : Int) ≤ 400))) rfl ?_
      refine done ?_
      refine then_norm ?_
      refine wp_ret ?_
      refine ret1 (fn := Try.f87) rfl ?_ ⟨decide ((a1.terms.length : Int) ≤ 400), rfl, h, hC.below⟩ (.inl rfl)
      exact res_tmp rfl
  · skip
    exact ⟨rfl, rfl, rfl, rfl, hC⟩
def f_spec_l01Told (a0 : List Int) (a1 : Vc.Form) (K : Vc.Form → Int → Prop) : Prop :=
  f_spec_l01Is a0 a1 (fun r14 => (if ¬ (r14 = true) then K (⟨[]⟩ : Vc.Form) 3 else K a1 0))
theorem c_spec_l01Told (a0 : List Int) (a1 : Vc.Form) {u0_0 : Value} {u1_0 : Value} {fp0 : List Nat} {fp1 : List Nat} {K : Vc.Form → Int → Prop} (h : f_spec_l01Told a0 a1 K) (w0 : World) (q0 : ((EI .i64).ty.sl).rep a0 [u0_0] fp0 w0) (q1 : TForm.rep a1 [u1_0] fp1 w0) :
    Calls Try.prog 88 #[u0_0, .agg #[u1_0]] w0 fun e w' => ∃ (r0 : Vc.Form) (z0_0 : Value) (fz0 : List Nat) (r1 : Int), 
      e = .returned (.tuple #[.agg #[z0_0], .int .i64 r1]) ∧ K r0 r1 ∧ TForm.rep r0 [z0_0] fz0 w' ∧ (∀ b, b ∈ fz0 → w0.heap.size ≤ b ∨ b ∈ (fp0 ++ (fp1))) ∧ Bel w0 w' := by
  unfold f_spec_l01Told at h
  refine calls_of (args := [u0_0, .agg #[u1_0]]) Try.func88 rfl 12 Try.ntmps88 (Nat.le_of_ble_eq_true rfl) ?_
  have hC := Ctx.start (X := Nox) w0 [Ty.item ((EI .i64).ty.sl) a0 [u0_0] fp0, Ty.item TForm a1 [u1_0] fp1] (by simp only [List.mem_cons, List.not_mem_nil, or_false, forall_eq_or_imp, forall_eq]; exact ⟨q0, q1⟩)
  have hp3 := (hC.getP 1 rfl)
  replace hC := hC.derive 1 rfl (Ty.item ETerm.ty.sl a1.terms [u1_0] fp1) (fun _ => (form_parts hp3)) (fun _ hb_ => hb_)
  refine wp_seq ?_
  refine cw_region ?_
  refine s_box (v := .agg #[u1_0]) hC [u1_0] rfl rfl fun b5 w7 hB_ hC => ?_
  refine s_alloc hC [.slice none 0 0] z51 rfl fun b8 w10 hB_ hC => ?_
  refine s_as (v := .int .i64 0) rfl ?_
  refine done ?_
  refine then_norm ?_
  refine wp_seq ?_
  refine wp_seq ?_
  refine cw_region ?_
  refine s_mv (v := u0_0) rfl ?_
  refine s_loadA hC 1 [u1_0] rfl ag51 rfl rfl rfl ?_
  refine s_call [u0_0, .agg #[u1_0]] _ Try.func87 rfl rfl rfl (c_spec_l01Is a0 a1 h _ (hC.getP 1 rfl) (form_mk (hC.getP 0 rfl))) (fun ret11 w13 hR12 => ?_)
  obtain ⟨r14, rfl, h, hB15⟩ := hR12
  refine ⟨_, rfl, ?_⟩
  replace hC := hC.grow hB15
  refine s_not rfl ?_
  refine done ?_
  refine then_norm ?_
  refine cw_cond rfl (fun hb16 => ?_) (fun hb16 => ?_)
  · replace h := ift h (ne_t (not_t hb16))
    refine wp_seq ?_
    refine cw_region ?_
    refine s_build [] rfl (bl51   _) ?_
    refine s_store (v := .agg #[.slice none 0 0]) hC 0 [.slice none 0 0] [.slice none 0 0] rfl ag51.size rfl rfl rfl rfl rfl (Nat.le_of_ble_eq_true rfl) rfl fun w17 hC => ?_
    refine s_as (v := .int .i64 3) rfl ?_
    refine done ?_
    refine then_norm ?_
    refine wp_ret (then_ret ?_)
    refine ret2 (fn := Try.f88) rfl ?_ ?_ ⟨(⟨[]⟩ : Vc.Form), .slice none 0 0, [], 3, rfl, h, (form_mk (rep_nil _ _)), (fun b hb => .inl ((fun b hb => absurd hb (by simp)) b hb)), hC.below⟩ (.inl rfl)
    · exact res_cellA hC 0 rfl ag51 rfl rfl
    · exact res_tmp rfl
  · replace h := iff_ h (not_not_intro ((not_f hb16)))
    refine wp_skip ?_
    refine then_norm ?_
    refine wp_seq ?_
    refine cw_region ?_
    refine s_loadA hC 1 [u1_0] rfl ag51 rfl rfl rfl ?_
    refine s_store (v := .agg #[u1_0]) hC 0 [u1_0] [u1_0] rfl ag51.size rfl rfl rfl rfl (all_c (rep_oneC (hC.getP 0 rfl)) rfl) (Nat.le_of_ble_eq_true rfl) rfl fun w18 hC => ?_
    refine s_as (v := .int .i64 0) rfl ?_
    refine done ?_
    refine then_norm ?_
    refine wp_ret ?_
    refine ret2 (fn := Try.f88) rfl ?_ ?_ ⟨a1, u1_0, fp1, 0, rfl, h, (form_mk (hC.getP 0 rfl)), (fun b hb => .inr (List.mem_append_right _ hb)), hC.below⟩ (.inl rfl)
    · exact res_cellA hC 0 rfl ag51 rfl rfl
    · exact res_tmp rfl
def f_laws_toTerm (a0 : Term) (K : Term → Prop) : Prop :=
  f_laws_toMonomial a0.mono (fun r13 => K (⟨r13, a0.factor⟩ : Term))
theorem c_laws_toTerm (a0 : Term)  {K : Term → Prop} (h : f_laws_toTerm a0 K) (w0 : World)  :
    Calls Try.prog 121 #[.agg (List.toArray (Term.enc a0))] w0 fun e w' => ∃ (r0 : Term), 
      e = .returned (.agg (List.toArray (Term.enc r0))) ∧ K r0 ∧ Bel w0 w' := by
  unfold f_laws_toTerm at h
  refine calls_of (args := [.agg (List.toArray (Term.enc a0))]) Try.func121 rfl 12 Try.ntmps121 (Nat.le_of_ble_eq_true rfl) ?_
  have hC := Ctx.start (X := Nox) w0 [] (by simp)
  refine wp_seq ?_
  refine cw_region ?_
  refine s_box (v := .agg (List.toArray (Term.enc a0))) hC (Term.enc a0) rfl rfl fun b1 w3 hB_ hC => ?_
  refine s_alloc hC (Term.enc (⟨A8.zero, 0⟩ : Term)) z93 rfl fun b4 w6 hB_ hC => ?_
  refine done ?_
  refine then_norm ?_
  refine wp_seq ?_
  refine cw_region ?_
  refine s_alloc hC (Term.enc (⟨A8.zero, 0⟩ : Term)) z93 rfl fun b7 w9 hB_ hC => ?_
  refine done ?_
  refine then_norm ?_
  refine wp_seq ?_
  refine cw_region ?_
  refine s_faddrB 0 Try.underlying140 rfl ag23.size rfl rfl ?_
  refine s_loadA hC 2 (A8.enc .u8 a0.mono) rfl ag23 rfl rfl rfl ?_
  refine s_call [.agg (List.toArray (A8.enc .u8 a0.mono))] _ Try.func15 rfl rfl rfl (c_laws_toMonomial a0.mono h _) (fun ret10 w12 hR11 => ?_)
  obtain ⟨r13, rfl, h, hB14⟩ := hR11
  refine ⟨_, rfl, ?_⟩
  replace hC := hC.grow hB14
  refine s_faddrB 0 Try.underlying93 rfl ag24.size rfl rfl ?_
  refine s_store (v := .agg (List.toArray (A8.enc .u8 r13))) hC 0 (A8.enc .u8 r13) (Term.enc (⟨r13, 0⟩ : Term)) rfl ag24.size rfl rfl rfl rfl rfl (Nat.le_of_ble_eq_true rfl) rfl fun w15 hC => ?_
  refine done ?_
  refine then_norm ?_
  refine wp_seq ?_
  refine cw_region ?_
  refine s_faddrB 8 Try.underlying140 rfl sc2.size rfl rfl ?_
  refine s_loadS hC 2 (.int .i64 a0.factor) rfl sc2 rfl rfl ?_
  refine s_faddrB 8 Try.underlying93 rfl sc2.size rfl rfl ?_
  refine s_store (v := .int .i64 a0.factor) hC 0 [.int .i64 a0.factor] (Term.enc (⟨r13, a0.factor⟩ : Term)) rfl sc2.size rfl rfl rfl rfl rfl (Nat.le_of_ble_eq_true rfl) rfl fun w16 hC => ?_
  refine done ?_
  refine then_norm ?_
  refine wp_seq ?_
  refine cw_region ?_
  refine s_loadA hC 0 (Term.enc (⟨r13, a0.factor⟩ : Term)) rfl ag93 rfl rfl rfl ?_
  refine s_store (v := .agg (List.toArray (Term.enc (⟨r13, a0.factor⟩ : Term)))) hC 1 (Term.enc (⟨r13, a0.factor⟩ : Term)) (Term.enc (⟨r13, a0.factor⟩ : Term)) rfl ag93.size rfl rfl rfl rfl rfl (Nat.le_of_ble_eq_true rfl) rfl fun w17 hC => ?_
  refine done ?_
  refine then_norm ?_
  refine wp_ret ?_
  refine ret1 (fn := Try.f121) rfl ?_ ⟨(⟨r13, a0.factor⟩ : Term), rfl, h, hC.below⟩ (.inl rfl)
  exact res_cellA hC 1 rfl ag93 rfl rfl
def f_laws_toTermS (a0 : List Term) (K : List Term → Prop) : Prop :=
  ((0 ≤ (a0.length : Int) ∧ (a0.length : Int) * 16 ≤ 281474976710656) ∧ forN (fun i53 (s54 : (List Term)) next57 => f_laws_toTerm (a0.getD i53 default) (fun r71 => ((0 ≤ (i53 : Int) ∧ (i53 : Int) < (s54.length : Int)) ∧ next57 (s54.set i53 r71)))) (fun (s54 : (List Term)) => K s54) a0.length 0 (List.replicate ((a0.length : Int).toNat) ((⟨A8.zero, 0⟩ : Term) : Term)))
theorem c_laws_toTermS (a0 : List Term) {u0_0 : Value} {fp0 : List Nat} {K : List Term → Prop} (h : f_laws_toTermS a0 K) (w0 : World) (q0 : ETerm.ty.sl.rep a0 [u0_0] fp0 w0) :
    Calls Try.prog 89 #[u0_0] w0 fun e w' => ∃ (r0 : List Term) (z0_0 : Value) (fz0 : List Nat), 
      e = .returned (z0_0) ∧ K r0 ∧ (Tr.item (Tr.sl 93 ETerm.tr) r0 [z0_0] fz0).holds w' ∧ (∀ b, b ∈ fz0 → w0.heap.size ≤ b) ∧ Bel w0 w' := by
  unfold f_laws_toTermS at h
  refine calls_of (args := [u0_0]) Try.func89 rfl 23 Try.ntmps89 (Nat.le_of_ble_eq_true rfl) ?_
  have hC := Ctx.start (X := Nox) w0 [Ty.item ETerm.ty.sl a0 [u0_0] fp0] (by simp only [List.mem_cons, List.not_mem_nil, or_false, forall_eq_or_imp, forall_eq]; exact q0)
  refine wp_seq ?_
  refine cw_region ?_
  refine s_as (v := .slice none 0 0) rfl ?_
  refine done ?_
  refine then_norm ?_
  refine wp_seq ?_
  refine cw_region ?_
  refine s_mv (v := u0_0) rfl ?_
  obtain ⟨Ad2, c3, hv4⟩ := sl_len (hC.getP 0 rfl)
  refine s_len Try.underlying58 (tr rfl hv4) ?_
  obtain ⟨hm7, h⟩ := h
  refine s_make (sz := 9) hC (ETerm.encs (List.replicate ((a0.length : Int).toNat) ((⟨A8.zero, 0⟩ : Term) : Term))) Try.underlying49 el93 (tr rfl (congrArg (Value.int .i64) (Int.toNat_of_nonneg hm7.1).symm)) (tr rfl (congrArg (Value.int .i64) (Int.toNat_of_nonneg hm7.1).symm)) (by omega) (by omega) (made_encs (E := ETerm) _ _) fun v5 w6 hB_ hC => ?_
  replace hC := own_re hC 0 ((List.replicate ((a0.length : Int).toNat) ((⟨A8.zero, 0⟩ : Term) : Term)).length) (ETerm.encs (List.replicate ((a0.length : Int).toNat) ((⟨A8.zero, 0⟩ : Term) : Term))) rfl (by simp) rfl
  refine s_as (v := v5) rfl ?_
  refine done ?_
  refine then_norm ?_
  refine wp_seq ?_
  refine wp_seq ?_
  refine cw_region ?_
  refine s_as (v := .int .i64 0) rfl ?_
  refine done ?_
  refine then_norm ?_
  refine wp_block ?_
  have hN56 : a0.length ≤ 9223372036854775807 := sl_max (hC.getP 0 rfl)
  refine loopN (S := (List Term)) _ _ (fun i53 s54 e_ w_ => ∃ (v55 : Value), e_ 0 = u0_0 ∧ e_ 2 = .slice none 0 0 ∧ e_ 3 = v55 ∧ e_ 4 = .int .i64 (i53 : Int) ∧ Ctx Nox w0 w_ [own 93 9 v55 s54.length (ETerm.encs s54)] [Ty.item ETerm.ty.sl a0 [u0_0] fp0]) a0.length ?_ ?_ (s0 := (List.replicate ((a0.length : Int).toNat) ((⟨A8.zero, 0⟩ : Term) : Term))) ?_ h
  · clear hC h
    rintro i53 s54 e_ w61 next57 K58 hi60 ⟨v55, h0_, h2_, h3_, h4_, hC⟩ h hK59
    refine wp_seq ?_
    refine wp_seq ?_
    refine cw_region ?_
    refine s_mv (v := .int .i64 (i53 : Int)) h4_ ?_
    refine s_mv (v := u0_0) h0_ ?_
    obtain ⟨Ad62, c63, hv64⟩ := sl_len (hC.getP 0 rfl)
    refine s_len Try.underlying58 (tr rfl hv64) ?_
    refine s_lss rfl rfl ?_
    refine done ?_
    refine then_norm ?_
    refine cw_true rfl (decide_eq_true (by omega)) ?_
    refine wp_skip ?_
    refine then_norm ?_
    refine wp_seq ?_
    refine wp_block ?_
    refine cw_region ?_
    refine s_mv (v := v55) h3_ ?_
    refine s_mv (v := .int .i64 (i53 : Int)) h4_ ?_
    refine s_mv (v := u0_0) h0_ ?_
    refine s_mv (v := .int .i64 (i53 : Int)) h4_ ?_
    obtain ⟨Ad65, c66, hv67⟩ := sl_form (hC.getP 0 rfl) i53 hi60
    refine s_iaddrS (len := a0.length) Try.underlying58 ag140.size (tr rfl hv67) rfl (Int.natCast_nonneg _) (Int.ofNat_lt.2 hi60) ?_
    refine s_loadCA (Term.enc (a0.getD i53 default)) (sl_cellsE (hC.getP 0 rfl) hv67 i53 hi60) ag140 rfl rfl ?_
    refine s_call [.agg (List.toArray (Term.enc (a0.getD i53 default)))] _ Try.func121 rfl rfl rfl (c_laws_toTerm (a0.getD i53 default) h _) (fun ret68 w70 hR69 => ?_)
    obtain ⟨r71, rfl, h, hB72⟩ := hR69
    refine ⟨_, rfl, ?_⟩
    replace hC := hC.grow hB72
    obtain ⟨⟨h0_73, h1_74⟩, h⟩ := h
    obtain ⟨Ad75, c76, hv77⟩ := own_formE (hC.getM 0 rfl) (Nat.lt_of_le_of_lt (Nat.zero_le _) (show i53 < s54.length by omega))
    refine s_iaddrO (i53 * 9) Try.underlying49 ag93.size (tr rfl hv77) rfl h0_73 h1_74 rfl ?_
    refine s_storeO (v := .agg (List.toArray (Term.enc r71))) hC 0 (Term.enc r71) (ETerm.encs (s54.set i53 r71)) rfl hv77 ag93.size rfl rfl rfl rfl rfl (by rw [Enc.encs_len]; exact seg_le (sz := 9) (show i53 < s54.length by omega)) (encs_set _ _ _ (show i53 < s54.length by omega)) fun w78 hC => ?_
    replace hC := own_re hC 0 ((s54.set i53 r71).length) (ETerm.encs (s54.set i53 r71)) rfl (by simp) rfl
    refine done ?_
    refine blk_norm ?_
    refine then_norm ?_
    refine cw_region ?_
    refine s_mv (v := .int .i64 (i53 : Int)) h4_ ?_
    refine s_add rfl rfl ?_
    refine s_as (v := .int .i64 (IntKind.i64.wrap ((i53 : Int) + 1))) rfl ?_
    refine done ?_
    exact hK59 (s54.set i53 r71) _ _ ⟨v55, h0_, h2_, h3_, (tr rfl (congrArg _ (wrap64_nat hi60 hN56))), hC⟩ h
  · clear hC h
    rintro s54 e_ w79 K58 ⟨v55, h0_, h2_, h3_, h4_, hC⟩ h
    refine wp_seq ?_
    refine wp_seq ?_
    refine cw_region ?_
    refine s_mv (v := .int .i64 (a0.length : Int)) h4_ ?_
    refine s_mv (v := u0_0) h0_ ?_
    obtain ⟨Ad80, c81, hv82⟩ := sl_len (hC.getP 0 rfl)
    refine s_len Try.underlying58 (tr rfl hv82) ?_
    refine s_lss rfl rfl ?_
    refine done ?_
    refine then_norm ?_
    refine cw_false rfl (decide_eq_false (by omega)) ?_
    refine wp_exit (then_exit (then_exit (exit_in ?_)))
    refine then_norm ?_
    refine wp_seq ?_
    refine cw_region ?_
    refine s_mv (v := v55) h3_ ?_
    refine s_as (v := v55) rfl ?_
    refine done ?_
    refine then_norm ?_
    refine wp_ret ?_
    refine ret1 (fn := Try.f89) rfl ?_ ⟨s54, v55, (Option.toList (Value.ownBlock v55)), rfl, h, (own_item (hC.getM 0 rfl)), (own_fresh hC 0 rfl), hC.below⟩ (.inl rfl)
    exact res_tmp rfl
  · skip
    exact ⟨v5, rfl, rfl, rfl, rfl, hC⟩
def f_impl_isFactor (a0 : Int) (K : Bool → Prop) : Prop :=
  f_impl_within a0 1 10006 (fun r4 => K r4)
theorem c_impl_isFactor (a0 : Int)  {K : Bool → Prop} (h : f_impl_isFactor a0 K) (w0 : World)  :
    Calls Try.prog 108 #[.int .i64 a0] w0 fun e w' => ∃ (r0 : Bool), 
      e = .returned (.bool r0) ∧ K r0 ∧ Bel w0 w' := by
  unfold f_impl_isFactor at h
  refine calls_of (args := [.int .i64 a0]) Try.func108 rfl 5 Try.ntmps108 (Nat.le_of_ble_eq_true rfl) ?_
  have hC := Ctx.start (X := Nox) w0 [] (by simp)
  refine wp_seq ?_
  refine cw_region ?_
  refine s_as (v := .bool false) rfl ?_
  refine done ?_
  refine then_norm ?_
  refine wp_seq ?_
  refine cw_region ?_
  refine s_mv (v := .int .i64 a0) rfl ?_
  refine s_call [.int .i64 a0, .int .i64 1, .int .i64 10006] _ Try.func69 rfl rfl rfl (c_impl_within a0 1 10006 h _) (fun ret1 w3 hR2 => ?_)
  obtain ⟨r4, rfl, h, hB5⟩ := hR2
  refine ⟨_, rfl, ?_⟩
  replace hC := hC.grow hB5
  refine s_as (v := .bool r4) rfl ?_
  refine done ?_
  refine then_norm ?_
  refine wp_ret ?_
  refine ret1 (fn := Try.f108) rfl ?_ ⟨r4, rfl, h, hC.below⟩ (.inl rfl)
  exact res_tmp rfl
def f_impl_isForm (a0 : List Int) (a1 : Vc.Form) (K : Bool → Prop) : Prop :=
  (if (a1.terms.length : Int) > 400 then K false else forN (fun i62 (s63 : Unit) next65 => f_impl_isMonomial a0 ((a1.terms.getD i62 default).mono) (fun r80 => (if ¬ (r80 = true) then K false else f_impl_isFactor ((a1.terms.getD i62 default).factor) (fun r86 => (if ¬ (r86 = true) then K false else (if (i62 : Int) > 0 then ((0 ≤ IntKind.i64.wrap ((i62 : Int) - 1) ∧ IntKind.i64.wrap ((i62 : Int) - 1) < (a1.terms.length : Int)) ∧ f_impl_powerOf ((a1.terms.getD ((IntKind.i64.wrap ((i62 : Int) - 1)).toNat) default).mono) (fun r101 => f_impl_powerOf ((a1.terms.getD i62 default).mono) (fun r106 => f_impl_power_compare r101 r106 (fun r111 => (if r111 ≥ 0 then K false else next65 ()))))) else next65 ())))))) (fun (s63 : Unit) => K true) a1.terms.length 0 ())
theorem c_impl_isForm (a0 : List Int) (a1 : Vc.Form) {u0_0 : Value} {u1_0 : Value} {fp0 : List Nat} {fp1 : List Nat} {K : Bool → Prop} (h : f_impl_isForm a0 a1 K) (w0 : World) (q0 : ((EI .i64).ty.sl).rep a0 [u0_0] fp0 w0) (q1 : TForm.rep a1 [u1_0] fp1 w0) :
    Calls Try.prog 122 #[u0_0, .agg #[u1_0]] w0 fun e w' => ∃ (r0 : Bool), 
      e = .returned (.bool r0) ∧ K r0 ∧ Bel w0 w' := by
  unfold f_impl_isForm at h
  refine calls_of (args := [u0_0, .agg #[u1_0]]) Try.func122 rfl 48 Try.ntmps122 (Nat.le_of_ble_eq_true rfl) ?_
  have hC := Ctx.start (X := Nox) w0 [Ty.item ((EI .i64).ty.sl) a0 [u0_0] fp0, Ty.item TForm a1 [u1_0] fp1] (by simp only [List.mem_cons, List.not_mem_nil, or_false, forall_eq_or_imp, forall_eq]; exact ⟨q0, q1⟩)
  have hp3 := (hC.getP 1 rfl)
  replace hC := hC.derive 1 rfl (Ty.item ETerm.ty.sl a1.terms [u1_0] fp1) (fun _ => (form_parts hp3)) (fun _ hb_ => hb_)
  refine wp_seq ?_
  refine cw_region ?_
  refine s_box (v := .agg #[u1_0]) hC [u1_0] rfl rfl fun b5 w7 hB_ hC => ?_
  refine s_as (v := .bool false) rfl ?_
  refine done ?_
  refine then_norm ?_
  refine wp_seq ?_
  refine wp_seq ?_
  refine cw_region ?_
  refine s_faddrB 0 Try.underlying51 rfl sc49.size rfl rfl ?_
  refine s_loadS hC 0 (u1_0) rfl sc49 rfl rfl ?_
  obtain ⟨Ad8, c9, hv10⟩ := sl_len (hC.getP 0 rfl)
  refine s_len Try.underlying49 (tr rfl hv10) ?_
  refine s_gtr rfl rfl ?_
  refine done ?_
  refine then_norm ?_
  refine cw_cond rfl (fun hb11 => ?_) (fun hb11 => ?_)
  · replace h := ift h (ct hb11)
    refine wp_seq ?_
    refine cw_region ?_
    refine s_as (v := .bool false) rfl ?_
    refine done ?_
    refine then_norm ?_
    refine wp_ret (then_ret ?_)
    refine ret1 (fn := Try.f122) rfl ?_ ⟨false, rfl, h, hC.below⟩ (.inl rfl)
    exact res_tmp rfl
  · replace h := iff_ h (cf hb11)
    refine wp_skip ?_
    refine then_norm ?_
    refine wp_seq ?_
    refine wp_seq ?_
    refine cw_region ?_
    refine s_faddrB 0 Try.underlying51 rfl sc49.size rfl rfl ?_
    refine s_loadS hC 0 (u1_0) rfl sc49 rfl rfl ?_
    obtain ⟨Ad12, c13, hv14⟩ := sl_len (hC.getP 0 rfl)
    refine s_len Try.underlying49 (tr rfl hv14) ?_
    refine s_mv (v := .int .i64 0) rfl ?_
    refine done ?_
    refine then_norm ?_
    refine wp_block ?_
    have hN64 : a1.terms.length ≤ 9223372036854775807 := sl_max (hC.getP 0 rfl)
    refine loopN (S := Unit) _ _ (fun i62 s63 e_ w_ => e_ 0 = u0_0 ∧ e_ 3 = .pointer (some ⟨b5, 0, none⟩) ∧ e_ 4 = .bool false ∧ e_ 12 = u1_0 ∧ e_ 13 = .int .i64 (a1.terms.length : Int) ∧ e_ 14 = .int .i64 (i62 : Int) ∧ Ctx Nox w0 w_ [blk b5 51 [u1_0]] [Ty.item ETerm.ty.sl a1.terms [u1_0] fp1, Ty.item ((EI .i64).ty.sl) a0 [u0_0] fp0, Ty.item TForm a1 [u1_0] fp1]) a1.terms.length ?_ ?_ (s0 := ()) ?_ h
    · clear hC h
      rintro i62 s63 e_ w69 next65 K66 hi68 ⟨h0_, h3_, h4_, h12_, h13_, h14_, hC⟩ h hK67
      refine wp_seq ?_
      refine cw_region ?_
      refine s_lss h14_ h13_ ?_
      refine done ?_
      refine then_norm ?_
      refine wp_seq ?_
      refine cw_true rfl (decide_eq_true (by omega)) ?_
      refine wp_skip ?_
      refine then_norm ?_
      refine wp_seq ?_
      refine wp_block ?_
      refine wp_seq ?_
      refine cw_region ?_
      refine s_mv (v := .int .i64 (i62 : Int)) h14_ ?_
      obtain ⟨Ad70, c71, hv72⟩ := sl_form (hC.getP 0 rfl) i62 hi68
      refine s_iaddrS (len := a1.terms.length) Try.underlying49 ag93.size (tr h12_ hv72) h14_ (Int.natCast_nonneg _) (Int.ofNat_lt.2 hi68) ?_
      refine s_loadCA (Term.enc (a1.terms.getD i62 default)) (sl_cellsE (hC.getP 0 rfl) hv72 i62 hi68) ag93 rfl rfl ?_
      refine s_alloc hC (Term.enc (⟨A8.zero, 0⟩ : Term)) z93 rfl fun b73 w75 hB_ hC => ?_
      refine s_as (v := .int .i64 (i62 : Int)) rfl ?_
      refine s_store (v := .agg (List.toArray (Term.enc (a1.terms.getD i62 default)))) hC 0 (Term.enc (a1.terms.getD i62 default)) (Term.enc (a1.terms.getD i62 default)) rfl ag93.size rfl rfl rfl rfl rfl (Nat.le_of_ble_eq_true rfl) rfl fun w76 hC => ?_
      refine done ?_
      refine then_norm ?_
      refine wp_seq ?_
      refine wp_seq ?_
      refine cw_region ?_
      refine s_mv (v := u0_0) h0_ ?_
      refine s_faddrB 0 Try.underlying93 rfl ag24.size rfl rfl ?_
      refine s_loadA hC 0 (A8.enc .u8 ((a1.terms.getD i62 default).mono)) rfl ag24 rfl rfl rfl ?_
      refine s_call [u0_0, .agg (List.toArray (A8.enc .u8 ((a1.terms.getD i62 default).mono)))] _ Try.func101 rfl rfl rfl (c_impl_isMonomial a0 ((a1.terms.getD i62 default).mono) h _ (hC.getP 1 rfl)) (fun ret77 w79 hR78 => ?_)
      obtain ⟨r80, rfl, h, hB81⟩ := hR78
      refine ⟨_, rfl, ?_⟩
      replace hC := hC.grow hB81
      refine s_not rfl ?_
      refine s_mv (v := .bool (!r80)) rfl ?_
      refine bsplit (!r80) (fun hb82 => ?_) (fun hb82 => ?_)
      · replace h := ift h (ne_t (not_t hb82))
        refine guardOff (b := true) 5 24 rfl (tr rfl (congrArg _ hb82)) (by decide) ?_
        refine guardOff (b := true) 5 24 rfl (tr rfl (congrArg _ hb82)) (by decide) ?_
        refine guardOff (b := true) 5 24 rfl (tr rfl (congrArg _ hb82)) (by decide) ?_
        refine guardOff (b := true) 5 24 rfl (tr rfl (congrArg _ hb82)) (by decide) ?_
        refine s_pick (v := .bool true) (b := true) (tr rfl (congrArg _ hb82)) rfl ?_
        refine done ?_
        refine then_norm ?_
        refine cw_true rfl rfl ?_
        refine wp_seq ?_
        refine cw_region ?_
        refine s_as (v := .bool false) rfl ?_
        refine done ?_
        refine then_norm ?_
        refine wp_ret (then_ret (blk_ret (then_ret (then_ret (blk_ret (then_ret ?_))))))
        refine ret1 (fn := Try.f122) rfl ?_ ⟨false, rfl, h, hC.below⟩ (.inl rfl)
        exact res_tmp rfl
      · replace h := iff_ h (not_not_intro ((not_f hb82)))
        refine guardOn 5 24 rfl rfl hb82 ?_
        refine s_faddrB 8 Try.underlying93 rfl sc2.size rfl rfl ?_
        refine guardOn 5 24 rfl rfl hb82 ?_
        refine s_loadS hC 0 (.int .i64 ((a1.terms.getD i62 default).factor)) rfl sc2 rfl rfl ?_
        refine guardOn 5 24 rfl rfl hb82 ?_
        refine s_call [.int .i64 ((a1.terms.getD i62 default).factor)] _ Try.func108 rfl rfl rfl (c_impl_isFactor ((a1.terms.getD i62 default).factor) h _) (fun ret83 w85 hR84 => ?_)
        obtain ⟨r86, rfl, h, hB87⟩ := hR84
        refine ⟨_, rfl, ?_⟩
        replace hC := hC.grow hB87
        refine guardOn 5 24 rfl rfl hb82 ?_
        refine s_not rfl ?_
        refine s_pick (v := .bool (!r86)) (b := false) (tr rfl (congrArg _ hb82)) rfl ?_
        refine done ?_
        refine then_norm ?_
        refine cw_cond rfl (fun hb88 => ?_) (fun hb88 => ?_)
        · replace h := ift h (ne_t (not_t hb88))
          refine wp_seq ?_
          refine cw_region ?_
          refine s_as (v := .bool false) rfl ?_
          refine done ?_
          refine then_norm ?_
          refine wp_ret (then_ret (blk_ret (then_ret (then_ret (blk_ret (then_ret ?_))))))
          refine ret1 (fn := Try.f122) rfl ?_ ⟨false, rfl, h, hC.below⟩ (.inl rfl)
          exact res_tmp rfl
        · replace h := iff_ h (not_not_intro ((not_f hb88)))
          refine wp_skip ?_
          refine then_norm ?_
          refine wp_seq ?_
          refine cw_draw 13 mixed [0, 1, 3, 7, 15, 7, 39, 127, 255, 511, 1023, 7, 2055, 8191, 16383, 32767, 65535] [4, 7, 9, 12] [0, 1, 2, 3, 4, 5, 6, 7, 8, 9, 10, 11, 12] (by kernel_rfl) (by kernel_rfl) (by kernel_rfl) (fun hM90 hM91 w89 hB_ => ?_)
          replace hC := hC.grow hB_
          refine ae_lookF 0 (.int .i64 (i62 : Int)) rfl rfl (by kernel_rfl) (hM91 0 rfl) (fun w_ => .inl ⟨rfl, by exact r_mv (v := .int .i64 (i62 : Int)) rfl⟩) (listed' := (List.toArray [true, false, false, false, false, false, false, false, false, false, false, false, false, false, false, false, false])) rfl ?_
          refine ae_lookF 1 (.bool (decide ((i62 : Int) > 0))) rfl rfl (by kernel_rfl) (hM91 1 rfl) (fun w_ => .inl ⟨rfl, by exact r_gtr rfl rfl⟩) (listed' := (List.toArray [true, true, false, false, false, false, false, false, false, false, false, false, false, false, false, false, false])) rfl ?_
          refine ae_lookF 2 (.bool (decide ((i62 : Int) > 0))) rfl rfl (by kernel_rfl) (hM91 2 rfl) (fun w_ => .inl ⟨rfl, by exact r_mv (v := .bool (decide ((i62 : Int) > 0))) rfl⟩) (listed' := (List.toArray [true, true, true, false, false, false, false, false, false, false, false, false, false, false, false, false, false])) rfl ?_
          refine bsplit (decide ((i62 : Int) > 0)) (fun hb92 => ?_) (fun hb92 => ?_)
          · replace h := ift h (ct hb92)
            refine ae_lookF 3 (.pointer (some ⟨b5, 0, none⟩)) rfl rfl (by kernel_rfl) (hM91 3 rfl) (fun w_ => .inl ⟨wanted_on 2 32 rfl rfl hb92, by exact r_faddrB 0 Try.underlying51 rfl sc49.size h3_ rfl⟩) (listed' := (List.toArray [true, true, true, true, false, false, false, false, false, false, false, false, false, false, false, false, false])) rfl ?_
            refine ae_look 4 (u1_0) rfl rfl (by kernel_rfl) (hM90 4 rfl) (fun w_ hB_ => .inl ⟨wanted_on 2 32 rfl rfl hb92, by exact r_loadS (hC.grow hB_) 1 (u1_0) rfl sc49 rfl rfl⟩) (listed' := (List.toArray [true, true, true, true, true, false, false, false, false, false, false, false, false, false, false, false, false])) rfl ?_
            refine ae_lookF 5 (.int .i64 (i62 : Int)) rfl rfl (by kernel_rfl) (hM91 5 rfl) (fun w_ => .inl ⟨wanted_on 2 32 rfl rfl hb92, by exact r_mv (v := .int .i64 (i62 : Int)) rfl⟩) (listed' := (List.toArray [true, true, true, true, true, true, false, false, false, false, false, false, false, false, false, false, false])) rfl ?_
            refine ae_lookF 6 (.int .i64 (IntKind.i64.wrap ((i62 : Int) - 1))) rfl rfl (by kernel_rfl) (hM91 6 rfl) (fun w_ => .inl ⟨wanted_on 2 32 rfl rfl hb92, by exact r_sub rfl rfl⟩) (listed' := (List.toArray [true, true, true, true, true, true, true, false, false, false, false, false, false, false, false, false, false])) rfl ?_
            obtain ⟨⟨h0_93, h1_94⟩, h⟩ := h
            obtain ⟨Ad95, c96, hv97⟩ := sl_form (hC.getP 0 rfl) ((IntKind.i64.wrap ((i62 : Int) - 1)).toNat) (show (IntKind.i64.wrap ((i62 : Int) - 1)).toNat < a1.terms.length by omega)
            refine ae_look 7 (.pointer (some (Ad95.add ((IntKind.i64.wrap ((i62 : Int) - 1)).toNat * 9)))) rfl rfl (by kernel_rfl) (hM90 7 rfl) (fun w_ hB_ => .inl ⟨wanted_on 2 32 rfl rfl hb92, by exact r_iaddrS (len := a1.terms.length) Try.underlying49 ag93.size (by exact tr rfl hv97) rfl h0_93 h1_94⟩) (listed' := (List.toArray [true, true, true, true, true, true, true, true, false, false, false, false, false, false, false, false, false])) rfl ?_
            refine ae_lookF 8 (.pointer (some (Ad95.add ((IntKind.i64.wrap ((i62 : Int) - 1)).toNat * 9 + 0)))) rfl rfl (by kernel_rfl) (hM91 8 rfl) (fun w_ => .inl ⟨wanted_on 2 32 rfl rfl hb92, by exact r_faddrS ((IntKind.i64.wrap ((i62 : Int) - 1)).toNat * 9 + 0) Try.underlying93 rfl ag24.size rfl rfl⟩) (listed' := (List.toArray [true, true, true, true, true, true, true, true, true, false, false, false, false, false, false, false, false])) rfl ?_
            refine ae_look 9 (.agg (List.toArray (A8.enc .u8 ((a1.terms.getD ((IntKind.i64.wrap ((i62 : Int) - 1)).toNat) default).mono)))) rfl rfl (by kernel_rfl) (hM90 9 rfl) (fun w_ hB_ => .inl ⟨wanted_on 2 32 rfl rfl hb92, by exact r_loadCA (A8.enc .u8 ((a1.terms.getD ((IntKind.i64.wrap ((i62 : Int) - 1)).toNat) default).mono)) (cells_subS (o := 0) (k := 8) (sl_cellsE ((hC.grow hB_).getP 0 rfl) hv97 ((IntKind.i64.wrap ((i62 : Int) - 1)).toNat) (show (IntKind.i64.wrap ((i62 : Int) - 1)).toNat < a1.terms.length by omega)) rfl) ag24 rfl rfl⟩) (listed' := (List.toArray [true, true, true, true, true, true, true, true, true, true, false, false, false, false, false, false, false])) rfl ?_
            refine ae_lookF 11 (.pointer (some ⟨b73, 0, none⟩)) rfl rfl (by kernel_rfl) (hM91 11 rfl) (fun w_ => .inl ⟨wanted_on 2 32 rfl rfl hb92, by exact r_faddrB 0 Try.underlying93 rfl ag24.size rfl rfl⟩) (listed' := (List.toArray [true, true, true, true, true, true, true, true, true, true, false, true, false, false, false, false, false])) rfl ?_
            refine ae_look 12 (.agg (List.toArray (A8.enc .u8 ((a1.terms.getD i62 default).mono)))) rfl rfl (by kernel_rfl) (hM90 12 rfl) (fun w_ hB_ => .inl ⟨wanted_on 2 32 rfl rfl hb92, by exact r_loadA (hC.grow hB_) 0 (A8.enc .u8 ((a1.terms.getD i62 default).mono)) rfl ag24 rfl rfl rfl⟩) (listed' := (List.toArray [true, true, true, true, true, true, true, true, true, true, false, true, true, false, false, false, false])) rfl ?_
            refine ae_one 10 rfl (by kernel_rfl) ?_
            refine guardOn 2 32 rfl rfl hb92 ?_
            refine s_call [.agg (List.toArray (A8.enc .u8 ((a1.terms.getD ((IntKind.i64.wrap ((i62 : Int) - 1)).toNat) default).mono)))] _ Try.func64 rfl rfl rfl (c_impl_powerOf ((a1.terms.getD ((IntKind.i64.wrap ((i62 : Int) - 1)).toNat) default).mono) h _) (fun ret98 w100 hR99 => ?_)
            obtain ⟨r101, rfl, h, hB102⟩ := hR99
            refine ⟨_, rfl, ?_⟩
            replace hC := hC.grow hB102
            refine done ?_
            refine ak_intro (by assumption) (listed' := (List.toArray [true, true, true, true, true, true, true, true, true, true, true, true, true, false, false, false, false])) rfl ?_
            refine ae_tail 13 (by decide) (by decide) (by kernel_rfl) rfl rfl ?_
            refine guardOn 2 32 rfl rfl hb92 ?_
            refine s_call [.agg (List.toArray (A8.enc .u8 ((a1.terms.getD i62 default).mono)))] _ Try.func64 rfl rfl rfl (c_impl_powerOf ((a1.terms.getD i62 default).mono) h _) (fun ret103 w105 hR104 => ?_)
            obtain ⟨r106, rfl, h, hB107⟩ := hR104
            refine ⟨_, rfl, ?_⟩
            replace hC := hC.grow hB107
            refine guardOn 2 32 rfl rfl hb92 ?_
            refine s_call [.agg (List.toArray (A8.enc .i64 r101)), .agg (List.toArray (A8.enc .i64 r106))] _ Try.func128 rfl rfl rfl (c_impl_power_compare r101 r106 h _) (fun ret108 w110 hR109 => ?_)
            obtain ⟨r111, rfl, h, hB112⟩ := hR109
            refine ⟨_, rfl, ?_⟩
            replace hC := hC.grow hB112
            refine guardOn 2 32 rfl rfl hb92 ?_
            refine s_geq rfl rfl ?_
            refine s_pick (v := .bool (decide (r111 ≥ 0))) (b := true) (tr rfl (congrArg _ hb92)) rfl ?_
            refine done ?_
            refine qn_norm ?_
            refine then_norm ?_
            refine cw_cond rfl (fun hb113 => ?_) (fun hb113 => ?_)
            · replace h := ift h (ct hb113)
              refine wp_seq ?_
              refine cw_region ?_
              refine s_as (v := .bool false) rfl ?_
              refine done ?_
              refine then_norm ?_
              refine wp_ret (blk_ret (then_ret (then_ret (blk_ret (then_ret ?_)))))
              refine ret1 (fn := Try.f122) rfl ?_ ⟨false, rfl, h, hC.below⟩ (.inl rfl)
              exact res_tmp rfl
            · replace h := iff_ h (cf hb113)
              refine wp_skip ?_
              refine blk_norm ?_
              refine then_norm ?_
              refine cw_region ?_
              refine s_add h14_ rfl ?_
              refine s_mv (v := .int .i64 (IntKind.i64.wrap ((i62 : Int) + 1))) rfl ?_
              refine done ?_
              replace hC := hC.sel [1] [0, 1, 2] (M' := [blk b5 51 [u1_0]]) (Ps' := [Ty.item ETerm.ty.sl a1.terms [u1_0] fp1, Ty.item ((EI .i64).ty.sl) a0 [u0_0] fp0, Ty.item TForm a1 [u1_0] fp1]) (by decide) rfl rfl
              exact hK67 () _ _ ⟨h0_, h3_, h4_, h12_, h13_, (tr rfl (congrArg _ (wrap64_nat hi68 hN64))), hC⟩ h
          · replace h := iff_ h (cf hb92)
            refine ae_lookF 3 undef rfl rfl (by kernel_rfl) (hM91 3 rfl) (fun w_ => .inr ⟨wanted_off (b := false) 2 32 rfl (tr rfl (congrArg _ hb92)) (by decide), rfl⟩) (listed' := (List.toArray [true, true, true, true, false, false, false, false, false, false, false, false, false, false, false, false, false])) rfl ?_
            refine ae_lookF 4 undef rfl rfl (by kernel_rfl) (hM91 4 rfl) (fun w_ => .inr ⟨wanted_off (b := false) 2 32 rfl (tr rfl (congrArg _ hb92)) (by decide), rfl⟩) (listed' := (List.toArray [true, true, true, true, true, false, false, false, false, false, false, false, false, false, false, false, false])) rfl ?_
            refine ae_lookF 5 undef rfl rfl (by kernel_rfl) (hM91 5 rfl) (fun w_ => .inr ⟨wanted_off (b := false) 2 32 rfl (tr rfl (congrArg _ hb92)) (by decide), rfl⟩) (listed' := (List.toArray [true, true, true, true, true, true, false, false, false, false, false, false, false, false, false, false, false])) rfl ?_
            refine ae_lookF 6 undef rfl rfl (by kernel_rfl) (hM91 6 rfl) (fun w_ => .inr ⟨wanted_off (b := false) 2 32 rfl (tr rfl (congrArg _ hb92)) (by decide), rfl⟩) (listed' := (List.toArray [true, true, true, true, true, true, true, false, false, false, false, false, false, false, false, false, false])) rfl ?_
            refine ae_lookF 7 undef rfl rfl (by kernel_rfl) (hM91 7 rfl) (fun w_ => .inr ⟨wanted_off (b := false) 2 32 rfl (tr rfl (congrArg _ hb92)) (by decide), rfl⟩) (listed' := (List.toArray [true, true, true, true, true, true, true, true, false, false, false, false, false, false, false, false, false])) rfl ?_
            refine ae_lookF 8 undef rfl rfl (by kernel_rfl) (hM91 8 rfl) (fun w_ => .inr ⟨wanted_off (b := false) 2 32 rfl (tr rfl (congrArg _ hb92)) (by decide), rfl⟩) (listed' := (List.toArray [true, true, true, true, true, true, true, true, true, false, false, false, false, false, false, false, false])) rfl ?_
            refine ae_lookF 9 undef rfl rfl (by kernel_rfl) (hM91 9 rfl) (fun w_ => .inr ⟨wanted_off (b := false) 2 32 rfl (tr rfl (congrArg _ hb92)) (by decide), rfl⟩) (listed' := (List.toArray [true, true, true, true, true, true, true, true, true, true, false, false, false, false, false, false, false])) rfl ?_
            refine ae_lookF 10 undef rfl rfl (by kernel_rfl) (hM91 10 rfl) (fun w_ => .inr ⟨wanted_off (b := false) 2 32 rfl (tr rfl (congrArg _ hb92)) (by decide), rfl⟩) (listed' := (List.toArray [true, true, true, true, true, true, true, true, true, true, true, false, false, false, false, false, false])) rfl ?_
            refine ae_lookF 11 undef rfl rfl (by kernel_rfl) (hM91 11 rfl) (fun w_ => .inr ⟨wanted_off (b := false) 2 32 rfl (tr rfl (congrArg _ hb92)) (by decide), rfl⟩) (listed' := (List.toArray [true, true, true, true, true, true, true, true, true, true, true, true, false, false, false, false, false])) rfl ?_
            refine ae_lookF 12 undef rfl rfl (by kernel_rfl) (hM91 12 rfl) (fun w_ => .inr ⟨wanted_off (b := false) 2 32 rfl (tr rfl (congrArg _ hb92)) (by decide), rfl⟩) (listed' := (List.toArray [true, true, true, true, true, true, true, true, true, true, true, true, true, false, false, false, false])) rfl ?_
            refine ae_tail 13 (by decide) (by decide) (by kernel_rfl) rfl rfl ?_
            refine guardOff (b := false) 2 32 rfl (tr rfl (congrArg _ hb92)) (by decide) ?_
            refine guardOff (b := false) 2 32 rfl (tr rfl (congrArg _ hb92)) (by decide) ?_
            refine guardOff (b := false) 2 32 rfl (tr rfl (congrArg _ hb92)) (by decide) ?_
            refine s_pick (v := .bool false) (b := false) (tr rfl (congrArg _ hb92)) rfl ?_
            refine done ?_
            refine qn_norm ?_
            refine then_norm ?_
            refine cw_false rfl rfl ?_
            refine wp_skip ?_
            refine blk_norm ?_
            refine then_norm ?_
            refine cw_region ?_
            refine s_add h14_ rfl ?_
            refine s_mv (v := .int .i64 (IntKind.i64.wrap ((i62 : Int) + 1))) rfl ?_
            refine done ?_
            replace hC := hC.sel [1] [0, 1, 2] (M' := [blk b5 51 [u1_0]]) (Ps' := [Ty.item ETerm.ty.sl a1.terms [u1_0] fp1, Ty.item ((EI .i64).ty.sl) a0 [u0_0] fp0, Ty.item TForm a1 [u1_0] fp1]) (by decide) rfl rfl
            exact hK67 () _ _ ⟨h0_, h3_, h4_, h12_, h13_, (tr rfl (congrArg _ (wrap64_nat hi68 hN64))), hC⟩ h
    · clear hC h
      rintro s63 e_ w114 K66 ⟨h0_, h3_, h4_, h12_, h13_, h14_, hC⟩ h
      refine wp_seq ?_
      refine cw_region ?_
      refine s_lss h14_ h13_ ?_
      refine done ?_
      refine then_norm ?_
      refine wp_seq ?_
      refine cw_false rfl (decide_eq_false (by omega)) ?_
      refine wp_exit (then_exit (then_exit (exit_in ?_)))
      refine then_norm ?_
      refine wp_seq ?_
      refine cw_region ?_
      refine s_as (v := .bool true) rfl ?_
      refine done ?_
      refine then_norm ?_
      refine wp_ret ?_
      refine ret1 (fn := Try.f122) rfl ?_ ⟨true, rfl, h, hC.below⟩ (.inl rfl)
      exact res_tmp rfl
    · skip
      exact ⟨rfl, rfl, rfl, rfl, rfl, rfl, hC⟩
def f_impl_IsForm (a0 : List Int) (a1 : Vc.Form) (K : Bool → Prop) : Prop :=
  f_impl_AreDegrees a0 (fun r11 => (if r11 = true then f_impl_isForm a0 a1 (fun r17 => K r17) else K false))
theorem c_impl_IsForm (a0 : List Int) (a1 : Vc.Form) {u0_0 : Value} {u1_0 : Value} {fp0 : List Nat} {fp1 : List Nat} {K : Bool → Prop} (h : f_impl_IsForm a0 a1 K) (w0 : World) (q0 : ((EI .i64).ty.sl).rep a0 [u0_0] fp0 w0) (q1 : TForm.rep a1 [u1_0] fp1 w0) :
    Calls Try.prog 90 #[u0_0, .agg #[u1_0]] w0 fun e w' => ∃ (r0 : Bool), 
      e = .returned (.bool r0) ∧ K r0 ∧ Bel w0 w' := by
  unfold f_impl_IsForm at h
  refine calls_of (args := [u0_0, .agg #[u1_0]]) Try.func90 rfl 12 Try.ntmps90 (Nat.le_of_ble_eq_true rfl) ?_
  have hC := Ctx.start (X := Nox) w0 [Ty.item ((EI .i64).ty.sl) a0 [u0_0] fp0, Ty.item TForm a1 [u1_0] fp1] (by simp only [List.mem_cons, List.not_mem_nil, or_false, forall_eq_or_imp, forall_eq]; exact ⟨q0, q1⟩)
  have hp3 := (hC.getP 1 rfl)
  replace hC := hC.derive 1 rfl (Ty.item ETerm.ty.sl a1.terms [u1_0] fp1) (fun _ => (form_parts hp3)) (fun _ hb_ => hb_)
  refine wp_seq ?_
  refine cw_region ?_
  refine s_box (v := .agg #[u1_0]) hC [u1_0] rfl rfl fun b5 w7 hB_ hC => ?_
  refine s_as (v := .bool false) rfl ?_
  refine done ?_
  refine then_norm ?_
  refine wp_seq ?_
  refine cw_region ?_
  refine s_mv (v := u0_0) rfl ?_
  refine s_call [u0_0] _ Try.func52 rfl rfl rfl (c_impl_AreDegrees a0 h _ (hC.getP 1 rfl)) (fun ret8 w10 hR9 => ?_)
  obtain ⟨r11, rfl, h, hB12⟩ := hR9
  refine ⟨_, rfl, ?_⟩
  replace hC := hC.grow hB12
  refine s_mv (v := .bool r11) rfl ?_
  refine bsplit r11 (fun hb13 => ?_) (fun hb13 => ?_)
  · replace h := ift h (hb13)
    refine guardOn 2 7 rfl rfl hb13 ?_
    refine s_mv (v := u0_0) rfl ?_
    refine guardOn 2 7 rfl rfl hb13 ?_
    refine s_loadA hC 0 [u1_0] rfl ag51 rfl rfl rfl ?_
    refine guardOn 2 7 rfl rfl hb13 ?_
    refine s_call [u0_0, .agg #[u1_0]] _ Try.func122 rfl rfl rfl (c_impl_isForm a0 a1 h _ (hC.getP 1 rfl) (form_mk (hC.getP 0 rfl))) (fun ret14 w16 hR15 => ?_)
    obtain ⟨r17, rfl, h, hB18⟩ := hR15
    refine ⟨_, rfl, ?_⟩
    replace hC := hC.grow hB18
    refine s_pick (v := .bool r17) (b := true) (tr rfl (congrArg _ hb13)) rfl ?_
    refine s_as (v := .bool r17) rfl ?_
    refine done ?_
    refine then_norm ?_
    refine wp_ret ?_
    refine ret1 (fn := Try.f90) rfl ?_ ⟨r17, rfl, h, hC.below⟩ (.inl rfl)
    exact res_tmp rfl
  · replace h := iff_ h (ne_t hb13)
    refine guardOff (b := false) 2 7 rfl (tr rfl (congrArg _ hb13)) (by decide) ?_
    refine guardOff (b := false) 2 7 rfl (tr rfl (congrArg _ hb13)) (by decide) ?_
    refine guardOff (b := false) 2 7 rfl (tr rfl (congrArg _ hb13)) (by decide) ?_
    refine s_pick (v := .bool false) (b := false) (tr rfl (congrArg _ hb13)) rfl ?_
    refine s_as (v := .bool false) rfl ?_
    refine done ?_
    refine then_norm ?_
    refine wp_ret ?_
    refine ret1 (fn := Try.f90) rfl ?_ ⟨false, rfl, h, hC.below⟩ (.inl rfl)
    exact res_tmp rfl
def f_spec_IsForm (a0 : List Int) (a1 : Vc.Form) (K : Bool → Prop) : Prop :=
  f_spec_l01Degrees a0 (fun r11 => (if r11 = true then f_spec_l01Is a0 a1 (fun r17 => K r17) else K false))
theorem c_spec_IsForm (a0 : List Int) (a1 : Vc.Form) {u0_0 : Value} {u1_0 : Value} {fp0 : List Nat} {fp1 : List Nat} {K : Bool → Prop} (h : f_spec_IsForm a0 a1 K) (w0 : World) (q0 : ((EI .i64).ty.sl).rep a0 [u0_0] fp0 w0) (q1 : TForm.rep a1 [u1_0] fp1 w0) :
    Calls Try.prog 96 #[u0_0, .agg #[u1_0]] w0 fun e w' => ∃ (r0 : Bool), 
      e = .returned (.bool r0) ∧ K r0 ∧ Bel w0 w' := by
  unfold f_spec_IsForm at h
  refine calls_of (args := [u0_0, .agg #[u1_0]]) Try.func96 rfl 12 Try.ntmps96 (Nat.le_of_ble_eq_true rfl) ?_
  have hC := Ctx.start (X := Nox) w0 [Ty.item ((EI .i64).ty.sl) a0 [u0_0] fp0, Ty.item TForm a1 [u1_0] fp1] (by simp only [List.mem_cons, List.not_mem_nil, or_false, forall_eq_or_imp, forall_eq]; exact ⟨q0, q1⟩)
  have hp3 := (hC.getP 1 rfl)
  replace hC := hC.derive 1 rfl (Ty.item ETerm.ty.sl a1.terms [u1_0] fp1) (fun _ => (form_parts hp3)) (fun _ hb_ => hb_)
  refine wp_seq ?_
  refine cw_region ?_
  refine s_box (v := .agg #[u1_0]) hC [u1_0] rfl rfl fun b5 w7 hB_ hC => ?_
  refine s_as (v := .bool false) rfl ?_
  refine done ?_
  refine then_norm ?_
  refine wp_seq ?_
  refine cw_region ?_
  refine s_mv (v := u0_0) rfl ?_
  refine s_call [u0_0] _ Try.func61 rfl rfl rfl (c_spec_l01Degrees a0 h _ (hC.getP 1 rfl)) (fun ret8 w10 hR9 => ?_)
  obtain ⟨r11, rfl, h, hB12⟩ := hR9
  refine ⟨_, rfl, ?_⟩
  replace hC := hC.grow hB12
  refine s_mv (v := .bool r11) rfl ?_
  refine bsplit r11 (fun hb13 => ?_) (fun hb13 => ?_)
  · replace h := ift h (hb13)
    refine guardOn 2 7 rfl rfl hb13 ?_
    refine s_mv (v := u0_0) rfl ?_
    refine guardOn 2 7 rfl rfl hb13 ?_
    refine s_loadA hC 0 [u1_0] rfl ag51 rfl rfl rfl ?_
    refine guardOn 2 7 rfl rfl hb13 ?_
    refine s_call [u0_0, .agg #[u1_0]] _ Try.func87 rfl rfl rfl (c_spec_l01Is a0 a1 h _ (hC.getP 1 rfl) (form_mk (hC.getP 0 rfl))) (fun ret14 w16 hR15 => ?_)
    obtain ⟨r17, rfl, h, hB18⟩ := hR15
    refine ⟨_, rfl, ?_⟩
    replace hC := hC.grow hB18
    refine s_pick (v := .bool r17) (b := true) (tr rfl (congrArg _ hb13)) rfl ?_
    refine s_as (v := .bool r17) rfl ?_
    refine done ?_
    refine then_norm ?_
    refine wp_ret ?_
    refine ret1 (fn := Try.f96) rfl ?_ ⟨r17, rfl, h, hC.below⟩ (.inl rfl)
    exact res_tmp rfl
  · replace h := iff_ h (ne_t hb13)
    refine guardOff (b := false) 2 7 rfl (tr rfl (congrArg _ hb13)) (by decide) ?_
    refine guardOff (b := false) 2 7 rfl (tr rfl (congrArg _ hb13)) (by decide) ?_
    refine guardOff (b := false) 2 7 rfl (tr rfl (congrArg _ hb13)) (by decide) ?_
    refine s_pick (v := .bool false) (b := false) (tr rfl (congrArg _ hb13)) rfl ?_
    refine s_as (v := .bool false) rfl ?_
    refine done ?_
    refine then_norm ?_
    refine wp_ret ?_
    refine ret1 (fn := Try.f96) rfl ?_ ⟨false, rfl, h, hC.below⟩ (.inl rfl)
    exact res_tmp rfl
def f_laws_toForm (a0 : Vc.Form) (K : Vc.Form → Prop) : Prop :=
  f_laws_toTermS a0.terms (fun r16 => K (⟨r16⟩ : Vc.Form))
theorem c_laws_toForm (a0 : Vc.Form) {u0_0 : Value} {fp0 : List Nat} {K : Vc.Form → Prop} (h : f_laws_toForm a0 K) (w0 : World) (q0 : TForm.rep a0 [u0_0] fp0 w0) :
    Calls Try.prog 41 #[.agg #[u0_0]] w0 fun e w' => ∃ (r0 : Vc.Form) (z0_0 : Value) (fz0 : List Nat), 
      e = .returned (.agg #[z0_0]) ∧ K r0 ∧ (Tr.item (TrForm 93) r0 [z0_0] fz0).holds w' ∧ (∀ b, b ∈ fz0 → w0.heap.size ≤ b) ∧ Bel w0 w' := by
  unfold f_laws_toForm at h
  refine calls_of (args := [.agg #[u0_0]]) Try.func41 rfl 9 Try.ntmps41 (Nat.le_of_ble_eq_true rfl) ?_
  have hC := Ctx.start (X := Nox) w0 [Ty.item TForm a0 [u0_0] fp0] (by simp only [List.mem_cons, List.not_mem_nil, or_false, forall_eq_or_imp, forall_eq]; exact q0)
  have hp2 := (hC.getP 0 rfl)
  replace hC := hC.derive 0 rfl (Ty.item ETerm.ty.sl a0.terms [u0_0] fp0) (fun _ => (form_parts hp2)) (fun _ hb_ => hb_)
  refine wp_seq ?_
  refine cw_region ?_
  refine s_box (v := .agg #[u0_0]) hC [u0_0] rfl rfl fun b4 w6 hB_ hC => ?_
  refine s_alloc hC [.slice none 0 0] z51 rfl fun b7 w9 hB_ hC => ?_
  refine done ?_
  refine then_norm ?_
  refine wp_seq ?_
  refine cw_region ?_
  refine s_alloc hC [.slice none 0 0] z51 rfl fun b10 w12 hB_ hC => ?_
  refine done ?_
  refine then_norm ?_
  refine wp_seq ?_
  refine cw_region ?_
  refine s_faddrB 0 Try.underlying60 rfl sc58.size rfl rfl ?_
  refine s_loadS hC 2 (u0_0) rfl sc58 rfl rfl ?_
  refine s_call [u0_0] _ Try.func89 rfl rfl rfl (c_laws_toTermS a0.terms h _ (hC.getP 0 rfl)) (fun ret13 w15 hR14 => ?_)
  obtain ⟨r16, u17, f18, rfl, h, hr19, hf20, hB21⟩ := hR14
  refine ⟨_, rfl, ?_⟩
  replace hC := hC.push hB21 (Tr.item (Tr.sl 93 ETerm.tr) r16 [u17] f18) hr19 hf20
  obtain ⟨ho23, hf24⟩ := flat_tr (hC.getM 0 rfl).1
  subst hf24
  replace hC := hC.recast (c := own 93 9 u17 r16.length (ETerm.encs r16)) (fun _ h_ => h_) (fun _ => ho23)
  refine s_faddrB 0 Try.underlying51 rfl sc49.size rfl rfl ?_
  refine s_store (v := u17) hC 1 [u17] [u17] rfl sc49.size rfl rfl (own_cellsV (hC.getM 0 rfl)) rfl (all_c (own_oneC (hC.getM 0 rfl)) rfl) (Nat.le_of_ble_eq_true rfl) rfl fun w26 hC => ?_
  refine done ?_
  refine then_norm ?_
  refine wp_seq ?_
  refine cw_region ?_
  refine s_loadA hC 1 [u17] rfl ag51 rfl rfl rfl ?_
  refine s_store (v := .agg #[u17]) hC 2 [u17] [u17] rfl ag51.size rfl rfl rfl rfl (all_c (own_oneC (hC.getM 0 rfl)) rfl) (Nat.le_of_ble_eq_true rfl) rfl fun w27 hC => ?_
  refine done ?_
  refine then_norm ?_
  refine wp_ret ?_
  refine ret1 (fn := Try.f41) rfl ?_ ⟨(⟨r16⟩ : Vc.Form), u17, (Option.toList (Value.ownBlock u17)), rfl, h, (form_join (own_item (hC.getM 0 rfl))), (own_fresh hC 0 rfl), hC.below⟩ (.inl rfl)
  exact res_cellA hC 2 rfl ag51 rfl rfl
def f_impl_first (a0 : List Int) (K : Int → Prop) : Prop :=
  forN (fun i12 (s13 : Unit) next15 => (if a0.getD i12 default ≠ 0 then K (a0.getD i12 default) else next15 ())) (fun (s13 : Unit) => K 0) a0.length 0 ()
theorem c_impl_first (a0 : List Int) {u0_0 : Value} {fp0 : List Nat} {K : Int → Prop} (h : f_impl_first a0 K) (w0 : World) (q0 : ((EI .i64).ty.sl).rep a0 [u0_0] fp0 w0) :
    Calls Try.prog 76 #[u0_0] w0 fun e w' => ∃ (r0 : Int), 
      e = .returned (.int .i64 r0) ∧ K r0 ∧ Bel w0 w' := by
  unfold f_impl_first at h
  refine calls_of (args := [u0_0]) Try.func76 rfl 15 Try.ntmps76 (Nat.le_of_ble_eq_true rfl) ?_
  have hC := Ctx.start (X := Nox) w0 [Ty.item ((EI .i64).ty.sl) a0 [u0_0] fp0] (by simp only [List.mem_cons, List.not_mem_nil, or_false, forall_eq_or_imp, forall_eq]; exact q0)
  refine wp_seq ?_
  refine cw_region ?_
  refine s_as (v := .int .i64 0) rfl ?_
  refine done ?_
  refine then_norm ?_
  refine wp_seq ?_
  refine wp_seq ?_
  refine cw_region ?_
  refine s_mv (v := u0_0) rfl ?_
  obtain ⟨Ad2, c3, hv4⟩ := sl_len (hC.getP 0 rfl)
  refine s_len Try.underlying22 (tr rfl hv4) ?_
  refine s_mv (v := .int .i64 0) rfl ?_
  refine done ?_
  refine then_norm ?_
  refine wp_block ?_
  have hN14 : a0.length ≤ 9223372036854775807 := sl_max (hC.getP 0 rfl)
  refine loopN (S := Unit) _ _ (fun i12 s13 e_ w_ => e_ 2 = .int .i64 0 ∧ e_ 5 = u0_0 ∧ e_ 6 = .int .i64 (a0.length : Int) ∧ e_ 7 = .int .i64 (i12 : Int) ∧ Ctx Nox w0 w_ [] [Ty.item ((EI .i64).ty.sl) a0 [u0_0] fp0]) a0.length ?_ ?_ (s0 := ()) ?_ h
  · clear hC h
    rintro i12 s13 e_ w19 next15 K16 hi18 ⟨h2_, h5_, h6_, h7_, hC⟩ h hK17
    refine wp_seq ?_
    refine cw_region ?_
    refine s_lss h7_ h6_ ?_
    refine done ?_
    refine then_norm ?_
    refine wp_seq ?_
    refine cw_true rfl (decide_eq_true (by omega)) ?_
    refine wp_skip ?_
    refine then_norm ?_
    refine wp_seq ?_
    refine wp_block ?_
    refine wp_seq ?_
    refine cw_region ?_
    obtain ⟨Ad20, c21, hv22⟩ := sl_form (hC.getP 0 rfl) i12 hi18
    refine s_iaddrS (len := a0.length) Try.underlying22 sc2.size (tr h5_ hv22) h7_ (Int.natCast_nonneg _) (Int.ofNat_lt.2 hi18) ?_
    refine s_loadCS (.int .i64 (a0.getD i12 default)) (sl_cellsE (hC.getP 0 rfl) hv22 i12 hi18) sc2 rfl ?_
    refine s_as (v := .int .i64 (a0.getD i12 default)) rfl ?_
    refine done ?_
    refine then_norm ?_
    refine wp_seq ?_
    refine cw_region ?_
    refine s_mv (v := .int .i64 (a0.getD i12 default)) rfl ?_
    refine s_neq rfl rfl ?_
    refine done ?_
    refine then_norm ?_
    refine cw_cond rfl (fun hb23 => ?_) (fun hb23 => ?_)
    · replace h := ift h (ct hb23)
      refine wp_seq ?_
      refine cw_region ?_
      refine s_mv (v := .int .i64 (a0.getD i12 default)) rfl ?_
      refine s_as (v := .int .i64 (a0.getD i12 default)) rfl ?_
      refine done ?_
      refine then_norm ?_
      refine wp_ret (blk_ret (then_ret (then_ret (blk_ret (then_ret ?_)))))
      refine ret1 (fn := Try.f76) rfl ?_ ⟨a0.getD i12 default, rfl, h, hC.below⟩ (.inl rfl)
      exact res_tmp rfl
    · replace h := iff_ h (cf hb23)
      refine wp_skip ?_
      refine blk_norm ?_
      refine then_norm ?_
      refine cw_region ?_
      refine s_add h7_ rfl ?_
      refine s_mv (v := .int .i64 (IntKind.i64.wrap ((i12 : Int) + 1))) rfl ?_
      refine done ?_
      exact hK17 () _ _ ⟨h2_, h5_, h6_, (tr rfl (congrArg _ (wrap64_nat hi18 hN14))), hC⟩ h
  · clear hC h
    rintro s13 e_ w24 K16 ⟨h2_, h5_, h6_, h7_, hC⟩ h
    refine wp_seq ?_
    refine cw_region ?_
    refine s_lss h7_ h6_ ?_
    refine done ?_
    refine then_norm ?_
    refine wp_seq ?_
    refine cw_false rfl (decide_eq_false (by omega)) ?_
    refine wp_exit (then_exit (then_exit (exit_in ?_)))
    refine then_norm ?_
    refine wp_seq ?_
    refine cw_region ?_
    refine s_as (v := .int .i64 0) rfl ?_
    refine done ?_
    refine then_norm ?_
    refine wp_ret ?_
    refine ret1 (fn := Try.f76) rfl ?_ ⟨0, rfl, h, hC.below⟩ (.inl rfl)
    exact res_tmp rfl
  · skip
    exact ⟨rfl, rfl, rfl, rfl, hC⟩
def f_impl_when (a0 : Bool) (a1 : Int) (K : Int → Prop) : Prop :=
  (if a0 = true then K a1 else K 0)
theorem c_impl_when (a0 : Bool) (a1 : Int)  {K : Int → Prop} (h : f_impl_when a0 a1 K) (w0 : World)  :
    Calls Try.prog 77 #[.bool a0, .int .i64 a1] w0 fun e w' => ∃ (r0 : Int), 
      e = .returned (.int .i64 r0) ∧ K r0 ∧ Bel w0 w' := by
  unfold f_impl_when at h
  refine calls_of (args := [.bool a0, .int .i64 a1]) Try.func77 rfl 7 Try.ntmps77 (Nat.le_of_ble_eq_true rfl) ?_
  have hC := Ctx.start (X := Nox) w0 [] (by simp)
  refine wp_seq ?_
  refine cw_region ?_
  refine s_as (v := .int .i64 0) rfl ?_
  refine done ?_
  refine then_norm ?_
  refine wp_seq ?_
  refine wp_seq ?_
  refine cw_region ?_
  refine s_mv (v := .bool a0) rfl ?_
  refine done ?_
  refine then_norm ?_
  refine cw_cond rfl (fun hb1 => ?_) (fun hb1 => ?_)
  · replace h := ift h (hb1)
    refine wp_seq ?_
    refine cw_region ?_
    refine s_mv (v := .int .i64 a1) rfl ?_
    refine s_as (v := .int .i64 a1) rfl ?_
    refine done ?_
    refine then_norm ?_
    refine wp_ret (then_ret ?_)
    refine ret1 (fn := Try.f77) rfl ?_ ⟨a1, rfl, h, hC.below⟩ (.inl rfl)
    exact res_tmp rfl
  · replace h := iff_ h (ne_t hb1)
    refine wp_skip ?_
    refine then_norm ?_
    refine wp_seq ?_
    refine cw_region ?_
    refine s_as (v := .int .i64 0) rfl ?_
    refine done ?_
    refine then_norm ?_
    refine wp_ret ?_
    refine ret1 (fn := Try.f77) rfl ?_ ⟨0, rfl, h, hC.below⟩ (.inl rfl)
    exact res_tmp rfl
def f_impl_sum_addAll (a0 : List (A8 × Int)) (a1 : List (A8 × Int)) (a2 : Int) (K : List (A8 × Int) → Prop) : Prop :=
  mapP (fun (q11 : A8 × Int) (s48 : (List (A8 × Int))) next49 => f_impl_sum_add s48 q11.1 (Int.tmod (IntKind.i64.wrap (q11.2 * a2)) 10007) (fun m66 => next49 m66)) (fun (s48 : (List (A8 × Int))) => K s48) a1.length a1 a0
theorem c_impl_sum_addAll (a0 : List (A8 × Int)) (a1 : List (A8 × Int)) (a2 : Int) {b0 : Nat} {b1 : Nat} {K : List (A8 × Int) → Prop} (h : f_impl_sum_addAll a0 a1 a2 K) (w0 : World) (q0 : (mapI (kvA .i64) (vvI .i64) b0 a0).holds w0) (d1 : ∀ c, c ∈ [b1] → c ≠ b0) (q1 : (mapI (kvA .i64) (vvI .i64) b1 a1).holds w0) :
    Calls Try.prog 92 #[.map (some b0), .map (some b1), .int .i64 a2] w0 fun e w' => ∃ (m0 : List (A8 × Int)), 
      e = .returned (.tuple #[]) ∧ K m0 ∧ (mapI (kvA .i64) (vvI .i64) b0 m0).holds w' ∧ BelB b0 w0 w' := by
  unfold f_impl_sum_addAll at h
  refine calls_of (args := [.map (some b0), .map (some b1), .int .i64 a2]) Try.func92 rfl 22 Try.ntmps92 (Nat.le_of_ble_eq_true rfl) ?_
  have hC := Ctx.start1 w0 b0 (it := mapI (kvA .i64) (vvI .i64) b0 a0) rfl [mapI (kvA .i64) (vvI .i64) b1 a1] q0 (by simp only [List.mem_cons, List.not_mem_nil, or_false, forall_eq_or_imp, forall_eq]; exact q1) (by simp only [List.mem_cons, List.not_mem_nil, or_false, forall_eq_or_imp, forall_eq]; exact d1)
  refine wp_seq ?_
  refine cw_region ?_
  refine s_mv (v := .map (some b1)) rfl ?_
  refine s_range hC 0 rfl Try.underlying90 rfl fun r3 es4 ck5 w10 hB_ hn6 hbn7 hC => ?_
  refine done ?_
  refine then_norm ?_
  refine wp_block ?_
  refine loopM (S := (List (A8 × Int))) _ _ (fun l13 s48 e_ w_ => ∃ (la15 : Option MapEntry), e_ 0 = .map (some b0) ∧ e_ 2 = .int .i64 a2 ∧ e_ 9 = .pointer (some ⟨r3, 0, none⟩) ∧ Ctx (fun c_ => c_ = b0) w0 w_ [itI (kvA .i64) (vvI .i64) r3 b1 es4 ck5 la15 l13, mapI (kvA .i64) (vvI .i64) b0 s48] [mapE b1 es4 ck5, mapI (kvA .i64) (vvI .i64) b1 a1]) ?_ (l0 := a1) (s0 := a0) ?_ h
  · clear hC h
    rintro l13 s48 e_ w52 next49 K50 ⟨la15, h0_, h2_, h9_, hC⟩ h hK51
    refine wp_seq ?_
    refine cw_region ?_
    refine s_next hC 0 0 rfl rfl hn6 hbn7 h9_ (fun hr53 => ?_) (fun q11 l12 ent54 w57 hp14 hk55 hv56 hC => ?_)
    · replace h := h.1 hr53
      refine s_ext (v := .bool false) rfl rfl ?_
      refine done ?_
      refine then_norm ?_
      refine wp_seq ?_
      refine cw_false rfl rfl ?_
      refine wp_exit (then_exit (then_exit (exit_in ?_)))
      refine ret0 (fn := Try.f92) rfl  ⟨s48, rfl, h, (hC.getM 1 rfl), hC.belB⟩ (.inr rfl)
    · replace h := h.2 q11 l12 hp14
      refine s_ext (v := .bool true) rfl rfl ?_
      refine done ?_
      refine then_norm ?_
      refine wp_seq ?_
      refine cw_true rfl rfl ?_
      refine wp_skip ?_
      refine then_norm ?_
      refine wp_block ?_
      refine wp_seq ?_
      refine cw_region ?_
      refine s_entry hC 0 0 q11 rfl rfl hn6 h9_ hk55 hv56 ?_
      refine s_ext (v := .agg (List.toArray (A8.enc .i64 q11.1))) rfl rfl ?_
      refine s_ext (v := .int .i64 q11.2) rfl rfl ?_
      refine s_alloc hC (A8.enc .i64 A8.zero) z85 rfl fun b58 w60 hB_ hC => ?_
      refine s_store (v := .agg (List.toArray (A8.enc .i64 q11.1))) hC 0 (A8.enc .i64 q11.1) (A8.enc .i64 q11.1) rfl ag85.size rfl rfl rfl rfl rfl (Nat.le_of_ble_eq_true rfl) rfl fun w61 hC => ?_
      refine s_as (v := .int .i64 q11.2) rfl ?_
      refine done ?_
      refine then_norm ?_
      refine cw_region ?_
      refine s_mv (v := .map (some b0)) h0_ ?_
      refine s_loadA hC 0 (A8.enc .i64 q11.1) rfl ag85 rfl rfl rfl ?_
      refine s_mv (v := .int .i64 q11.2) rfl ?_
      refine s_mv (v := .int .i64 a2) h2_ ?_
      refine s_mul rfl rfl ?_
      refine s_rem rfl rfl (by decide) ?_
      refine s_call [.map (some b0), .agg (List.toArray (A8.enc .i64 q11.1)), .int .i64 (Int.tmod (IntKind.i64.wrap (q11.2 * a2)) 10007)] _ Try.func123 rfl rfl rfl (c_impl_sum_add s48 q11.1 (Int.tmod (IntKind.i64.wrap (q11.2 * a2)) 10007) h _ (hC.getM 2 rfl)) (fun ret62 w64 hR63 => ?_)
      obtain ⟨m66, rfl, h, hm67, hB65⟩ := hR63
      refine ⟨_, rfl, ?_⟩
      replace hC := hC.turnB 2 rfl hB65 rfl rfl hm67
      refine done ?_
      refine blk_norm ?_
      replace hC := hC.sel [1, 2] [0, 1] (M' := [itI (kvA .i64) (vvI .i64) r3 b1 es4 ck5 (some ent54) l12, mapI (kvA .i64) (vvI .i64) b0 m66]) (Ps' := [mapE b1 es4 ck5, mapI (kvA .i64) (vvI .i64) b1 a1]) (by decide) rfl rfl
      exact hK51 q11 l12 m66 _ _ hp14 ⟨(some ent54), h0_, h2_, h9_, hC⟩ h
  · skip
    exact ⟨none, rfl, rfl, rfl, hC⟩
def f_impl_sum_times (a0 : List (A8 × Int)) (a1 : List Int) (a2 : List (A8 × Int)) (K : List (A8 × Int) → Prop) : Prop :=
  mapP (fun (q15 : A8 × Int) (s236 : (List (A8 × Int))) next237 => mapP (fun (q258 : A8 × Int) (s317 : (List (A8 × Int))) next318 => f_impl_power_times q15.1 a1 q258.1 (fun r334 r335 => (if r335 ≠ 0 then f_impl_sum_add s317 r334 (Int.tmod (IntKind.i64.wrap ((IntKind.i64.wrap (r335 * q15.2)) * q258.2)) 10007) (fun m346 => next318 m346) else next318 s317))) (fun (s317 : (List (A8 × Int))) => next237 s317) a2.length a2 s236) (fun (s236 : (List (A8 × Int))) => K s236) a0.length a0 ([] : List (A8 × Int))
theorem c_impl_sum_times (a0 : List (A8 × Int)) (a1 : List Int) (a2 : List (A8 × Int)) {b0 : Nat} {b2 : Nat} {u1_0 : Value} {fp1 : List Nat} {K : List (A8 × Int) → Prop} (h : f_impl_sum_times a0 a1 a2 K) (w0 : World) (q0 : (mapI (kvA .i64) (vvI .i64) b0 a0).holds w0) (q1 : ((EI .i64).ty.sl).rep a1 [u1_0] fp1 w0) (q2 : (mapI (kvA .i64) (vvI .i64) b2 a2).holds w0) :
    Calls Try.prog 112 #[.map (some b0), u1_0, .map (some b2)] w0 fun e w' => ∃ (r0 : List (A8 × Int)) (zb0 : Nat), 
      e = .returned (.map (some zb0)) ∧ K r0 ∧ (mapI (kvA .i64) (vvI .i64) zb0 r0).holds w' ∧ w0.heap.size ≤ zb0 ∧ Bel w0 w' := by
  unfold f_impl_sum_times at h
  refine calls_of (args := [.map (some b0), u1_0, .map (some b2)]) Try.func112 rfl 48 Try.ntmps112 (Nat.le_of_ble_eq_true rfl) ?_
  have hC := Ctx.start (X := Nox) w0 [Ty.item ((EI .i64).ty.sl) a1 [u1_0] fp1, mapI (kvA .i64) (vvI .i64) b0 a0, mapI (kvA .i64) (vvI .i64) b2 a2] (by simp only [List.mem_cons, List.not_mem_nil, or_false, forall_eq_or_imp, forall_eq]; exact ⟨q1, q0, q2⟩)
  refine wp_seq ?_
  refine cw_region ?_
  refine s_as (v := .map none) rfl ?_
  refine done ?_
  refine then_norm ?_
  refine wp_seq ?_
  refine cw_region ?_
  refine s_makeMap hC (kvA .i64) (vvI .i64) fun b4 w6 hB_ hC => ?_
  refine s_as (v := .map (some b4)) rfl ?_
  refine done ?_
  refine then_norm ?_
  refine wp_seq ?_
  refine wp_seq ?_
  refine cw_region ?_
  refine s_mv (v := .map (some b0)) rfl ?_
  refine s_range hC 1 rfl Try.underlying90 rfl fun r7 es8 ck9 w14 hB_ hn10 hbn11 hC => ?_
  refine done ?_
  refine then_norm ?_
  refine wp_block ?_
  refine loopM (S := (List (A8 × Int))) _ _ (fun l17 s236 e_ w_ => ∃ (la19 : Option MapEntry), e_ 1 = u1_0 ∧ e_ 2 = .map (some b2) ∧ e_ 6 = .map none ∧ e_ 7 = .map (some b4) ∧ e_ 16 = .pointer (some ⟨r7, 0, none⟩) ∧ Ctx Nox w0 w_ [itI (kvA .i64) (vvI .i64) r7 b0 es8 ck9 la19 l17, mapI (kvA .i64) (vvI .i64) b4 s236] [mapE b0 es8 ck9, Ty.item ((EI .i64).ty.sl) a1 [u1_0] fp1, mapI (kvA .i64) (vvI .i64) b0 a0, mapI (kvA .i64) (vvI .i64) b2 a2]) ?_ (l0 := a0) (s0 := ([] : List (A8 × Int))) ?_ h
  · clear hC h
    rintro l17 s236 e_ w240 next237 K238 ⟨la19, h1_, h2_, h6_, h7_, h16_, hC⟩ h hK239
    refine wp_seq ?_
    refine cw_region ?_
    refine s_next hC 0 0 rfl rfl hn10 hbn11 h16_ (fun hr241 => ?_) (fun q15 l16 ent242 w245 hp18 hk243 hv244 hC => ?_)
    · replace h := h.1 hr241
      refine s_ext (v := .bool false) rfl rfl ?_
      refine done ?_
      refine then_norm ?_
      refine wp_seq ?_
      refine cw_false rfl rfl ?_
      refine wp_exit (then_exit (then_exit (exit_in ?_)))
      refine then_norm ?_
      refine wp_seq ?_
      refine cw_region ?_
      refine s_mv (v := .map (some b4)) h7_ ?_
      refine s_as (v := .map (some b4)) rfl ?_
      refine done ?_
      refine then_norm ?_
      refine wp_ret ?_
      refine ret1 (fn := Try.f112) rfl ?_ ⟨s236, b4, rfl, h, (hC.getM 1 rfl), (map_fresh hC 1 rfl), hC.below⟩ (.inl rfl)
      exact res_tmp rfl
    · replace h := h.2 q15 l16 hp18
      refine s_ext (v := .bool true) rfl rfl ?_
      refine done ?_
      refine then_norm ?_
      refine wp_seq ?_
      refine cw_true rfl rfl ?_
      refine wp_skip ?_
      refine then_norm ?_
      refine wp_block ?_
      refine wp_seq ?_
      refine cw_region ?_
      refine s_entry hC 0 0 q15 rfl rfl hn10 h16_ hk243 hv244 ?_
      refine s_ext (v := .agg (List.toArray (A8.enc .i64 q15.1))) rfl rfl ?_
      refine s_ext (v := .int .i64 q15.2) rfl rfl ?_
      refine s_alloc hC (A8.enc .i64 A8.zero) z85 rfl fun b246 w248 hB_ hC => ?_
      refine s_store (v := .agg (List.toArray (A8.enc .i64 q15.1))) hC 0 (A8.enc .i64 q15.1) (A8.enc .i64 q15.1) rfl ag85.size rfl rfl rfl rfl rfl (Nat.le_of_ble_eq_true rfl) rfl fun w249 hC => ?_
      refine s_as (v := .int .i64 q15.2) rfl ?_
      refine done ?_
      refine then_norm ?_
      refine wp_seq ?_
      refine cw_region ?_
      refine s_mv (v := .map (some b2)) h2_ ?_
      refine s_range hC 3 rfl Try.underlying90 rfl fun r250 es251 ck252 w257 hB_ hn253 hbn254 hC => ?_
      refine done ?_
      refine then_norm ?_
      refine wp_block ?_
      refine loopM (S := (List (A8 × Int))) _ _ (fun l260 s317 e_ w_ => ∃ (la262 : Option MapEntry), e_ 1 = u1_0 ∧ e_ 2 = .map (some b2) ∧ e_ 6 = .map none ∧ e_ 7 = .map (some b4) ∧ e_ 8 = .pointer (some ⟨b246, 0, none⟩) ∧ e_ 9 = .int .i64 q15.2 ∧ e_ 16 = .pointer (some ⟨r7, 0, none⟩) ∧ e_ 17 = .tuple #[.bool true, .agg (List.toArray (A8.enc .i64 q15.1)), .int .i64 q15.2] ∧ e_ 18 = .bool true ∧ e_ 19 = .tuple #[.agg (List.toArray (A8.enc .i64 q15.1)), .int .i64 q15.2] ∧ e_ 20 = .agg (List.toArray (A8.enc .i64 q15.1)) ∧ e_ 21 = .int .i64 q15.2 ∧ e_ 22 = .map (some b2) ∧ e_ 23 = .pointer (some ⟨r250, 0, none⟩) ∧ Ctx Nox w0 w_ [itI (kvA .i64) (vvI .i64) r250 b2 es251 ck252 la262 l260, blk b246 85 (A8.enc .i64 q15.1), itI (kvA .i64) (vvI .i64) r7 b0 es8 ck9 (some ent242) l16, mapI (kvA .i64) (vvI .i64) b4 s317] [mapE b2 es251 ck252, mapE b0 es8 ck9, Ty.item ((EI .i64).ty.sl) a1 [u1_0] fp1, mapI (kvA .i64) (vvI .i64) b0 a0, mapI (kvA .i64) (vvI .i64) b2 a2]) ?_ (l0 := a2) (s0 := s236) ?_ h
      · clear hC h
        rintro l260 s317 e_ w321 next318 K319 ⟨la262, h1_, h2_, h6_, h7_, h8_, h9_, h16_, h17_, h18_, h19_, h20_, h21_, h22_, h23_, hC⟩ h hK320
        refine wp_seq ?_
        refine cw_region ?_
        refine s_next hC 0 0 rfl rfl hn253 hbn254 h23_ (fun hr322 => ?_) (fun q258 l259 ent323 w326 hp261 hk324 hv325 hC => ?_)
        · replace h := h.1 hr322
          refine s_ext (v := .bool false) rfl rfl ?_
          refine done ?_
          refine then_norm ?_
          refine wp_seq ?_
          refine cw_false rfl rfl ?_
          refine wp_exit (then_exit (then_exit (exit_in ?_)))
          refine blk_norm ?_
          replace hC := hC.sel [2, 3] [1, 2, 3, 4] (M' := [itI (kvA .i64) (vvI .i64) r7 b0 es8 ck9 (some ent242) l16, mapI (kvA .i64) (vvI .i64) b4 s317]) (Ps' := [mapE b0 es8 ck9, Ty.item ((EI .i64).ty.sl) a1 [u1_0] fp1, mapI (kvA .i64) (vvI .i64) b0 a0, mapI (kvA .i64) (vvI .i64) b2 a2]) (by decide) rfl rfl
          exact hK239 q15 l16 s317 _ _ hp18 ⟨(some ent242), h1_, h2_, h6_, h7_, h16_, hC⟩ h
        · replace h := h.2 q258 l259 hp261
          refine s_ext (v := .bool true) rfl rfl ?_
          refine done ?_
          refine then_norm ?_
          refine wp_seq ?_
          refine cw_true rfl rfl ?_
          refine wp_skip ?_
          refine then_norm ?_
          refine wp_block ?_
          refine wp_seq ?_
          refine cw_region ?_
          refine s_entry hC 0 0 q258 rfl rfl hn253 h23_ hk324 hv325 ?_
          refine s_ext (v := .agg (List.toArray (A8.enc .i64 q258.1))) rfl rfl ?_
          refine s_ext (v := .int .i64 q258.2) rfl rfl ?_
          refine s_alloc hC (A8.enc .i64 A8.zero) z85 rfl fun b327 w329 hB_ hC => ?_
          refine s_store (v := .agg (List.toArray (A8.enc .i64 q258.1))) hC 0 (A8.enc .i64 q258.1) (A8.enc .i64 q258.1) rfl ag85.size rfl rfl rfl rfl rfl (Nat.le_of_ble_eq_true rfl) rfl fun w330 hC => ?_
          refine s_as (v := .int .i64 q258.2) rfl ?_
          refine done ?_
          refine then_norm ?_
          refine wp_seq ?_
          refine cw_region ?_
          refine s_loadA hC 2 (A8.enc .i64 q15.1) rfl ag85 h8_ rfl rfl ?_
          refine s_mv (v := u1_0) h1_ ?_
          refine s_loadA hC 0 (A8.enc .i64 q258.1) rfl ag85 rfl rfl rfl ?_
          refine s_call [.agg (List.toArray (A8.enc .i64 q15.1)), u1_0, .agg (List.toArray (A8.enc .i64 q258.1))] _ Try.func65 rfl rfl rfl (c_impl_power_times q15.1 a1 q258.1 h _ (hC.getP 2 rfl)) (fun ret331 w333 hR332 => ?_)
          obtain ⟨r334, r335, rfl, h, hB336⟩ := hR332
          refine ⟨_, rfl, ?_⟩
          replace hC := hC.grow hB336
          refine s_mv (v := .tuple #[.agg (List.toArray (A8.enc .i64 r334)), .int .i64 r335]) rfl ?_
          refine s_ext (v := .agg (List.toArray (A8.enc .i64 r334))) rfl rfl ?_
          refine s_ext (v := .int .i64 r335) rfl rfl ?_
          refine s_alloc hC (A8.enc .i64 A8.zero) z85 rfl fun b337 w339 hB_ hC => ?_
          refine s_store (v := .agg (List.toArray (A8.enc .i64 r334))) hC 0 (A8.enc .i64 r334) (A8.enc .i64 r334) rfl ag85.size rfl rfl rfl rfl rfl (Nat.le_of_ble_eq_true rfl) rfl fun w340 hC => ?_
          refine s_as (v := .int .i64 r335) rfl ?_
          refine done ?_
          refine then_norm ?_
          refine wp_seq ?_
          refine cw_region ?_
          refine s_mv (v := .int .i64 r335) rfl ?_
          refine s_neq rfl rfl ?_
          refine done ?_
          refine then_norm ?_
          refine cw_cond rfl (fun hb341 => ?_) (fun hb341 => ?_)
          · replace h := ift h (ct hb341)
            refine cw_region ?_
            refine s_mv (v := .map (some b4)) h7_ ?_
            refine s_loadA hC 0 (A8.enc .i64 r334) rfl ag85 rfl rfl rfl ?_
            refine s_mv (v := .int .i64 r335) rfl ?_
            refine s_mv (v := .int .i64 q15.2) h9_ ?_
            refine s_mul rfl rfl ?_
            refine s_mv (v := .int .i64 q258.2) rfl ?_
            refine s_mul rfl rfl ?_
            refine s_rem rfl rfl (by decide) ?_
            refine s_call [.map (some b4), .agg (List.toArray (A8.enc .i64 r334)), .int .i64 (Int.tmod (IntKind.i64.wrap ((IntKind.i64.wrap (r335 * q15.2)) * q258.2)) 10007)] _ Try.func123 rfl rfl rfl (c_impl_sum_add s317 r334 (Int.tmod (IntKind.i64.wrap ((IntKind.i64.wrap (r335 * q15.2)) * q258.2)) 10007) h _ (hC.getM 5 rfl)) (fun ret342 w344 hR343 => ?_)
            obtain ⟨m346, rfl, h, hm347, hB345⟩ := hR343
            refine ⟨_, rfl, ?_⟩
            replace hC := hC.turnB 5 rfl hB345 rfl rfl hm347
            refine done ?_
            refine blk_norm ?_
            replace hC := hC.sel [2, 3, 4, 5] [0, 1, 2, 3, 4] (M' := [itI (kvA .i64) (vvI .i64) r250 b2 es251 ck252 (some ent323) l259, blk b246 85 (A8.enc .i64 q15.1), itI (kvA .i64) (vvI .i64) r7 b0 es8 ck9 (some ent242) l16, mapI (kvA .i64) (vvI .i64) b4 m346]) (Ps' := [mapE b2 es251 ck252, mapE b0 es8 ck9, Ty.item ((EI .i64).ty.sl) a1 [u1_0] fp1, mapI (kvA .i64) (vvI .i64) b0 a0, mapI (kvA .i64) (vvI .i64) b2 a2]) (by decide) rfl rfl
            exact hK320 q258 l259 m346 _ _ hp261 ⟨(some ent323), h1_, h2_, h6_, h7_, h8_, h9_, h16_, h17_, h18_, h19_, h20_, h21_, h22_, h23_, hC⟩ h
          · replace h := iff_ h (cf hb341)
            refine wp_skip ?_
            refine blk_norm ?_
            replace hC := hC.sel [2, 3, 4, 5] [0, 1, 2, 3, 4] (M' := [itI (kvA .i64) (vvI .i64) r250 b2 es251 ck252 (some ent323) l259, blk b246 85 (A8.enc .i64 q15.1), itI (kvA .i64) (vvI .i64) r7 b0 es8 ck9 (some ent242) l16, mapI (kvA .i64) (vvI .i64) b4 s317]) (Ps' := [mapE b2 es251 ck252, mapE b0 es8 ck9, Ty.item ((EI .i64).ty.sl) a1 [u1_0] fp1, mapI (kvA .i64) (vvI .i64) b0 a0, mapI (kvA .i64) (vvI .i64) b2 a2]) (by decide) rfl rfl
            exact hK320 q258 l259 s317 _ _ hp261 ⟨(some ent323), h1_, h2_, h6_, h7_, h8_, h9_, h16_, h17_, h18_, h19_, h20_, h21_, h22_, h23_, hC⟩ h
      · skip
        exact ⟨none, h1_, h2_, h6_, h7_, rfl, rfl, h16_, rfl, rfl, rfl, rfl, rfl, rfl, rfl, hC⟩
  · skip
    exact ⟨none, rfl, rfl, rfl, rfl, rfl, hC⟩
def f_spec_IsMonomial (a0 : List Int) (a1 : A8) (K : Bool → Prop) : Prop :=
  f_spec_l01Degrees a0 (fun r8 => (if r8 = true then f_spec_l01Mono a0 a1 (fun r14 => K r14) else K false))
theorem c_spec_IsMonomial (a0 : List Int) (a1 : A8) {u0_0 : Value} {fp0 : List Nat} {K : Bool → Prop} (h : f_spec_IsMonomial a0 a1 K) (w0 : World) (q0 : ((EI .i64).ty.sl).rep a0 [u0_0] fp0 w0) :
    Calls Try.prog 51 #[u0_0, .agg (List.toArray (A8.enc .u8 a1))] w0 fun e w' => ∃ (r0 : Bool), 
      e = .returned (.bool r0) ∧ K r0 ∧ Bel w0 w' := by
  unfold f_spec_IsMonomial at h
  refine calls_of (args := [u0_0, .agg (List.toArray (A8.enc .u8 a1))]) Try.func51 rfl 12 Try.ntmps51 (Nat.le_of_ble_eq_true rfl) ?_
  have hC := Ctx.start (X := Nox) w0 [Ty.item ((EI .i64).ty.sl) a0 [u0_0] fp0] (by simp only [List.mem_cons, List.not_mem_nil, or_false, forall_eq_or_imp, forall_eq]; exact q0)
  refine wp_seq ?_
  refine cw_region ?_
  refine s_box (v := .agg (List.toArray (A8.enc .u8 a1))) hC (A8.enc .u8 a1) rfl rfl fun b2 w4 hB_ hC => ?_
  refine s_as (v := .bool false) rfl ?_
  refine done ?_
  refine then_norm ?_
  refine wp_seq ?_
  refine cw_region ?_
  refine s_mv (v := u0_0) rfl ?_
  refine s_call [u0_0] _ Try.func61 rfl rfl rfl (c_spec_l01Degrees a0 h _ (hC.getP 0 rfl)) (fun ret5 w7 hR6 => ?_)
  obtain ⟨r8, rfl, h, hB9⟩ := hR6
  refine ⟨_, rfl, ?_⟩
  replace hC := hC.grow hB9
  refine s_mv (v := .bool r8) rfl ?_
  refine bsplit r8 (fun hb10 => ?_) (fun hb10 => ?_)
  · replace h := ift h (hb10)
    refine guardOn 2 7 rfl rfl hb10 ?_
    refine s_mv (v := u0_0) rfl ?_
    refine guardOn 2 7 rfl rfl hb10 ?_
    refine s_loadA hC 0 (A8.enc .u8 a1) rfl ag24 rfl rfl rfl ?_
    refine guardOn 2 7 rfl rfl hb10 ?_
    refine s_call [u0_0, .agg (List.toArray (A8.enc .u8 a1))] _ Try.func62 rfl rfl rfl (c_spec_l01Mono a0 a1 h _ (hC.getP 0 rfl)) (fun ret11 w13 hR12 => ?_)
    obtain ⟨r14, rfl, h, hB15⟩ := hR12
    refine ⟨_, rfl, ?_⟩
    replace hC := hC.grow hB15
    refine s_pick (v := .bool r14) (b := true) (tr rfl (congrArg _ hb10)) rfl ?_
    refine s_as (v := .bool r14) rfl ?_
    refine done ?_
    refine then_norm ?_
    refine wp_ret ?_
    refine ret1 (fn := Try.f51) rfl ?_ ⟨r14, rfl, h, hC.below⟩ (.inl rfl)
    exact res_tmp rfl
  · replace h := iff_ h (ne_t hb10)
    refine guardOff (b := false) 2 7 rfl (tr rfl (congrArg _ hb10)) (by decide) ?_
    refine guardOff (b := false) 2 7 rfl (tr rfl (congrArg _ hb10)) (by decide) ?_
    refine guardOff (b := false) 2 7 rfl (tr rfl (congrArg _ hb10)) (by decide) ?_
    refine s_pick (v := .bool false) (b := false) (tr rfl (congrArg _ hb10)) rfl ?_
    refine s_as (v := .bool false) rfl ?_
    refine done ?_
    refine then_norm ?_
    refine wp_ret ?_
    refine ret1 (fn := Try.f51) rfl ?_ ⟨false, rfl, h, hC.below⟩ (.inl rfl)
    exact res_tmp rfl
def f_impl_AddForms (a0 : List Int) (a1 : Vc.Form) (a2 : Vc.Form) (K : Vc.Form → Int → Prop) : Prop :=
  f_impl_IsForm a0 a1 (fun r20 => (if ¬ (r20 = true) then K (⟨[]⟩ : Vc.Form) 1 else f_impl_IsForm a0 a2 (fun r27 => (if ¬ (r27 = true) then K (⟨[]⟩ : Vc.Form) 1 else f_impl_sumOf a1 (fun r34 => f_impl_sumOf a2 (fun r43 => f_impl_sum_addAll r34 r43 1 (fun m53 => f_impl_sum_form m53 (fun r58 r63 => K r58 r63))))))))
theorem c_impl_AddForms (a0 : List Int) (a1 : Vc.Form) (a2 : Vc.Form) {u0_0 : Value} {u1_0 : Value} {u2_0 : Value} {fp0 : List Nat} {fp1 : List Nat} {fp2 : List Nat} {K : Vc.Form → Int → Prop} (h : f_impl_AddForms a0 a1 a2 K) (w0 : World) (q0 : ((EI .i64).ty.sl).rep a0 [u0_0] fp0 w0) (q1 : TForm.rep a1 [u1_0] fp1 w0) (q2 : TForm.rep a2 [u2_0] fp2 w0) :
    Calls Try.prog 42 #[u0_0, .agg #[u1_0], .agg #[u2_0]] w0 fun e w' => ∃ (r0 : Vc.Form) (z0_0 : Value) (fz0 : List Nat) (r1 : Int), 
      e = .returned (.tuple #[.agg #[z0_0], .int .i64 r1]) ∧ K r0 r1 ∧ (Tr.item (TrForm 93) r0 [z0_0] fz0).holds w' ∧ (∀ b, b ∈ fz0 → w0.heap.size ≤ b) ∧ Bel w0 w' := by
  unfold f_impl_AddForms at h
  refine calls_of (args := [u0_0, .agg #[u1_0], .agg #[u2_0]]) Try.func42 rfl 30 Try.ntmps42 (Nat.le_of_ble_eq_true rfl) ?_
  have hC := Ctx.start (X := Nox) w0 [Ty.item ((EI .i64).ty.sl) a0 [u0_0] fp0, Ty.item TForm a1 [u1_0] fp1, Ty.item TForm a2 [u2_0] fp2] (by simp only [List.mem_cons, List.not_mem_nil, or_false, forall_eq_or_imp, forall_eq]; exact ⟨q0, q1, q2⟩)
  have hp4 := (hC.getP 1 rfl)
  replace hC := hC.derive 1 rfl (Ty.item ETerm.ty.sl a1.terms [u1_0] fp1) (fun _ => (form_parts hp4)) (fun _ hb_ => hb_)
  have hp6 := (hC.getP 3 rfl)
  replace hC := hC.derive 3 rfl (Ty.item ETerm.ty.sl a2.terms [u2_0] fp2) (fun _ => (form_parts hp6)) (fun _ hb_ => hb_)
  refine wp_seq ?_
  refine cw_region ?_
  refine s_box (v := .agg #[u1_0]) hC [u1_0] rfl rfl fun b8 w10 hB_ hC => ?_
  refine s_box (v := .agg #[u2_0]) hC [u2_0] rfl rfl fun b11 w13 hB_ hC => ?_
  refine s_alloc hC [.slice none 0 0] z51 rfl fun b14 w16 hB_ hC => ?_
  refine s_as (v := .int .i64 0) rfl ?_
  refine done ?_
  refine then_norm ?_
  refine wp_seq ?_
  refine wp_seq ?_
  refine cw_region ?_
  refine s_mv (v := u0_0) rfl ?_
  refine s_loadA hC 2 [u1_0] rfl ag51 rfl rfl rfl ?_
  refine s_call [u0_0, .agg #[u1_0]] _ Try.func90 rfl rfl rfl (c_impl_IsForm a0 a1 h _ (hC.getP 2 rfl) (form_mk (hC.getP 1 rfl))) (fun ret17 w19 hR18 => ?_)
  obtain ⟨r20, rfl, h, hB21⟩ := hR18
  refine ⟨_, rfl, ?_⟩
  replace hC := hC.grow hB21
  refine s_not rfl ?_
  refine s_mv (v := .bool (!r20)) rfl ?_
  refine bsplit (!r20) (fun hb22 => ?_) (fun hb22 => ?_)
  · replace h := ift h (ne_t (not_t hb22))
    refine guardOff (b := true) 4 13 rfl (tr rfl (congrArg _ hb22)) (by decide) ?_
    refine guardOff (b := true) 4 13 rfl (tr rfl (congrArg _ hb22)) (by decide) ?_
    refine guardOff (b := true) 4 13 rfl (tr rfl (congrArg _ hb22)) (by decide) ?_
    refine guardOff (b := true) 4 13 rfl (tr rfl (congrArg _ hb22)) (by decide) ?_
    refine s_pick (v := .bool true) (b := true) (tr rfl (congrArg _ hb22)) rfl ?_
    refine done ?_
    refine then_norm ?_
    refine cw_true rfl rfl ?_
    refine wp_seq ?_
    refine cw_region ?_
    refine s_build [] rfl (bl51   _) ?_
    refine s_store (v := .agg #[.slice none 0 0]) hC 0 [.slice none 0 0] [.slice none 0 0] rfl ag51.size rfl rfl rfl rfl rfl (Nat.le_of_ble_eq_true rfl) rfl fun w23 hC => ?_
    refine s_as (v := .int .i64 1) rfl ?_
    refine done ?_
    refine then_norm ?_
    refine wp_ret (then_ret ?_)
    refine ret2 (fn := Try.f42) rfl ?_ ?_ ⟨(⟨[]⟩ : Vc.Form), .slice none 0 0, [], 1, rfl, h, (form_join (nil_item _ _ _)), (fun b hb => absurd hb (by simp)), hC.below⟩ (.inl rfl)
    · exact res_cellA hC 0 rfl ag51 rfl rfl
    · exact res_tmp rfl
  · replace h := iff_ h (not_not_intro ((not_f hb22)))
    refine guardOn 4 13 rfl rfl hb22 ?_
    refine s_mv (v := u0_0) rfl ?_
    refine guardOn 4 13 rfl rfl hb22 ?_
    refine s_loadA hC 1 [u2_0] rfl ag51 rfl rfl rfl ?_
    refine guardOn 4 13 rfl rfl hb22 ?_
    refine s_call [u0_0, .agg #[u2_0]] _ Try.func90 rfl rfl rfl (c_impl_IsForm a0 a2 h _ (hC.getP 2 rfl) (form_mk (hC.getP 0 rfl))) (fun ret24 w26 hR25 => ?_)
    obtain ⟨r27, rfl, h, hB28⟩ := hR25
    refine ⟨_, rfl, ?_⟩
    replace hC := hC.grow hB28
    refine guardOn 4 13 rfl rfl hb22 ?_
    refine s_not rfl ?_
    refine s_pick (v := .bool (!r27)) (b := false) (tr rfl (congrArg _ hb22)) rfl ?_
    refine done ?_
    refine then_norm ?_
    refine cw_cond rfl (fun hb29 => ?_) (fun hb29 => ?_)
    · replace h := ift h (ne_t (not_t hb29))
      refine wp_seq ?_
      refine cw_region ?_
      refine s_build [] rfl (bl51   _) ?_
      refine s_store (v := .agg #[.slice none 0 0]) hC 0 [.slice none 0 0] [.slice none 0 0] rfl ag51.size rfl rfl rfl rfl rfl (Nat.le_of_ble_eq_true rfl) rfl fun w30 hC => ?_
      refine s_as (v := .int .i64 1) rfl ?_
      refine done ?_
      refine then_norm ?_
      refine wp_ret (then_ret ?_)
      refine ret2 (fn := Try.f42) rfl ?_ ?_ ⟨(⟨[]⟩ : Vc.Form), .slice none 0 0, [], 1, rfl, h, (form_join (nil_item _ _ _)), (fun b hb => absurd hb (by simp)), hC.below⟩ (.inl rfl)
      · exact res_cellA hC 0 rfl ag51 rfl rfl
      · exact res_tmp rfl
    · replace h := iff_ h (not_not_intro ((not_f hb29)))
      refine wp_skip ?_
      refine then_norm ?_
      refine wp_seq ?_
      refine cw_region ?_
      refine s_loadA hC 2 [u1_0] rfl ag51 rfl rfl rfl ?_
      refine s_call [.agg #[u1_0]] _ Try.func91 rfl rfl rfl (c_impl_sumOf a1 h _ (form_mk (hC.getP 1 rfl))) (fun ret31 w33 hR32 => ?_)
      obtain ⟨r34, b35, rfl, h, hr36, hf37, hB38⟩ := hR32
      refine ⟨_, rfl, ?_⟩
      replace hC := hC.push hB38 (mapI (kvA .i64) (vvI .i64) b35 r34) hr36 (fun b_ hb_ => by obtain rfl := List.mem_singleton.1 hb_; exact hf37)
      refine s_as (v := .map (some b35)) rfl ?_
      refine done ?_
      refine then_norm ?_
      refine wp_seq ?_
      refine cw_region ?_
      refine s_mv (v := .map (some b35)) rfl ?_
      refine s_loadA hC 2 [u2_0] rfl ag51 rfl rfl rfl ?_
      refine s_call [.agg #[u2_0]] _ Try.func91 rfl rfl rfl (c_impl_sumOf a2 h _ (form_mk (hC.getP 0 rfl))) (fun ret40 w42 hR41 => ?_)
      obtain ⟨r43, b44, rfl, h, hr45, hf46, hB47⟩ := hR41
      refine ⟨_, rfl, ?_⟩
      replace hC := hC.push hB47 (mapI (kvA .i64) (vvI .i64) b44 r43) hr45 (fun b_ hb_ => by obtain rfl := List.mem_singleton.1 hb_; exact hf46)
      refine s_call [.map (some b35), .map (some b44), .int .i64 1] _ Try.func92 rfl rfl rfl (c_impl_sum_addAll r34 r43 1 h _ (hC.getM 1 rfl) (fun c_ hc_ e_ => hC.mm 0 1 rfl rfl (by decide) c_ hc_ (List.mem_singleton.2 e_)) (hC.getM 0 rfl)) (fun ret49 w51 hR50 => ?_)
      obtain ⟨m53, rfl, h, hm54, hB52⟩ := hR50
      refine ⟨_, rfl, ?_⟩
      replace hC := hC.turnB 1 rfl hB52 rfl rfl hm54
      refine done ?_
      refine then_norm ?_
      refine wp_seq ?_
      refine cw_region ?_
      refine s_mv (v := .map (some b35)) rfl ?_
      refine s_call [.map (some b35)] _ Try.func66 rfl rfl rfl (c_impl_sum_form m53 h _ (hC.getM 1 rfl)) (fun ret55 w57 hR56 => ?_)
      obtain ⟨r58, u59, f60, r63, rfl, h, hr61, hf62, hB64⟩ := hR56
      refine ⟨_, rfl, ?_⟩
      replace hC := hC.push hB64 (Tr.item (TrForm 93) r58 [u59] f60) hr61 hf62
      obtain ⟨ho66, hf67⟩ := form_split (hC.getM 0 rfl)
      subst hf67
      replace hC := hC.recast (c := own 93 9 u59 r58.terms.length (ETerm.encs r58.terms)) (fun _ h_ => h_) (fun _ => ho66)
      refine s_ext (v := .agg #[u59]) rfl rfl ?_
      refine s_ext (v := .int .i64 r63) rfl rfl ?_
      refine s_store (v := .agg #[u59]) hC 3 [u59] [u59] rfl ag51.size rfl rfl rfl rfl (all_c (own_oneC (hC.getM 0 rfl)) rfl) (Nat.le_of_ble_eq_true rfl) rfl fun w69 hC => ?_
      refine s_as (v := .int .i64 r63) rfl ?_
      refine done ?_
      refine then_norm ?_
      refine wp_ret ?_
      refine ret2 (fn := Try.f42) rfl ?_ ?_ ⟨r58, u59, (Option.toList (Value.ownBlock u59)), r63, rfl, h, (form_join (own_item (hC.getM 0 rfl))), (own_fresh hC 0 rfl), hC.below⟩ (.inl rfl)
      · exact res_cellA hC 3 rfl ag51 rfl rfl
      · exact res_tmp rfl
def f_spec_ScaleForm (a0 : List Int) (a1 : Int) (a2 : Vc.Form) (K : Vc.Form → Int → Prop) : Prop :=
  f_spec_IsForm a0 a2 (fun r14 => (if ¬ (r14 = true) then K (⟨[]⟩ : Vc.Form) 1 else f_spec_l01In a1 0 10006 (fun r21 => (if ¬ (r21 = true) then K (⟨[]⟩ : Vc.Form) 2 else f_spec_l01Add (⟨[]⟩ : Vc.Form) a2 a1 (fun r28 => K r28 0)))))
theorem c_spec_ScaleForm (a0 : List Int) (a1 : Int) (a2 : Vc.Form) {u0_0 : Value} {u2_0 : Value} {fp0 : List Nat} {fp2 : List Nat} {K : Vc.Form → Int → Prop} (h : f_spec_ScaleForm a0 a1 a2 K) (w0 : World) (q0 : ((EI .i64).ty.sl).rep a0 [u0_0] fp0 w0) (q2 : TForm.rep a2 [u2_0] fp2 w0) :
    Calls Try.prog 46 #[u0_0, .int .i64 a1, .agg #[u2_0]] w0 fun e w' => ∃ (r0 : Vc.Form) (z0_0 : Value) (fz0 : List Nat) (r1 : Int), 
      e = .returned (.tuple #[.agg #[z0_0], .int .i64 r1]) ∧ K r0 r1 ∧ (Tr.item (TrForm 93) r0 [z0_0] fz0).holds w' ∧ (∀ b, b ∈ fz0 → w0.heap.size ≤ b) ∧ Bel w0 w' := by
  unfold f_spec_ScaleForm at h
  refine calls_of (args := [u0_0, .int .i64 a1, .agg #[u2_0]]) Try.func46 rfl 23 Try.ntmps46 (Nat.le_of_ble_eq_true rfl) ?_
  have hC := Ctx.start (X := Nox) w0 [Ty.item ((EI .i64).ty.sl) a0 [u0_0] fp0, Ty.item TForm a2 [u2_0] fp2] (by simp only [List.mem_cons, List.not_mem_nil, or_false, forall_eq_or_imp, forall_eq]; exact ⟨q0, q2⟩)
  have hp3 := (hC.getP 1 rfl)
  replace hC := hC.derive 1 rfl (Ty.item ETerm.ty.sl a2.terms [u2_0] fp2) (fun _ => (form_parts hp3)) (fun _ hb_ => hb_)
  refine wp_seq ?_
  refine cw_region ?_
  refine s_box (v := .agg #[u2_0]) hC [u2_0] rfl rfl fun b5 w7 hB_ hC => ?_
  refine s_alloc hC [.slice none 0 0] z51 rfl fun b8 w10 hB_ hC => ?_
  refine s_as (v := .int .i64 0) rfl ?_
  refine done ?_
  refine then_norm ?_
  refine wp_seq ?_
  refine wp_block ?_
  refine wp_seq ?_
  refine cw_region ?_
  refine s_mv (v := u0_0) rfl ?_
  refine s_loadA hC 1 [u2_0] rfl ag51 rfl rfl rfl ?_
  refine s_call [u0_0, .agg #[u2_0]] _ Try.func96 rfl rfl rfl (c_spec_IsForm a0 a2 h _ (hC.getP 1 rfl) (form_mk (hC.getP 0 rfl))) (fun ret11 w13 hR12 => ?_)
  obtain ⟨r14, rfl, h, hB15⟩ := hR12
  refine ⟨_, rfl, ?_⟩
  replace hC := hC.grow hB15
  refine s_not rfl ?_
  refine s_as (v := .bool (!r14)) rfl ?_
  refine done ?_
  refine then_norm ?_
  refine cw_cond rfl (fun hb16 => ?_) (fun hb16 => ?_)
  · replace h := ift h (ne_t (not_t hb16))
    refine wp_seq ?_
    refine cw_region ?_
    refine s_build [] rfl (bl51   _) ?_
    refine s_store (v := .agg #[.slice none 0 0]) hC 0 [.slice none 0 0] [.slice none 0 0] rfl ag51.size rfl rfl rfl rfl rfl (Nat.le_of_ble_eq_true rfl) rfl fun w17 hC => ?_
    refine s_as (v := .int .i64 1) rfl ?_
    refine done ?_
    refine then_norm ?_
    refine wp_ret (blk_ret (then_ret ?_))
    refine ret2 (fn := Try.f46) rfl ?_ ?_ ⟨(⟨[]⟩ : Vc.Form), .slice none 0 0, [], 1, rfl, h, (form_join (nil_item _ _ _)), (fun b hb => absurd hb (by simp)), hC.below⟩ (.inl rfl)
    · exact res_cellA hC 0 rfl ag51 rfl rfl
    · exact res_tmp rfl
  · replace h := iff_ h (not_not_intro ((not_f hb16)))
    refine wp_seq ?_
    refine cw_region ?_
    refine s_mv (v := .int .i64 a1) rfl ?_
    refine s_call [.int .i64 a1, .int .i64 0, .int .i64 10006] _ Try.func67 rfl rfl rfl (c_spec_l01In a1 0 10006 h _) (fun ret18 w20 hR19 => ?_)
    obtain ⟨r21, rfl, h, hB22⟩ := hR19
    refine ⟨_, rfl, ?_⟩
    replace hC := hC.grow hB22
    refine s_not rfl ?_
    refine s_as (v := .bool (!r21)) rfl ?_
    refine done ?_
    refine then_norm ?_
    refine cw_cond rfl (fun hb23 => ?_) (fun hb23 => ?_)
    · replace h := ift h (ne_t (not_t hb23))
      refine wp_seq ?_
      refine cw_region ?_
      refine s_build [] rfl (bl51   _) ?_
      refine s_store (v := .agg #[.slice none 0 0]) hC 0 [.slice none 0 0] [.slice none 0 0] rfl ag51.size rfl rfl rfl rfl rfl (Nat.le_of_ble_eq_true rfl) rfl fun w24 hC => ?_
      refine s_as (v := .int .i64 2) rfl ?_
      refine done ?_
      refine then_norm ?_
      refine wp_ret (blk_ret (then_ret ?_))
      refine ret2 (fn := Try.f46) rfl ?_ ?_ ⟨(⟨[]⟩ : Vc.Form), .slice none 0 0, [], 2, rfl, h, (form_join (nil_item _ _ _)), (fun b hb => absurd hb (by simp)), hC.below⟩ (.inl rfl)
      · exact res_cellA hC 0 rfl ag51 rfl rfl
      · exact res_tmp rfl
    · replace h := iff_ h (not_not_intro ((not_f hb23)))
      refine wp_skip ?_
      refine blk_norm ?_
      refine then_norm ?_
      refine wp_seq ?_
      refine cw_region ?_
      refine s_build [] rfl (bl51   _) ?_
      refine s_loadA hC 1 [u2_0] rfl ag51 rfl rfl rfl ?_
      refine s_mv (v := .int .i64 a1) rfl ?_
      refine s_call [.agg #[.slice none 0 0], .agg #[u2_0], .int .i64 a1] _ Try.func82 rfl rfl rfl (c_spec_l01Add (⟨[]⟩ : Vc.Form) a2 a1 h _ (form_mk (rep_nil _ _)) (form_mk (hC.getP 0 rfl))) (fun ret25 w27 hR26 => ?_)
      obtain ⟨r28, u29, f30, rfl, h, hr31, hf32, hB33⟩ := hR26
      refine ⟨_, rfl, ?_⟩
      replace hC := hC.push hB33 (Tr.item (TrForm 93) r28 [u29] f30) hr31 hf32
      obtain ⟨ho35, hf36⟩ := form_split (hC.getM 0 rfl)
      subst hf36
      replace hC := hC.recast (c := own 93 9 u29 r28.terms.length (ETerm.encs r28.terms)) (fun _ h_ => h_) (fun _ => ho35)
      refine s_store (v := .agg #[u29]) hC 1 [u29] [u29] rfl ag51.size rfl rfl rfl rfl (all_c (own_oneC (hC.getM 0 rfl)) rfl) (Nat.le_of_ble_eq_true rfl) rfl fun w38 hC => ?_
      refine s_as (v := .int .i64 0) rfl ?_
      refine done ?_
      refine then_norm ?_
      refine wp_ret ?_
      refine ret2 (fn := Try.f46) rfl ?_ ?_ ⟨r28, u29, (Option.toList (Value.ownBlock u29)), 0, rfl, h, (form_join (own_item (hC.getM 0 rfl))), (own_fresh hC 0 rfl), hC.below⟩ (.inl rfl)
      · exact res_cellA hC 1 rfl ag51 rfl rfl
      · exact res_tmp rfl
def f_impl_ScaleForm (a0 : List Int) (a1 : Int) (a2 : Vc.Form) (K : Vc.Form → Int → Prop) : Prop :=
  f_impl_IsForm a0 a2 (fun r14 => f_impl_when (!r14) 1 (fun r19 => f_impl_within a1 0 10006 (fun r24 => f_impl_when (!r24) 2 (fun r29 => f_impl_first [r19, r29] (fun r37 => (if r37 ≠ 0 then K (⟨[]⟩ : Vc.Form) r37 else f_impl_sumOf a2 (fun r47 => f_impl_sum_addAll ([] : List (A8 × Int)) r47 a1 (fun m57 => f_impl_sum_form m57 (fun r62 r67 => K r62 r67)))))))))
theorem c_impl_ScaleForm (a0 : List Int) (a1 : Int) (a2 : Vc.Form) {u0_0 : Value} {u2_0 : Value} {fp0 : List Nat} {fp2 : List Nat} {K : Vc.Form → Int → Prop} (h : f_impl_ScaleForm a0 a1 a2 K) (w0 : World) (q0 : ((EI .i64).ty.sl).rep a0 [u0_0] fp0 w0) (q2 : TForm.rep a2 [u2_0] fp2 w0) :
    Calls Try.prog 47 #[u0_0, .int .i64 a1, .agg #[u2_0]] w0 fun e w' => ∃ (r0 : Vc.Form) (z0_0 : Value) (fz0 : List Nat) (r1 : Int), 
      e = .returned (.tuple #[.agg #[z0_0], .int .i64 r1]) ∧ K r0 r1 ∧ (Tr.item (TrForm 93) r0 [z0_0] fz0).holds w' ∧ (∀ b, b ∈ fz0 → w0.heap.size ≤ b) ∧ Bel w0 w' := by
  unfold f_impl_ScaleForm at h
  refine calls_of (args := [u0_0, .int .i64 a1, .agg #[u2_0]]) Try.func47 rfl 35 Try.ntmps47 (Nat.le_of_ble_eq_true rfl) ?_
  have hC := Ctx.start (X := Nox) w0 [Ty.item ((EI .i64).ty.sl) a0 [u0_0] fp0, Ty.item TForm a2 [u2_0] fp2] (by simp only [List.mem_cons, List.not_mem_nil, or_false, forall_eq_or_imp, forall_eq]; exact ⟨q0, q2⟩)
  have hp3 := (hC.getP 1 rfl)
  replace hC := hC.derive 1 rfl (Ty.item ETerm.ty.sl a2.terms [u2_0] fp2) (fun _ => (form_parts hp3)) (fun _ hb_ => hb_)
  refine wp_seq ?_
  refine cw_region ?_
  refine s_box (v := .agg #[u2_0]) hC [u2_0] rfl rfl fun b5 w7 hB_ hC => ?_
  refine s_alloc hC [.slice none 0 0] z51 rfl fun b8 w10 hB_ hC => ?_
  refine s_as (v := .int .i64 0) rfl ?_
  refine done ?_
  refine then_norm ?_
  refine wp_seq ?_
  refine wp_seq ?_
  refine cw_region ?_
  refine s_mv (v := u0_0) rfl ?_
  refine s_loadA hC 1 [u2_0] rfl ag51 rfl rfl rfl ?_
  refine s_call [u0_0, .agg #[u2_0]] _ Try.func90 rfl rfl rfl (c_impl_IsForm a0 a2 h _ (hC.getP 1 rfl) (form_mk (hC.getP 0 rfl))) (fun ret11 w13 hR12 => ?_)
  obtain ⟨r14, rfl, h, hB15⟩ := hR12
  refine ⟨_, rfl, ?_⟩
  replace hC := hC.grow hB15
  refine s_not rfl ?_
  refine s_call [.bool (!r14), .int .i64 1] _ Try.func77 rfl rfl rfl (c_impl_when (!r14) 1 h _) (fun ret16 w18 hR17 => ?_)
  obtain ⟨r19, rfl, h, hB20⟩ := hR17
  refine ⟨_, rfl, ?_⟩
  replace hC := hC.grow hB20
  refine s_mv (v := .int .i64 a1) rfl ?_
  refine s_call [.int .i64 a1, .int .i64 0, .int .i64 10006] _ Try.func69 rfl rfl rfl (c_impl_within a1 0 10006 h _) (fun ret21 w23 hR22 => ?_)
  obtain ⟨r24, rfl, h, hB25⟩ := hR22
  refine ⟨_, rfl, ?_⟩
  replace hC := hC.grow hB25
  refine s_not rfl ?_
  refine s_call [.bool (!r24), .int .i64 2] _ Try.func77 rfl rfl rfl (c_impl_when (!r24) 2 h _) (fun ret26 w28 hR27 => ?_)
  obtain ⟨r29, rfl, h, hB30⟩ := hR27
  refine ⟨_, rfl, ?_⟩
  replace hC := hC.grow hB30
  refine s_bslice (sz := 1) hC [(0, .int .i64 r19), (1, .int .i64 r29)] ((EI .i64).encs [r19, r29]) rfl (fun _ => bs22_2 r19 r29 _) rfl (by decide) fun b31 w32 hB_ hC => ?_
  refine s_call [.slice (some ⟨b31, 0, none⟩) 2 2] _ Try.func76 rfl rfl rfl (c_impl_first [r19, r29] h _ (own_repE (hC.getM 0 rfl))) (fun ret34 w36 hR35 => ?_)
  obtain ⟨r37, rfl, h, hB38⟩ := hR35
  refine ⟨_, rfl, ?_⟩
  replace hC := hC.grow hB38
  refine s_as (v := .int .i64 r37) rfl ?_
  refine done ?_
  refine then_norm ?_
  refine wp_seq ?_
  refine cw_region ?_
  refine s_mv (v := .int .i64 r37) rfl ?_
  refine s_neq rfl rfl ?_
  refine done ?_
  refine then_norm ?_
  refine cw_cond rfl (fun hb39 => ?_) (fun hb39 => ?_)
  · replace h := ift h (ct hb39)
    refine wp_seq ?_
    refine cw_region ?_
    refine s_build [] rfl (bl51   _) ?_
    refine s_mv (v := .int .i64 r37) rfl ?_
    refine s_store (v := .agg #[.slice none 0 0]) hC 1 [.slice none 0 0] [.slice none 0 0] rfl ag51.size rfl rfl rfl rfl rfl (Nat.le_of_ble_eq_true rfl) rfl fun w40 hC => ?_
    refine s_as (v := .int .i64 r37) rfl ?_
    refine done ?_
    refine then_norm ?_
    refine wp_ret (then_ret ?_)
    refine ret2 (fn := Try.f47) rfl ?_ ?_ ⟨(⟨[]⟩ : Vc.Form), .slice none 0 0, [], r37, rfl, h, (form_join (nil_item _ _ _)), (fun b hb => absurd hb (by simp)), hC.below⟩ (.inl rfl)
    · exact res_cellA hC 1 rfl ag51 rfl rfl
    · exact res_tmp rfl
  · replace h := iff_ h (cf hb39)
    refine wp_skip ?_
    refine then_norm ?_
    refine wp_seq ?_
    refine cw_region ?_
    refine s_makeMap hC (kvA .i64) (vvI .i64) fun b41 w43 hB_ hC => ?_
    refine s_as (v := .map (some b41)) rfl ?_
    refine done ?_
    refine then_norm ?_
    refine wp_seq ?_
    refine cw_region ?_
    refine s_mv (v := .map (some b41)) rfl ?_
    refine s_loadA hC 3 [u2_0] rfl ag51 rfl rfl rfl ?_
    refine s_call [.agg #[u2_0]] _ Try.func91 rfl rfl rfl (c_impl_sumOf a2 h _ (form_mk (hC.getP 0 rfl))) (fun ret44 w46 hR45 => ?_)
    obtain ⟨r47, b48, rfl, h, hr49, hf50, hB51⟩ := hR45
    refine ⟨_, rfl, ?_⟩
    replace hC := hC.push hB51 (mapI (kvA .i64) (vvI .i64) b48 r47) hr49 (fun b_ hb_ => by obtain rfl := List.mem_singleton.1 hb_; exact hf50)
    refine s_mv (v := .int .i64 a1) rfl ?_
    refine s_call [.map (some b41), .map (some b48), .int .i64 a1] _ Try.func92 rfl rfl rfl (c_impl_sum_addAll ([] : List (A8 × Int)) r47 a1 h _ (hC.getM 1 rfl) (fun c_ hc_ e_ => hC.mm 0 1 rfl rfl (by decide) c_ hc_ (List.mem_singleton.2 e_)) (hC.getM 0 rfl)) (fun ret53 w55 hR54 => ?_)
    obtain ⟨m57, rfl, h, hm58, hB56⟩ := hR54
    refine ⟨_, rfl, ?_⟩
    replace hC := hC.turnB 1 rfl hB56 rfl rfl hm58
    refine done ?_
    refine then_norm ?_
    refine wp_seq ?_
    refine cw_region ?_
    refine s_mv (v := .map (some b41)) rfl ?_
    refine s_call [.map (some b41)] _ Try.func66 rfl rfl rfl (c_impl_sum_form m57 h _ (hC.getM 1 rfl)) (fun ret59 w61 hR60 => ?_)
    obtain ⟨r62, u63, f64, r67, rfl, h, hr65, hf66, hB68⟩ := hR60
    refine ⟨_, rfl, ?_⟩
    replace hC := hC.push hB68 (Tr.item (TrForm 93) r62 [u63] f64) hr65 hf66
    obtain ⟨ho70, hf71⟩ := form_split (hC.getM 0 rfl)
    subst hf71
    replace hC := hC.recast (c := own 93 9 u63 r62.terms.length (ETerm.encs r62.terms)) (fun _ h_ => h_) (fun _ => ho70)
    refine s_ext (v := .agg #[u63]) rfl rfl ?_
    refine s_ext (v := .int .i64 r67) rfl rfl ?_
    refine s_store (v := .agg #[u63]) hC 4 [u63] [u63] rfl ag51.size rfl rfl rfl rfl (all_c (own_oneC (hC.getM 0 rfl)) rfl) (Nat.le_of_ble_eq_true rfl) rfl fun w73 hC => ?_
    refine s_as (v := .int .i64 r67) rfl ?_
    refine done ?_
    refine then_norm ?_
    refine wp_ret ?_
    refine ret2 (fn := Try.f47) rfl ?_ ?_ ⟨r62, u63, (Option.toList (Value.ownBlock u63)), r67, rfl, h, (form_join (own_item (hC.getM 0 rfl))), (own_fresh hC 0 rfl), hC.below⟩ (.inl rfl)
    · exact res_cellA hC 4 rfl ag51 rfl rfl
    · exact res_tmp rfl
def f_impl_MultiplyForms (a0 : List Int) (a1 : Vc.Form) (a2 : Vc.Form) (K : Vc.Form → Int → Prop) : Prop :=
  f_impl_IsForm a0 a1 (fun r20 => (if ¬ (r20 = true) then K (⟨[]⟩ : Vc.Form) 1 else f_impl_IsForm a0 a2 (fun r27 => (if ¬ (r27 = true) then K (⟨[]⟩ : Vc.Form) 1 else f_impl_sumOf a1 (fun r37 => f_impl_sumOf a2 (fun r46 => f_impl_sum_times r37 a0 r46 (fun r55 => f_impl_sum_form r55 (fun r64 r69 => K r64 r69))))))))
theorem c_impl_MultiplyForms (a0 : List Int) (a1 : Vc.Form) (a2 : Vc.Form) {u0_0 : Value} {u1_0 : Value} {u2_0 : Value} {fp0 : List Nat} {fp1 : List Nat} {fp2 : List Nat} {K : Vc.Form → Int → Prop} (h : f_impl_MultiplyForms a0 a1 a2 K) (w0 : World) (q0 : ((EI .i64).ty.sl).rep a0 [u0_0] fp0 w0) (q1 : TForm.rep a1 [u1_0] fp1 w0) (q2 : TForm.rep a2 [u2_0] fp2 w0) :
    Calls Try.prog 60 #[u0_0, .agg #[u1_0], .agg #[u2_0]] w0 fun e w' => ∃ (r0 : Vc.Form) (z0_0 : Value) (fz0 : List Nat) (r1 : Int), 
      e = .returned (.tuple #[.agg #[z0_0], .int .i64 r1]) ∧ K r0 r1 ∧ (Tr.item (TrForm 93) r0 [z0_0] fz0).holds w' ∧ (∀ b, b ∈ fz0 → w0.heap.size ≤ b) ∧ Bel w0 w' := by
  unfold f_impl_MultiplyForms at h
  refine calls_of (args := [u0_0, .agg #[u1_0], .agg #[u2_0]]) Try.func60 rfl 28 Try.ntmps60 (Nat.le_of_ble_eq_true rfl) ?_
  have hC := Ctx.start (X := Nox) w0 [Ty.item ((EI .i64).ty.sl) a0 [u0_0] fp0, Ty.item TForm a1 [u1_0] fp1, Ty.item TForm a2 [u2_0] fp2] (by simp only [List.mem_cons, List.not_mem_nil, or_false, forall_eq_or_imp, forall_eq]; exact ⟨q0, q1, q2⟩)
  have hp4 := (hC.getP 1 rfl)
  replace hC := hC.derive 1 rfl (Ty.item ETerm.ty.sl a1.terms [u1_0] fp1) (fun _ => (form_parts hp4)) (fun _ hb_ => hb_)
  have hp6 := (hC.getP 3 rfl)
  replace hC := hC.derive 3 rfl (Ty.item ETerm.ty.sl a2.terms [u2_0] fp2) (fun _ => (form_parts hp6)) (fun _ hb_ => hb_)
  refine wp_seq ?_
  refine cw_region ?_
  refine s_box (v := .agg #[u1_0]) hC [u1_0] rfl rfl fun b8 w10 hB_ hC => ?_
  refine s_box (v := .agg #[u2_0]) hC [u2_0] rfl rfl fun b11 w13 hB_ hC => ?_
  refine s_alloc hC [.slice none 0 0] z51 rfl fun b14 w16 hB_ hC => ?_
  refine s_as (v := .int .i64 0) rfl ?_
  refine done ?_
  refine then_norm ?_
  refine wp_seq ?_
  refine wp_seq ?_
  refine cw_region ?_
  refine s_mv (v := u0_0) rfl ?_
  refine s_loadA hC 2 [u1_0] rfl ag51 rfl rfl rfl ?_
  refine s_call [u0_0, .agg #[u1_0]] _ Try.func90 rfl rfl rfl (c_impl_IsForm a0 a1 h _ (hC.getP 2 rfl) (form_mk (hC.getP 1 rfl))) (fun ret17 w19 hR18 => ?_)
  obtain ⟨r20, rfl, h, hB21⟩ := hR18
  refine ⟨_, rfl, ?_⟩
  replace hC := hC.grow hB21
  refine s_not rfl ?_
  refine s_mv (v := .bool (!r20)) rfl ?_
  refine bsplit (!r20) (fun hb22 => ?_) (fun hb22 => ?_)
  · replace h := ift h (ne_t (not_t hb22))
    refine guardOff (b := true) 4 12 rfl (tr rfl (congrArg _ hb22)) (by decide) ?_
    refine guardOff (b := true) 4 12 rfl (tr rfl (congrArg _ hb22)) (by decide) ?_
    refine guardOff (b := true) 4 12 rfl (tr rfl (congrArg _ hb22)) (by decide) ?_
    refine guardOff (b := true) 4 12 rfl (tr rfl (congrArg _ hb22)) (by decide) ?_
    refine s_pick (v := .bool true) (b := true) (tr rfl (congrArg _ hb22)) rfl ?_
    refine done ?_
    refine then_norm ?_
    refine cw_true rfl rfl ?_
    refine wp_seq ?_
    refine cw_region ?_
    refine s_build [] rfl (bl51   _) ?_
    refine s_store (v := .agg #[.slice none 0 0]) hC 0 [.slice none 0 0] [.slice none 0 0] rfl ag51.size rfl rfl rfl rfl rfl (Nat.le_of_ble_eq_true rfl) rfl fun w23 hC => ?_
    refine s_as (v := .int .i64 1) rfl ?_
    refine done ?_
    refine then_norm ?_
    refine wp_ret (then_ret ?_)
    refine ret2 (fn := Try.f60) rfl ?_ ?_ ⟨(⟨[]⟩ : Vc.Form), .slice none 0 0, [], 1, rfl, h, (form_join (nil_item _ _ _)), (fun b hb => absurd hb (by simp)), hC.below⟩ (.inl rfl)
    · exact res_cellA hC 0 rfl ag51 rfl rfl
    · exact res_tmp rfl
  · replace h := iff_ h (not_not_intro ((not_f hb22)))
    refine guardOn 4 12 rfl rfl hb22 ?_
    refine s_mv (v := u0_0) rfl ?_
    refine guardOn 4 12 rfl rfl hb22 ?_
    refine s_loadA hC 1 [u2_0] rfl ag51 rfl rfl rfl ?_
    refine guardOn 4 12 rfl rfl hb22 ?_
    refine s_call [u0_0, .agg #[u2_0]] _ Try.func90 rfl rfl rfl (c_impl_IsForm a0 a2 h _ (hC.getP 2 rfl) (form_mk (hC.getP 0 rfl))) (fun ret24 w26 hR25 => ?_)
    obtain ⟨r27, rfl, h, hB28⟩ := hR25
    refine ⟨_, rfl, ?_⟩
    replace hC := hC.grow hB28
    refine guardOn 4 12 rfl rfl hb22 ?_
    refine s_not rfl ?_
    refine s_pick (v := .bool (!r27)) (b := false) (tr rfl (congrArg _ hb22)) rfl ?_
    refine done ?_
    refine then_norm ?_
    refine cw_cond rfl (fun hb29 => ?_) (fun hb29 => ?_)
    · replace h := ift h (ne_t (not_t hb29))
      refine wp_seq ?_
      refine cw_region ?_
      refine s_build [] rfl (bl51   _) ?_
      refine s_store (v := .agg #[.slice none 0 0]) hC 0 [.slice none 0 0] [.slice none 0 0] rfl ag51.size rfl rfl rfl rfl rfl (Nat.le_of_ble_eq_true rfl) rfl fun w30 hC => ?_
      refine s_as (v := .int .i64 1) rfl ?_
      refine done ?_
      refine then_norm ?_
      refine wp_ret (then_ret ?_)
      refine ret2 (fn := Try.f60) rfl ?_ ?_ ⟨(⟨[]⟩ : Vc.Form), .slice none 0 0, [], 1, rfl, h, (form_join (nil_item _ _ _)), (fun b hb => absurd hb (by simp)), hC.below⟩ (.inl rfl)
      · exact res_cellA hC 0 rfl ag51 rfl rfl
      · exact res_tmp rfl
    · replace h := iff_ h (not_not_intro ((not_f hb29)))
      refine wp_skip ?_
      refine then_norm ?_
      refine wp_seq ?_
      refine cw_draw 9 mixed [0, 1, 0, 0, 11, 31, 63, 127, 127, 511, 1023] [0, 3] [2, 7, 8] (by kernel_rfl) (by kernel_rfl) (by kernel_rfl) (fun hM32 hM33 w31 hB_ => ?_)
      replace hC := hC.grow hB_
      refine ae_look 0 (.agg #[u1_0]) rfl rfl (by kernel_rfl) (hM32 0 rfl) (fun w_ hB_ => .inl ⟨rfl, by exact r_loadA (hC.grow hB_) 2 [u1_0] rfl ag51 rfl rfl rfl⟩) (listed' := (List.toArray [true, false, false, false, false, false, false, false, false, false, false])) rfl ?_
      refine ae_lookF 2 (u0_0) rfl rfl (by kernel_rfl) (hM33 2 rfl) (fun w_ => .inl ⟨rfl, by exact r_mv (v := u0_0) rfl⟩) (listed' := (List.toArray [true, false, true, false, false, false, false, false, false, false, false])) rfl ?_
      refine ae_look 3 (.agg #[u2_0]) rfl rfl (by kernel_rfl) (hM32 3 rfl) (fun w_ hB_ => .inl ⟨rfl, by exact r_loadA (hC.grow hB_) 1 [u2_0] rfl ag51 rfl rfl rfl⟩) (listed' := (List.toArray [true, false, true, true, false, false, false, false, false, false, false])) rfl ?_
      refine ae_one 1 rfl (by kernel_rfl) ?_
      refine s_call [.agg #[u1_0]] _ Try.func91 rfl rfl rfl (c_impl_sumOf a1 h _ (form_mk (hC.getP 1 rfl))) (fun ret34 w36 hR35 => ?_)
      obtain ⟨r37, b38, rfl, h, hr39, hf40, hB41⟩ := hR35
      refine ⟨_, rfl, ?_⟩
      replace hC := hC.push hB41 (mapI (kvA .i64) (vvI .i64) b38 r37) hr39 (fun b_ hb_ => by obtain rfl := List.mem_singleton.1 hb_; exact hf40)
      refine done ?_
      refine ak_intro (by assumption) (listed' := (List.toArray [true, true, true, true, false, false, false, false, false, false, false])) rfl ?_
      refine ae_one 4 rfl (by kernel_rfl) ?_
      refine s_call [.agg #[u2_0]] _ Try.func91 rfl rfl rfl (c_impl_sumOf a2 h _ (form_mk (hC.getP 0 rfl))) (fun ret43 w45 hR44 => ?_)
      obtain ⟨r46, b47, rfl, h, hr48, hf49, hB50⟩ := hR44
      refine ⟨_, rfl, ?_⟩
      replace hC := hC.push hB50 (mapI (kvA .i64) (vvI .i64) b47 r46) hr48 (fun b_ hb_ => by obtain rfl := List.mem_singleton.1 hb_; exact hf49)
      refine done ?_
      refine ak_intro (by assumption) (listed' := (List.toArray [true, true, true, true, true, false, false, false, false, false, false])) rfl ?_
      refine ae_one 5 rfl (by kernel_rfl) ?_
      refine s_call [.map (some b38), u0_0, .map (some b47)] _ Try.func112 rfl rfl rfl (c_impl_sum_times r37 a0 r46 h _ (hC.getM 1 rfl) (hC.getP 2 rfl) (hC.getM 0 rfl)) (fun ret52 w54 hR53 => ?_)
      obtain ⟨r55, b56, rfl, h, hr57, hf58, hB59⟩ := hR53
      refine ⟨_, rfl, ?_⟩
      replace hC := hC.push hB59 (mapI (kvA .i64) (vvI .i64) b56 r55) hr57 (fun b_ hb_ => by obtain rfl := List.mem_singleton.1 hb_; exact hf58)
      refine done ?_
      refine ak_intro (by assumption) (listed' := (List.toArray [true, true, true, true, true, true, false, false, false, false, false])) rfl ?_
      refine ae_one 6 rfl (by kernel_rfl) ?_
      refine s_call [.map (some b56)] _ Try.func66 rfl rfl rfl (c_impl_sum_form r55 h _ (hC.getM 0 rfl)) (fun ret61 w63 hR62 => ?_)
      obtain ⟨r64, u65, f66, r69, rfl, h, hr67, hf68, hB70⟩ := hR62
      refine ⟨_, rfl, ?_⟩
      replace hC := hC.push hB70 (Tr.item (TrForm 93) r64 [u65] f66) hr67 hf68
      obtain ⟨ho72, hf73⟩ := form_split (hC.getM 0 rfl)
      subst hf73
      replace hC := hC.recast (c := own 93 9 u65 r64.terms.length (ETerm.encs r64.terms)) (fun _ h_ => h_) (fun _ => ho72)
      refine done ?_
      refine ak_intro (by assumption) (listed' := (List.toArray [true, true, true, true, true, true, true, false, false, false, false])) rfl ?_
      refine ae_lookF 7 (.agg #[u65]) rfl rfl (by kernel_rfl) (hM33 7 rfl) (fun w_ => .inl ⟨rfl, by exact r_ext (v := .agg #[u65]) rfl rfl⟩) (listed' := (List.toArray [true, true, true, true, true, true, true, true, false, false, false])) rfl ?_
      refine ae_lookF 8 (.int .i64 r69) rfl rfl (by kernel_rfl) (hM33 8 rfl) (fun w_ => .inl ⟨rfl, by exact r_ext (v := .int .i64 r69) rfl rfl⟩) (listed' := (List.toArray [true, true, true, true, true, true, true, true, true, false, false])) rfl ?_
      refine ae_tail 9 (by decide) (by decide) (by kernel_rfl) rfl rfl ?_
      refine s_store (v := .agg #[u65]) hC 4 [u65] [u65] rfl ag51.size rfl rfl rfl rfl (all_c (own_oneC (hC.getM 0 rfl)) rfl) (Nat.le_of_ble_eq_true rfl) rfl fun w75 hC => ?_
      refine s_as (v := .int .i64 r69) rfl ?_
      refine done ?_
      refine qn_norm ?_
      refine then_norm ?_
      refine wp_ret ?_
      refine ret2 (fn := Try.f60) rfl ?_ ?_ ⟨r64, u65, (Option.toList (Value.ownBlock u65)), r69, rfl, h, (form_join (own_item (hC.getM 0 rfl))), (own_fresh hC 0 rfl), hC.below⟩ (.inl rfl)
      · exact res_cellA hC 4 rfl ag51 rfl rfl
      · exact res_tmp rfl
def f_spec_AddForms (a0 : List Int) (a1 : Vc.Form) (a2 : Vc.Form) (K : Vc.Form → Int → Prop) : Prop :=
  f_spec_l01Degrees a0 (fun r20 => (if ¬ (r20 = true) then K (⟨[]⟩ : Vc.Form) 1 else f_spec_l01Is a0 a1 (fun r27 => (if ¬ (r27 = true) then K (⟨[]⟩ : Vc.Form) 1 else f_spec_l01Is a0 a2 (fun r34 => (if ¬ (r34 = true) then K (⟨[]⟩ : Vc.Form) 1 else f_spec_l01Add a1 a2 1 (fun r41 => f_spec_l01Told a0 (⟨r41.terms⟩ : Vc.Form) (fun r59 r64 => K r59 r64))))))))
theorem c_spec_AddForms (a0 : List Int) (a1 : Vc.Form) (a2 : Vc.Form) {u0_0 : Value} {u1_0 : Value} {u2_0 : Value} {fp0 : List Nat} {fp1 : List Nat} {fp2 : List Nat} {K : Vc.Form → Int → Prop} (h : f_spec_AddForms a0 a1 a2 K) (w0 : World) (q0 : ((EI .i64).ty.sl).rep a0 [u0_0] fp0 w0) (q1 : TForm.rep a1 [u1_0] fp1 w0) (q2 : TForm.rep a2 [u2_0] fp2 w0) :
    Calls Try.prog 40 #[u0_0, .agg #[u1_0], .agg #[u2_0]] w0 fun e w' => ∃ (r0 : Vc.Form) (z0_0 : Value) (fz0 : List Nat) (r1 : Int), 
      e = .returned (.tuple #[.agg #[z0_0], .int .i64 r1]) ∧ K r0 r1 ∧ TForm.rep r0 [z0_0] fz0 w' ∧ (∀ b, b ∈ fz0 → w0.heap.size ≤ b ∨ b ∈ (fp0 ++ (fp1 ++ (fp2)))) ∧ Bel w0 w' := by
  unfold f_spec_AddForms at h
  refine calls_of (args := [u0_0, .agg #[u1_0], .agg #[u2_0]]) Try.func40 rfl 31 Try.ntmps40 (Nat.le_of_ble_eq_true rfl) ?_
  have hC := Ctx.start (X := Nox) w0 [Ty.item ((EI .i64).ty.sl) a0 [u0_0] fp0, Ty.item TForm a1 [u1_0] fp1, Ty.item TForm a2 [u2_0] fp2] (by simp only [List.mem_cons, List.not_mem_nil, or_false, forall_eq_or_imp, forall_eq]; exact ⟨q0, q1, q2⟩)
  have hp4 := (hC.getP 1 rfl)
  replace hC := hC.derive 1 rfl (Ty.item ETerm.ty.sl a1.terms [u1_0] fp1) (fun _ => (form_parts hp4)) (fun _ hb_ => hb_)
  have hp6 := (hC.getP 3 rfl)
  replace hC := hC.derive 3 rfl (Ty.item ETerm.ty.sl a2.terms [u2_0] fp2) (fun _ => (form_parts hp6)) (fun _ hb_ => hb_)
  refine wp_seq ?_
  refine cw_region ?_
  refine s_box (v := .agg #[u1_0]) hC [u1_0] rfl rfl fun b8 w10 hB_ hC => ?_
  refine s_box (v := .agg #[u2_0]) hC [u2_0] rfl rfl fun b11 w13 hB_ hC => ?_
  refine s_alloc hC [.slice none 0 0] z51 rfl fun b14 w16 hB_ hC => ?_
  refine s_as (v := .int .i64 0) rfl ?_
  refine done ?_
  refine then_norm ?_
  refine wp_seq ?_
  refine wp_seq ?_
  refine cw_region ?_
  refine s_mv (v := u0_0) rfl ?_
  refine s_call [u0_0] _ Try.func61 rfl rfl rfl (c_spec_l01Degrees a0 h _ (hC.getP 2 rfl)) (fun ret17 w19 hR18 => ?_)
  obtain ⟨r20, rfl, h, hB21⟩ := hR18
  refine ⟨_, rfl, ?_⟩
  replace hC := hC.grow hB21
  refine s_not rfl ?_
  refine s_mv (v := .bool (!r20)) rfl ?_
  refine bsplit (!r20) (fun hb22 => ?_) (fun hb22 => ?_)
  · replace h := ift h (ne_t (not_t hb22))
    refine guardOff (b := true) 3 11 rfl (tr rfl (congrArg _ hb22)) (by decide) ?_
    refine guardOff (b := true) 3 11 rfl (tr rfl (congrArg _ hb22)) (by decide) ?_
    refine guardOff (b := true) 3 11 rfl (tr rfl (congrArg _ hb22)) (by decide) ?_
    refine guardOff (b := true) 3 11 rfl (tr rfl (congrArg _ hb22)) (by decide) ?_
    refine s_pick (v := .bool true) (b := true) (tr rfl (congrArg _ hb22)) rfl ?_
    refine s_mv (v := .bool true) rfl ?_
    refine guardOff (b := true) 9 17 rfl (tr rfl (congrArg _ rfl)) (by decide) ?_
    refine guardOff (b := true) 9 17 rfl (tr rfl (congrArg _ rfl)) (by decide) ?_
    refine guardOff (b := true) 9 17 rfl (tr rfl (congrArg _ rfl)) (by decide) ?_
    refine guardOff (b := true) 9 17 rfl (tr rfl (congrArg _ rfl)) (by decide) ?_
    refine s_pick (v := .bool true) (b := true) rfl rfl ?_
    refine done ?_
    refine then_norm ?_
    refine cw_true rfl rfl ?_
    refine wp_seq ?_
    refine cw_region ?_
    refine s_build [] rfl (bl51   _) ?_
    refine s_store (v := .agg #[.slice none 0 0]) hC 0 [.slice none 0 0] [.slice none 0 0] rfl ag51.size rfl rfl rfl rfl rfl (Nat.le_of_ble_eq_true rfl) rfl fun w23 hC => ?_
    refine s_as (v := .int .i64 1) rfl ?_
    refine done ?_
    refine then_norm ?_
    refine wp_ret (then_ret ?_)
    refine ret2 (fn := Try.f40) rfl ?_ ?_ ⟨(⟨[]⟩ : Vc.Form), .slice none 0 0, [], 1, rfl, h, (form_mk (rep_nil _ _)), (fun b hb => .inl ((fun b hb => absurd hb (by simp)) b hb)), hC.below⟩ (.inl rfl)
    · exact res_cellA hC 0 rfl ag51 rfl rfl
    · exact res_tmp rfl
  · replace h := iff_ h (not_not_intro ((not_f hb22)))
    refine guardOn 3 11 rfl rfl hb22 ?_
    refine s_mv (v := u0_0) rfl ?_
    refine guardOn 3 11 rfl rfl hb22 ?_
    refine s_loadA hC 2 [u1_0] rfl ag51 rfl rfl rfl ?_
    refine guardOn 3 11 rfl rfl hb22 ?_
    refine s_call [u0_0, .agg #[u1_0]] _ Try.func87 rfl rfl rfl (c_spec_l01Is a0 a1 h _ (hC.getP 2 rfl) (form_mk (hC.getP 1 rfl))) (fun ret24 w26 hR25 => ?_)
    obtain ⟨r27, rfl, h, hB28⟩ := hR25
    refine ⟨_, rfl, ?_⟩
    replace hC := hC.grow hB28
    refine guardOn 3 11 rfl rfl hb22 ?_
    refine s_not rfl ?_
    refine s_pick (v := .bool (!r27)) (b := false) (tr rfl (congrArg _ hb22)) rfl ?_
    refine s_mv (v := .bool (!r27)) rfl ?_
    refine bsplit (!r27) (fun hb29 => ?_) (fun hb29 => ?_)
    · replace h := ift h (ne_t (not_t hb29))
      refine guardOff (b := true) 9 17 rfl (tr rfl (congrArg _ hb29)) (by decide) ?_
      refine guardOff (b := true) 9 17 rfl (tr rfl (congrArg _ hb29)) (by decide) ?_
      refine guardOff (b := true) 9 17 rfl (tr rfl (congrArg _ hb29)) (by decide) ?_
      refine guardOff (b := true) 9 17 rfl (tr rfl (congrArg _ hb29)) (by decide) ?_
      refine s_pick (v := .bool true) (b := true) (tr rfl (congrArg _ hb29)) rfl ?_
      refine done ?_
      refine then_norm ?_
      refine cw_true rfl rfl ?_
      refine wp_seq ?_
      refine cw_region ?_
      refine s_build [] rfl (bl51   _) ?_
      refine s_store (v := .agg #[.slice none 0 0]) hC 0 [.slice none 0 0] [.slice none 0 0] rfl ag51.size rfl rfl rfl rfl rfl (Nat.le_of_ble_eq_true rfl) rfl fun w30 hC => ?_
      refine s_as (v := .int .i64 1) rfl ?_
      refine done ?_
      refine then_norm ?_
      refine wp_ret (then_ret ?_)
      refine ret2 (fn := Try.f40) rfl ?_ ?_ ⟨(⟨[]⟩ : Vc.Form), .slice none 0 0, [], 1, rfl, h, (form_mk (rep_nil _ _)), (fun b hb => .inl ((fun b hb => absurd hb (by simp)) b hb)), hC.below⟩ (.inl rfl)
      · exact res_cellA hC 0 rfl ag51 rfl rfl
      · exact res_tmp rfl
    · replace h := iff_ h (not_not_intro ((not_f hb29)))
      refine guardOn 9 17 rfl rfl hb29 ?_
      refine s_mv (v := u0_0) rfl ?_
      refine guardOn 9 17 rfl rfl hb29 ?_
      refine s_loadA hC 1 [u2_0] rfl ag51 rfl rfl rfl ?_
      refine guardOn 9 17 rfl rfl hb29 ?_
      refine s_call [u0_0, .agg #[u2_0]] _ Try.func87 rfl rfl rfl (c_spec_l01Is a0 a2 h _ (hC.getP 2 rfl) (form_mk (hC.getP 0 rfl))) (fun ret31 w33 hR32 => ?_)
      obtain ⟨r34, rfl, h, hB35⟩ := hR32
      refine ⟨_, rfl, ?_⟩
      replace hC := hC.grow hB35
      refine guardOn 9 17 rfl rfl hb29 ?_
      refine s_not rfl ?_
      refine s_pick (v := .bool (!r34)) (b := false) (tr rfl (congrArg _ hb29)) rfl ?_
      refine done ?_
      refine then_norm ?_
      refine cw_cond rfl (fun hb36 => ?_) (fun hb36 => ?_)
      · replace h := ift h (ne_t (not_t hb36))
        refine wp_seq ?_
        refine cw_region ?_
        refine s_build [] rfl (bl51   _) ?_
        refine s_store (v := .agg #[.slice none 0 0]) hC 0 [.slice none 0 0] [.slice none 0 0] rfl ag51.size rfl rfl rfl rfl rfl (Nat.le_of_ble_eq_true rfl) rfl fun w37 hC => ?_
        refine s_as (v := .int .i64 1) rfl ?_
        refine done ?_
        refine then_norm ?_
        refine wp_ret (then_ret ?_)
        refine ret2 (fn := Try.f40) rfl ?_ ?_ ⟨(⟨[]⟩ : Vc.Form), .slice none 0 0, [], 1, rfl, h, (form_mk (rep_nil _ _)), (fun b hb => .inl ((fun b hb => absurd hb (by simp)) b hb)), hC.below⟩ (.inl rfl)
        · exact res_cellA hC 0 rfl ag51 rfl rfl
        · exact res_tmp rfl
      · replace h := iff_ h (not_not_intro ((not_f hb36)))
        refine wp_skip ?_
        refine then_norm ?_
        refine wp_seq ?_
        refine cw_region ?_
        refine s_mv (v := u0_0) rfl ?_
        refine s_loadA hC 2 [u1_0] rfl ag51 rfl rfl rfl ?_
        refine s_loadA hC 1 [u2_0] rfl ag51 rfl rfl rfl ?_
        refine s_call [.agg #[u1_0], .agg #[u2_0], .int .i64 1] _ Try.func82 rfl rfl rfl (c_spec_l01Add a1 a2 1 h _ (form_mk (hC.getP 1 rfl)) (form_mk (hC.getP 0 rfl))) (fun ret38 w40 hR39 => ?_)
        obtain ⟨r41, u42, f43, rfl, h, hr44, hf45, hB46⟩ := hR39
        refine ⟨_, rfl, ?_⟩
        replace hC := hC.push hB46 (Tr.item (TrForm 93) r41 [u42] f43) hr44 hf45
        obtain ⟨ho48, hf49⟩ := form_split (hC.getM 0 rfl)
        subst hf49
        replace hC := hC.recast (c := own 93 9 u42 r41.terms.length (ETerm.encs r41.terms)) (fun _ h_ => h_) (fun _ => ho48)
        have hs54 := own_fresh hC 0 rfl
        replace hC := hC.thaw 0 rfl (Ty.item ETerm.ty.sl r41.terms [u42] (Option.toList (Value.ownBlock u42))) own_repE (fun _ hb_ => hb_)
        refine s_call [u0_0, .agg #[u42]] _ Try.func88 rfl rfl rfl (c_spec_l01Told a0 (⟨r41.terms⟩ : Vc.Form) h _ (hC.getP 3 rfl) (form_mk (hC.getP 0 rfl))) (fun ret56 w58 hR57 => ?_)
        obtain ⟨r59, u60, f61, r64, rfl, h, hr62, hf63, hB65⟩ := hR57
        refine ⟨_, rfl, ?_⟩
        have hs66 : ∀ b, b ∈ f61 → w0.heap.size ≤ b ∨ b ∈ (fp0 ++ (fp1 ++ (fp2))) := (fun b hb => (hf63 b hb).elim (fun h_ => .inl (Nat.le_trans hC.size h_)) (fun hb => (List.mem_append.1 hb).elim (fun hb => .inr (List.mem_append_left _ hb)) (fun hb => .inl (hs54 b hb))))
        replace hC := hC.pushR hB65 (Ty.item TForm r59 [u60] f61) hr62 (fun b hb => (hf63 b hb).elim .inl (fun hb => .inr ((List.mem_append.1 hb).elim (fun hb => ⟨_, List.mem_of_getElem? (i := 3) rfl, hb⟩) (fun hb => ⟨_, List.mem_of_getElem? (i := 0) rfl, hb⟩))))
        have hp68 := (hC.getP 0 rfl)
        replace hC := hC.derive 0 rfl (Ty.item ETerm.ty.sl r59.terms [u60] f61) (fun _ => (form_parts hp68)) (fun _ hb_ => hb_)
        refine s_ext (v := .agg #[u60]) rfl rfl ?_
        refine s_ext (v := .int .i64 r64) rfl rfl ?_
        refine s_store (v := .agg #[u60]) hC 0 [u60] [u60] rfl ag51.size rfl rfl rfl rfl (all_c (rep_oneC (hC.getP 0 rfl)) rfl) (Nat.le_of_ble_eq_true rfl) rfl fun w70 hC => ?_
        refine s_as (v := .int .i64 r64) rfl ?_
        refine done ?_
        refine then_norm ?_
        refine wp_ret ?_
        refine ret2 (fn := Try.f40) rfl ?_ ?_ ⟨r59, u60, f61, r64, rfl, h, (form_mk (hC.getP 0 rfl)), (fun b hb => hs66 b hb), hC.below⟩ (.inl rfl)
        · exact res_cellA hC 0 rfl ag51 rfl rfl
        · exact res_tmp rfl
end Go.Proofs.Ytjngkbalaipdbaa
