/- Printed by vcgen.py: functions of the program as predicates, and that the machine's calls meet them. -/
import Derived.Test.YtjngkbalaipdbaaGC
import Derived.Test.YtjngkbalaipdbaaVo
import Derived.KernelRfl
set_option linter.unusedVariables false
set_option linter.unusedSimpArgs false
set_option maxRecDepth 4000
set_option maxHeartbeats 4000000
namespace Go.Proofs.Ytjngkbalaipdbaa
open Go Go.RowKit Vc
theorem bs40_1 (x0 : A8) (w : World) : (Instr.buildSlice 40 1 #[(0, .agg (List.toArray (A8.enc .u8 x0)))]).run Try.prog w = .ok (.slice (some ⟨w.heap.size, 0, none⟩) 1 1) (w.alloc (.cells (List.toArray ((EA .u8).encs [x0])) 24)) := by kernel_rfl
theorem el24 : ElemT Try.prog 24 (.agg (List.toArray (A8.enc .u8 A8.zero))) 8 8 := by unfold ElemT; kernel_rfl
theorem sc102 : ScaT Try.prog 102 := ⟨⟨_, Try.underlying102, rfl⟩, by kernel_rfl⟩
theorem bl134_0sl_1int (x0 : Value) (x1 : Int) (hx0 : IsSl x0) (w : World) : (Instr.build 134 #[(0, x0), (1, .int .i64 x1)]).run Try.prog w = .ok (.agg #[x0, .int .i64 x1, .slice none 0 0]) w := by obtain ⟨_, _, _, rfl⟩ := hx0; kernel_rfl
theorem bs40_0  (w : World) : (Instr.buildSlice 40 0 #[]).run Try.prog w = .ok (.slice (some ⟨w.heap.size, 0, none⟩) 0 0) (w.alloc (.cells (List.toArray ((EA .u8).encs [])) 24)) := by kernel_rfl
def f_spec_l01Fill (fu_ : Nat) (a0 : List Int) (a1 : A8) (a2 : Int) (a3 : Int) (a4 : List A8) (K : List A8 → Prop) : Prop :=
 match fu_ with
 | 0 => False
 | fu_ + 1 => (if a2 = (a0.length : Int) then (if a3 = 0 then (Room (a4.length + 1) 8 ∧ K (a4 ++ [a1])) else K a4) else ((0 ≤ a2 ∧ a2 < (a0.length : Int)) ∧ ((a0.getD a2.toNat default) ≠ 0 ∧ ((0 ≤ a2 ∧ a2 < (a0.length : Int)) ∧ (if Int.tmod (a0.getD a2.toNat default) 2 ≠ 0 then whileP (fun (s80 : A8 × (List A8) × Int) next82 => (if s80.2.2 ≥ 0 then (if (s80.2.1.length : Int) ≤ 400 then ((0 ≤ a2 ∧ a2 < 8) ∧ ((0 ≤ a2 ∧ a2 < (a0.length : Int)) ∧ f_spec_l01Fill fu_ a0 (s80.1.set a2.toNat (IntKind.u8.wrap s80.2.2)) (IntKind.i64.wrap (a2 + 1)) (IntKind.i64.wrap (a3 - (IntKind.i64.wrap (s80.2.2 * (a0.getD a2.toNat default))))) s80.2.1 (fun r105 => next82 (s80.1.set a2.toNat (IntKind.u8.wrap s80.2.2), r105, IntKind.i64.wrap (s80.2.2 - 1))))) else K s80.2.1) else K s80.2.1)) (a1, a4, (if 20 < (if 1 < IntKind.i64.wrap (Int.tdiv a3 (a0.getD a2.toNat default)) then 1 else IntKind.i64.wrap (Int.tdiv a3 (a0.getD a2.toNat default))) then 20 else (if 1 < IntKind.i64.wrap (Int.tdiv a3 (a0.getD a2.toNat default)) then 1 else IntKind.i64.wrap (Int.tdiv a3 (a0.getD a2.toNat default))))) else whileP (fun (s161 : A8 × (List A8) × Int) next163 => (if s161.2.2 ≥ 0 then (if (s161.2.1.length : Int) ≤ 400 then ((0 ≤ a2 ∧ a2 < 8) ∧ ((0 ≤ a2 ∧ a2 < (a0.length : Int)) ∧ f_spec_l01Fill fu_ a0 (s161.1.set a2.toNat (IntKind.u8.wrap s161.2.2)) (IntKind.i64.wrap (a2 + 1)) (IntKind.i64.wrap (a3 - (IntKind.i64.wrap (s161.2.2 * (a0.getD a2.toNat default))))) s161.2.1 (fun r186 => next163 (s161.1.set a2.toNat (IntKind.u8.wrap s161.2.2), r186, IntKind.i64.wrap (s161.2.2 - 1))))) else K s161.2.1) else K s161.2.1)) (a1, a4, (if 20 < IntKind.i64.wrap (Int.tdiv a3 (a0.getD a2.toNat default)) then 20 else IntKind.i64.wrap (Int.tdiv a3 (a0.getD a2.toNat default)))))))))
theorem c_spec_l01Fill (fu_ : Nat) : ∀ (a0 : List Int) (a1 : A8) (a2 : Int) (a3 : Int) (a4 : List A8) {u4_0 : Value} {u0_0 : Value} {fp0 : List Nat} {K : List A8 → Prop} (h : f_spec_l01Fill fu_ a0 a1 a2 a3 a4 K) (w0 : World) (q0 : ((EI .i64).ty.sl).rep a0 [u0_0] fp0 w0) (qo4 : (own 24 8 u4_0 a4.length ((EA .u8).encs a4)).holds w0) (do0 : ∀ b, b ∈ fp0 → b ∉ Option.toList (Value.ownBlock u4_0)),
  Calls Try.prog 114 #[u0_0, .agg (List.toArray (A8.enc .u8 a1)), .int .i64 a2, .int .i64 a3, u4_0] w0 fun e w' => ∃ (r0 : List A8) (z0_0 : Value), 
   e = .returned (z0_0) ∧ K r0 ∧ (own 24 8 z0_0 r0.length ((EA .u8).encs r0)).holds w' ∧ (∀ b, b ∈ Option.toList (Value.ownBlock z0_0) → b ∈ Option.toList (Value.ownBlock u4_0) ∨ w0.heap.size ≤ b) ∧ BelO (Option.toList (Value.ownBlock u4_0)) w0 w' := by
 induction fu_ with
 | zero =>
  intro a0 a1 a2 a3 a4 u4_0 u0_0 fp0 K h w0 q0 qo4 do0
  exact False.elim h
 | succ fu_ ih_ =>
  intro a0 a1 a2 a3 a4 u4_0 u0_0 fp0 K h w0 q0 qo4 do0
  rw [f_spec_l01Fill.eq_2] at h
  refine calls_of (args := [u0_0, .agg (List.toArray (A8.enc .u8 a1)), .int .i64 a2, .int .i64 a3, u4_0]) Try.func114 rfl 68 Try.ntmps114 (Nat.le_of_ble_eq_true rfl) ?_
  have hC := Ctx.startL w0 (Option.toList (Value.ownBlock u4_0)) [own 24 8 u4_0 a4.length ((EA .u8).encs a4)] [Ty.item ((EI .i64).ty.sl) a0 [u0_0] fp0] (by simp only [List.mem_cons, List.not_mem_nil, or_false, forall_eq_or_imp, forall_eq]; exact qo4) (by simp only [List.mem_cons, List.not_mem_nil, or_false, forall_eq_or_imp, forall_eq]; exact q0) (by simp only [List.mem_cons, List.not_mem_nil, or_false, forall_eq_or_imp, forall_eq]; exact (fun b_ hb_ => hb_)) (List.pairwise_singleton _ _) (by simp only [List.mem_cons, List.not_mem_nil, or_false, forall_eq_or_imp, forall_eq]; exact do0)
  refine sr ?_
  refine s_box (v := .agg (List.toArray (A8.enc .u8 a1))) hC (A8.enc .u8 a1) rfl rfl fun b3 w5 hB_ hC => ?_
  refine s_as (v := .slice none 0 0) rfl ?_
  refine dn ?_
  refine wp_seq ?_
  refine sr ?_
  refine s_mv (v := .int .i64 a2) rfl ?_
  refine s_mv (v := u0_0) rfl ?_
  obtain ⟨Ad6, c7, hv8⟩ := sl_len (hC.getP 0 rfl)
  refine s_len Try.underlying22 (tr rfl hv8) ?_
  refine s_eql rfl rfl ?_
  refine dn ?_
  refine cw_cond rfl (fun hb9 => ?_) (fun hb9 => ?_)
  ·replace h := ift h (ct hb9)
   refine wp_seq ?_
   refine sr ?_
   refine s_mv (v := .int .i64 a3) rfl ?_
   refine s_eql rfl rfl ?_
   refine dn ?_
   refine cw_cond rfl (fun hb10 => ?_) (fun hb10 => ?_)
   ·replace h := ift h (ct hb10)
    refine sr ?_
    refine s_mv (v := u4_0) rfl ?_
    refine s_loadA hC 0 (A8.enc .u8 a1) rfl ag24 rfl rfl rfl ?_
    refine s_bslice (sz := 8) hC [(0, .agg (List.toArray (A8.enc .u8 a1)))] ((EA .u8).encs [a1]) rfl (fun _ => bs40_1 a1 _) rfl (by decide) fun b11 w12 hB_ hC => ?_
    obtain ⟨hm16, h⟩ := h
    refine s_app hC 2 Try.underlying40 el24 rfl (by decide) (by decide) rfl (own_rdr (hC.getM 0 rfl)) (fun q hq => Enc.encs_one' (E := (EA .u8)) _ q hq) rfl rfl hm16 fun v14 w15 hC => ?_
    replace hC := own_re hC 2 ((a4 ++ [a1]).length) ((EA .u8).encs (a4 ++ [a1])) rfl (by simp) (by first | (simp [Enc.encs_append]; done) | simp [Enc.encs_append, Enc.encs])
    refine s_as (v := v14) rfl ?_
    refine dn ?_
    refine wp_ret (then_ret (then_ret ?_))
    refine ret1 (fn := Try.f114) rfl ?_ ⟨a4 ++ [a1], v14, rfl, h, (hC.getM 2 rfl), (fun b_ hb_ => (hC.mfp _ (List.mem_of_getElem? (i := 2) rfl) b_ hb_).symm), hC.belO⟩ (.inl rfl)
    exact res_tmp rfl
   ·replace h := iff_ h (cf hb10)
    refine wp_skip ?_
    refine then_norm ?_
    refine sr ?_
    refine s_mv (v := u4_0) rfl ?_
    refine s_as (v := u4_0) rfl ?_
    refine dn ?_
    refine wp_ret (then_ret ?_)
    refine ret1 (fn := Try.f114) rfl ?_ ⟨a4, u4_0, rfl, h, (hC.getM 1 rfl), (fun b_ hb_ => (hC.mfp _ (List.mem_of_getElem? (i := 1) rfl) b_ hb_).symm), hC.belO⟩ (.inl rfl)
    exact res_tmp rfl
  ·replace h := iff_ h (cf hb9)
   refine wp_skip ?_
   refine then_norm ?_
   refine sr ?_
   refine s_mv (v := .int .i64 a3) rfl ?_
   refine s_mv (v := u0_0) rfl ?_
   refine s_mv (v := .int .i64 a2) rfl ?_
   obtain ⟨⟨h0_17, h1_18⟩, h⟩ := h
   obtain ⟨Ad19, c20, hv21⟩ := sl_form (hC.getP 0 rfl) a2.toNat (show a2.toNat < a0.length by omega)
   refine s_iaddrS (len := a0.length) Try.underlying22 sc2.size (tr rfl hv21) rfl h0_17 h1_18 ?_
   refine s_loadCS (.int .i64 (a0.getD a2.toNat default)) (sl_cellsE (hC.getP 0 rfl) hv21 a2.toNat (show a2.toNat < a0.length by omega)) sc2 rfl ?_
   obtain ⟨h0_22, h⟩ := h
   refine s_quo rfl rfl h0_22 ?_
   refine s_as (v := .int .i64 (IntKind.i64.wrap (Int.tdiv a3 (a0.getD a2.toNat default)))) rfl ?_
   refine dn ?_
   refine wp_seq ?_
   refine sr ?_
   refine s_mv (v := u0_0) rfl ?_
   refine s_mv (v := .int .i64 a2) rfl ?_
   obtain ⟨⟨h0_23, h1_24⟩, h⟩ := h
   obtain ⟨Ad25, c26, hv27⟩ := sl_form (hC.getP 0 rfl) a2.toNat (show a2.toNat < a0.length by omega)
   refine s_iaddrS (len := a0.length) Try.underlying22 sc2.size (tr rfl hv27) rfl h0_23 h1_24 ?_
   refine s_loadCS (.int .i64 (a0.getD a2.toNat default)) (sl_cellsE (hC.getP 0 rfl) hv27 a2.toNat (show a2.toNat < a0.length by omega)) sc2 rfl ?_
   refine s_rem rfl rfl (by decide) ?_
   refine s_neq rfl rfl ?_
   refine dn ?_
   refine cw_cond rfl (fun hb28 => ?_) (fun hb28 => ?_)
   ·replace h := ift h (ct hb28)
    refine cw_region ?_
    refine s_mv (v := .int .i64 (IntKind.i64.wrap (Int.tdiv a3 (a0.getD a2.toNat default)))) rfl ?_
    refine s_min rfl rfl ?_
    refine s_as (v := .int .i64 (if 1 < IntKind.i64.wrap (Int.tdiv a3 (a0.getD a2.toNat default)) then 1 else IntKind.i64.wrap (Int.tdiv a3 (a0.getD a2.toNat default)))) rfl ?_
    refine dn ?_
    refine wp_seq ?_
    refine sr ?_
    refine s_mv (v := .int .i64 (if 1 < IntKind.i64.wrap (Int.tdiv a3 (a0.getD a2.toNat default)) then 1 else IntKind.i64.wrap (Int.tdiv a3 (a0.getD a2.toNat default)))) rfl ?_
    refine s_min rfl rfl ?_
    refine s_as (v := .int .i64 (if 20 < (if 1 < IntKind.i64.wrap (Int.tdiv a3 (a0.getD a2.toNat default)) then 1 else IntKind.i64.wrap (Int.tdiv a3 (a0.getD a2.toNat default))) then 20 else (if 1 < IntKind.i64.wrap (Int.tdiv a3 (a0.getD a2.toNat default)) then 1 else IntKind.i64.wrap (Int.tdiv a3 (a0.getD a2.toNat default))))) rfl ?_
    refine dn ?_
    refine wp_block ?_
    refine loopW (S := A8 × (List A8) × Int) _ (fun s80 e_ w_ => ∃ (v81 : Value), Slots e_ [(0, u0_0), (2, .int .i64 a2), (3, .int .i64 a3), (4, v81), (6, .pointer (some ⟨b3, 0, none⟩)), (10, .slice none 0 0), (12, .int .i64 s80.2.2)] ∧ Ctx (fun c_ => c_ ∈ Option.toList (Value.ownBlock u4_0)) w0 w_ [blk b3 24 (A8.enc .u8 s80.1), own 24 8 v81 s80.2.1.length ((EA .u8).encs s80.2.1)] [Ty.item ((EI .i64).ty.sl) a0 [u0_0] fp0]) ?_ (s0 := (a1, a4, (if 20 < (if 1 < IntKind.i64.wrap (Int.tdiv a3 (a0.getD a2.toNat default)) then 1 else IntKind.i64.wrap (Int.tdiv a3 (a0.getD a2.toNat default))) then 20 else (if 1 < IntKind.i64.wrap (Int.tdiv a3 (a0.getD a2.toNat default)) then 1 else IntKind.i64.wrap (Int.tdiv a3 (a0.getD a2.toNat default)))))) ?_ h
    ·clear hC h
     rintro s80 e_ w85 next82 K83 ⟨v81, hS_, hC⟩ h hK84
     refine wp_seq ?_
     refine sr ?_
     refine s_mv (v := .int .i64 s80.2.2) (sx hS_ 6 rfl) ?_
     refine s_geq rfl rfl ?_
     refine s_mv (v := .bool (decide (s80.2.2 ≥ 0))) rfl ?_
     refine bsplit (decide (s80.2.2 ≥ 0)) (fun hb86 => ?_) (fun hb86 => ?_)
     ·replace h := ift h (ct hb86)
      refine guardOn 2 42 rfl rfl hb86 ?_
      refine s_mv (v := v81) (sx hS_ 3 rfl) ?_
      refine guardOn 2 42 rfl rfl hb86 ?_
      obtain ⟨Ad87, c88, hv89⟩ := own_form (hC.getM 1 rfl)
      refine s_len Try.underlying40 (tr rfl hv89) ?_
      refine guardOn 2 42 rfl rfl hb86 ?_
      refine s_leq rfl rfl ?_
      refine s_pick (v := .bool (decide ((s80.2.1.length : Int) ≤ 400))) (b := true) (tr rfl (congrArg _ hb86)) rfl ?_
      refine dn ?_
      refine cw_cond rfl (fun hb90 => ?_) (fun hb90 => ?_)
      ·replace h := ift h (ct hb90)
       refine wp_skip ?_
       refine then_norm ?_
       refine wp_seq ?_
       refine wp_block ?_
       refine sr ?_
       refine s_mv (v := .int .i64 a2) (sx hS_ 1 rfl) ?_
       refine s_mv (v := .int .i64 s80.2.2) (sx hS_ 6 rfl) ?_
       refine s_conv Try.underlying2 Try.underlying5 rfl ?_
       obtain ⟨⟨h0_91, h1_92⟩, h⟩ := h
       refine s_iaddrB a2.toNat Try.underlying24 sc5.size (sx hS_ 4 rfl) rfl h0_91 h1_92 (by omega) ?_
       refine s_store (v := .int .u8 (IntKind.u8.wrap s80.2.2)) hC 0 [.int .u8 (IntKind.u8.wrap s80.2.2)] (A8.enc .u8 (s80.1.set a2.toNat (IntKind.u8.wrap s80.2.2))) rfl sc5.size rfl rfl rfl rfl rfl (show a2.toNat < 8 by omega) (A8.enc_set _ _ _ (show a2.toNat < 8 by omega)) fun w93 hC => ?_
       refine dn ?_
       refine cw_draw 13 mixed [0, 0, 0, 4, 0, 0, 0, 0, 192, 448, 992, 2032, 0, 8191, 16383] [1, 8, 9] [0, 2, 3, 4, 5, 6, 7, 10, 11, 12] (by kernel_rfl) (by kernel_rfl) (by kernel_rfl) (fun hM95 hM96 w94 hB_ => ?_)
       replace hC := hC.grow hB_
       refine ae_lookF belPre 0 (u0_0) rfl rfl (by kernel_rfl) (hM96 0 rfl) (fun w_ => .inl ⟨rfl, by exact r_mv (v := u0_0) (sx hS_ 0 rfl)⟩) (listed' := (dbits 15 1)) (by kernel_rfl) ?_
       refine ae_look belPre 1 (.agg (List.toArray (A8.enc .u8 (s80.1.set a2.toNat (IntKind.u8.wrap s80.2.2))))) rfl rfl (by kernel_rfl) (hM95 1 rfl) (fun w_ hB_ => .inl ⟨rfl, by exact r_loadA (hC.grow hB_) 0 (A8.enc .u8 (s80.1.set a2.toNat (IntKind.u8.wrap s80.2.2))) rfl ag24 (sx hS_ 4 rfl) rfl rfl⟩) (listed' := (dbits 15 3)) (by kernel_rfl) ?_
       refine ae_lookF belPre 2 (.int .i64 a2) rfl rfl (by kernel_rfl) (hM96 2 rfl) (fun w_ => .inl ⟨rfl, by exact r_mv (v := .int .i64 a2) (sx hS_ 1 rfl)⟩) (listed' := (dbits 15 7)) (by kernel_rfl) ?_
       refine ae_lookF belPre 3 (.int .i64 (IntKind.i64.wrap (a2 + 1))) rfl rfl (by kernel_rfl) (hM96 3 rfl) (fun w_ => .inl ⟨rfl, by exact r_add rfl rfl⟩) (listed' := (dbits 15 15)) (by kernel_rfl) ?_
       refine ae_lookF belPre 4 (.int .i64 a3) rfl rfl (by kernel_rfl) (hM96 4 rfl) (fun w_ => .inl ⟨rfl, by exact r_mv (v := .int .i64 a3) (sx hS_ 2 rfl)⟩) (listed' := (dbits 15 31)) (by kernel_rfl) ?_
       refine ae_lookF belPre 5 (.int .i64 s80.2.2) rfl rfl (by kernel_rfl) (hM96 5 rfl) (fun w_ => .inl ⟨rfl, by exact r_mv (v := .int .i64 s80.2.2) (sx hS_ 6 rfl)⟩) (listed' := (dbits 15 63)) (by kernel_rfl) ?_
       refine ae_lookF belPre 6 (u0_0) rfl rfl (by kernel_rfl) (hM96 6 rfl) (fun w_ => .inl ⟨rfl, by exact r_mv (v := u0_0) (sx hS_ 0 rfl)⟩) (listed' := (dbits 15 127)) (by kernel_rfl) ?_
       refine ae_lookF belPre 7 (.int .i64 a2) rfl rfl (by kernel_rfl) (hM96 7 rfl) (fun w_ => .inl ⟨rfl, by exact r_mv (v := .int .i64 a2) (sx hS_ 1 rfl)⟩) (listed' := (dbits 15 255)) (by kernel_rfl) ?_
       obtain ⟨⟨h0_97, h1_98⟩, h⟩ := h
       obtain ⟨Ad99, c100, hv101⟩ := sl_form (hC.getP 0 rfl) a2.toNat (show a2.toNat < a0.length by omega)
       refine ae_look belPre 8 (.pointer (some (Ad99.add (a2.toNat * 1)))) rfl rfl (by kernel_rfl) (hM95 8 rfl) (fun w_ hB_ => .inl ⟨rfl, by exact r_iaddrS (len := a0.length) Try.underlying22 sc2.size (by exact tr rfl hv101) rfl h0_97 h1_98⟩) (listed' := (dbits 15 511)) (by kernel_rfl) ?_
       refine ae_look belPre 9 (.int .i64 (a0.getD a2.toNat default)) rfl rfl (by kernel_rfl) (hM95 9 rfl) (fun w_ hB_ => .inl ⟨rfl, by exact r_loadCS (.int .i64 (a0.getD a2.toNat default)) (sl_cellsE ((hC.grow hB_).getP 0 rfl) hv101 a2.toNat (show a2.toNat < a0.length by omega)) sc2 rfl⟩) (listed' := (dbits 15 1023)) (by kernel_rfl) ?_
       refine ae_lookF belPre 10 (.int .i64 (IntKind.i64.wrap (s80.2.2 * (a0.getD a2.toNat default)))) rfl rfl (by kernel_rfl) (hM96 10 rfl) (fun w_ => .inl ⟨rfl, by exact r_mul rfl rfl⟩) (listed' := (dbits 15 2047)) (by kernel_rfl) ?_
       refine ae_lookF belPre 11 (.int .i64 (IntKind.i64.wrap (a3 - (IntKind.i64.wrap (s80.2.2 * (a0.getD a2.toNat default)))))) rfl rfl (by kernel_rfl) (hM96 11 rfl) (fun w_ => .inl ⟨rfl, by exact r_sub rfl rfl⟩) (listed' := (dbits 15 4095)) (by kernel_rfl) ?_
       refine ae_lookF belPre 12 (v81) rfl rfl (by kernel_rfl) (hM96 12 rfl) (fun w_ => .inl ⟨rfl, by exact r_mv (v := v81) (sx hS_ 3 rfl)⟩) (listed' := (dbits 15 8191)) (by kernel_rfl) ?_
       refine ae_tail 13 (by decide) (by decide) (by kernel_rfl) (by kernel_rfl) rfl ?_
       refine s_call [u0_0, .agg (List.toArray (A8.enc .u8 (s80.1.set a2.toNat (IntKind.u8.wrap s80.2.2)))), .int .i64 (IntKind.i64.wrap (a2 + 1)), .int .i64 (IntKind.i64.wrap (a3 - (IntKind.i64.wrap (s80.2.2 * (a0.getD a2.toNat default))))), v81] _ Try.func114 rfl rfl rfl (ih_ a0 (s80.1.set a2.toNat (IntKind.u8.wrap s80.2.2)) (IntKind.i64.wrap (a2 + 1)) (IntKind.i64.wrap (a3 - (IntKind.i64.wrap (s80.2.2 * (a0.getD a2.toNat default))))) s80.2.1 h _ (hC.getP 0 rfl) (hC.getM 1 rfl) (fun b_ hb_ hb2_ => hC.pd _ (List.mem_of_getElem? (i := 0) rfl) b_ hb_ _ (List.mem_of_getElem? (i := 1) rfl) hb2_)) (fun ret102 w104 hR103 => ?_)
       obtain ⟨r105, v106, rfl, h, hr107, hf108, hB109⟩ := hR103
       refine ⟨_, rfl, ?_⟩
       replace hC := hC.turnO 1 rfl hB109 hr107 hf108
       refine s_as (v := v106) rfl ?_
       refine done ?_
       refine qn_norm ?_
       refine blk_norm ?_
       refine then_norm ?_
       refine cw_region ?_
       refine s_mv (v := .int .i64 s80.2.2) (sx hS_ 6 rfl) ?_
       refine s_sub rfl rfl ?_
       refine s_as (v := .int .i64 (IntKind.i64.wrap (s80.2.2 - 1))) rfl ?_
       refine done ?_
       exact hK84 (s80.1.set a2.toNat (IntKind.u8.wrap s80.2.2), r105, IntKind.i64.wrap (s80.2.2 - 1)) _ _ ⟨v106, (sk (sx hS_ 0 rfl) (sk (sx hS_ 1 rfl) (sk (sx hS_ 2 rfl) (sk rfl (sk (sx hS_ 4 rfl) (sk (sx hS_ 5 rfl) (sk rfl sn))))))), hC⟩ h
      ·replace h := iff_ h (cf hb90)
       refine wp_exit (then_exit (then_exit (exit_in ?_)))
       refine then_norm ?_
       refine sr ?_
       refine s_mv (v := v81) (sx hS_ 3 rfl) ?_
       refine s_as (v := v81) rfl ?_
       refine dn ?_
       refine wp_ret ?_
       refine ret1 (fn := Try.f114) rfl ?_ ⟨s80.2.1, v81, rfl, h, (hC.getM 1 rfl), (fun b_ hb_ => (hC.mfp _ (List.mem_of_getElem? (i := 1) rfl) b_ hb_).symm), hC.belO⟩ (.inl rfl)
       exact res_tmp rfl
     ·replace h := iff_ h (cf hb86)
      refine guardOff (b := false) 2 42 rfl (tr rfl (congrArg _ hb86)) (by decide) ?_
      refine guardOff (b := false) 2 42 rfl (tr rfl (congrArg _ hb86)) (by decide) ?_
      refine guardOff (b := false) 2 42 rfl (tr rfl (congrArg _ hb86)) (by decide) ?_
      refine s_pick (v := .bool false) (b := false) (tr rfl (congrArg _ hb86)) rfl ?_
      refine dn ?_
      refine cw_false rfl rfl ?_
      refine wp_exit (then_exit (then_exit (exit_in ?_)))
      refine then_norm ?_
      refine sr ?_
      refine s_mv (v := v81) (sx hS_ 3 rfl) ?_
      refine s_as (v := v81) rfl ?_
      refine dn ?_
      refine wp_ret ?_
      refine ret1 (fn := Try.f114) rfl ?_ ⟨s80.2.1, v81, rfl, h, (hC.getM 1 rfl), (fun b_ hb_ => (hC.mfp _ (List.mem_of_getElem? (i := 1) rfl) b_ hb_).symm), hC.belO⟩ (.inl rfl)
      exact res_tmp rfl
    ·skip
     exact ⟨u4_0, (sk rfl (sk rfl (sk rfl (sk rfl (sk rfl (sk rfl (sk rfl sn))))))), hC⟩
   ·replace h := iff_ h (cf hb28)
    refine wp_skip ?_
    refine then_norm ?_
    refine wp_seq ?_
    refine sr ?_
    refine s_mv (v := .int .i64 (IntKind.i64.wrap (Int.tdiv a3 (a0.getD a2.toNat default)))) rfl ?_
    refine s_min rfl rfl ?_
    refine s_as (v := .int .i64 (if 20 < IntKind.i64.wrap (Int.tdiv a3 (a0.getD a2.toNat default)) then 20 else IntKind.i64.wrap (Int.tdiv a3 (a0.getD a2.toNat default)))) rfl ?_
    refine dn ?_
    refine wp_block ?_
    refine loopW (S := A8 × (List A8) × Int) _ (fun s161 e_ w_ => ∃ (v162 : Value), Slots e_ [(0, u0_0), (2, .int .i64 a2), (3, .int .i64 a3), (4, v162), (6, .pointer (some ⟨b3, 0, none⟩)), (10, .slice none 0 0), (12, .int .i64 s161.2.2)] ∧ Ctx (fun c_ => c_ ∈ Option.toList (Value.ownBlock u4_0)) w0 w_ [blk b3 24 (A8.enc .u8 s161.1), own 24 8 v162 s161.2.1.length ((EA .u8).encs s161.2.1)] [Ty.item ((EI .i64).ty.sl) a0 [u0_0] fp0]) ?_ (s0 := (a1, a4, (if 20 < IntKind.i64.wrap (Int.tdiv a3 (a0.getD a2.toNat default)) then 20 else IntKind.i64.wrap (Int.tdiv a3 (a0.getD a2.toNat default))))) ?_ h
    ·clear hC h
     rintro s161 e_ w166 next163 K164 ⟨v162, hS_, hC⟩ h hK165
     refine wp_seq ?_
     refine sr ?_
     refine s_mv (v := .int .i64 s161.2.2) (sx hS_ 6 rfl) ?_
     refine s_geq rfl rfl ?_
     refine s_mv (v := .bool (decide (s161.2.2 ≥ 0))) rfl ?_
     refine bsplit (decide (s161.2.2 ≥ 0)) (fun hb167 => ?_) (fun hb167 => ?_)
     ·replace h := ift h (ct hb167)
      refine guardOn 2 42 rfl rfl hb167 ?_
      refine s_mv (v := v162) (sx hS_ 3 rfl) ?_
      refine guardOn 2 42 rfl rfl hb167 ?_
      obtain ⟨Ad168, c169, hv170⟩ := own_form (hC.getM 1 rfl)
      refine s_len Try.underlying40 (tr rfl hv170) ?_
      refine guardOn 2 42 rfl rfl hb167 ?_
      refine s_leq rfl rfl ?_
      refine s_pick (v := .bool (decide ((s161.2.1.length : Int) ≤ 400))) (b := true) (tr rfl (congrArg _ hb167)) rfl ?_
      refine dn ?_
      refine cw_cond rfl (fun hb171 => ?_) (fun hb171 => ?_)
      ·replace h := ift h (ct hb171)
       refine wp_skip ?_
       refine then_norm ?_
       refine wp_seq ?_
       refine wp_block ?_
       refine sr ?_
       refine s_mv (v := .int .i64 a2) (sx hS_ 1 rfl) ?_
       refine s_mv (v := .int .i64 s161.2.2) (sx hS_ 6 rfl) ?_
       refine s_conv Try.underlying2 Try.underlying5 rfl ?_
       obtain ⟨⟨h0_172, h1_173⟩, h⟩ := h
       refine s_iaddrB a2.toNat Try.underlying24 sc5.size (sx hS_ 4 rfl) rfl h0_172 h1_173 (by omega) ?_
       refine s_store (v := .int .u8 (IntKind.u8.wrap s161.2.2)) hC 0 [.int .u8 (IntKind.u8.wrap s161.2.2)] (A8.enc .u8 (s161.1.set a2.toNat (IntKind.u8.wrap s161.2.2))) rfl sc5.size rfl rfl rfl rfl rfl (show a2.toNat < 8 by omega) (A8.enc_set _ _ _ (show a2.toNat < 8 by omega)) fun w174 hC => ?_
       refine dn ?_
       refine cw_draw 13 mixed [0, 0, 0, 4, 0, 0, 0, 0, 192, 448, 992, 2032, 0, 8191, 16383] [1, 8, 9] [0, 2, 3, 4, 5, 6, 7, 10, 11, 12] (by kernel_rfl) (by kernel_rfl) (by kernel_rfl) (fun hM176 hM177 w175 hB_ => ?_)
       replace hC := hC.grow hB_
       refine ae_lookF belPre 0 (u0_0) rfl rfl (by kernel_rfl) (hM177 0 rfl) (fun w_ => .inl ⟨rfl, by exact r_mv (v := u0_0) (sx hS_ 0 rfl)⟩) (listed' := (dbits 15 1)) (by kernel_rfl) ?_
       refine ae_look belPre 1 (.agg (List.toArray (A8.enc .u8 (s161.1.set a2.toNat (IntKind.u8.wrap s161.2.2))))) rfl rfl (by kernel_rfl) (hM176 1 rfl) (fun w_ hB_ => .inl ⟨rfl, by exact r_loadA (hC.grow hB_) 0 (A8.enc .u8 (s161.1.set a2.toNat (IntKind.u8.wrap s161.2.2))) rfl ag24 (sx hS_ 4 rfl) rfl rfl⟩) (listed' := (dbits 15 3)) (by kernel_rfl) ?_
       refine ae_lookF belPre 2 (.int .i64 a2) rfl rfl (by kernel_rfl) (hM177 2 rfl) (fun w_ => .inl ⟨rfl, by exact r_mv (v := .int .i64 a2) (sx hS_ 1 rfl)⟩) (listed' := (dbits 15 7)) (by kernel_rfl) ?_
       refine ae_lookF belPre 3 (.int .i64 (IntKind.i64.wrap (a2 + 1))) rfl rfl (by kernel_rfl) (hM177 3 rfl) (fun w_ => .inl ⟨rfl, by exact r_add rfl rfl⟩) (listed' := (dbits 15 15)) (by kernel_rfl) ?_
       refine ae_lookF belPre 4 (.int .i64 a3) rfl rfl (by kernel_rfl) (hM177 4 rfl) (fun w_ => .inl ⟨rfl, by exact r_mv (v := .int .i64 a3) (sx hS_ 2 rfl)⟩) (listed' := (dbits 15 31)) (by kernel_rfl) ?_
       refine ae_lookF belPre 5 (.int .i64 s161.2.2) rfl rfl (by kernel_rfl) (hM177 5 rfl) (fun w_ => .inl ⟨rfl, by exact r_mv (v := .int .i64 s161.2.2) (sx hS_ 6 rfl)⟩) (listed' := (dbits 15 63)) (by kernel_rfl) ?_
       refine ae_lookF belPre 6 (u0_0) rfl rfl (by kernel_rfl) (hM177 6 rfl) (fun w_ => .inl ⟨rfl, by exact r_mv (v := u0_0) (sx hS_ 0 rfl)⟩) (listed' := (dbits 15 127)) (by kernel_rfl) ?_
       refine ae_lookF belPre 7 (.int .i64 a2) rfl rfl (by kernel_rfl) (hM177 7 rfl) (fun w_ => .inl ⟨rfl, by exact r_mv (v := .int .i64 a2) (sx hS_ 1 rfl)⟩) (listed' := (dbits 15 255)) (by kernel_rfl) ?_
       obtain ⟨⟨h0_178, h1_179⟩, h⟩ := h
       obtain ⟨Ad180, c181, hv182⟩ := sl_form (hC.getP 0 rfl) a2.toNat (show a2.toNat < a0.length by omega)
       refine ae_look belPre 8 (.pointer (some (Ad180.add (a2.toNat * 1)))) rfl rfl (by kernel_rfl) (hM176 8 rfl) (fun w_ hB_ => .inl ⟨rfl, by exact r_iaddrS (len := a0.length) Try.underlying22 sc2.size (by exact tr rfl hv182) rfl h0_178 h1_179⟩) (listed' := (dbits 15 511)) (by kernel_rfl) ?_
       refine ae_look belPre 9 (.int .i64 (a0.getD a2.toNat default)) rfl rfl (by kernel_rfl) (hM176 9 rfl) (fun w_ hB_ => .inl ⟨rfl, by exact r_loadCS (.int .i64 (a0.getD a2.toNat default)) (sl_cellsE ((hC.grow hB_).getP 0 rfl) hv182 a2.toNat (show a2.toNat < a0.length by omega)) sc2 rfl⟩) (listed' := (dbits 15 1023)) (by kernel_rfl) ?_
       refine ae_lookF belPre 10 (.int .i64 (IntKind.i64.wrap (s161.2.2 * (a0.getD a2.toNat default)))) rfl rfl (by kernel_rfl) (hM177 10 rfl) (fun w_ => .inl ⟨rfl, by exact r_mul rfl rfl⟩) (listed' := (dbits 15 2047)) (by kernel_rfl) ?_
       refine ae_lookF belPre 11 (.int .i64 (IntKind.i64.wrap (a3 - (IntKind.i64.wrap (s161.2.2 * (a0.getD a2.toNat default)))))) rfl rfl (by kernel_rfl) (hM177 11 rfl) (fun w_ => .inl ⟨rfl, by exact r_sub rfl rfl⟩) (listed' := (dbits 15 4095)) (by kernel_rfl) ?_
       refine ae_lookF belPre 12 (v162) rfl rfl (by kernel_rfl) (hM177 12 rfl) (fun w_ => .inl ⟨rfl, by exact r_mv (v := v162) (sx hS_ 3 rfl)⟩) (listed' := (dbits 15 8191)) (by kernel_rfl) ?_
       refine ae_tail 13 (by decide) (by decide) (by kernel_rfl) (by kernel_rfl) rfl ?_
       refine s_call [u0_0, .agg (List.toArray (A8.enc .u8 (s161.1.set a2.toNat (IntKind.u8.wrap s161.2.2)))), .int .i64 (IntKind.i64.wrap (a2 + 1)), .int .i64 (IntKind.i64.wrap (a3 - (IntKind.i64.wrap (s161.2.2 * (a0.getD a2.toNat default))))), v162] _ Try.func114 rfl rfl rfl (ih_ a0 (s161.1.set a2.toNat (IntKind.u8.wrap s161.2.2)) (IntKind.i64.wrap (a2 + 1)) (IntKind.i64.wrap (a3 - (IntKind.i64.wrap (s161.2.2 * (a0.getD a2.toNat default))))) s161.2.1 h _ (hC.getP 0 rfl) (hC.getM 1 rfl) (fun b_ hb_ hb2_ => hC.pd _ (List.mem_of_getElem? (i := 0) rfl) b_ hb_ _ (List.mem_of_getElem? (i := 1) rfl) hb2_)) (fun ret183 w185 hR184 => ?_)
       obtain ⟨r186, v187, rfl, h, hr188, hf189, hB190⟩ := hR184
       refine ⟨_, rfl, ?_⟩
       replace hC := hC.turnO 1 rfl hB190 hr188 hf189
       refine s_as (v := v187) rfl ?_
       refine done ?_
       refine qn_norm ?_
       refine blk_norm ?_
       refine then_norm ?_
       refine cw_region ?_
       refine s_mv (v := .int .i64 s161.2.2) (sx hS_ 6 rfl) ?_
       refine s_sub rfl rfl ?_
       refine s_as (v := .int .i64 (IntKind.i64.wrap (s161.2.2 - 1))) rfl ?_
       refine done ?_
       exact hK165 (s161.1.set a2.toNat (IntKind.u8.wrap s161.2.2), r186, IntKind.i64.wrap (s161.2.2 - 1)) _ _ ⟨v187, (sk (sx hS_ 0 rfl) (sk (sx hS_ 1 rfl) (sk (sx hS_ 2 rfl) (sk rfl (sk (sx hS_ 4 rfl) (sk (sx hS_ 5 rfl) (sk rfl sn))))))), hC⟩ h
      ·replace h := iff_ h (cf hb171)
       refine wp_exit (then_exit (then_exit (exit_in ?_)))
       refine then_norm ?_
       refine sr ?_
       refine s_mv (v := v162) (sx hS_ 3 rfl) ?_
       refine s_as (v := v162) rfl ?_
       refine dn ?_
       refine wp_ret ?_
       refine ret1 (fn := Try.f114) rfl ?_ ⟨s161.2.1, v162, rfl, h, (hC.getM 1 rfl), (fun b_ hb_ => (hC.mfp _ (List.mem_of_getElem? (i := 1) rfl) b_ hb_).symm), hC.belO⟩ (.inl rfl)
       exact res_tmp rfl
     ·replace h := iff_ h (cf hb167)
      refine guardOff (b := false) 2 42 rfl (tr rfl (congrArg _ hb167)) (by decide) ?_
      refine guardOff (b := false) 2 42 rfl (tr rfl (congrArg _ hb167)) (by decide) ?_
      refine guardOff (b := false) 2 42 rfl (tr rfl (congrArg _ hb167)) (by decide) ?_
      refine s_pick (v := .bool false) (b := false) (tr rfl (congrArg _ hb167)) rfl ?_
      refine dn ?_
      refine cw_false rfl rfl ?_
      refine wp_exit (then_exit (then_exit (exit_in ?_)))
      refine then_norm ?_
      refine sr ?_
      refine s_mv (v := v162) (sx hS_ 3 rfl) ?_
      refine s_as (v := v162) rfl ?_
      refine dn ?_
      refine wp_ret ?_
      refine ret1 (fn := Try.f114) rfl ?_ ⟨s161.2.1, v162, rfl, h, (hC.getM 1 rfl), (fun b_ hb_ => (hC.mfp _ (List.mem_of_getElem? (i := 1) rfl) b_ hb_).symm), hC.belO⟩ (.inl rfl)
      exact res_tmp rfl
    ·skip
     exact ⟨u4_0, (sk rfl (sk rfl (sk rfl (sk rfl (sk rfl (sk rfl (sk rfl sn))))))), hC⟩
def f_spec_l01Monomials (a0 : List Int) (a1 : Int) (K : List A8 → Prop) : Prop :=
 f_spec_l01Fill 9 a0 A8.zero 0 a1 [] (fun r6 => K r6)
theorem c_spec_l01Monomials (a0 : List Int) (a1 : Int) {u0_0 : Value} {fp0 : List Nat} {K : List A8 → Prop} (h : f_spec_l01Monomials a0 a1 K) (w0 : World) (q0 : ((EI .i64).ty.sl).rep a0 [u0_0] fp0 w0) :
  Calls Try.prog 75 #[u0_0, .int .i64 a1] w0 fun e w' => ∃ (r0 : List A8) (z0_0 : Value) (fz0 : List Nat), 
   e = .returned (z0_0) ∧ K r0 ∧ (Tr.item (Tr.sl 24 ((EA .u8).tr)) r0 [z0_0] fz0).holds w' ∧ (∀ b, b ∈ fz0 → w0.heap.size ≤ b) ∧ Bel w0 w' := by
 unfold f_spec_l01Monomials at h
 refine calls_of (args := [u0_0, .int .i64 a1]) Try.func75 rfl 9 Try.ntmps75 (Nat.le_of_ble_eq_true rfl) ?_
 have hC := Ctx.start (X := Nox) w0 [Ty.item ((EI .i64).ty.sl) a0 [u0_0] fp0] (by simp only [List.mem_cons, List.not_mem_nil, or_false, forall_eq_or_imp, forall_eq]; exact q0)
 refine sr ?_
 refine s_as (v := .slice none 0 0) rfl ?_
 refine dn ?_
 refine sr ?_
 refine s_mv (v := u0_0) rfl ?_
 refine s_build [] rfl (bl24   _) ?_
 refine s_mv (v := .int .i64 a1) rfl ?_
 replace hC := hC.pushNil 24 8
 refine s_call [u0_0, .agg (List.toArray (A8.enc .u8 A8.zero)), .int .i64 0, .int .i64 a1, .slice none 0 0] _ Try.func114 rfl rfl rfl (c_spec_l01Fill 9 a0 A8.zero 0 a1 [] h _ (hC.getP 0 rfl) (hC.getM 0 rfl) (fun b_ hb_ hb2_ => hC.pd _ (List.mem_of_getElem? (i := 0) rfl) b_ hb_ _ (List.mem_of_getElem? (i := 0) rfl) hb2_)) (fun ret3 w5 hR4 => ?_)
 obtain ⟨r6, v7, rfl, h, hr8, hf9, hB10⟩ := hR4
 refine ⟨_, rfl, ?_⟩
 replace hC := hC.turnO 0 rfl hB10 hr8 hf9
 refine s_as (v := v7) rfl ?_
 refine dn ?_
 refine wp_ret ?_
 refine ret1 (fn := Try.f75) rfl ?_ ⟨r6, v7, (Option.toList (Value.ownBlock v7)), rfl, h, (own_item (hC.getM 0 rfl)), (own_fresh hC 0 rfl), hC.below⟩ (.inl rfl)
 exact res_tmp rfl
def f_spec_MonomialsOf (a0 : List Int) (a1 : Int) (K : List A8 → Int → Prop) : Prop :=
 f_spec_l01Degrees a0 (fun r5 => (if ¬ (r5 = true) then K [] 1 else f_spec_l01In a1 0 40 (fun r11 => (if ¬ (r11 = true) then K [] 2 else f_spec_l01Monomials a0 a1 (fun r17 => (if (r17.length : Int) > 400 then K [] 3 else K r17 0))))))
theorem c_spec_MonomialsOf (a0 : List Int) (a1 : Int) {u0_0 : Value} {fp0 : List Nat} {K : List A8 → Int → Prop} (h : f_spec_MonomialsOf a0 a1 K) (w0 : World) (q0 : ((EI .i64).ty.sl).rep a0 [u0_0] fp0 w0) :
  Calls Try.prog 24 #[u0_0, .int .i64 a1] w0 fun e w' => ∃ (r0 : List A8) (z0_0 : Value) (fz0 : List Nat) (r1 : Int), 
   e = .returned (.tuple #[z0_0, .int .i64 r1]) ∧ K r0 r1 ∧ (Tr.item (Tr.sl 24 ((EA .u8).tr)) r0 [z0_0] fz0).holds w' ∧ (∀ b, b ∈ fz0 → w0.heap.size ≤ b) ∧ Bel w0 w' := by
 unfold f_spec_MonomialsOf at h
 refine calls_of (args := [u0_0, .int .i64 a1]) Try.func24 rfl 22 Try.ntmps24 (Nat.le_of_ble_eq_true rfl) ?_
 have hC := Ctx.start (X := Nox) w0 [Ty.item ((EI .i64).ty.sl) a0 [u0_0] fp0] (by simp only [List.mem_cons, List.not_mem_nil, or_false, forall_eq_or_imp, forall_eq]; exact q0)
 refine sr ?_
 refine s_as (v := .slice none 0 0) rfl ?_
 refine s_as (v := .int .i64 0) rfl ?_
 refine dn ?_
 refine wp_seq ?_
 refine wp_block ?_
 refine sr ?_
 refine s_mv (v := u0_0) rfl ?_
 refine s_call [u0_0] _ Try.func61 rfl rfl rfl (c_spec_l01Degrees a0 h _ (hC.getP 0 rfl)) (fun ret2 w4 hR3 => ?_)
 obtain ⟨r5, rfl, h, hB6⟩ := hR3
 refine ⟨_, rfl, ?_⟩
 replace hC := hC.grow hB6
 refine s_not rfl ?_
 refine s_as (v := .bool (!r5)) rfl ?_
 refine dn ?_
 refine cw_cond rfl (fun hb7 => ?_) (fun hb7 => ?_)
 ·replace h := ift h (ne_t (not_t hb7))
  refine sr ?_
  refine s_as (v := .slice none 0 0) rfl ?_
  refine s_as (v := .int .i64 1) rfl ?_
  refine dn ?_
  refine wp_ret (blk_ret (then_ret ?_))
  refine ret2 (fn := Try.f24) rfl ?_ ?_ ⟨[], .slice none 0 0, [], 1, rfl, h, (nil_item _ _ _), (fun b hb => absurd hb (by simp)), hC.below⟩ (.inl rfl)
  ·exact res_tmp rfl
  ·exact res_tmp rfl
 ·replace h := iff_ h (not_not_intro ((not_f hb7)))
  refine sr ?_
  refine s_mv (v := .int .i64 a1) rfl ?_
  refine s_call [.int .i64 a1, .int .i64 0, .int .i64 40] _ Try.func67 rfl rfl rfl (c_spec_l01In a1 0 40 h _) (fun ret8 w10 hR9 => ?_)
  obtain ⟨r11, rfl, h, hB12⟩ := hR9
  refine ⟨_, rfl, ?_⟩
  replace hC := hC.grow hB12
  refine s_not rfl ?_
  refine s_as (v := .bool (!r11)) rfl ?_
  refine dn ?_
  refine cw_cond rfl (fun hb13 => ?_) (fun hb13 => ?_)
  ·replace h := ift h (ne_t (not_t hb13))
   refine sr ?_
   refine s_as (v := .slice none 0 0) rfl ?_
   refine s_as (v := .int .i64 2) rfl ?_
   refine dn ?_
   refine wp_ret (blk_ret (then_ret ?_))
   refine ret2 (fn := Try.f24) rfl ?_ ?_ ⟨[], .slice none 0 0, [], 2, rfl, h, (nil_item _ _ _), (fun b hb => absurd hb (by simp)), hC.below⟩ (.inl rfl)
   ·exact res_tmp rfl
   ·exact res_tmp rfl
  ·replace h := iff_ h (not_not_intro ((not_f hb13)))
   refine wp_skip ?_
   refine blk_norm ?_
   refine then_norm ?_
   refine sr ?_
   refine s_mv (v := u0_0) rfl ?_
   refine s_mv (v := .int .i64 a1) rfl ?_
   refine s_call [u0_0, .int .i64 a1] _ Try.func75 rfl rfl rfl (c_spec_l01Monomials a0 a1 h _ (hC.getP 0 rfl)) (fun ret14 w16 hR15 => ?_)
   obtain ⟨r17, u18, f19, rfl, h, hr20, hf21, hB22⟩ := hR15
   refine ⟨_, rfl, ?_⟩
   replace hC := hC.push hB22 (Tr.item (Tr.sl 24 ((EA .u8).tr)) r17 [u18] f19) hr20 hf21
   obtain ⟨ho24, hf25⟩ := flat_tr (hC.getM 0 rfl).1
   subst hf25
   replace hC := hC.recast (c := own 24 8 u18 r17.length ((EA .u8).encs r17)) (fun _ h_ => h_) (fun _ => ho24)
   refine s_as (v := u18) rfl ?_
   refine dn ?_
   refine wp_seq ?_
   refine sr ?_
   refine s_mv (v := u18) rfl ?_
   obtain ⟨Ad27, c28, hv29⟩ := own_form (hC.getM 0 rfl)
   refine s_len Try.underlying40 (tr rfl hv29) ?_
   refine s_gtr rfl rfl ?_
   refine dn ?_
   refine cw_cond rfl (fun hb30 => ?_) (fun hb30 => ?_)
   ·replace h := ift h (ct hb30)
    refine sr ?_
    refine s_as (v := .slice none 0 0) rfl ?_
    refine s_as (v := .int .i64 3) rfl ?_
    refine dn ?_
    refine wp_ret (then_ret ?_)
    refine ret2 (fn := Try.f24) rfl ?_ ?_ ⟨[], .slice none 0 0, [], 3, rfl, h, (nil_item _ _ _), (fun b hb => absurd hb (by simp)), hC.below⟩ (.inl rfl)
    ·exact res_tmp rfl
    ·exact res_tmp rfl
   ·replace h := iff_ h (cf hb30)
    refine wp_skip ?_
    refine then_norm ?_
    refine sr ?_
    refine s_mv (v := u18) rfl ?_
    refine s_as (v := u18) rfl ?_
    refine s_as (v := .int .i64 0) rfl ?_
    refine dn ?_
    refine wp_ret ?_
    refine ret2 (fn := Try.f24) rfl ?_ ?_ ⟨r17, u18, (Option.toList (Value.ownBlock u18)), 0, rfl, h, (own_item (hC.getM 0 rfl)), (own_fresh hC 0 rfl), hC.below⟩ (.inl rfl)
    ·exact res_tmp rfl
    ·exact res_tmp rfl
def f_impl_lister_from (fu_ : Nat) (a0 : List Int × Int × List A8) (a1 : Int) (a2 : A8) (a3 : Int) (K : List A8 → Prop) : Prop :=
 match fu_ with
 | 0 => False
 | fu_ + 1 => (if (a0.2.2.length : Int) > a0.2.1 then K a0.2.2 else (if a1 = (a0.1.length : Int) then (if a3 = 0 then (Room (a0.2.2.length + 1) 64 ∧ K (a0.2.2 ++ [a2])) else K a0.2.2) else ((0 ≤ a1 ∧ a1 < (a0.1.length : Int)) ∧ ((a0.1.getD a1.toNat default) ≠ 0 ∧ (if Int.tmod (a0.1.getD a1.toNat default) 2 = 1 then whileP (fun (s65 : A8 × (List A8) × Int) next67 => (if s65.2.2 ≥ 0 then ((0 ≤ a1 ∧ a1 < 8) ∧ f_impl_lister_from fu_ (⟨a0.1, a0.2.1, s65.2.1⟩ : List Int × Int × List A8) (IntKind.i64.wrap (a1 + 1)) (s65.1.set a1.toNat s65.2.2) (IntKind.i64.wrap (a3 - (IntKind.i64.wrap (s65.2.2 * (a0.1.getD a1.toNat default))))) (fun m79 => next67 (s65.1.set a1.toNat s65.2.2, m79, IntKind.i64.wrap (s65.2.2 - 1)))) else K s65.2.1)) (a2, a0.2.2, (if 1 < (if 20 < IntKind.i64.wrap (Int.tdiv a3 (a0.1.getD a1.toNat default)) then 20 else IntKind.i64.wrap (Int.tdiv a3 (a0.1.getD a1.toNat default))) then 1 else (if 20 < IntKind.i64.wrap (Int.tdiv a3 (a0.1.getD a1.toNat default)) then 20 else IntKind.i64.wrap (Int.tdiv a3 (a0.1.getD a1.toNat default))))) else whileP (fun (s113 : A8 × (List A8) × Int) next115 => (if s113.2.2 ≥ 0 then ((0 ≤ a1 ∧ a1 < 8) ∧ f_impl_lister_from fu_ (⟨a0.1, a0.2.1, s113.2.1⟩ : List Int × Int × List A8) (IntKind.i64.wrap (a1 + 1)) (s113.1.set a1.toNat s113.2.2) (IntKind.i64.wrap (a3 - (IntKind.i64.wrap (s113.2.2 * (a0.1.getD a1.toNat default))))) (fun m127 => next115 (s113.1.set a1.toNat s113.2.2, m127, IntKind.i64.wrap (s113.2.2 - 1)))) else K s113.2.1)) (a2, a0.2.2, (if 20 < IntKind.i64.wrap (Int.tdiv a3 (a0.1.getD a1.toNat default)) then 20 else IntKind.i64.wrap (Int.tdiv a3 (a0.1.getD a1.toNat default)))))))))
theorem c_impl_lister_from (fu_ : Nat) : ∀ (a0 : List Int × Int × List A8) (a1 : Int) (a2 : A8) (a3 : Int) {b0 : Nat} {u0_0 : Value} {u0_2 : Value} {fp0 : List Nat} {K : List A8 → Prop} (h : f_impl_lister_from fu_ a0 a1 a2 a3 K) (w0 : World) (q0 : (Ty.item ((EI .i64).ty.sl) a0.1 [u0_0] fp0).holds w0) (qb0 : (blk b0 134 [u0_0, .int .i64 a0.2.1, u0_2]).holds w0) (qo0 : (own 85 8 u0_2 a0.2.2.length ((EA .i64).encs a0.2.2)).holds w0) (db0 : b0 ∉ Option.toList (Value.ownBlock u0_2)) (dq0 : ∀ b, b ∈ fp0 → b ∉ b0 :: Option.toList (Value.ownBlock u0_2)),
  Calls Try.prog 115 #[.pointer (some ⟨b0, 0, none⟩), .int .i64 a1, .agg (List.toArray (A8.enc .i64 a2)), .int .i64 a3] w0 fun e w' => ∃ (m0 : List A8) (y0 : Value), 
   e = .returned (.tuple #[]) ∧ K m0 ∧ (blk b0 134 [u0_0, .int .i64 a0.2.1, y0]).holds w' ∧ (own 85 8 y0 m0.length ((EA .i64).encs m0)).holds w' ∧ (∀ b, b ∈ Option.toList (Value.ownBlock y0) → b ∈ Option.toList (Value.ownBlock u0_2) ∨ w0.heap.size ≤ b) ∧ BelO (b0 :: Option.toList (Value.ownBlock u0_2)) w0 w' := by
 induction fu_ with
 | zero =>
  intro a0 a1 a2 a3 b0 u0_0 u0_2 fp0 K h w0 q0 qb0 qo0 db0 dq0
  exact False.elim h
 | succ fu_ ih_ =>
  intro a0 a1 a2 a3 b0 u0_0 u0_2 fp0 K h w0 q0 qb0 qo0 db0 dq0
  rw [f_impl_lister_from.eq_2] at h
  refine calls_of (args := [.pointer (some ⟨b0, 0, none⟩), .int .i64 a1, .agg (List.toArray (A8.enc .i64 a2)), .int .i64 a3]) Try.func115 rfl 74 Try.ntmps115 (Nat.le_of_ble_eq_true rfl) ?_
  have hC := Ctx.startL w0 (b0 :: Option.toList (Value.ownBlock u0_2)) [blk b0 134 [u0_0, .int .i64 a0.2.1, u0_2], own 85 8 u0_2 a0.2.2.length ((EA .i64).encs a0.2.2)] [Ty.item ((EI .i64).ty.sl) a0.1 [u0_0] fp0] (by simp only [List.mem_cons, List.not_mem_nil, or_false, forall_eq_or_imp, forall_eq]; exact ⟨qb0, qo0⟩) (by simp only [List.mem_cons, List.not_mem_nil, or_false, forall_eq_or_imp, forall_eq]; exact q0) (fun it_ hi_ b_ hb_ => (List.mem_cons.1 hi_).elim (fun e_ => by subst e_; exact List.mem_cons.2 (.inl (List.mem_singleton.1 hb_))) (fun hi_ => by obtain rfl := List.mem_singleton.1 hi_; exact List.mem_cons_of_mem _ hb_)) (List.pairwise_cons.2 ⟨(fun it_ hi_ b_ hb_ hb2_ => by obtain rfl := List.mem_singleton.1 hi_; exact db0 (List.mem_singleton.1 hb_ ▸ hb2_)), List.pairwise_singleton _ _⟩) (fun it_ hi_ b_ hb_ => by obtain rfl := List.mem_singleton.1 hi_; exact dq0 b_ hb_)
  refine sr ?_
  refine s_box (v := .agg (List.toArray (A8.enc .i64 a2))) hC (A8.enc .i64 a2) rfl rfl fun b4 w6 hB_ hC => ?_
  refine dn ?_
  refine wp_seq ?_
  refine wp_seq ?_
  refine cw_draw 9 mixed [0, 1, 3, 7, 15, 0, 32, 96, 224, 511] [3, 4, 8] [0, 1, 2, 5, 6, 7] (by kernel_rfl) (by kernel_rfl) (by kernel_rfl) (fun hM8 hM9 w7 hB_ => ?_)
  replace hC := hC.grow hB_
  refine ae_lookF belPre 0 (.pointer (some ⟨b0, 0, none⟩)) rfl rfl (by kernel_rfl) (hM9 0 rfl) (fun w_ => .inl ⟨rfl, by exact r_mv (v := .pointer (some ⟨b0, 0, none⟩)) rfl⟩) (listed' := (dbits 10 1)) (by kernel_rfl) ?_
  refine ae_lookF belPre 1 (.pointer (some ⟨b0, 0, none⟩)) rfl rfl (by kernel_rfl) (hM9 1 rfl) (fun w_ => .inl ⟨rfl, by exact r_nilchk rfl⟩) (listed' := (dbits 10 3)) (by kernel_rfl) ?_
  refine ae_lookF belPre 2 (.pointer (some ⟨b0, 2, none⟩)) rfl rfl (by kernel_rfl) (hM9 2 rfl) (fun w_ => .inl ⟨rfl, by exact r_faddrB 2 Try.underlying134 rfl sc102.size rfl rfl⟩) (listed' := (dbits 10 7)) (by kernel_rfl) ?_
  refine ae_look belPre 3 (u0_2) rfl rfl (by kernel_rfl) (hM8 3 rfl) (fun w_ hB_ => .inl ⟨rfl, by exact r_loadS (hC.grow hB_) 1 (u0_2) rfl sc102 rfl rfl⟩) (listed' := (dbits 10 15)) (by kernel_rfl) ?_
  obtain ⟨Ad10, c11, hv12⟩ := own_form (hC.getM 2 rfl)
  refine ae_look belPre 4 (.int .i64 (a0.2.2.length : Int)) rfl rfl (by kernel_rfl) (hM8 4 rfl) (fun w_ hB_ => .inl ⟨rfl, by exact r_len Try.underlying102 (by exact tr rfl hv12)⟩) (listed' := (dbits 10 31)) (by kernel_rfl) ?_
  refine ae_lookF belPre 5 (.pointer (some ⟨b0, 0, none⟩)) rfl rfl (by kernel_rfl) (hM9 5 rfl) (fun w_ => .inl ⟨rfl, by exact r_mv (v := .pointer (some ⟨b0, 0, none⟩)) rfl⟩) (listed' := (dbits 10 63)) (by kernel_rfl) ?_
  refine ae_lookF belPre 6 (.pointer (some ⟨b0, 0, none⟩)) rfl rfl (by kernel_rfl) (hM9 6 rfl) (fun w_ => .inl ⟨rfl, by exact r_nilchk rfl⟩) (listed' := (dbits 10 127)) (by kernel_rfl) ?_
  refine ae_lookF belPre 7 (.pointer (some ⟨b0, 1, none⟩)) rfl rfl (by kernel_rfl) (hM9 7 rfl) (fun w_ => .inl ⟨rfl, by exact r_faddrB 1 Try.underlying134 rfl sc3.size rfl rfl⟩) (listed' := (dbits 10 255)) (by kernel_rfl) ?_
  refine ae_look belPre 8 (.int .i64 a0.2.1) rfl rfl (by kernel_rfl) (hM8 8 rfl) (fun w_ hB_ => .inl ⟨rfl, by exact r_loadS (hC.grow hB_) 1 (.int .i64 a0.2.1) rfl sc3 rfl rfl⟩) (listed' := (dbits 10 511)) (by kernel_rfl) ?_
  refine ae_tail 9 (by decide) (by decide) (by kernel_rfl) (by kernel_rfl) rfl ?_
  refine s_gtr rfl rfl ?_
  refine done ?_
  refine qn_norm ?_
  refine then_norm ?_
  refine cw_cond rfl (fun hb13 => ?_) (fun hb13 => ?_)
  ·replace h := ift h (ct hb13)
   refine wp_ret (then_ret ?_)
   refine ret0 (fn := Try.f115) rfl  ⟨a0.2.2, u0_2, rfl, h, (hC.getM 1 rfl), (hC.getM 2 rfl), (fun b_ hb_ => (hC.mfp _ (List.mem_of_getElem? (i := 2) rfl) b_ hb_).elim .inr (fun q_ => (List.mem_cons.1 q_).elim (fun e_ => absurd hb_ (fun hb_ => hC.mm 1 2 rfl rfl (by decide) b_ (List.mem_singleton.2 e_) hb_)) .inl)), hC.belO⟩ (.inl rfl)
  ·replace h := iff_ h (cf hb13)
   refine wp_skip ?_
   refine then_norm ?_
   refine wp_seq ?_
   refine sr ?_
   refine s_mv (v := .int .i64 a1) rfl ?_
   refine s_mv (v := .pointer (some ⟨b0, 0, none⟩)) rfl ?_
   refine s_nilchk rfl ?_
   refine s_faddrB 0 Try.underlying134 rfl sc22.size rfl rfl ?_
   refine s_loadS hC 1 (u0_0) rfl sc22 rfl rfl ?_
   obtain ⟨Ad14, c15, hv16⟩ := sl_len (hC.getP 0 rfl)
   refine s_len Try.underlying22 (tr rfl hv16) ?_
   refine s_eql rfl rfl ?_
   refine dn ?_
   refine cw_cond rfl (fun hb17 => ?_) (fun hb17 => ?_)
   ·replace h := ift h (ct hb17)
    refine wp_seq ?_
    refine sr ?_
    refine s_mv (v := .int .i64 a3) rfl ?_
    refine s_eql rfl rfl ?_
    refine dn ?_
    refine cw_cond rfl (fun hb18 => ?_) (fun hb18 => ?_)
    ·replace h := ift h (ct hb18)
     refine cw_draw 7 mixed [0, 0, 2, 6, 14, 0, 32, 126, 255, 511, 1023] [4, 5] [0, 1, 2, 3] (by kernel_rfl) (by kernel_rfl) (by kernel_rfl) (fun hM20 hM21 w19 hB_ => ?_)
     replace hC := hC.grow hB_
     refine ae_lookF belPre 0 (.pointer (some ⟨b0, 0, none⟩)) rfl rfl (by kernel_rfl) (hM21 0 rfl) (fun w_ => .inl ⟨rfl, by exact r_mv (v := .pointer (some ⟨b0, 0, none⟩)) rfl⟩) (listed' := (dbits 11 1)) (by kernel_rfl) ?_
     refine ae_lookF belPre 1 (.pointer (some ⟨b0, 0, none⟩)) rfl rfl (by kernel_rfl) (hM21 1 rfl) (fun w_ => .inl ⟨rfl, by exact r_mv (v := .pointer (some ⟨b0, 0, none⟩)) rfl⟩) (listed' := (dbits 11 3)) (by kernel_rfl) ?_
     refine ae_lookF belPre 2 (.pointer (some ⟨b0, 0, none⟩)) rfl rfl (by kernel_rfl) (hM21 2 rfl) (fun w_ => .inl ⟨rfl, by exact r_nilchk rfl⟩) (listed' := (dbits 11 7)) (by kernel_rfl) ?_
     refine ae_lookF belPre 3 (.pointer (some ⟨b0, 2, none⟩)) rfl rfl (by kernel_rfl) (hM21 3 rfl) (fun w_ => .inl ⟨rfl, by exact r_faddrB 2 Try.underlying134 rfl sc102.size rfl rfl⟩) (listed' := (dbits 11 15)) (by kernel_rfl) ?_
     refine ae_look belPre 4 (u0_2) rfl rfl (by kernel_rfl) (hM20 4 rfl) (fun w_ hB_ => .inl ⟨rfl, by exact r_loadS (hC.grow hB_) 1 (u0_2) rfl sc102 rfl rfl⟩) (listed' := (dbits 11 31)) (by kernel_rfl) ?_
     refine ae_look belPre 5 (.agg (List.toArray (A8.enc .i64 a2))) rfl rfl (by kernel_rfl) (hM20 5 rfl) (fun w_ hB_ => .inl ⟨rfl, by exact r_loadA (hC.grow hB_) 0 (A8.enc .i64 a2) rfl ag85 rfl rfl rfl⟩) (listed' := (dbits 11 63)) (by kernel_rfl) ?_
     refine ae_one 6 rfl (by kernel_rfl) ?_
     refine s_bslice (sz := 8) hC [(0, .agg (List.toArray (A8.enc .i64 a2)))] ((EA .i64).encs [a2]) rfl (fun _ => bs102_1 a2 _) rfl (by decide) fun b22 w23 hB_ hC => ?_
     refine done ?_
     refine ak_intro (by assumption) (listed' := (dbits 11 127)) (by kernel_rfl) ?_
     refine ae_one 7 rfl (by kernel_rfl) ?_
     obtain ⟨hm27, h⟩ := h
     refine s_app hC 3 Try.underlying102 el85 rfl (by decide) (by decide) rfl (own_rdr (hC.getM 0 rfl)) (fun q hq => Enc.encs_one' (E := (EA .i64)) _ q hq) rfl rfl hm27 fun v25 w26 hC => ?_
     replace hC := own_re hC 3 ((a0.2.2 ++ [a2]).length) ((EA .i64).encs (a0.2.2 ++ [a2])) rfl (by simp) (by first | (simp [Enc.encs_append]; done) | simp [Enc.encs_append, Enc.encs])
     refine done ?_
     refine ak_introN (by decide) (listed' := (dbits 11 255)) (by kernel_rfl) ?_
     refine ae_tail 8 (by decide) (by decide) (by kernel_rfl) (by kernel_rfl) rfl ?_
     refine s_nilchk rfl ?_
     refine s_faddrB 2 Try.underlying134 rfl sc102.size rfl rfl ?_
     refine s_store (v := v25) hC 2 [v25] [u0_0, .int .i64 a0.2.1, v25] rfl sc102.size rfl rfl (own_cellsV (hC.getM 3 rfl)) rfl (all_c (own_oneC (hC.getM 3 rfl)) rfl) (Nat.le_of_ble_eq_true rfl) rfl fun w28 hC => ?_
     refine done ?_
     refine qn_norm ?_
     refine then_norm ?_
     refine wp_ret (then_ret ?_)
     refine ret0 (fn := Try.f115) rfl  ⟨a0.2.2 ++ [a2], v25, rfl, h, (hC.getM 2 rfl), (hC.getM 3 rfl), (fun b_ hb_ => (hC.mfp _ (List.mem_of_getElem? (i := 3) rfl) b_ hb_).elim .inr (fun q_ => (List.mem_cons.1 q_).elim (fun e_ => absurd hb_ (fun hb_ => hC.mm 2 3 rfl rfl (by decide) b_ (List.mem_singleton.2 e_) hb_)) .inl)), hC.belO⟩ (.inl rfl)
    ·replace h := iff_ h (cf hb18)
     refine wp_skip ?_
     refine then_norm ?_
     refine wp_ret (then_ret ?_)
     refine ret0 (fn := Try.f115) rfl  ⟨a0.2.2, u0_2, rfl, h, (hC.getM 1 rfl), (hC.getM 2 rfl), (fun b_ hb_ => (hC.mfp _ (List.mem_of_getElem? (i := 2) rfl) b_ hb_).elim .inr (fun q_ => (List.mem_cons.1 q_).elim (fun e_ => absurd hb_ (fun hb_ => hC.mm 1 2 rfl rfl (by decide) b_ (List.mem_singleton.2 e_) hb_)) .inl)), hC.belO⟩ (.inl rfl)
   ·replace h := iff_ h (cf hb17)
    refine wp_skip ?_
    refine then_norm ?_
    refine sr ?_
    refine s_mv (v := .pointer (some ⟨b0, 0, none⟩)) rfl ?_
    refine s_nilchk rfl ?_
    refine s_faddrB 0 Try.underlying134 rfl sc22.size rfl rfl ?_
    refine s_loadS hC 1 (u0_0) rfl sc22 rfl rfl ?_
    refine s_mv (v := .int .i64 a1) rfl ?_
    obtain ⟨⟨h0_29, h1_30⟩, h⟩ := h
    obtain ⟨Ad31, c32, hv33⟩ := sl_form (hC.getP 0 rfl) a1.toNat (show a1.toNat < a0.1.length by omega)
    refine s_iaddrS (len := a0.1.length) Try.underlying22 sc2.size (tr rfl hv33) rfl h0_29 h1_30 ?_
    refine s_loadCS (.int .i64 (a0.1.getD a1.toNat default)) (sl_cellsE (hC.getP 0 rfl) hv33 a1.toNat (show a1.toNat < a0.1.length by omega)) sc2 rfl ?_
    refine s_as (v := .int .i64 (a0.1.getD a1.toNat default)) rfl ?_
    refine dn ?_
    refine sr ?_
    refine s_mv (v := .int .i64 a3) rfl ?_
    refine s_mv (v := .int .i64 (a0.1.getD a1.toNat default)) rfl ?_
    obtain ⟨h0_34, h⟩ := h
    refine s_quo rfl rfl h0_34 ?_
    refine s_min rfl rfl ?_
    refine s_as (v := .int .i64 (if 20 < IntKind.i64.wrap (Int.tdiv a3 (a0.1.getD a1.toNat default)) then 20 else IntKind.i64.wrap (Int.tdiv a3 (a0.1.getD a1.toNat default)))) rfl ?_
    refine dn ?_
    refine wp_seq ?_
    refine sr ?_
    refine s_mv (v := .int .i64 (a0.1.getD a1.toNat default)) rfl ?_
    refine s_rem rfl rfl (by decide) ?_
    refine s_eql rfl rfl ?_
    refine dn ?_
    refine cw_cond rfl (fun hb35 => ?_) (fun hb35 => ?_)
    ·replace h := ift h (ct hb35)
     refine cw_region ?_
     refine s_mv (v := .int .i64 (if 20 < IntKind.i64.wrap (Int.tdiv a3 (a0.1.getD a1.toNat default)) then 20 else IntKind.i64.wrap (Int.tdiv a3 (a0.1.getD a1.toNat default)))) rfl ?_
     refine s_min rfl rfl ?_
     refine s_as (v := .int .i64 (if 1 < (if 20 < IntKind.i64.wrap (Int.tdiv a3 (a0.1.getD a1.toNat default)) then 20 else IntKind.i64.wrap (Int.tdiv a3 (a0.1.getD a1.toNat default))) then 1 else (if 20 < IntKind.i64.wrap (Int.tdiv a3 (a0.1.getD a1.toNat default)) then 20 else IntKind.i64.wrap (Int.tdiv a3 (a0.1.getD a1.toNat default))))) rfl ?_
     refine dn ?_
     refine sr ?_
     refine s_mv (v := .int .i64 (if 1 < (if 20 < IntKind.i64.wrap (Int.tdiv a3 (a0.1.getD a1.toNat default)) then 20 else IntKind.i64.wrap (Int.tdiv a3 (a0.1.getD a1.toNat default))) then 1 else (if 20 < IntKind.i64.wrap (Int.tdiv a3 (a0.1.getD a1.toNat default)) then 20 else IntKind.i64.wrap (Int.tdiv a3 (a0.1.getD a1.toNat default))))) rfl ?_
     refine s_as (v := .int .i64 (if 1 < (if 20 < IntKind.i64.wrap (Int.tdiv a3 (a0.1.getD a1.toNat default)) then 20 else IntKind.i64.wrap (Int.tdiv a3 (a0.1.getD a1.toNat default))) then 1 else (if 20 < IntKind.i64.wrap (Int.tdiv a3 (a0.1.getD a1.toNat default)) then 20 else IntKind.i64.wrap (Int.tdiv a3 (a0.1.getD a1.toNat default))))) rfl ?_
     refine dn ?_
     refine wp_block ?_
     refine loopW (S := A8 × (List A8) × Int) _ (fun s65 e_ w_ => ∃ (v66 : Value), Slots e_ [(0, .pointer (some ⟨b0, 0, none⟩)), (1, .int .i64 a1), (3, .int .i64 a3), (6, .pointer (some ⟨b4, 0, none⟩)), (8, .int .i64 (a0.1.getD a1.toNat default)), (10, .int .i64 s65.2.2)] ∧ Ctx (fun c_ => c_ ∈ b0 :: Option.toList (Value.ownBlock u0_2)) w0 w_ [blk b4 85 (A8.enc .i64 s65.1), blk b0 134 [u0_0, .int .i64 a0.2.1, v66], own 85 8 v66 s65.2.1.length ((EA .i64).encs s65.2.1)] [Ty.item ((EI .i64).ty.sl) a0.1 [u0_0] fp0]) ?_ (s0 := (a2, a0.2.2, (if 1 < (if 20 < IntKind.i64.wrap (Int.tdiv a3 (a0.1.getD a1.toNat default)) then 20 else IntKind.i64.wrap (Int.tdiv a3 (a0.1.getD a1.toNat default))) then 1 else (if 20 < IntKind.i64.wrap (Int.tdiv a3 (a0.1.getD a1.toNat default)) then 20 else IntKind.i64.wrap (Int.tdiv a3 (a0.1.getD a1.toNat default)))))) ?_ h
     ·clear hC h
      rintro s65 e_ w70 next67 K68 ⟨v66, hS_, hC⟩ h hK69
      refine wp_seq ?_
      refine sr ?_
      refine s_mv (v := .int .i64 s65.2.2) (sx hS_ 5 rfl) ?_
      refine s_geq rfl rfl ?_
      refine dn ?_
      refine cw_cond rfl (fun hb71 => ?_) (fun hb71 => ?_)
      ·replace h := ift h (ct hb71)
       refine wp_skip ?_
       refine then_norm ?_
       refine wp_seq ?_
       refine wp_block ?_
       refine sr ?_
       refine s_mv (v := .int .i64 a1) (sx hS_ 1 rfl) ?_
       refine s_mv (v := .int .i64 s65.2.2) (sx hS_ 5 rfl) ?_
       obtain ⟨⟨h0_72, h1_73⟩, h⟩ := h
       refine s_iaddrB a1.toNat Try.underlying85 sc3.size (sx hS_ 3 rfl) rfl h0_72 h1_73 (by omega) ?_
       refine s_store (v := .int .i64 s65.2.2) hC 0 [.int .i64 s65.2.2] (A8.enc .i64 (s65.1.set a1.toNat s65.2.2)) rfl sc3.size rfl rfl rfl rfl rfl (show a1.toNat < 8 by omega) (A8.enc_set _ _ _ (show a1.toNat < 8 by omega)) fun w74 hC => ?_
       refine dn ?_
       refine cw_region ?_
       refine s_mv (v := .pointer (some ⟨b0, 0, none⟩)) (sx hS_ 0 rfl) ?_
       refine s_mv (v := .int .i64 a1) (sx hS_ 1 rfl) ?_
       refine s_add rfl rfl ?_
       refine s_loadA hC 0 (A8.enc .i64 (s65.1.set a1.toNat s65.2.2)) rfl ag85 (sx hS_ 3 rfl) rfl rfl ?_
       refine s_mv (v := .int .i64 a3) (sx hS_ 2 rfl) ?_
       refine s_mv (v := .int .i64 s65.2.2) (sx hS_ 5 rfl) ?_
       refine s_mv (v := .int .i64 (a0.1.getD a1.toNat default)) (sx hS_ 4 rfl) ?_
       refine s_mul rfl rfl ?_
       refine s_sub rfl rfl ?_
       replace hC := hC.sel [1, 2, 0] [0] (M' := [blk b0 134 [u0_0, .int .i64 a0.2.1, v66], own 85 8 v66 s65.2.1.length ((EA .i64).encs s65.2.1), blk b4 85 (A8.enc .i64 (s65.1.set a1.toNat s65.2.2))]) (Ps' := [Ty.item ((EI .i64).ty.sl) a0.1 [u0_0] fp0]) (by decide) rfl rfl
       refine s_call [.pointer (some ⟨b0, 0, none⟩), .int .i64 (IntKind.i64.wrap (a1 + 1)), .agg (List.toArray (A8.enc .i64 (s65.1.set a1.toNat s65.2.2))), .int .i64 (IntKind.i64.wrap (a3 - (IntKind.i64.wrap (s65.2.2 * (a0.1.getD a1.toNat default)))))] _ Try.func115 rfl rfl rfl (ih_ (⟨a0.1, a0.2.1, s65.2.1⟩ : List Int × Int × List A8) (IntKind.i64.wrap (a1 + 1)) (s65.1.set a1.toNat s65.2.2) (IntKind.i64.wrap (a3 - (IntKind.i64.wrap (s65.2.2 * (a0.1.getD a1.toNat default))))) h _ (hC.getP 0 rfl) (hC.getM 0 rfl) (hC.getM 1 rfl) (fun hb_ => hC.mm 0 1 rfl rfl (by decide) _ (List.mem_singleton_self _) hb_) (fun b_ hb_ hb2_ => (List.mem_cons.1 hb2_).elim (fun e_ => hC.pd _ (List.mem_of_getElem? (i := 0) rfl) b_ hb_ _ (List.mem_of_getElem? (i := 0) rfl) (List.mem_singleton.2 e_)) (fun hb2_ => hC.pd _ (List.mem_of_getElem? (i := 0) rfl) b_ hb_ _ (List.mem_of_getElem? (i := 1) rfl) hb2_))) (fun ret75 w77 hR76 => ?_)
       obtain ⟨m79, v80, rfl, h, hm81, hm82, hm83, hB78⟩ := hR76
       refine ⟨_, rfl, ?_⟩
       replace hC := hC.turnS hB78 hm81 hm82 hm83
       refine done ?_
       refine blk_norm ?_
       refine then_norm ?_
       refine cw_region ?_
       refine s_mv (v := .int .i64 s65.2.2) (sx hS_ 5 rfl) ?_
       refine s_sub rfl rfl ?_
       refine s_as (v := .int .i64 (IntKind.i64.wrap (s65.2.2 - 1))) rfl ?_
       refine done ?_
       replace hC := hC.sel [2, 0, 1] [0] (M' := [blk b4 85 (A8.enc .i64 (s65.1.set a1.toNat s65.2.2)), blk b0 134 [u0_0, .int .i64 a0.2.1, v80], own 85 8 v80 m79.length ((EA .i64).encs m79)]) (Ps' := [Ty.item ((EI .i64).ty.sl) a0.1 [u0_0] fp0]) (by decide) rfl rfl
       exact hK69 (s65.1.set a1.toNat s65.2.2, m79, IntKind.i64.wrap (s65.2.2 - 1)) _ _ ⟨v80, (sk (sx hS_ 0 rfl) (sk (sx hS_ 1 rfl) (sk (sx hS_ 2 rfl) (sk (sx hS_ 3 rfl) (sk (sx hS_ 4 rfl) (sk rfl sn)))))), hC⟩ h
      ·replace h := iff_ h (cf hb71)
       refine wp_exit (then_exit (then_exit (exit_in ?_)))
       refine ret0 (fn := Try.f115) rfl  ⟨s65.2.1, v66, rfl, h, (hC.getM 1 rfl), (hC.getM 2 rfl), (fun b_ hb_ => (hC.mfp _ (List.mem_of_getElem? (i := 2) rfl) b_ hb_).elim .inr (fun q_ => (List.mem_cons.1 q_).elim (fun e_ => absurd hb_ (fun hb_ => hC.mm 1 2 rfl rfl (by decide) b_ (List.mem_singleton.2 e_) hb_)) .inl)), hC.belO⟩ (.inr rfl)
     ·skip
      exact ⟨u0_2, (sk rfl (sk rfl (sk rfl (sk rfl (sk rfl (sk rfl sn)))))), hC⟩
    ·replace h := iff_ h (cf hb35)
     refine wp_skip ?_
     refine then_norm ?_
     refine sr ?_
     refine s_mv (v := .int .i64 (if 20 < IntKind.i64.wrap (Int.tdiv a3 (a0.1.getD a1.toNat default)) then 20 else IntKind.i64.wrap (Int.tdiv a3 (a0.1.getD a1.toNat default)))) rfl ?_
     refine s_as (v := .int .i64 (if 20 < IntKind.i64.wrap (Int.tdiv a3 (a0.1.getD a1.toNat default)) then 20 else IntKind.i64.wrap (Int.tdiv a3 (a0.1.getD a1.toNat default)))) rfl ?_
     refine dn ?_
     refine wp_block ?_
     refine loopW (S := A8 × (List A8) × Int) _ (fun s113 e_ w_ => ∃ (v114 : Value), Slots e_ [(0, .pointer (some ⟨b0, 0, none⟩)), (1, .int .i64 a1), (3, .int .i64 a3), (6, .pointer (some ⟨b4, 0, none⟩)), (8, .int .i64 (a0.1.getD a1.toNat default)), (10, .int .i64 s113.2.2)] ∧ Ctx (fun c_ => c_ ∈ b0 :: Option.toList (Value.ownBlock u0_2)) w0 w_ [blk b4 85 (A8.enc .i64 s113.1), blk b0 134 [u0_0, .int .i64 a0.2.1, v114], own 85 8 v114 s113.2.1.length ((EA .i64).encs s113.2.1)] [Ty.item ((EI .i64).ty.sl) a0.1 [u0_0] fp0]) ?_ (s0 := (a2, a0.2.2, (if 20 < IntKind.i64.wrap (Int.tdiv a3 (a0.1.getD a1.toNat default)) then 20 else IntKind.i64.wrap (Int.tdiv a3 (a0.1.getD a1.toNat default))))) ?_ h
     ·clear hC h
      rintro s113 e_ w118 next115 K116 ⟨v114, hS_, hC⟩ h hK117
      refine wp_seq ?_
      refine sr ?_
      refine s_mv (v := .int .i64 s113.2.2) (sx hS_ 5 rfl) ?_
      refine s_geq rfl rfl ?_
      refine dn ?_
      refine cw_cond rfl (fun hb119 => ?_) (fun hb119 => ?_)
      ·replace h := ift h (ct hb119)
       refine wp_skip ?_
       refine then_norm ?_
       refine wp_seq ?_
       refine wp_block ?_
       refine sr ?_
       refine s_mv (v := .int .i64 a1) (sx hS_ 1 rfl) ?_
       refine s_mv (v := .int .i64 s113.2.2) (sx hS_ 5 rfl) ?_
       obtain ⟨⟨h0_120, h1_121⟩, h⟩ := h
       refine s_iaddrB a1.toNat Try.underlying85 sc3.size (sx hS_ 3 rfl) rfl h0_120 h1_121 (by omega) ?_
       refine s_store (v := .int .i64 s113.2.2) hC 0 [.int .i64 s113.2.2] (A8.enc .i64 (s113.1.set a1.toNat s113.2.2)) rfl sc3.size rfl rfl rfl rfl rfl (show a1.toNat < 8 by omega) (A8.enc_set _ _ _ (show a1.toNat < 8 by omega)) fun w122 hC => ?_
       refine dn ?_
       refine cw_region ?_
       refine s_mv (v := .pointer (some ⟨b0, 0, none⟩)) (sx hS_ 0 rfl) ?_
       refine s_mv (v := .int .i64 a1) (sx hS_ 1 rfl) ?_
       refine s_add rfl rfl ?_
       refine s_loadA hC 0 (A8.enc .i64 (s113.1.set a1.toNat s113.2.2)) rfl ag85 (sx hS_ 3 rfl) rfl rfl ?_
       refine s_mv (v := .int .i64 a3) (sx hS_ 2 rfl) ?_
       refine s_mv (v := .int .i64 s113.2.2) (sx hS_ 5 rfl) ?_
       refine s_mv (v := .int .i64 (a0.1.getD a1.toNat default)) (sx hS_ 4 rfl) ?_
       refine s_mul rfl rfl ?_
       refine s_sub rfl rfl ?_
       replace hC := hC.sel [1, 2, 0] [0] (M' := [blk b0 134 [u0_0, .int .i64 a0.2.1, v114], own 85 8 v114 s113.2.1.length ((EA .i64).encs s113.2.1), blk b4 85 (A8.enc .i64 (s113.1.set a1.toNat s113.2.2))]) (Ps' := [Ty.item ((EI .i64).ty.sl) a0.1 [u0_0] fp0]) (by decide) rfl rfl
       refine s_call [.pointer (some ⟨b0, 0, none⟩), .int .i64 (IntKind.i64.wrap (a1 + 1)), .agg (List.toArray (A8.enc .i64 (s113.1.set a1.toNat s113.2.2))), .int .i64 (IntKind.i64.wrap (a3 - (IntKind.i64.wrap (s113.2.2 * (a0.1.getD a1.toNat default)))))] _ Try.func115 rfl rfl rfl (ih_ (⟨a0.1, a0.2.1, s113.2.1⟩ : List Int × Int × List A8) (IntKind.i64.wrap (a1 + 1)) (s113.1.set a1.toNat s113.2.2) (IntKind.i64.wrap (a3 - (IntKind.i64.wrap (s113.2.2 * (a0.1.getD a1.toNat default))))) h _ (hC.getP 0 rfl) (hC.getM 0 rfl) (hC.getM 1 rfl) (fun hb_ => hC.mm 0 1 rfl rfl (by decide) _ (List.mem_singleton_self _) hb_) (fun b_ hb_ hb2_ => (List.mem_cons.1 hb2_).elim (fun e_ => hC.pd _ (List.mem_of_getElem? (i := 0) rfl) b_ hb_ _ (List.mem_of_getElem? (i := 0) rfl) (List.mem_singleton.2 e_)) (fun hb2_ => hC.pd _ (List.mem_of_getElem? (i := 0) rfl) b_ hb_ _ (List.mem_of_getElem? (i := 1) rfl) hb2_))) (fun ret123 w125 hR124 => ?_)
       obtain ⟨m127, v128, rfl, h, hm129, hm130, hm131, hB126⟩ := hR124
       refine ⟨_, rfl, ?_⟩
       replace hC := hC.turnS hB126 hm129 hm130 hm131
       refine done ?_
       refine blk_norm ?_
       refine then_norm ?_
       refine cw_region ?_
       refine s_mv (v := .int .i64 s113.2.2) (sx hS_ 5 rfl) ?_
       refine s_sub rfl rfl ?_
       refine s_as (v := .int .i64 (IntKind.i64.wrap (s113.2.2 - 1))) rfl ?_
       refine done ?_
       replace hC := hC.sel [2, 0, 1] [0] (M' := [blk b4 85 (A8.enc .i64 (s113.1.set a1.toNat s113.2.2)), blk b0 134 [u0_0, .int .i64 a0.2.1, v128], own 85 8 v128 m127.length ((EA .i64).encs m127)]) (Ps' := [Ty.item ((EI .i64).ty.sl) a0.1 [u0_0] fp0]) (by decide) rfl rfl
       exact hK117 (s113.1.set a1.toNat s113.2.2, m127, IntKind.i64.wrap (s113.2.2 - 1)) _ _ ⟨v128, (sk (sx hS_ 0 rfl) (sk (sx hS_ 1 rfl) (sk (sx hS_ 2 rfl) (sk (sx hS_ 3 rfl) (sk (sx hS_ 4 rfl) (sk rfl sn)))))), hC⟩ h
      ·replace h := iff_ h (cf hb119)
       refine wp_exit (then_exit (then_exit (exit_in ?_)))
       refine ret0 (fn := Try.f115) rfl  ⟨s113.2.1, v114, rfl, h, (hC.getM 1 rfl), (hC.getM 2 rfl), (fun b_ hb_ => (hC.mfp _ (List.mem_of_getElem? (i := 2) rfl) b_ hb_).elim .inr (fun q_ => (List.mem_cons.1 q_).elim (fun e_ => absurd hb_ (fun hb_ => hC.mm 1 2 rfl rfl (by decide) b_ (List.mem_singleton.2 e_) hb_)) .inl)), hC.belO⟩ (.inr rfl)
     ·skip
      exact ⟨u0_2, (sk rfl (sk rfl (sk rfl (sk rfl (sk rfl (sk rfl sn)))))), hC⟩
def f_impl_monomials (a0 : List Int) (a1 : Int) (a2 : Int) (K : List A8 → Bool → Prop) : Prop :=
 (if a1 ≥ 0 then f_impl_lister_from 9 (⟨a0, a2, []⟩ : List Int × Int × List A8) 0 A8.zero a1 (fun m11 => K m11 (decide ((m11.length : Int) ≤ a2))) else K [] (decide (0 ≤ a2)))
theorem c_impl_monomials (a0 : List Int) (a1 : Int) (a2 : Int) {u0_0 : Value} {fp0 : List Nat} {K : List A8 → Bool → Prop} (h : f_impl_monomials a0 a1 a2 K) (w0 : World) (q0 : ((EI .i64).ty.sl).rep a0 [u0_0] fp0 w0) :
  Calls Try.prog 78 #[u0_0, .int .i64 a1, .int .i64 a2] w0 fun e w' => ∃ (r0 : List A8) (z0_0 : Value) (fz0 : List Nat) (r1 : Bool), 
   e = .returned (.tuple #[z0_0, .bool r1]) ∧ K r0 r1 ∧ (Tr.item (Tr.sl 85 ((EA .i64).tr)) r0 [z0_0] fz0).holds w' ∧ (∀ b, b ∈ fz0 → w0.heap.size ≤ b) ∧ Bel w0 w' := by
 unfold f_impl_monomials at h
 refine calls_of (args := [u0_0, .int .i64 a1, .int .i64 a2]) Try.func78 rfl 30 Try.ntmps78 (Nat.le_of_ble_eq_true rfl) ?_
 have hC := Ctx.start (X := Nox) w0 [Ty.item ((EI .i64).ty.sl) a0 [u0_0] fp0] (by simp only [List.mem_cons, List.not_mem_nil, or_false, forall_eq_or_imp, forall_eq]; exact q0)
 refine sr ?_
 refine s_as (v := .slice none 0 0) rfl ?_
 refine s_as (v := .bool false) rfl ?_
 refine dn ?_
 refine sr ?_
 refine s_mv (v := u0_0) rfl ?_
 refine s_mv (v := .int .i64 a2) rfl ?_
 refine s_build [(0, u0_0), (1, .int .i64 a2)] rfl (bl134_0sl_1int u0_0 a2 (rep_isSl (hC.getP 0 rfl)) _) ?_
 refine s_box (v := .agg #[u0_0, .int .i64 a2, .slice none 0 0]) hC [u0_0, .int .i64 a2, .slice none 0 0] rfl rfl fun b2 w4 hB_ hC => ?_
 refine s_as (v := .pointer (some ⟨b2, 0, none⟩)) rfl ?_
 refine dn ?_
 refine wp_seq ?_
 refine sr ?_
 refine s_mv (v := .int .i64 a1) rfl ?_
 refine s_geq rfl rfl ?_
 refine dn ?_
 refine cw_cond rfl (fun hb5 => ?_) (fun hb5 => ?_)
 ·replace h := ift h (ct hb5)
  refine cw_region ?_
  refine s_mv (v := .pointer (some ⟨b2, 0, none⟩)) rfl ?_
  refine s_build [] rfl (bl85   _) ?_
  refine s_mv (v := .int .i64 a1) rfl ?_
  replace hC := hC.pushNil 85 8
  replace hC := hC.sel [1, 0] [0] (M' := [blk b2 134 [u0_0, .int .i64 a2, .slice none 0 0], own 85 8 (.slice none 0 0) 0 ((EA .i64).encs [])]) (Ps' := [Ty.item ((EI .i64).ty.sl) a0 [u0_0] fp0]) (by decide) rfl rfl
  refine s_call [.pointer (some ⟨b2, 0, none⟩), .int .i64 0, .agg (List.toArray (A8.enc .i64 A8.zero)), .int .i64 a1] _ Try.func115 rfl rfl rfl (c_impl_lister_from 9 (⟨a0, a2, []⟩ : List Int × Int × List A8) 0 A8.zero a1 h _ (hC.getP 0 rfl) (hC.getM 0 rfl) (hC.getM 1 rfl) (fun hb_ => hC.mm 0 1 rfl rfl (by decide) _ (List.mem_singleton_self _) hb_) (fun b_ hb_ hb2_ => (List.mem_cons.1 hb2_).elim (fun e_ => hC.pd _ (List.mem_of_getElem? (i := 0) rfl) b_ hb_ _ (List.mem_of_getElem? (i := 0) rfl) (List.mem_singleton.2 e_)) (fun hb2_ => hC.pd _ (List.mem_of_getElem? (i := 0) rfl) b_ hb_ _ (List.mem_of_getElem? (i := 1) rfl) hb2_))) (fun ret7 w9 hR8 => ?_)
  obtain ⟨m11, v12, rfl, h, hm13, hm14, hm15, hB10⟩ := hR8
  refine ⟨_, rfl, ?_⟩
  replace hC := hC.turnS hB10 hm13 hm14 hm15
  refine dn ?_
  refine wp_seq ?_
  refine cw_draw 12 mixed [0, 1, 3, 7, 0, 16, 48, 112, 240, 0, 1008, 15, 4095] [3, 7, 8] [0, 1, 2, 4, 5, 6, 9, 10, 11] (by kernel_rfl) (by kernel_rfl) (by kernel_rfl) (fun hM17 hM18 w16 hB_ => ?_)
  replace hC := hC.grow hB_
  refine ae_lookF belPre 0 (.pointer (some ⟨b2, 0, none⟩)) rfl rfl (by kernel_rfl) (hM18 0 rfl) (fun w_ => .inl ⟨rfl, by exact r_mv (v := .pointer (some ⟨b2, 0, none⟩)) rfl⟩) (listed' := (dbits 13 1)) (by kernel_rfl) ?_
  refine ae_lookF belPre 1 (.pointer (some ⟨b2, 0, none⟩)) rfl rfl (by kernel_rfl) (hM18 1 rfl) (fun w_ => .inl ⟨rfl, by exact r_nilchk rfl⟩) (listed' := (dbits 13 3)) (by kernel_rfl) ?_
  refine ae_lookF belPre 2 (.pointer (some ⟨b2, 2, none⟩)) rfl rfl (by kernel_rfl) (hM18 2 rfl) (fun w_ => .inl ⟨rfl, by exact r_faddrB 2 Try.underlying134 rfl sc102.size rfl rfl⟩) (listed' := (dbits 13 7)) (by kernel_rfl) ?_
  refine ae_look belPre 3 (v12) rfl rfl (by kernel_rfl) (hM17 3 rfl) (fun w_ hB_ => .inl ⟨rfl, by exact r_loadS (hC.grow hB_) 0 (v12) rfl sc102 rfl rfl⟩) (listed' := (dbits 13 15)) (by kernel_rfl) ?_
  refine ae_lookF belPre 4 (.pointer (some ⟨b2, 0, none⟩)) rfl rfl (by kernel_rfl) (hM18 4 rfl) (fun w_ => .inl ⟨rfl, by exact r_mv (v := .pointer (some ⟨b2, 0, none⟩)) rfl⟩) (listed' := (dbits 13 31)) (by kernel_rfl) ?_
  refine ae_lookF belPre 5 (.pointer (some ⟨b2, 0, none⟩)) rfl rfl (by kernel_rfl) (hM18 5 rfl) (fun w_ => .inl ⟨rfl, by exact r_nilchk rfl⟩) (listed' := (dbits 13 63)) (by kernel_rfl) ?_
  refine ae_lookF belPre 6 (.pointer (some ⟨b2, 2, none⟩)) rfl rfl (by kernel_rfl) (hM18 6 rfl) (fun w_ => .inl ⟨rfl, by exact r_faddrB 2 Try.underlying134 rfl sc102.size rfl rfl⟩) (listed' := (dbits 13 127)) (by kernel_rfl) ?_
  refine ae_look belPre 7 (v12) rfl rfl (by kernel_rfl) (hM17 7 rfl) (fun w_ hB_ => .inl ⟨rfl, by exact r_loadS (hC.grow hB_) 0 (v12) rfl sc102 rfl rfl⟩) (listed' := (dbits 13 255)) (by kernel_rfl) ?_
  obtain ⟨Ad19, c20, hv21⟩ := own_form (hC.getM 1 rfl)
  refine ae_look belPre 8 (.int .i64 (m11.length : Int)) rfl rfl (by kernel_rfl) (hM17 8 rfl) (fun w_ hB_ => .inl ⟨rfl, by exact r_len Try.underlying102 (by exact tr rfl hv21)⟩) (listed' := (dbits 13 511)) (by kernel_rfl) ?_
  refine ae_lookF belPre 9 (.int .i64 a2) rfl rfl (by kernel_rfl) (hM18 9 rfl) (fun w_ => .inl ⟨rfl, by exact r_mv (v := .int .i64 a2) rfl⟩) (listed' := (dbits 13 1023)) (by kernel_rfl) ?_
  refine ae_lookF belPre 10 (.bool (decide ((m11.length : Int) ≤ a2))) rfl rfl (by kernel_rfl) (hM18 10 rfl) (fun w_ => .inl ⟨rfl, by exact r_leq rfl rfl⟩) (listed' := (dbits 13 2047)) (by kernel_rfl) ?_
  refine ae_lookF belPre 11 (v12) rfl rfl (by kernel_rfl) (hM18 11 rfl) (fun w_ => .inl ⟨rfl, by exact r_as (v := v12) rfl⟩) (listed' := (dbits 13 4095)) (by kernel_rfl) ?_
  refine ae_tail 12 (by decide) (by decide) (by kernel_rfl) (by kernel_rfl) rfl ?_
  refine s_as (v := .bool (decide ((m11.length : Int) ≤ a2))) rfl ?_
  refine done ?_
  refine qn_norm ?_
  refine then_norm ?_
  refine wp_ret ?_
  refine ret2 (fn := Try.f78) rfl ?_ ?_ ⟨m11, v12, (Option.toList (Value.ownBlock v12)), decide ((m11.length : Int) ≤ a2), rfl, h, (own_item (hC.getM 1 rfl)), (own_fresh hC 1 rfl), hC.below⟩ (.inl rfl)
  ·exact res_tmp rfl
  ·exact res_tmp rfl
 ·replace h := iff_ h (cf hb5)
  refine wp_skip ?_
  refine then_norm ?_
  refine wp_seq ?_
  refine cw_draw 12 mixed [0, 1, 3, 7, 0, 16, 48, 112, 240, 0, 1008, 15, 4095] [3, 7, 8] [0, 1, 2, 4, 5, 6, 9, 10, 11] (by kernel_rfl) (by kernel_rfl) (by kernel_rfl) (fun hM23 hM24 w22 hB_ => ?_)
  replace hC := hC.grow hB_
  refine ae_lookF belPre 0 (.pointer (some ⟨b2, 0, none⟩)) rfl rfl (by kernel_rfl) (hM24 0 rfl) (fun w_ => .inl ⟨rfl, by exact r_mv (v := .pointer (some ⟨b2, 0, none⟩)) rfl⟩) (listed' := (dbits 13 1)) (by kernel_rfl) ?_
  refine ae_lookF belPre 1 (.pointer (some ⟨b2, 0, none⟩)) rfl rfl (by kernel_rfl) (hM24 1 rfl) (fun w_ => .inl ⟨rfl, by exact r_nilchk rfl⟩) (listed' := (dbits 13 3)) (by kernel_rfl) ?_
  refine ae_lookF belPre 2 (.pointer (some ⟨b2, 2, none⟩)) rfl rfl (by kernel_rfl) (hM24 2 rfl) (fun w_ => .inl ⟨rfl, by exact r_faddrB 2 Try.underlying134 rfl sc102.size rfl rfl⟩) (listed' := (dbits 13 7)) (by kernel_rfl) ?_
  refine ae_look belPre 3 (.slice none 0 0) rfl rfl (by kernel_rfl) (hM23 3 rfl) (fun w_ hB_ => .inl ⟨rfl, by exact r_loadS (hC.grow hB_) 0 (.slice none 0 0) rfl sc102 rfl rfl⟩) (listed' := (dbits 13 15)) (by kernel_rfl) ?_
  refine ae_lookF belPre 4 (.pointer (some ⟨b2, 0, none⟩)) rfl rfl (by kernel_rfl) (hM24 4 rfl) (fun w_ => .inl ⟨rfl, by exact r_mv (v := .pointer (some ⟨b2, 0, none⟩)) rfl⟩) (listed' := (dbits 13 31)) (by kernel_rfl) ?_
  refine ae_lookF belPre 5 (.pointer (some ⟨b2, 0, none⟩)) rfl rfl (by kernel_rfl) (hM24 5 rfl) (fun w_ => .inl ⟨rfl, by exact r_nilchk rfl⟩) (listed' := (dbits 13 63)) (by kernel_rfl) ?_
  refine ae_lookF belPre 6 (.pointer (some ⟨b2, 2, none⟩)) rfl rfl (by kernel_rfl) (hM24 6 rfl) (fun w_ => .inl ⟨rfl, by exact r_faddrB 2 Try.underlying134 rfl sc102.size rfl rfl⟩) (listed' := (dbits 13 127)) (by kernel_rfl) ?_
  refine ae_look belPre 7 (.slice none 0 0) rfl rfl (by kernel_rfl) (hM23 7 rfl) (fun w_ hB_ => .inl ⟨rfl, by exact r_loadS (hC.grow hB_) 0 (.slice none 0 0) rfl sc102 rfl rfl⟩) (listed' := (dbits 13 255)) (by kernel_rfl) ?_
  refine ae_look belPre 8 (.int .i64 0) rfl rfl (by kernel_rfl) (hM23 8 rfl) (fun w_ hB_ => .inl ⟨rfl, by exact r_len Try.underlying102 rfl⟩) (listed' := (dbits 13 511)) (by kernel_rfl) ?_
  refine ae_lookF belPre 9 (.int .i64 a2) rfl rfl (by kernel_rfl) (hM24 9 rfl) (fun w_ => .inl ⟨rfl, by exact r_mv (v := .int .i64 a2) rfl⟩) (listed' := (dbits 13 1023)) (by kernel_rfl) ?_
  refine ae_lookF belPre 10 (.bool (decide (0 ≤ a2))) rfl rfl (by kernel_rfl) (hM24 10 rfl) (fun w_ => .inl ⟨rfl, by exact r_leq rfl rfl⟩) (listed' := (dbits 13 2047)) (by kernel_rfl) ?_
  refine ae_lookF belPre 11 (.slice none 0 0) rfl rfl (by kernel_rfl) (hM24 11 rfl) (fun w_ => .inl ⟨rfl, by exact r_as (v := .slice none 0 0) rfl⟩) (listed' := (dbits 13 4095)) (by kernel_rfl) ?_
  refine ae_tail 12 (by decide) (by decide) (by kernel_rfl) (by kernel_rfl) rfl ?_
  refine s_as (v := .bool (decide (0 ≤ a2))) rfl ?_
  refine done ?_
  refine qn_norm ?_
  refine then_norm ?_
  refine wp_ret ?_
  refine ret2 (fn := Try.f78) rfl ?_ ?_ ⟨[], .slice none 0 0, [], decide (0 ≤ a2), rfl, h, (nil_item _ _ _), (fun b hb => absurd hb (by simp)), hC.below⟩ (.inl rfl)
  ·exact res_tmp rfl
  ·exact res_tmp rfl
def f_impl_MonomialsOf (a0 : List Int) (a1 : Int) (K : List A8 → Int → Prop) : Prop :=
 f_impl_AreDegrees a0 (fun r5 => f_impl_when (!r5) 1 (fun r10 => f_impl_within a1 0 40 (fun r15 => f_impl_when (!r15) 2 (fun r20 => f_impl_first [r10, r20] (fun r28 => (if r28 ≠ 0 then K [] r28 else f_impl_monomials a0 a1 400 (fun r34 r39 => (if ¬ (r39 = true) then K [] 3 else forN (fun i139 (s140 : (List A8)) next143 => f_impl_sum_form (mset ([] : List (A8 × Int)) (r34.getD i139 default) 1) (fun r162 r167 => ((0 ≤ (0 : Int) ∧ (0 : Int) < (r162.terms.length : Int)) ∧ (Room (s140.length + 1) 8 ∧ next143 (s140 ++ [(r162.terms.getD 0 default).mono]))))) (fun (s140 : (List A8)) => K s140 0) r34.length 0 []))))))))
theorem c_impl_MonomialsOf (a0 : List Int) (a1 : Int) {u0_0 : Value} {fp0 : List Nat} {K : List A8 → Int → Prop} (h : f_impl_MonomialsOf a0 a1 K) (w0 : World) (q0 : ((EI .i64).ty.sl).rep a0 [u0_0] fp0 w0) :
  Calls Try.prog 25 #[u0_0, .int .i64 a1] w0 fun e w' => ∃ (r0 : List A8) (z0_0 : Value) (fz0 : List Nat) (r1 : Int), 
   e = .returned (.tuple #[z0_0, .int .i64 r1]) ∧ K r0 r1 ∧ (Tr.item (Tr.sl 24 ((EA .u8).tr)) r0 [z0_0] fz0).holds w' ∧ (∀ b, b ∈ fz0 → w0.heap.size ≤ b) ∧ Bel w0 w' := by
 unfold f_impl_MonomialsOf at h
 refine calls_of (args := [u0_0, .int .i64 a1]) Try.func25 rfl 59 Try.ntmps25 (Nat.le_of_ble_eq_true rfl) ?_
 have hC := Ctx.start (X := Nox) w0 [Ty.item ((EI .i64).ty.sl) a0 [u0_0] fp0] (by simp only [List.mem_cons, List.not_mem_nil, or_false, forall_eq_or_imp, forall_eq]; exact q0)
 refine sr ?_
 refine s_as (v := .slice none 0 0) rfl ?_
 refine s_as (v := .int .i64 0) rfl ?_
 refine dn ?_
 refine wp_seq ?_
 refine sr ?_
 refine s_mv (v := u0_0) rfl ?_
 refine s_call [u0_0] _ Try.func52 rfl rfl rfl (c_impl_AreDegrees a0 h _ (hC.getP 0 rfl)) (fun ret2 w4 hR3 => ?_)
 obtain ⟨r5, rfl, h, hB6⟩ := hR3
 refine ⟨_, rfl, ?_⟩
 replace hC := hC.grow hB6
 refine s_not rfl ?_
 refine s_call [.bool (!r5), .int .i64 1] _ Try.func77 rfl rfl rfl (c_impl_when (!r5) 1 h _) (fun ret7 w9 hR8 => ?_)
 obtain ⟨r10, rfl, h, hB11⟩ := hR8
 refine ⟨_, rfl, ?_⟩
 replace hC := hC.grow hB11
 refine s_mv (v := .int .i64 a1) rfl ?_
 refine s_call [.int .i64 a1, .int .i64 0, .int .i64 40] _ Try.func69 rfl rfl rfl (c_impl_within a1 0 40 h _) (fun ret12 w14 hR13 => ?_)
 obtain ⟨r15, rfl, h, hB16⟩ := hR13
 refine ⟨_, rfl, ?_⟩
 replace hC := hC.grow hB16
 refine s_not rfl ?_
 refine s_call [.bool (!r15), .int .i64 2] _ Try.func77 rfl rfl rfl (c_impl_when (!r15) 2 h _) (fun ret17 w19 hR18 => ?_)
 obtain ⟨r20, rfl, h, hB21⟩ := hR18
 refine ⟨_, rfl, ?_⟩
 replace hC := hC.grow hB21
 refine s_bslice (sz := 1) hC [(0, .int .i64 r10), (1, .int .i64 r20)] ((EI .i64).encs [r10, r20]) rfl (fun _ => bs22_2 r10 r20 _) rfl (by decide) fun b22 w23 hB_ hC => ?_
 refine s_call [.slice (some ⟨b22, 0, none⟩) 2 2] _ Try.func76 rfl rfl rfl (c_impl_first [r10, r20] h _ (own_repE (hC.getM 0 rfl))) (fun ret25 w27 hR26 => ?_)
 obtain ⟨r28, rfl, h, hB29⟩ := hR26
 refine ⟨_, rfl, ?_⟩
 replace hC := hC.grow hB29
 refine s_as (v := .int .i64 r28) rfl ?_
 refine dn ?_
 refine sr ?_
 refine s_mv (v := .int .i64 r28) rfl ?_
 refine s_neq rfl rfl ?_
 refine dn ?_
 refine cw_cond rfl (fun hb30 => ?_) (fun hb30 => ?_)
 ·replace h := ift h (ct hb30)
  refine sr ?_
  refine s_mv (v := .int .i64 r28) rfl ?_
  refine s_as (v := .slice none 0 0) rfl ?_
  refine s_as (v := .int .i64 r28) rfl ?_
  refine dn ?_
  refine wp_ret (then_ret ?_)
  refine ret2 (fn := Try.f25) rfl ?_ ?_ ⟨[], .slice none 0 0, [], r28, rfl, h, (nil_item _ _ _), (fun b hb => absurd hb (by simp)), hC.below⟩ (.inl rfl)
  ·exact res_tmp rfl
  ·exact res_tmp rfl
 ·replace h := iff_ h (cf hb30)
  refine wp_skip ?_
  refine then_norm ?_
  refine sr ?_
  refine s_mv (v := u0_0) rfl ?_
  refine s_mv (v := .int .i64 a1) rfl ?_
  refine s_call [u0_0, .int .i64 a1, .int .i64 400] _ Try.func78 rfl rfl rfl (c_impl_monomials a0 a1 400 h _ (hC.getP 0 rfl)) (fun ret31 w33 hR32 => ?_)
  obtain ⟨r34, u35, f36, r39, rfl, h, hr37, hf38, hB40⟩ := hR32
  refine ⟨_, rfl, ?_⟩
  replace hC := hC.push hB40 (Tr.item (Tr.sl 85 ((EA .i64).tr)) r34 [u35] f36) hr37 hf38
  obtain ⟨ho42, hf43⟩ := flat_tr (hC.getM 0 rfl).1
  subst hf43
  replace hC := hC.recast (c := own 85 8 u35 r34.length ((EA .i64).encs r34)) (fun _ h_ => h_) (fun _ => ho42)
  refine s_mv (v := .tuple #[u35, .bool r39]) rfl ?_
  refine s_ext (v := u35) rfl rfl ?_
  refine s_ext (v := .bool r39) rfl rfl ?_
  refine s_as (v := u35) rfl ?_
  refine s_as (v := .bool r39) rfl ?_
  refine dn ?_
  refine wp_seq ?_
  refine sr ?_
  refine s_mv (v := .bool r39) rfl ?_
  refine s_not rfl ?_
  refine dn ?_
  refine cw_cond rfl (fun hb45 => ?_) (fun hb45 => ?_)
  ·replace h := ift h (ne_t (not_t hb45))
   refine sr ?_
   refine s_as (v := .slice none 0 0) rfl ?_
   refine s_as (v := .int .i64 3) rfl ?_
   refine dn ?_
   refine wp_ret (then_ret ?_)
   refine ret2 (fn := Try.f25) rfl ?_ ?_ ⟨[], .slice none 0 0, [], 3, rfl, h, (nil_item _ _ _), (fun b hb => absurd hb (by simp)), hC.below⟩ (.inl rfl)
   ·exact res_tmp rfl
   ·exact res_tmp rfl
  ·replace h := iff_ h (not_not_intro ((not_f hb45)))
   refine wp_skip ?_
   refine then_norm ?_
   refine sr ?_
   refine s_bslice (sz := 8) hC [] ((EA .u8).encs []) rfl (fun _ => bs40_0  _) rfl (by decide) fun b46 w47 hB_ hC => ?_
   refine s_as (v := .slice (some ⟨b46, 0, none⟩) 0 0) rfl ?_
   refine dn ?_
   refine wp_seq ?_
   refine sr ?_
   refine s_mv (v := u35) rfl ?_
   obtain ⟨Ad49, c50, hv51⟩ := own_form (hC.getM 1 rfl)
   refine s_len Try.underlying102 (tr rfl hv51) ?_
   refine s_mv (v := .int .i64 0) rfl ?_
   refine dn ?_
   refine wp_block ?_
   have hN142 : r34.length ≤ 9223372036854775807 := own_max (hC.getM 1 rfl)
   refine loopN (S := (List A8)) _ _ (fun i139 s140 e_ w_ => ∃ (v141 : Value), Slots e_ [(4, .slice none 0 0), (5, .int .i64 0), (9, v141), (36, u35), (37, .int .i64 (r34.length : Int)), (38, .int .i64 (i139 : Int))] ∧ Ctx Nox w0 w_ [own 24 8 v141 s140.length ((EA .u8).encs s140), own 85 8 u35 r34.length ((EA .i64).encs r34)] [Ty.item ((EI .i64).ty.sl) a0 [u0_0] fp0]) r34.length ?_ ?_ (s0 := []) ?_ h
   ·clear hC h
    rintro i139 s140 e_ w147 next143 K144 hi146 ⟨v141, hS_, hC⟩ h hK145
    refine sr ?_
    refine s_lss (sx hS_ 5 rfl) (sx hS_ 4 rfl) ?_
    refine dn ?_
    refine wp_seq ?_
    refine cw_true rfl (decide_eq_true (by omega)) ?_
    refine wp_skip ?_
    refine then_norm ?_
    refine wp_seq ?_
    refine wp_block ?_
    refine sr ?_
    obtain ⟨Ad148, c149, hv150⟩ := own_formE (hC.getM 1 rfl) (Nat.lt_of_le_of_lt (Nat.zero_le _) hi146)
    refine s_iaddrO (i139 * 8) Try.underlying102 ag85.size (tr (sx hS_ 3 rfl) hv150) (sx hS_ 5 rfl) (Int.natCast_nonneg _) (Int.ofNat_lt.2 hi146) rfl ?_
    refine s_loadCA (A8.enc .i64 (r34.getD i139 default)) (own_cellsE (hC.getM 1 rfl) hv150 i139 hi146) ag85 rfl rfl ?_
    refine s_alloc hC (A8.enc .i64 A8.zero) z85 rfl fun b151 w153 hB_ hC => ?_
    refine s_store (v := .agg (List.toArray (A8.enc .i64 (r34.getD i139 default)))) hC 0 (A8.enc .i64 (r34.getD i139 default)) (A8.enc .i64 (r34.getD i139 default)) rfl ag85.size rfl rfl rfl rfl rfl (Nat.le_of_ble_eq_true rfl) rfl fun w154 hC => ?_
    refine dn ?_
    refine sr ?_
    refine s_makeMap hC (kvA .i64) (vvI .i64) fun b155 w157 hB_ hC => ?_
    refine s_loadA hC 1 (A8.enc .i64 (r34.getD i139 default)) rfl ag85 rfl rfl rfl ?_
    refine s_mapset hC 0 (r34.getD i139 default) 1 rfl kt85 Try.underlying90 rfl rfl rfl (fun w158 hC => ?_) (.inr rfl)
    refine s_mv (v := .map (some b155)) rfl ?_
    refine s_call [.map (some b155)] _ Try.func66 rfl rfl rfl (c_impl_sum_form (mset ([] : List (A8 × Int)) (r34.getD i139 default) 1) h _ (hC.getM 0 rfl)) (fun ret159 w161 hR160 => ?_)
    obtain ⟨r162, u163, f164, r167, rfl, h, hr165, hf166, hB168⟩ := hR160
    refine ⟨_, rfl, ?_⟩
    replace hC := hC.push hB168 (Tr.item (TrForm 93) r162 [u163] f164) hr165 hf166
    obtain ⟨ho170, hf171⟩ := form_split (hC.getM 0 rfl)
    subst hf171
    replace hC := hC.recast (c := own 93 9 u163 r162.terms.length (ETerm.encs r162.terms)) (fun _ h_ => h_) (fun _ => ho170)
    refine s_mv (v := .tuple #[.agg #[u163], .int .i64 r167]) rfl ?_
    refine s_ext (v := .agg #[u163]) rfl rfl ?_
    refine s_ext (v := .int .i64 r167) rfl rfl ?_
    refine s_alloc hC [.slice none 0 0] z51 rfl fun b173 w175 hB_ hC => ?_
    refine s_store (v := .agg #[u163]) hC 0 [u163] [u163] rfl ag51.size rfl rfl rfl rfl (all_c (own_oneC (hC.getM 1 rfl)) rfl) (Nat.le_of_ble_eq_true rfl) rfl fun w176 hC => ?_
    refine s_as (v := .int .i64 r167) rfl ?_
    refine dn ?_
    refine cw_region ?_
    refine s_mv (v := v141) (sx hS_ 2 rfl) ?_
    refine s_faddrB 0 Try.underlying51 rfl sc49.size rfl rfl ?_
    refine s_loadS hC 0 (u163) rfl sc49 rfl rfl ?_
    obtain ⟨⟨h0_177, h1_178⟩, h⟩ := h
    obtain ⟨Ad179, c180, hv181⟩ := own_formE (hC.getM 1 rfl) (Nat.lt_of_le_of_lt (Nat.zero_le _) (show 0 < r162.terms.length by omega))
    refine s_iaddrO (0 * 9) Try.underlying49 ag93.size (tr rfl hv181) rfl h0_177 h1_178 rfl ?_
    refine s_faddrB (0 * 9 + 0) Try.underlying93 rfl ag24.size rfl rfl ?_
    refine s_loadCA (A8.enc .u8 ((r162.terms.getD 0 default).mono)) (cells_subO (o := 0) (k := 8) (own_cellsE (hC.getM 1 rfl) hv181 0 (show 0 < r162.terms.length by omega)) rfl) ag24 rfl rfl ?_
    refine s_bslice (sz := 8) hC [(0, .agg (List.toArray (A8.enc .u8 ((r162.terms.getD 0 default).mono))))] ((EA .u8).encs [(r162.terms.getD 0 default).mono]) rfl (fun _ => bs40_1 ((r162.terms.getD 0 default).mono) _) rfl (by decide) fun b182 w183 hB_ hC => ?_
    obtain ⟨hm187, h⟩ := h
    refine s_app hC 5 Try.underlying40 el24 rfl (by decide) (by decide) rfl (own_rdr (hC.getM 0 rfl)) (fun q hq => Enc.encs_one' (E := (EA .u8)) _ q hq) rfl rfl hm187 fun v185 w186 hC => ?_
    replace hC := own_re hC 5 ((s140 ++ [(r162.terms.getD 0 default).mono]).length) ((EA .u8).encs (s140 ++ [(r162.terms.getD 0 default).mono])) rfl (by simp) (by first | (simp [Enc.encs_append]; done) | simp [Enc.encs_append, Enc.encs])
    refine s_as (v := v185) rfl ?_
    refine done ?_
    refine blk_norm ?_
    refine then_norm ?_
    refine cw_region ?_
    refine s_add (sx hS_ 5 rfl) rfl ?_
    refine s_mv (v := .int .i64 (IntKind.i64.wrap ((i139 : Int) + 1))) rfl ?_
    refine done ?_
    replace hC := hC.sel [5, 6] [0] (M' := [own 24 8 v185 ((s140 ++ [(r162.terms.getD 0 default).mono]).length) ((EA .u8).encs (s140 ++ [(r162.terms.getD 0 default).mono])), own 85 8 u35 r34.length ((EA .i64).encs r34)]) (Ps' := [Ty.item ((EI .i64).ty.sl) a0 [u0_0] fp0]) (by decide) rfl rfl
    exact hK145 (s140 ++ [(r162.terms.getD 0 default).mono]) _ _ ⟨v185, (sk (sx hS_ 0 rfl) (sk (sx hS_ 1 rfl) (sk rfl (sk (sx hS_ 3 rfl) (sk (sx hS_ 4 rfl) (sk (tr rfl (congrArg _ (wrap64_nat hi146 hN142))) sn)))))), hC⟩ h
   ·clear hC h
    rintro s140 e_ w188 K144 ⟨v141, hS_, hC⟩ h
    refine sr ?_
    refine s_lss (sx hS_ 5 rfl) (sx hS_ 4 rfl) ?_
    refine dn ?_
    refine wp_seq ?_
    refine cw_false rfl (decide_eq_false (by omega)) ?_
    refine wp_exit (then_exit (then_exit (exit_in ?_)))
    refine then_norm ?_
    refine sr ?_
    refine s_mv (v := v141) (sx hS_ 2 rfl) ?_
    refine s_as (v := v141) rfl ?_
    refine s_as (v := .int .i64 0) rfl ?_
    refine dn ?_
    refine wp_ret ?_
    refine ret2 (fn := Try.f25) rfl ?_ ?_ ⟨s140, v141, (Option.toList (Value.ownBlock v141)), 0, rfl, h, (own_item (hC.getM 0 rfl)), (own_fresh hC 0 rfl), hC.below⟩ (.inl rfl)
    ·exact res_tmp rfl
    ·exact res_tmp rfl
   ·skip
    replace hC := hC.sel [0, 1] [0] (M' := [own 24 8 (.slice (some ⟨b46, 0, none⟩) 0 0) 0 ((EA .u8).encs []), own 85 8 u35 r34.length ((EA .i64).encs r34)]) (Ps' := [Ty.item ((EI .i64).ty.sl) a0 [u0_0] fp0]) (by decide) rfl rfl
    exact ⟨.slice (some ⟨b46, 0, none⟩) 0 0, (sk rfl (sk rfl (sk rfl (sk rfl (sk rfl (sk rfl sn)))))), hC⟩
def f_laws_FnExactMonomialsOf (a0 : List Int) (a1 : Int) (K : Bool → Prop) : Prop :=
 (if (a0.length : Int) > 1048576 then K true else f_laws_toInt64S a0 (fun r9 => f_spec_MonomialsOf r9 a1 (fun r22 r27 => f_laws_toInt64S a0 (fun r36 => f_impl_MonomialsOf r36 a1 (fun r49 r54 => f_laws_eqMonomialS r49 r22 (fun r63 => (if ¬ (r63 = true) then K false else (if r54 ≠ r27 then K false else f_laws_toInt64S a0 (fun r70 => f_laws_eqInt64S r36 r70 (fun r83 => (if ¬ (r83 = true) then K false else f_laws_markInt64S r36 1 (fun r89 m91 => (if r89 < 0 then K false else f_laws_eqMonomialS r49 r22 (fun r97 => (if ¬ (r97 = true) then K false else f_laws_markMonomialS r49 1 (fun r103 m105 => f_laws_heldMonomialS m105 1 (fun r110 => (if r110 < 0 then K false else (if r110 ≠ r103 then K false else f_laws_toInt64S a0 (fun r117 => f_impl_MonomialsOf r117 a1 (fun r130 r135 => f_laws_eqMonomialS r130 r22 (fun r144 => (if ¬ (r144 = true) then K false else (if r135 ≠ r27 then K false else f_laws_heldMonomialS m105 1 (fun r151 => (if r151 < 0 then K false else (if r151 ≠ r103 then K false else K true)))))))))))))))))))))))))))
theorem c_laws_FnExactMonomialsOf (a0 : List Int) (a1 : Int) {u0_0 : Value} {fp0 : List Nat} {K : Bool → Prop} (h : f_laws_FnExactMonomialsOf a0 a1 K) (w0 : World) (q0 : ((EI .i64).ty.sl).rep a0 [u0_0] fp0 w0) :
  Calls Try.prog 5 #[u0_0, .int .i64 a1] w0 fun e w' => ∃ (r0 : Bool), 
   e = .returned (.bool r0) ∧ K r0 ∧ Bel w0 w' := by
 unfold f_laws_FnExactMonomialsOf at h
 refine calls_of (args := [u0_0, .int .i64 a1]) Try.func5 rfl 98 Try.ntmps5 (Nat.le_of_ble_eq_true rfl) ?_
 have hC := Ctx.start (X := Nox) w0 [Ty.item ((EI .i64).ty.sl) a0 [u0_0] fp0] (by simp only [List.mem_cons, List.not_mem_nil, or_false, forall_eq_or_imp, forall_eq]; exact q0)
 refine sr ?_
 refine s_as (v := .bool false) rfl ?_
 refine dn ?_
 refine wp_seq ?_
 refine sr ?_
 refine s_mv (v := u0_0) rfl ?_
 obtain ⟨Ad2, c3, hv4⟩ := sl_len (hC.getP 0 rfl)
 refine s_len Try.underlying22 (tr rfl hv4) ?_
 refine s_gtr rfl rfl ?_
 refine dn ?_
 refine cw_cond rfl (fun hb5 => ?_) (fun hb5 => ?_)
 ·replace h := ift h (ct hb5)
  refine sr ?_
  refine s_as (v := .bool true) rfl ?_
  refine dn ?_
  refine wp_ret (then_ret ?_)
  refine ret1 (fn := Try.f5) rfl ?_ ⟨true, rfl, h, hC.below⟩ (.inl rfl)
  exact res_tmp rfl
 ·replace h := iff_ h (cf hb5)
  refine wp_skip ?_
  refine then_norm ?_
  refine sr ?_
  refine s_mv (v := u0_0) rfl ?_
  refine s_call [u0_0] _ Try.func14 rfl rfl rfl (c_laws_toInt64S a0 h _ (hC.getP 0 rfl)) (fun ret6 w8 hR7 => ?_)
  obtain ⟨r9, u10, f11, rfl, h, hr12, hf13, hB14⟩ := hR7
  refine ⟨_, rfl, ?_⟩
  replace hC := hC.push hB14 (Tr.item (Tr.sl 2 ((EI .i64).tr)) r9 [u10] f11) hr12 hf13
  obtain ⟨ho16, hf17⟩ := flat_tr (hC.getM 0 rfl).1
  subst hf17
  replace hC := hC.recast (c := own 2 1 u10 r9.length ((EI .i64).encs r9)) (fun _ h_ => h_) (fun _ => ho16)
  refine s_mv (v := .int .i64 a1) rfl ?_
  refine s_call [u10, .int .i64 a1] _ Try.func24 rfl rfl rfl (c_spec_MonomialsOf r9 a1 h _ (own_repE (hC.getM 0 rfl))) (fun ret19 w21 hR20 => ?_)
  obtain ⟨r22, u23, f24, r27, rfl, h, hr25, hf26, hB28⟩ := hR20
  refine ⟨_, rfl, ?_⟩
  replace hC := hC.push hB28 (Tr.item (Tr.sl 24 ((EA .u8).tr)) r22 [u23] f24) hr25 hf26
  obtain ⟨ho30, hf31⟩ := flat_tr (hC.getM 0 rfl).1
  subst hf31
  replace hC := hC.recast (c := own 24 8 u23 r22.length ((EA .u8).encs r22)) (fun _ h_ => h_) (fun _ => ho30)
  refine s_mv (v := .tuple #[u23, .int .i64 r27]) rfl ?_
  refine s_ext (v := u23) rfl rfl ?_
  refine s_ext (v := .int .i64 r27) rfl rfl ?_
  refine s_as (v := u23) rfl ?_
  refine s_as (v := .int .i64 r27) rfl ?_
  refine dn ?_
  refine sr ?_
  refine s_mv (v := u0_0) rfl ?_
  refine s_call [u0_0] _ Try.func14 rfl rfl rfl (c_laws_toInt64S a0 h _ (hC.getP 0 rfl)) (fun ret33 w35 hR34 => ?_)
  obtain ⟨r36, u37, f38, rfl, h, hr39, hf40, hB41⟩ := hR34
  refine ⟨_, rfl, ?_⟩
  replace hC := hC.push hB41 (Tr.item (Tr.sl 2 ((EI .i64).tr)) r36 [u37] f38) hr39 hf40
  obtain ⟨ho43, hf44⟩ := flat_tr (hC.getM 0 rfl).1
  subst hf44
  replace hC := hC.recast (c := own 2 1 u37 r36.length ((EI .i64).encs r36)) (fun _ h_ => h_) (fun _ => ho43)
  refine s_as (v := u37) rfl ?_
  refine dn ?_
  refine sr ?_
  refine s_mv (v := u37) rfl ?_
  refine s_mv (v := .int .i64 a1) rfl ?_
  refine s_call [u37, .int .i64 a1] _ Try.func25 rfl rfl rfl (c_impl_MonomialsOf r36 a1 h _ (own_repE (hC.getM 0 rfl))) (fun ret46 w48 hR47 => ?_)
  obtain ⟨r49, u50, f51, r54, rfl, h, hr52, hf53, hB55⟩ := hR47
  refine ⟨_, rfl, ?_⟩
  replace hC := hC.push hB55 (Tr.item (Tr.sl 24 ((EA .u8).tr)) r49 [u50] f51) hr52 hf53
  obtain ⟨ho57, hf58⟩ := flat_tr (hC.getM 0 rfl).1
  subst hf58
  replace hC := hC.recast (c := own 24 8 u50 r49.length ((EA .u8).encs r49)) (fun _ h_ => h_) (fun _ => ho57)
  refine s_mv (v := .tuple #[u50, .int .i64 r54]) rfl ?_
  refine s_ext (v := u50) rfl rfl ?_
  refine s_ext (v := .int .i64 r54) rfl rfl ?_
  refine s_as (v := u50) rfl ?_
  refine s_as (v := .int .i64 r54) rfl ?_
  refine dn ?_
  refine wp_seq ?_
  refine sr ?_
  refine s_mv (v := u50) rfl ?_
  refine s_mv (v := u23) rfl ?_
  refine s_call [u50, u23] _ Try.func26 rfl rfl rfl (c_laws_eqMonomialS r49 r22 h _ (own_repE (hC.getM 0 rfl)) (own_repE (hC.getM 2 rfl))) (fun ret60 w62 hR61 => ?_)
  obtain ⟨r63, rfl, h, hB64⟩ := hR61
  refine ⟨_, rfl, ?_⟩
  replace hC := hC.grow hB64
  refine s_not rfl ?_
  refine s_mv (v := .bool (!r63)) rfl ?_
  refine bsplit (!r63) (fun hb65 => ?_) (fun hb65 => ?_)
  ·replace h := ift h (ne_t (not_t hb65))
   refine guardOff (b := true) 4 37 rfl (tr rfl (congrArg _ hb65)) (by decide) ?_
   refine guardOff (b := true) 4 37 rfl (tr rfl (congrArg _ hb65)) (by decide) ?_
   refine guardOff (b := true) 4 37 rfl (tr rfl (congrArg _ hb65)) (by decide) ?_
   refine s_pick (v := .bool true) (b := true) (tr rfl (congrArg _ hb65)) rfl ?_
   refine dn ?_
   refine cw_true rfl rfl ?_
   refine sr ?_
   refine s_as (v := .bool false) rfl ?_
   refine dn ?_
   refine wp_ret (then_ret ?_)
   refine ret1 (fn := Try.f5) rfl ?_ ⟨false, rfl, h, hC.below⟩ (.inl rfl)
   exact res_tmp rfl
  ·replace h := iff_ h (not_not_intro ((not_f hb65)))
   refine guardOn 4 37 rfl rfl hb65 ?_
   refine s_mv (v := .int .i64 r54) rfl ?_
   refine guardOn 4 37 rfl rfl hb65 ?_
   refine s_mv (v := .int .i64 r27) rfl ?_
   refine guardOn 4 37 rfl rfl hb65 ?_
   refine s_neq rfl rfl ?_
   refine s_pick (v := .bool (decide (r54 ≠ r27))) (b := false) (tr rfl (congrArg _ hb65)) rfl ?_
   refine dn ?_
   refine cw_cond rfl (fun hb66 => ?_) (fun hb66 => ?_)
   ·replace h := ift h (ct hb66)
    refine sr ?_
    refine s_as (v := .bool false) rfl ?_
    refine dn ?_
    refine wp_ret (then_ret ?_)
    refine ret1 (fn := Try.f5) rfl ?_ ⟨false, rfl, h, hC.below⟩ (.inl rfl)
    exact res_tmp rfl
   ·replace h := iff_ h (cf hb66)
    refine wp_skip ?_
    refine then_norm ?_
    refine wp_seq ?_
    refine sr ?_
    refine s_mv (v := u37) rfl ?_
    refine s_mv (v := u0_0) rfl ?_
    refine s_call [u0_0] _ Try.func14 rfl rfl rfl (c_laws_toInt64S a0 h _ (hC.getP 0 rfl)) (fun ret67 w69 hR68 => ?_)
    obtain ⟨r70, u71, f72, rfl, h, hr73, hf74, hB75⟩ := hR68
    refine ⟨_, rfl, ?_⟩
    replace hC := hC.push hB75 (Tr.item (Tr.sl 2 ((EI .i64).tr)) r70 [u71] f72) hr73 hf74
    obtain ⟨ho77, hf78⟩ := flat_tr (hC.getM 0 rfl).1
    subst hf78
    replace hC := hC.recast (c := own 2 1 u71 r70.length ((EI .i64).encs r70)) (fun _ h_ => h_) (fun _ => ho77)
    refine s_call [u37, u71] _ Try.func18 rfl rfl rfl (c_laws_eqInt64S r36 r70 h _ (own_repE (hC.getM 2 rfl)) (own_repE (hC.getM 0 rfl))) (fun ret80 w82 hR81 => ?_)
    obtain ⟨r83, rfl, h, hB84⟩ := hR81
    refine ⟨_, rfl, ?_⟩
    replace hC := hC.grow hB84
    refine s_not rfl ?_
    refine dn ?_
    refine cw_cond rfl (fun hb85 => ?_) (fun hb85 => ?_)
    ·replace h := ift h (ne_t (not_t hb85))
     refine sr ?_
     refine s_as (v := .bool false) rfl ?_
     refine dn ?_
     refine wp_ret (then_ret ?_)
     refine ret1 (fn := Try.f5) rfl ?_ ⟨false, rfl, h, hC.below⟩ (.inl rfl)
     exact res_tmp rfl
    ·replace h := iff_ h (not_not_intro ((not_f hb85)))
     refine wp_skip ?_
     refine then_norm ?_
     refine sr ?_
     refine s_as (v := .int .i64 1) rfl ?_
     refine dn ?_
     refine sr ?_
     refine s_mv (v := u37) rfl ?_
     refine s_mv (v := .int .i64 1) rfl ?_
     refine s_call [u37, .int .i64 1] _ Try.func27 rfl rfl rfl (c_laws_markInt64S r36 1 h _ (hC.getM 2 rfl)) (fun ret86 w88 hR87 => ?_)
     obtain ⟨r89, m91, rfl, h, hm92, hB90⟩ := hR87
     refine ⟨_, rfl, ?_⟩
     replace hC := hC.turnL hB90 (M' := [own 2 1 u71 r70.length ((EI .i64).encs r70), own 24 8 u50 r49.length ((EA .u8).encs r49), own 2 1 u37 m91.length ((EI .i64).encs m91), own 24 8 u23 r22.length ((EA .u8).encs r22), own 2 1 u10 r9.length ((EI .i64).encs r9)]) rfl (fun x_ hx_ => ⟨_, List.mem_of_getElem? (i := 2) rfl, hx_⟩) (by simp only [List.mem_cons, List.not_mem_nil, or_false, forall_eq_or_imp, forall_eq]; exact ⟨(hC.stay 0 rfl hB90 (fun x_ hq_ hx_ => hC.mm 0 2 rfl rfl (by decide) x_ hq_ hx_)), (hC.stay 1 rfl hB90 (fun x_ hq_ hx_ => hC.mm 1 2 rfl rfl (by decide) x_ hq_ hx_)), hm92, (hC.stay 3 rfl hB90 (fun x_ hq_ hx_ => hC.mm 3 2 rfl rfl (by decide) x_ hq_ hx_)), (hC.stay 4 rfl hB90 (fun x_ hq_ hx_ => hC.mm 4 2 rfl rfl (by decide) x_ hq_ hx_))⟩)
     refine s_as (v := .int .i64 r89) rfl ?_
     refine dn ?_
     refine wp_seq ?_
     refine sr ?_
     refine s_mv (v := .int .i64 r89) rfl ?_
     refine s_lss rfl rfl ?_
     refine s_mv (v := .bool (decide (r89 < 0))) rfl ?_
     refine bsplit (decide (r89 < 0)) (fun hb93 => ?_) (fun hb93 => ?_)
     ·replace h := ift h (ct hb93)
      refine guardOff (b := true) 2 52 rfl (tr rfl (congrArg _ hb93)) (by decide) ?_
      refine guardOff (b := true) 2 52 rfl (tr rfl (congrArg _ hb93)) (by decide) ?_
      refine guardOff (b := true) 2 52 rfl (tr rfl (congrArg _ hb93)) (by decide) ?_
      refine guardOff (b := true) 2 52 rfl (tr rfl (congrArg _ hb93)) (by decide) ?_
      refine s_pick (v := .bool true) (b := true) (tr rfl (congrArg _ hb93)) rfl ?_
      refine s_mv (v := .bool true) rfl ?_
      refine guardOff (b := true) 8 58 rfl (tr rfl (congrArg _ rfl)) (by decide) ?_
      refine guardOff (b := true) 8 58 rfl (tr rfl (congrArg _ rfl)) (by decide) ?_
      refine guardOff (b := true) 8 58 rfl (tr rfl (congrArg _ rfl)) (by decide) ?_
      refine s_pick (v := .bool true) (b := true) rfl rfl ?_
      refine dn ?_
      refine cw_true rfl rfl ?_
      refine sr ?_
      refine s_as (v := .bool false) rfl ?_
      refine dn ?_
      refine wp_ret (then_ret ?_)
      refine ret1 (fn := Try.f5) rfl ?_ ⟨false, rfl, h, hC.below⟩ (.inl rfl)
      exact res_tmp rfl
     ·replace h := iff_ h (cf hb93)
      refine guardOn 2 52 rfl rfl hb93 ?_
      refine s_mv (v := u50) rfl ?_
      refine guardOn 2 52 rfl rfl hb93 ?_
      refine s_mv (v := u23) rfl ?_
      refine guardOn 2 52 rfl rfl hb93 ?_
      refine s_call [u50, u23] _ Try.func26 rfl rfl rfl (c_laws_eqMonomialS r49 r22 h _ (own_repE (hC.getM 1 rfl)) (own_repE (hC.getM 3 rfl))) (fun ret94 w96 hR95 => ?_)
      obtain ⟨r97, rfl, h, hB98⟩ := hR95
      refine ⟨_, rfl, ?_⟩
      replace hC := hC.grow hB98
      refine guardOn 2 52 rfl rfl hb93 ?_
      refine s_not rfl ?_
      refine s_pick (v := .bool (!r97)) (b := false) (tr rfl (congrArg _ hb93)) rfl ?_
      refine s_mv (v := .bool (!r97)) rfl ?_
      refine bsplit (!r97) (fun hb99 => ?_) (fun hb99 => ?_)
      ·replace h := ift h (ne_t (not_t hb99))
       refine guardOff (b := true) 8 58 rfl (tr rfl (congrArg _ hb99)) (by decide) ?_
       refine guardOff (b := true) 8 58 rfl (tr rfl (congrArg _ hb99)) (by decide) ?_
       refine guardOff (b := true) 8 58 rfl (tr rfl (congrArg _ hb99)) (by decide) ?_
       refine s_pick (v := .bool true) (b := true) (tr rfl (congrArg _ hb99)) rfl ?_
       refine dn ?_
       refine cw_true rfl rfl ?_
       refine sr ?_
       refine s_as (v := .bool false) rfl ?_
       refine dn ?_
       refine wp_ret (then_ret ?_)
       refine ret1 (fn := Try.f5) rfl ?_ ⟨false, rfl, h, hC.below⟩ (.inl rfl)
       exact res_tmp rfl
      ·replace h := iff_ h (not_not_intro ((not_f hb99)))
       refine guardOn 8 58 rfl rfl hb99 ?_
       refine s_mv (v := .int .i64 r54) rfl ?_
       refine guardOn 8 58 rfl rfl hb99 ?_
       refine s_mv (v := .int .i64 r27) rfl ?_
       refine guardOn 8 58 rfl rfl hb99 ?_
       refine s_neq rfl rfl ?_
       refine s_pick (v := .bool (decide (r54 ≠ r27))) (b := false) (tr rfl (congrArg _ hb99)) rfl ?_
       refine dn ?_
       refine cw_false rfl hb66 ?_
       refine wp_skip ?_
       refine then_norm ?_
       refine sr ?_
       refine s_as (v := .int .i64 1) rfl ?_
       refine dn ?_
       refine sr ?_
       refine s_mv (v := u50) rfl ?_
       refine s_mv (v := .int .i64 1) rfl ?_
       refine s_call [u50, .int .i64 1] _ Try.func28 rfl rfl rfl (c_laws_markMonomialS r49 1 h _ (hC.getM 1 rfl)) (fun ret100 w102 hR101 => ?_)
       obtain ⟨r103, m105, rfl, h, hm106, hB104⟩ := hR101
       refine ⟨_, rfl, ?_⟩
       replace hC := hC.turnL hB104 (M' := [own 2 1 u71 r70.length ((EI .i64).encs r70), own 24 8 u50 m105.length ((EA .u8).encs m105), own 2 1 u37 m91.length ((EI .i64).encs m91), own 24 8 u23 r22.length ((EA .u8).encs r22), own 2 1 u10 r9.length ((EI .i64).encs r9)]) rfl (fun x_ hx_ => ⟨_, List.mem_of_getElem? (i := 1) rfl, hx_⟩) (by simp only [List.mem_cons, List.not_mem_nil, or_false, forall_eq_or_imp, forall_eq]; exact ⟨(hC.stay 0 rfl hB104 (fun x_ hq_ hx_ => hC.mm 0 1 rfl rfl (by decide) x_ hq_ hx_)), hm106, (hC.stay 2 rfl hB104 (fun x_ hq_ hx_ => hC.mm 2 1 rfl rfl (by decide) x_ hq_ hx_)), (hC.stay 3 rfl hB104 (fun x_ hq_ hx_ => hC.mm 3 1 rfl rfl (by decide) x_ hq_ hx_)), (hC.stay 4 rfl hB104 (fun x_ hq_ hx_ => hC.mm 4 1 rfl rfl (by decide) x_ hq_ hx_))⟩)
       refine s_as (v := .int .i64 r103) rfl ?_
       refine dn ?_
       refine sr ?_
       refine s_as (v := .int .i64 1) rfl ?_
       refine dn ?_
       refine sr ?_
       refine s_mv (v := u50) rfl ?_
       refine s_mv (v := .int .i64 1) rfl ?_
       refine s_call [u50, .int .i64 1] _ Try.func29 rfl rfl rfl (c_laws_heldMonomialS m105 1 h _ (own_repE (hC.getM 1 rfl))) (fun ret107 w109 hR108 => ?_)
       obtain ⟨r110, rfl, h, hB111⟩ := hR108
       refine ⟨_, rfl, ?_⟩
       replace hC := hC.grow hB111
       refine s_as (v := .int .i64 r110) rfl ?_
       refine dn ?_
       refine wp_seq ?_
       refine sr ?_
       refine s_mv (v := .int .i64 r110) rfl ?_
       refine s_lss rfl rfl ?_
       refine dn ?_
       refine cw_cond rfl (fun hb112 => ?_) (fun hb112 => ?_)
       ·replace h := ift h (ct hb112)
        refine sr ?_
        refine s_as (v := .bool false) rfl ?_
        refine dn ?_
        refine wp_ret (then_ret ?_)
        refine ret1 (fn := Try.f5) rfl ?_ ⟨false, rfl, h, hC.below⟩ (.inl rfl)
        exact res_tmp rfl
       ·replace h := iff_ h (cf hb112)
        refine wp_skip ?_
        refine then_norm ?_
        refine wp_seq ?_
        refine sr ?_
        refine s_mv (v := .int .i64 r110) rfl ?_
        refine s_mv (v := .int .i64 r103) rfl ?_
        refine s_neq rfl rfl ?_
        refine dn ?_
        refine cw_cond rfl (fun hb113 => ?_) (fun hb113 => ?_)
        ·replace h := ift h (ct hb113)
         refine sr ?_
         refine s_as (v := .bool false) rfl ?_
         refine dn ?_
         refine wp_ret (then_ret ?_)
         refine ret1 (fn := Try.f5) rfl ?_ ⟨false, rfl, h, hC.below⟩ (.inl rfl)
         exact res_tmp rfl
        ·replace h := iff_ h (cf hb113)
         refine wp_skip ?_
         refine then_norm ?_
         refine sr ?_
         refine s_mv (v := u0_0) rfl ?_
         refine s_call [u0_0] _ Try.func14 rfl rfl rfl (c_laws_toInt64S a0 h _ (hC.getP 0 rfl)) (fun ret114 w116 hR115 => ?_)
         obtain ⟨r117, u118, f119, rfl, h, hr120, hf121, hB122⟩ := hR115
         refine ⟨_, rfl, ?_⟩
         replace hC := hC.push hB122 (Tr.item (Tr.sl 2 ((EI .i64).tr)) r117 [u118] f119) hr120 hf121
         obtain ⟨ho124, hf125⟩ := flat_tr (hC.getM 0 rfl).1
         subst hf125
         replace hC := hC.recast (c := own 2 1 u118 r117.length ((EI .i64).encs r117)) (fun _ h_ => h_) (fun _ => ho124)
         refine s_mv (v := .int .i64 a1) rfl ?_
         refine s_call [u118, .int .i64 a1] _ Try.func25 rfl rfl rfl (c_impl_MonomialsOf r117 a1 h _ (own_repE (hC.getM 0 rfl))) (fun ret127 w129 hR128 => ?_)
         obtain ⟨r130, u131, f132, r135, rfl, h, hr133, hf134, hB136⟩ := hR128
         refine ⟨_, rfl, ?_⟩
         replace hC := hC.push hB136 (Tr.item (Tr.sl 24 ((EA .u8).tr)) r130 [u131] f132) hr133 hf134
         obtain ⟨ho138, hf139⟩ := flat_tr (hC.getM 0 rfl).1
         subst hf139
         replace hC := hC.recast (c := own 24 8 u131 r130.length ((EA .u8).encs r130)) (fun _ h_ => h_) (fun _ => ho138)
         refine s_mv (v := .tuple #[u131, .int .i64 r135]) rfl ?_
         refine s_ext (v := u131) rfl rfl ?_
         refine s_ext (v := .int .i64 r135) rfl rfl ?_
         refine s_as (v := u131) rfl ?_
         refine s_as (v := .int .i64 r135) rfl ?_
         refine dn ?_
         refine wp_seq ?_
         refine sr ?_
         refine s_mv (v := u131) rfl ?_
         refine s_mv (v := u23) rfl ?_
         refine s_call [u131, u23] _ Try.func26 rfl rfl rfl (c_laws_eqMonomialS r130 r22 h _ (own_repE (hC.getM 0 rfl)) (own_repE (hC.getM 5 rfl))) (fun ret141 w143 hR142 => ?_)
         obtain ⟨r144, rfl, h, hB145⟩ := hR142
         refine ⟨_, rfl, ?_⟩
         replace hC := hC.grow hB145
         refine s_not rfl ?_
         refine s_mv (v := .bool (!r144)) rfl ?_
         refine bsplit (!r144) (fun hb146 => ?_) (fun hb146 => ?_)
         ·replace h := ift h (ne_t (not_t hb146))
          refine guardOff (b := true) 4 85 rfl (tr rfl (congrArg _ hb146)) (by decide) ?_
          refine guardOff (b := true) 4 85 rfl (tr rfl (congrArg _ hb146)) (by decide) ?_
          refine guardOff (b := true) 4 85 rfl (tr rfl (congrArg _ hb146)) (by decide) ?_
          refine s_pick (v := .bool true) (b := true) (tr rfl (congrArg _ hb146)) rfl ?_
          refine dn ?_
          refine cw_true rfl rfl ?_
          refine sr ?_
          refine s_as (v := .bool false) rfl ?_
          refine dn ?_
          refine wp_ret (then_ret ?_)
          refine ret1 (fn := Try.f5) rfl ?_ ⟨false, rfl, h, hC.below⟩ (.inl rfl)
          exact res_tmp rfl
         ·replace h := iff_ h (not_not_intro ((not_f hb146)))
          refine guardOn 4 85 rfl rfl hb146 ?_
          refine s_mv (v := .int .i64 r135) rfl ?_
          refine guardOn 4 85 rfl rfl hb146 ?_
          refine s_mv (v := .int .i64 r27) rfl ?_
          refine guardOn 4 85 rfl rfl hb146 ?_
          refine s_neq rfl rfl ?_
          refine s_pick (v := .bool (decide (r135 ≠ r27))) (b := false) (tr rfl (congrArg _ hb146)) rfl ?_
          refine dn ?_
          refine cw_cond rfl (fun hb147 => ?_) (fun hb147 => ?_)
          ·replace h := ift h (ct hb147)
           refine sr ?_
           refine s_as (v := .bool false) rfl ?_
           refine dn ?_
           refine wp_ret (then_ret ?_)
           refine ret1 (fn := Try.f5) rfl ?_ ⟨false, rfl, h, hC.below⟩ (.inl rfl)
           exact res_tmp rfl
          ·replace h := iff_ h (cf hb147)
           refine wp_skip ?_
           refine then_norm ?_
           refine sr ?_
           refine s_as (v := .int .i64 1) rfl ?_
           refine dn ?_
           refine sr ?_
           refine s_mv (v := u50) rfl ?_
           refine s_mv (v := .int .i64 1) rfl ?_
           refine s_call [u50, .int .i64 1] _ Try.func29 rfl rfl rfl (c_laws_heldMonomialS m105 1 h _ (own_repE (hC.getM 3 rfl))) (fun ret148 w150 hR149 => ?_)
           obtain ⟨r151, rfl, h, hB152⟩ := hR149
           refine ⟨_, rfl, ?_⟩
           replace hC := hC.grow hB152
           refine s_as (v := .int .i64 r151) rfl ?_
           refine dn ?_
           refine wp_seq ?_
           refine sr ?_
           refine s_mv (v := .int .i64 r151) rfl ?_
           refine s_lss rfl rfl ?_
           refine dn ?_
           refine cw_cond rfl (fun hb153 => ?_) (fun hb153 => ?_)
           ·replace h := ift h (ct hb153)
            refine sr ?_
            refine s_as (v := .bool false) rfl ?_
            refine dn ?_
            refine wp_ret (then_ret ?_)
            refine ret1 (fn := Try.f5) rfl ?_ ⟨false, rfl, h, hC.below⟩ (.inl rfl)
            exact res_tmp rfl
           ·replace h := iff_ h (cf hb153)
            refine wp_skip ?_
            refine then_norm ?_
            refine wp_seq ?_
            refine sr ?_
            refine s_mv (v := .int .i64 r151) rfl ?_
            refine s_mv (v := .int .i64 r103) rfl ?_
            refine s_neq rfl rfl ?_
            refine dn ?_
            refine cw_cond rfl (fun hb154 => ?_) (fun hb154 => ?_)
            ·replace h := ift h (ct hb154)
             refine sr ?_
             refine s_as (v := .bool false) rfl ?_
             refine dn ?_
             refine wp_ret (then_ret ?_)
             refine ret1 (fn := Try.f5) rfl ?_ ⟨false, rfl, h, hC.below⟩ (.inl rfl)
             exact res_tmp rfl
            ·replace h := iff_ h (cf hb154)
             refine wp_skip ?_
             refine then_norm ?_
             refine sr ?_
             refine s_as (v := .bool true) rfl ?_
             refine dn ?_
             refine wp_ret ?_
             refine ret1 (fn := Try.f5) rfl ?_ ⟨true, rfl, h, hC.below⟩ (.inl rfl)
             exact res_tmp rfl
end Go.Proofs.Ytjngkbalaipdbaa
