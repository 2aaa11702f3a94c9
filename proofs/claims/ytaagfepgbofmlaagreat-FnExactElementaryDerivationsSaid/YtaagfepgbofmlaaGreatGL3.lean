/- Printed by vcgen.py: functions of the program as predicates, and that the machine's calls meet them. -/
import Derived.Test.YtaagfepgbofmlaaGreatGC
import Derived.Test.YtaagfepgbofmlaaGreatVo
import Derived.Test.YtaagfepgbofmlaaGreatVr
import Derived.Test.YtaagfepgbofmlaaGreatVx
import Derived.Test.YtaagfepgbofmlaaGreatVz
import Derived.KernelRfl
set_option linter.unusedVariables false
set_option linter.unusedSimpArgs false
set_option maxRecDepth 4000
set_option maxHeartbeats 4000000
namespace Go.Proofs.YtaagfepgbofmlaaGreat
open Go Go.RowKit Vc
theorem bs132_1 (x0 : A8) (w : World) : (Instr.buildSlice 132 1 #[(0, .agg (List.toArray (A8.enc .u8 x0)))]).run Tryz.prog w = .ok (.slice (some ⟨w.heap.size, 0, none⟩) 1 1) (w.alloc (.cells (List.toArray ((EA .u8).encs [x0])) 136)) := by kernel_rfl
theorem el136 : ElemT Tryz.prog 136 (.agg (List.toArray (A8.enc .u8 A8.zero))) 8 8 := by unfold ElemT; kernel_rfl
theorem bs27_0 (w : World) : (Instr.buildSlice 27 0 #[]).run Tryz.prog w = .ok (.slice (some ⟨w.heap.size, 0, none⟩) 0 0) (w.alloc (.cells (List.toArray []) 77)) := by kernel_rfl
theorem bl77_0int_1sl (x0 : Int) (x1 : Value) (hx1 : IsSl x1) (w : World) : (Instr.build 77 #[(0, .int .i64 x0), (1, x1)]).run Tryz.prog w = .ok (.agg #[.int .i64 x0, x1]) w := by obtain ⟨_, _, _, rfl⟩ := hx1; kernel_rfl
theorem z77 : ZeroT Tryz.prog 77 (.agg #[.int .i64 0, .slice none 0 0]) := by unfold ZeroT; kernel_rfl
theorem ag77 : AggT Tryz.prog 77 2 := ⟨⟨_, Tryz.underlying77, rfl⟩, by kernel_rfl⟩
theorem bsr27_1_is (x0 : Int) (x1 : Value) (hx1 : IsSl x1) (w : World) : (Instr.buildSlice 27 1 #[(0, .agg #[.int .i64 x0, x1])]).run Tryz.prog w = .ok (.slice (some ⟨w.heap.size, 0, none⟩) 1 1) (w.alloc (.cells (List.toArray [.int .i64 x0, x1]) 77)) := by obtain ⟨_, _, _, rfl⟩ := hx1; kernel_rfl
theorem el77 : ElemT Tryz.prog 77 (.agg #[.int .i64 0, .slice none 0 0]) 2 32 := by unfold ElemT; kernel_rfl
theorem sc122 : ScaT Tryz.prog 122 := ⟨⟨_, Tryz.underlying122, rfl⟩, by kernel_rfl⟩
theorem bl187_0sl_1int (x0 : Value) (x1 : Int) (hx0 : IsSl x0) (w : World) : (Instr.build 187 #[(0, x0), (1, .int .i64 x1)]).run Tryz.prog w = .ok (.agg #[x0, .int .i64 x1, .slice none 0 0]) w := by obtain ⟨_, _, _, rfl⟩ := hx0; kernel_rfl
theorem bs69_0  (w : World) : (Instr.buildSlice 69 0 #[]).run Tryz.prog w = .ok (.slice (some ⟨w.heap.size, 0, none⟩) 0 0) (w.alloc (.cells (List.toArray (EElem.encs [])) 75)) := by kernel_rfl
theorem bl75_0int_1flat (x0 : Int) (x1 : A8) (w : World) : (Instr.build 75 #[(0, .int .i64 x0), (1, .agg (List.toArray (A8.enc .i64 x1)))]).run Tryz.prog w = .ok (.agg (List.toArray (Elem.enc (⟨x0, x1⟩ : Elem)))) w := by kernel_rfl
theorem bs69_1 (x0 : Elem) (w : World) : (Instr.buildSlice 69 1 #[(0, .agg (List.toArray (Elem.enc x0)))]).run Tryz.prog w = .ok (.slice (some ⟨w.heap.size, 0, none⟩) 1 1) (w.alloc (.cells (List.toArray (EElem.encs [x0])) 75)) := by kernel_rfl
theorem el75 : ElemT Tryz.prog 75 (.agg (List.toArray (Elem.enc (⟨0, A8.zero⟩ : Elem)))) 9 72 := by unfold ElemT; kernel_rfl
theorem bl77_0int (x0 : Int) (w : World) : (Instr.build 77 #[(0, .int .i64 x0)]).run Tryz.prog w = .ok (.agg #[.int .i64 x0, .slice none 0 0]) w := by kernel_rfl
theorem sc142 : ScaT Tryz.prog 142 := ⟨⟨_, Tryz.underlying142, rfl⟩, by kernel_rfl⟩
theorem bl77  (w : World) : (Instr.build 77 #[]).run Tryz.prog w = .ok (.agg #[.int .i64 0, .slice none 0 0]) w := by kernel_rfl
theorem bsr30_1_s (x0 : Value) (hx0 : IsSl x0) (w : World) : (Instr.buildSlice 30 1 #[(0, .agg #[x0])]).run Tryz.prog w = .ok (.slice (some ⟨w.heap.size, 0, none⟩) 1 1) (w.alloc (.cells (List.toArray [x0]) 55)) := by obtain ⟨_, _, _, rfl⟩ := hx0; kernel_rfl
theorem bs22_2 (x0 : Int) (x1 : Int) (w : World) : (Instr.buildSlice 22 2 #[(0, .int .i64 x0), (1, .int .i64 x1)]).run Tryz.prog w = .ok (.slice (some ⟨w.heap.size, 0, none⟩) 2 2) (w.alloc (.cells (List.toArray ((EI .i64).encs [x0, x1])) 2)) := by kernel_rfl
theorem ag75 : AggT Tryz.prog 75 9 := ⟨⟨_, Tryz.underlying75, rfl⟩, by kernel_rfl⟩
theorem z75 : ZeroT Tryz.prog 75 (.agg (List.toArray (Elem.enc (⟨0, A8.zero⟩ : Elem)))) := by unfold ZeroT; kernel_rfl
theorem bl144_0ptr_1int (x0 : Nat) (x1 : Int) (w : World) : (Instr.build 144 #[(0, .pointer (some ⟨x0, 0, none⟩)), (1, .int .i64 x1)]).run Tryz.prog w = .ok (.agg #[.pointer (some ⟨x0, 0, none⟩), .int .i64 x1, .slice none 0 0]) w := by kernel_rfl
theorem bsr142_1_m (x0 : Nat) (w : World) : (Instr.buildSlice 142 1 #[(0, .map (some x0))]).run Tryz.prog w = .ok (.slice (some ⟨w.heap.size, 0, none⟩) 1 1) (w.alloc (.cells (List.toArray [.map (some x0)]) 115)) := by kernel_rfl
theorem el115 : ElemT Tryz.prog 115 (.map none) 1 8 := by unfold ElemT; kernel_rfl
theorem ag25 : AggT Tryz.prog 25 2 := ⟨⟨_, Tryz.underlying25, rfl⟩, by kernel_rfl⟩
def f_spec_l01Fill (fu_ : Nat) (a0 : List Int) (a1 : A8) (a2 : Int) (a3 : Int) (a4 : List A8) (K : List A8 → Prop) : Prop :=
 match fu_ with
 | 0 => False
 | fu_ + 1 => (if a2 = (a0.length : Int) then (if a3 = 0 then (Room (a4.length + 1) 8 ∧ K (a4 ++ [a1])) else K a4) else ((0 ≤ a2 ∧ a2 < (a0.length : Int)) ∧ ((a0.getD a2.toNat default) ≠ 0 ∧ ((0 ≤ a2 ∧ a2 < (a0.length : Int)) ∧ (if Int.tmod (a0.getD a2.toNat default) 2 ≠ 0 then whileP (fun (s80 : A8 × (List A8) × Int) next82 => (if s80.2.2 ≥ 0 then (if (s80.2.1.length : Int) ≤ 400 then ((0 ≤ a2 ∧ a2 < 8) ∧ ((0 ≤ a2 ∧ a2 < (a0.length : Int)) ∧ f_spec_l01Fill fu_ a0 (s80.1.set a2.toNat (IntKind.u8.wrap s80.2.2)) (IntKind.i64.wrap (a2 + 1)) (IntKind.i64.wrap (a3 - (IntKind.i64.wrap (s80.2.2 * (a0.getD a2.toNat default))))) s80.2.1 (fun r105 => next82 (s80.1.set a2.toNat (IntKind.u8.wrap s80.2.2), r105, IntKind.i64.wrap (s80.2.2 - 1))))) else K s80.2.1) else K s80.2.1)) (a1, a4, (if 20 < (if 1 < IntKind.i64.wrap (Int.tdiv a3 (a0.getD a2.toNat default)) then 1 else IntKind.i64.wrap (Int.tdiv a3 (a0.getD a2.toNat default))) then 20 else (if 1 < IntKind.i64.wrap (Int.tdiv a3 (a0.getD a2.toNat default)) then 1 else IntKind.i64.wrap (Int.tdiv a3 (a0.getD a2.toNat default))))) else whileP (fun (s161 : A8 × (List A8) × Int) next163 => (if s161.2.2 ≥ 0 then (if (s161.2.1.length : Int) ≤ 400 then ((0 ≤ a2 ∧ a2 < 8) ∧ ((0 ≤ a2 ∧ a2 < (a0.length : Int)) ∧ f_spec_l01Fill fu_ a0 (s161.1.set a2.toNat (IntKind.u8.wrap s161.2.2)) (IntKind.i64.wrap (a2 + 1)) (IntKind.i64.wrap (a3 - (IntKind.i64.wrap (s161.2.2 * (a0.getD a2.toNat default))))) s161.2.1 (fun r186 => next163 (s161.1.set a2.toNat (IntKind.u8.wrap s161.2.2), r186, IntKind.i64.wrap (s161.2.2 - 1))))) else K s161.2.1) else K s161.2.1)) (a1, a4, (if 20 < IntKind.i64.wrap (Int.tdiv a3 (a0.getD a2.toNat default)) then 20 else IntKind.i64.wrap (Int.tdiv a3 (a0.getD a2.toNat default)))))))))
theorem c_spec_l01Fill (fu_ : Nat) : ∀ (a0 : List Int) (a1 : A8) (a2 : Int) (a3 : Int) (a4 : List A8) {u4_0 : Value} {u0_0 : Value} {fp0 : List Nat} {K : List A8 → Prop} (h : f_spec_l01Fill fu_ a0 a1 a2 a3 a4 K) (w0 : World) (q0 : ((EI .i64).ty.sl).rep a0 [u0_0] fp0 w0) (qo4 : (own 136 8 u4_0 a4.length ((EA .u8).encs a4)).holds w0) (do0 : ∀ b, b ∈ fp0 → b ∉ Option.toList (Value.ownBlock u4_0)),
  Calls Tryz.prog 150 #[u0_0, .agg (List.toArray (A8.enc .u8 a1)), .int .i64 a2, .int .i64 a3, u4_0] w0 fun e w' => ∃ (r0 : List A8) (z0_0 : Value), 
   e = .returned (z0_0) ∧ K r0 ∧ (own 136 8 z0_0 r0.length ((EA .u8).encs r0)).holds w' ∧ (∀ b, b ∈ Option.toList (Value.ownBlock z0_0) → b ∈ Option.toList (Value.ownBlock u4_0) ∨ w0.heap.size ≤ b) ∧ BelO (Option.toList (Value.ownBlock u4_0)) w0 w' := by
 induction fu_ with
 | zero =>
  intro a0 a1 a2 a3 a4 u4_0 u0_0 fp0 K h w0 q0 qo4 do0
  exact False.elim h
 | succ fu_ ih_ =>
  intro a0 a1 a2 a3 a4 u4_0 u0_0 fp0 K h w0 q0 qo4 do0
  rw [f_spec_l01Fill.eq_2] at h
  refine calls_of (args := [u0_0, .agg (List.toArray (A8.enc .u8 a1)), .int .i64 a2, .int .i64 a3, u4_0]) Tryz.func150 rfl 68 Tryz.ntmps150 (Nat.le_of_ble_eq_true rfl) ?_
  have hC := Ctx.startL w0 (Option.toList (Value.ownBlock u4_0)) [own 136 8 u4_0 a4.length ((EA .u8).encs a4)] [Ty.item ((EI .i64).ty.sl) a0 [u0_0] fp0] (by simp only [List.mem_cons, List.not_mem_nil, or_false, forall_eq_or_imp, forall_eq]; exact qo4) (by simp only [List.mem_cons, List.not_mem_nil, or_false, forall_eq_or_imp, forall_eq]; exact q0) (by simp only [List.mem_cons, List.not_mem_nil, or_false, forall_eq_or_imp, forall_eq]; exact (fun b_ hb_ => hb_)) (List.pairwise_singleton _ _) (by simp only [List.mem_cons, List.not_mem_nil, or_false, forall_eq_or_imp, forall_eq]; exact do0)
  refine sr ?_
  refine s_box (v := .agg (List.toArray (A8.enc .u8 a1))) hC (A8.enc .u8 a1) rfl rfl fun b3 w5 hB_ hC => ?_
  refine s_as (v := .slice none 0 0) rfl ?_
  refine dn ?_
  refine wp_seq ?_
  refine sr ?_
  refine s_mv (v := .int .i64 a2) rfl ?_
  refine s_mv (v := u0_0) rfl ?_
  obtain ⟨Ad6, c7, hv8⟩ := sl_len (hC.getP 0 rfl)
  refine s_len Tryz.underlying22 (tr rfl hv8) ?_
  refine s_eql rfl rfl ?_
  refine dn ?_
  refine cw_cond rfl (fun hb9 => ?_) (fun hb9 => ?_)
  ·replace h := ift h (ct hb9)
   refine wp_seq ?_
   refine sr ?_
   refine s_mv (v := .int .i64 a3) rfl ?_
   refine s_eql rfl rfl ?_
   refine dn ?_
   refine cw_cond rfl (fun hb10 => ?_) (fun hb10 => ?_)
   ·replace h := ift h (ct hb10)
    refine sr ?_
    refine s_mv (v := u4_0) rfl ?_
    refine s_loadA hC 0 (A8.enc .u8 a1) rfl ag136 rfl rfl rfl ?_
    refine s_bslice (sz := 8) hC [(0, .agg (List.toArray (A8.enc .u8 a1)))] ((EA .u8).encs [a1]) rfl (fun _ => bs132_1 a1 _) rfl (by decide) fun b11 w12 hB_ hC => ?_
    obtain ⟨hm16, h⟩ := h
    refine s_app hC 2 Tryz.underlying132 el136 rfl (by decide) (by decide) rfl (own_rdr (hC.getM 0 rfl)) (fun q hq => Enc.encs_one' (E := (EA .u8)) _ q hq) rfl rfl hm16 fun v14 w15 hC => ?_
    replace hC := own_re hC 2 ((a4 ++ [a1]).length) ((EA .u8).encs (a4 ++ [a1])) rfl (by simp) (by first | (simp [Enc.encs_append]; done) | simp [Enc.encs_append, Enc.encs])
    refine s_as (v := v14) rfl ?_
    refine dn ?_
    refine wp_ret (then_ret (then_ret ?_))
    refine ret1 (fn := Tryz.f150) rfl ?_ ⟨a4 ++ [a1], v14, rfl, h, (hC.getM 2 rfl), (fun b_ hb_ => (hC.mfp _ (List.mem_of_getElem? (i := 2) rfl) b_ hb_).symm), hC.belO⟩ (.inl rfl)
    exact res_tmp rfl
   ·replace h := iff_ h (cf hb10)
    refine wp_skip ?_
    refine then_norm ?_
    refine sr ?_
    refine s_mv (v := u4_0) rfl ?_
    refine s_as (v := u4_0) rfl ?_
    refine dn ?_
    refine wp_ret (then_ret ?_)
    refine ret1 (fn := Tryz.f150) rfl ?_ ⟨a4, u4_0, rfl, h, (hC.getM 1 rfl), (fun b_ hb_ => (hC.mfp _ (List.mem_of_getElem? (i := 1) rfl) b_ hb_).symm), hC.belO⟩ (.inl rfl)
    exact res_tmp rfl
  ·replace h := iff_ h (cf hb9)
   refine wp_skip ?_
   refine then_norm ?_
   refine sr ?_
   refine s_mv (v := .int .i64 a3) rfl ?_
   refine s_mv (v := u0_0) rfl ?_
   refine s_mv (v := .int .i64 a2) rfl ?_
   obtain ⟨⟨h0_17, h1_18⟩, h⟩ := h
   obtain ⟨Ad19, c20, hv21⟩ := sl_form (hC.getP 0 rfl) a2.toNat (show a2.toNat < a0.length by omega)
   refine s_iaddrS (len := a0.length) Tryz.underlying22 sc2.size (tr rfl hv21) rfl h0_17 h1_18 ?_
   refine s_loadCS (.int .i64 (a0.getD a2.toNat default)) (sl_cellsE (hC.getP 0 rfl) hv21 a2.toNat (show a2.toNat < a0.length by omega)) sc2 rfl ?_
   obtain ⟨h0_22, h⟩ := h
   refine s_quo rfl rfl h0_22 ?_
   refine s_as (v := .int .i64 (IntKind.i64.wrap (Int.tdiv a3 (a0.getD a2.toNat default)))) rfl ?_
   refine dn ?_
   refine wp_seq ?_
   refine sr ?_
   refine s_mv (v := u0_0) rfl ?_
   refine s_mv (v := .int .i64 a2) rfl ?_
   obtain ⟨⟨h0_23, h1_24⟩, h⟩ := h
   obtain ⟨Ad25, c26, hv27⟩ := sl_form (hC.getP 0 rfl) a2.toNat (show a2.toNat < a0.length by omega)
   refine s_iaddrS (len := a0.length) Tryz.underlying22 sc2.size (tr rfl hv27) rfl h0_23 h1_24 ?_
   refine s_loadCS (.int .i64 (a0.getD a2.toNat default)) (sl_cellsE (hC.getP 0 rfl) hv27 a2.toNat (show a2.toNat < a0.length by omega)) sc2 rfl ?_
   refine s_rem rfl rfl (by decide) ?_
   refine s_neq rfl rfl ?_
   refine dn ?_
   refine cw_cond rfl (fun hb28 => ?_) (fun hb28 => ?_)
   ·replace h := ift h (ct hb28)
    refine cw_region ?_
    refine s_mv (v := .int .i64 (IntKind.i64.wrap (Int.tdiv a3 (a0.getD a2.toNat default)))) rfl ?_
    refine s_min rfl rfl ?_
    refine s_as (v := .int .i64 (if 1 < IntKind.i64.wrap (Int.tdiv a3 (a0.getD a2.toNat default)) then 1 else IntKind.i64.wrap (Int.tdiv a3 (a0.getD a2.toNat default)))) rfl ?_
    refine dn ?_
    refine wp_seq ?_
    refine sr ?_
    refine s_mv (v := .int .i64 (if 1 < IntKind.i64.wrap (Int.tdiv a3 (a0.getD a2.toNat default)) then 1 else IntKind.i64.wrap (Int.tdiv a3 (a0.getD a2.toNat default)))) rfl ?_
    refine s_min rfl rfl ?_
    refine s_as (v := .int .i64 (if 20 < (if 1 < IntKind.i64.wrap (Int.tdiv a3 (a0.getD a2.toNat default)) then 1 else IntKind.i64.wrap (Int.tdiv a3 (a0.getD a2.toNat default))) then 20 else (if 1 < IntKind.i64.wrap (Int.tdiv a3 (a0.getD a2.toNat default)) then 1 else IntKind.i64.wrap (Int.tdiv a3 (a0.getD a2.toNat default))))) rfl ?_
    refine dn ?_
    refine wp_block ?_
    refine loopW (S := A8 × (List A8) × Int) _ (fun s80 e_ w_ => ∃ (v81 : Value), Slots e_ [(0, u0_0), (2, .int .i64 a2), (3, .int .i64 a3), (4, v81), (6, .pointer (some ⟨b3, 0, none⟩)), (10, .slice none 0 0), (12, .int .i64 s80.2.2)] ∧ Ctx (fun c_ => c_ ∈ Option.toList (Value.ownBlock u4_0)) w0 w_ [blk b3 136 (A8.enc .u8 s80.1), own 136 8 v81 s80.2.1.length ((EA .u8).encs s80.2.1)] [Ty.item ((EI .i64).ty.sl) a0 [u0_0] fp0]) ?_ (s0 := (a1, a4, (if 20 < (if 1 < IntKind.i64.wrap (Int.tdiv a3 (a0.getD a2.toNat default)) then 1 else IntKind.i64.wrap (Int.tdiv a3 (a0.getD a2.toNat default))) then 20 else (if 1 < IntKind.i64.wrap (Int.tdiv a3 (a0.getD a2.toNat default)) then 1 else IntKind.i64.wrap (Int.tdiv a3 (a0.getD a2.toNat default)))))) ?_ h
    ·clear hC h
     rintro s80 e_ w85 next82 K83 ⟨v81, hS_, hC⟩ h hK84
     refine wp_seq ?_
     refine sr ?_
     refine s_mv (v := .int .i64 s80.2.2) (sx hS_ 6 rfl) ?_
     refine s_geq rfl rfl ?_
     refine s_mv (v := .bool (decide (s80.2.2 ≥ 0))) rfl ?_
     refine bsplit (decide (s80.2.2 ≥ 0)) (fun hb86 => ?_) (fun hb86 => ?_)
     ·replace h := ift h (ct hb86)
      refine guardOn 2 42 rfl rfl hb86 ?_
      refine s_mv (v := v81) (sx hS_ 3 rfl) ?_
      refine guardOn 2 42 rfl rfl hb86 ?_
      obtain ⟨Ad87, c88, hv89⟩ := own_form (hC.getM 1 rfl)
      refine s_len Tryz.underlying132 (tr rfl hv89) ?_
      refine guardOn 2 42 rfl rfl hb86 ?_
      refine s_leq rfl rfl ?_
      refine s_pick (v := .bool (decide ((s80.2.1.length : Int) ≤ 400))) (b := true) (tr rfl (congrArg _ hb86)) rfl ?_
      refine dn ?_
      refine cw_cond rfl (fun hb90 => ?_) (fun hb90 => ?_)
      ·replace h := ift h (ct hb90)
       refine wp_skip ?_
       refine then_norm ?_
       refine wp_seq ?_
       refine wp_block ?_
       refine sr ?_
       refine s_mv (v := .int .i64 a2) (sx hS_ 1 rfl) ?_
       refine s_mv (v := .int .i64 s80.2.2) (sx hS_ 6 rfl) ?_
       refine s_conv Tryz.underlying2 Tryz.underlying5 rfl ?_
       obtain ⟨⟨h0_91, h1_92⟩, h⟩ := h
       refine s_iaddrB a2.toNat Tryz.underlying136 sc5.size (sx hS_ 4 rfl) rfl h0_91 h1_92 (by omega) ?_
       refine s_store (v := .int .u8 (IntKind.u8.wrap s80.2.2)) hC 0 [.int .u8 (IntKind.u8.wrap s80.2.2)] (A8.enc .u8 (s80.1.set a2.toNat (IntKind.u8.wrap s80.2.2))) rfl sc5.size rfl rfl rfl rfl rfl (show a2.toNat < 8 by omega) (A8.enc_set _ _ _ (show a2.toNat < 8 by omega)) fun w93 hC => ?_
       refine dn ?_
       refine cw_draw 13 mixed [0, 0, 0, 4, 0, 0, 0, 0, 192, 448, 992, 2032, 0, 8191, 16383] [1, 8, 9] [0, 2, 3, 4, 5, 6, 7, 10, 11, 12] (by kernel_rfl) (by kernel_rfl) (by kernel_rfl) (fun hM95 hM96 w94 hB_ => ?_)
       replace hC := hC.grow hB_
       refine aF 0 (u0_0) rfl rfl (hM96 0 rfl) (rfl) (fun _ => by exact r_mv (v := u0_0) (sx hS_ 0 rfl)) (dbits 15 1) ?_
       refine aL 1 (.agg (List.toArray (A8.enc .u8 (s80.1.set a2.toNat (IntKind.u8.wrap s80.2.2))))) rfl rfl (hM95 1 rfl) (rfl) (fun _ hB_ => by exact r_loadA (hC.grow hB_) 0 (A8.enc .u8 (s80.1.set a2.toNat (IntKind.u8.wrap s80.2.2))) rfl ag136 (sx hS_ 4 rfl) rfl rfl) (dbits 15 3) ?_
       refine aF 2 (.int .i64 a2) rfl rfl (hM96 2 rfl) (rfl) (fun _ => by exact r_mv (v := .int .i64 a2) (sx hS_ 1 rfl)) (dbits 15 7) ?_
       refine aF 3 (.int .i64 (IntKind.i64.wrap (a2 + 1))) rfl rfl (hM96 3 rfl) (rfl) (fun _ => by exact r_add rfl rfl) (dbits 15 15) ?_
       refine aF 4 (.int .i64 a3) rfl rfl (hM96 4 rfl) (rfl) (fun _ => by exact r_mv (v := .int .i64 a3) (sx hS_ 2 rfl)) (dbits 15 31) ?_
       refine aF 5 (.int .i64 s80.2.2) rfl rfl (hM96 5 rfl) (rfl) (fun _ => by exact r_mv (v := .int .i64 s80.2.2) (sx hS_ 6 rfl)) (dbits 15 63) ?_
       refine aF 6 (u0_0) rfl rfl (hM96 6 rfl) (rfl) (fun _ => by exact r_mv (v := u0_0) (sx hS_ 0 rfl)) (dbits 15 127) ?_
       refine aF 7 (.int .i64 a2) rfl rfl (hM96 7 rfl) (rfl) (fun _ => by exact r_mv (v := .int .i64 a2) (sx hS_ 1 rfl)) (dbits 15 255) ?_
       obtain ⟨⟨h0_97, h1_98⟩, h⟩ := h
       obtain ⟨Ad99, c100, hv101⟩ := sl_form (hC.getP 0 rfl) a2.toNat (show a2.toNat < a0.length by omega)
       refine aL 8 (.pointer (some (Ad99.add (a2.toNat * 1)))) rfl rfl (hM95 8 rfl) (rfl) (fun _ hB_ => by exact r_iaddrS (len := a0.length) Tryz.underlying22 sc2.size (by exact tr rfl hv101) rfl h0_97 h1_98) (dbits 15 511) ?_
       refine aL 9 (.int .i64 (a0.getD a2.toNat default)) rfl rfl (hM95 9 rfl) (rfl) (fun _ hB_ => by exact r_loadCS (.int .i64 (a0.getD a2.toNat default)) (sl_cellsE ((hC.grow hB_).getP 0 rfl) hv101 a2.toNat (show a2.toNat < a0.length by omega)) sc2 rfl) (dbits 15 1023) ?_
       refine aF 10 (.int .i64 (IntKind.i64.wrap (s80.2.2 * (a0.getD a2.toNat default)))) rfl rfl (hM96 10 rfl) (rfl) (fun _ => by exact r_mul rfl rfl) (dbits 15 2047) ?_
       refine aF 11 (.int .i64 (IntKind.i64.wrap (a3 - (IntKind.i64.wrap (s80.2.2 * (a0.getD a2.toNat default)))))) rfl rfl (hM96 11 rfl) (rfl) (fun _ => by exact r_sub rfl rfl) (dbits 15 4095) ?_
       refine aF 12 (v81) rfl rfl (hM96 12 rfl) (rfl) (fun _ => by exact r_mv (v := v81) (sx hS_ 3 rfl)) (dbits 15 8191) ?_
       refine ae_tail 13 (by decide) (by decide) (by kernel_rfl) (by kernel_rfl) rfl ?_
       refine s_call [u0_0, .agg (List.toArray (A8.enc .u8 (s80.1.set a2.toNat (IntKind.u8.wrap s80.2.2)))), .int .i64 (IntKind.i64.wrap (a2 + 1)), .int .i64 (IntKind.i64.wrap (a3 - (IntKind.i64.wrap (s80.2.2 * (a0.getD a2.toNat default))))), v81] _ Tryz.func150 rfl rfl rfl (ih_ a0 (s80.1.set a2.toNat (IntKind.u8.wrap s80.2.2)) (IntKind.i64.wrap (a2 + 1)) (IntKind.i64.wrap (a3 - (IntKind.i64.wrap (s80.2.2 * (a0.getD a2.toNat default))))) s80.2.1 h _ (hC.getP 0 rfl) (hC.getM 1 rfl) (fun b_ hb_ hb2_ => hC.pd _ (List.mem_of_getElem? (i := 0) rfl) b_ hb_ _ (List.mem_of_getElem? (i := 1) rfl) hb2_)) (fun ret102 w104 hR103 => ?_)
       obtain ⟨r105, v106, rfl, h, hr107, hf108, hB109⟩ := hR103
       refine ⟨_, rfl, ?_⟩
       replace hC := hC.turnO 1 rfl hB109 hr107 hf108
       refine s_as (v := v106) rfl ?_
       refine done ?_
       refine qn_norm ?_
       refine blk_norm ?_
       refine then_norm ?_
       refine cw_region ?_
       refine s_mv (v := .int .i64 s80.2.2) (sx hS_ 6 rfl) ?_
       refine s_sub rfl rfl ?_
       refine s_as (v := .int .i64 (IntKind.i64.wrap (s80.2.2 - 1))) rfl ?_
       refine done ?_
       exact hK84 (s80.1.set a2.toNat (IntKind.u8.wrap s80.2.2), r105, IntKind.i64.wrap (s80.2.2 - 1)) _ _ ⟨v106, (sk (sx hS_ 0 rfl) (sk (sx hS_ 1 rfl) (sk (sx hS_ 2 rfl) (sk rfl (sk (sx hS_ 4 rfl) (sk (sx hS_ 5 rfl) (sk rfl sn))))))), hC⟩ h
      ·replace h := iff_ h (cf hb90)
       refine wp_exit (then_exit (then_exit (exit_in ?_)))
       refine then_norm ?_
       refine sr ?_
       refine s_mv (v := v81) (sx hS_ 3 rfl) ?_
       refine s_as (v := v81) rfl ?_
       refine dn ?_
       refine wp_ret ?_
       refine ret1 (fn := Tryz.f150) rfl ?_ ⟨s80.2.1, v81, rfl, h, (hC.getM 1 rfl), (fun b_ hb_ => (hC.mfp _ (List.mem_of_getElem? (i := 1) rfl) b_ hb_).symm), hC.belO⟩ (.inl rfl)
       exact res_tmp rfl
     ·replace h := iff_ h (cf hb86)
      refine guardOff (b := false) 2 42 rfl (tr rfl (congrArg _ hb86)) (by decide) ?_
      refine guardOff (b := false) 2 42 rfl (tr rfl (congrArg _ hb86)) (by decide) ?_
      refine guardOff (b := false) 2 42 rfl (tr rfl (congrArg _ hb86)) (by decide) ?_
      refine s_pick (v := .bool false) (b := false) (tr rfl (congrArg _ hb86)) rfl ?_
      refine dn ?_
      refine cw_false rfl rfl ?_
      refine wp_exit (then_exit (then_exit (exit_in ?_)))
      refine then_norm ?_
      refine sr ?_
      refine s_mv (v := v81) (sx hS_ 3 rfl) ?_
      refine s_as (v := v81) rfl ?_
      refine dn ?_
      refine wp_ret ?_
      refine ret1 (fn := Tryz.f150) rfl ?_ ⟨s80.2.1, v81, rfl, h, (hC.getM 1 rfl), (fun b_ hb_ => (hC.mfp _ (List.mem_of_getElem? (i := 1) rfl) b_ hb_).symm), hC.belO⟩ (.inl rfl)
      exact res_tmp rfl
    ·skip
     exact ⟨u4_0, (sk rfl (sk rfl (sk rfl (sk rfl (sk rfl (sk rfl (sk rfl sn))))))), hC⟩
   ·replace h := iff_ h (cf hb28)
    refine wp_skip ?_
    refine then_norm ?_
    refine wp_seq ?_
    refine sr ?_
    refine s_mv (v := .int .i64 (IntKind.i64.wrap (Int.tdiv a3 (a0.getD a2.toNat default)))) rfl ?_
    refine s_min rfl rfl ?_
    refine s_as (v := .int .i64 (if 20 < IntKind.i64.wrap (Int.tdiv a3 (a0.getD a2.toNat default)) then 20 else IntKind.i64.wrap (Int.tdiv a3 (a0.getD a2.toNat default)))) rfl ?_
    refine dn ?_
    refine wp_block ?_
    refine loopW (S := A8 × (List A8) × Int) _ (fun s161 e_ w_ => ∃ (v162 : Value), Slots e_ [(0, u0_0), (2, .int .i64 a2), (3, .int .i64 a3), (4, v162), (6, .pointer (some ⟨b3, 0, none⟩)), (10, .slice none 0 0), (12, .int .i64 s161.2.2)] ∧ Ctx (fun c_ => c_ ∈ Option.toList (Value.ownBlock u4_0)) w0 w_ [blk b3 136 (A8.enc .u8 s161.1), own 136 8 v162 s161.2.1.length ((EA .u8).encs s161.2.1)] [Ty.item ((EI .i64).ty.sl) a0 [u0_0] fp0]) ?_ (s0 := (a1, a4, (if 20 < IntKind.i64.wrap (Int.tdiv a3 (a0.getD a2.toNat default)) then 20 else IntKind.i64.wrap (Int.tdiv a3 (a0.getD a2.toNat default))))) ?_ h
    ·clear hC h
     rintro s161 e_ w166 next163 K164 ⟨v162, hS_, hC⟩ h hK165
     refine wp_seq ?_
     refine sr ?_
     refine s_mv (v := .int .i64 s161.2.2) (sx hS_ 6 rfl) ?_
     refine s_geq rfl rfl ?_
     refine s_mv (v := .bool (decide (s161.2.2 ≥ 0))) rfl ?_
     refine bsplit (decide (s161.2.2 ≥ 0)) (fun hb167 => ?_) (fun hb167 => ?_)
     ·replace h := ift h (ct hb167)
      refine guardOn 2 42 rfl rfl hb167 ?_
      refine s_mv (v := v162) (sx hS_ 3 rfl) ?_
      refine guardOn 2 42 rfl rfl hb167 ?_
      obtain ⟨Ad168, c169, hv170⟩ := own_form (hC.getM 1 rfl)
      refine s_len Tryz.underlying132 (tr rfl hv170) ?_
      refine guardOn 2 42 rfl rfl hb167 ?_
      refine s_leq rfl rfl ?_
      refine s_pick (v := .bool (decide ((s161.2.1.length : Int) ≤ 400))) (b := true) (tr rfl (congrArg _ hb167)) rfl ?_
      refine dn ?_
      refine cw_cond rfl (fun hb171 => ?_) (fun hb171 => ?_)
      ·replace h := ift h (ct hb171)
       refine wp_skip ?_
       refine then_norm ?_
       refine wp_seq ?_
       refine wp_block ?_
       refine sr ?_
       refine s_mv (v := .int .i64 a2) (sx hS_ 1 rfl) ?_
       refine s_mv (v := .int .i64 s161.2.2) (sx hS_ 6 rfl) ?_
       refine s_conv Tryz.underlying2 Tryz.underlying5 rfl ?_
       obtain ⟨⟨h0_172, h1_173⟩, h⟩ := h
       refine s_iaddrB a2.toNat Tryz.underlying136 sc5.size (sx hS_ 4 rfl) rfl h0_172 h1_173 (by omega) ?_
       refine s_store (v := .int .u8 (IntKind.u8.wrap s161.2.2)) hC 0 [.int .u8 (IntKind.u8.wrap s161.2.2)] (A8.enc .u8 (s161.1.set a2.toNat (IntKind.u8.wrap s161.2.2))) rfl sc5.size rfl rfl rfl rfl rfl (show a2.toNat < 8 by omega) (A8.enc_set _ _ _ (show a2.toNat < 8 by omega)) fun w174 hC => ?_
       refine dn ?_
       refine cw_draw 13 mixed [0, 0, 0, 4, 0, 0, 0, 0, 192, 448, 992, 2032, 0, 8191, 16383] [1, 8, 9] [0, 2, 3, 4, 5, 6, 7, 10, 11, 12] (by kernel_rfl) (by kernel_rfl) (by kernel_rfl) (fun hM176 hM177 w175 hB_ => ?_)
       replace hC := hC.grow hB_
       refine aF 0 (u0_0) rfl rfl (hM177 0 rfl) (rfl) (fun _ => by exact r_mv (v := u0_0) (sx hS_ 0 rfl)) (dbits 15 1) ?_
       refine aL 1 (.agg (List.toArray (A8.enc .u8 (s161.1.set a2.toNat (IntKind.u8.wrap s161.2.2))))) rfl rfl (hM176 1 rfl) (rfl) (fun _ hB_ => by exact r_loadA (hC.grow hB_) 0 (A8.enc .u8 (s161.1.set a2.toNat (IntKind.u8.wrap s161.2.2))) rfl ag136 (sx hS_ 4 rfl) rfl rfl) (dbits 15 3) ?_
       refine aF 2 (.int .i64 a2) rfl rfl (hM177 2 rfl) (rfl) (fun _ => by exact r_mv (v := .int .i64 a2) (sx hS_ 1 rfl)) (dbits 15 7) ?_
       refine aF 3 (.int .i64 (IntKind.i64.wrap (a2 + 1))) rfl rfl (hM177 3 rfl) (rfl) (fun _ => by exact r_add rfl rfl) (dbits 15 15) ?_
       refine aF 4 (.int .i64 a3) rfl rfl (hM177 4 rfl) (rfl) (fun _ => by exact r_mv (v := .int .i64 a3) (sx hS_ 2 rfl)) (dbits 15 31) ?_
       refine aF 5 (.int .i64 s161.2.2) rfl rfl (hM177 5 rfl) (rfl) (fun _ => by exact r_mv (v := .int .i64 s161.2.2) (sx hS_ 6 rfl)) (dbits 15 63) ?_
       refine aF 6 (u0_0) rfl rfl (hM177 6 rfl) (rfl) (fun _ => by exact r_mv (v := u0_0) (sx hS_ 0 rfl)) (dbits 15 127) ?_
       refine aF 7 (.int .i64 a2) rfl rfl (hM177 7 rfl) (rfl) (fun _ => by exact r_mv (v := .int .i64 a2) (sx hS_ 1 rfl)) (dbits 15 255) ?_
       obtain ⟨⟨h0_178, h1_179⟩, h⟩ := h
       obtain ⟨Ad180, c181, hv182⟩ := sl_form (hC.getP 0 rfl) a2.toNat (show a2.toNat < a0.length by omega)
       refine aL 8 (.pointer (some (Ad180.add (a2.toNat * 1)))) rfl rfl (hM176 8 rfl) (rfl) (fun _ hB_ => by exact r_iaddrS (len := a0.length) Tryz.underlying22 sc2.size (by exact tr rfl hv182) rfl h0_178 h1_179) (dbits 15 511) ?_
       refine aL 9 (.int .i64 (a0.getD a2.toNat default)) rfl rfl (hM176 9 rfl) (rfl) (fun _ hB_ => by exact r_loadCS (.int .i64 (a0.getD a2.toNat default)) (sl_cellsE ((hC.grow hB_).getP 0 rfl) hv182 a2.toNat (show a2.toNat < a0.length by omega)) sc2 rfl) (dbits 15 1023) ?_
       refine aF 10 (.int .i64 (IntKind.i64.wrap (s161.2.2 * (a0.getD a2.toNat default)))) rfl rfl (hM177 10 rfl) (rfl) (fun _ => by exact r_mul rfl rfl) (dbits 15 2047) ?_
       refine aF 11 (.int .i64 (IntKind.i64.wrap (a3 - (IntKind.i64.wrap (s161.2.2 * (a0.getD a2.toNat default)))))) rfl rfl (hM177 11 rfl) (rfl) (fun _ => by exact r_sub rfl rfl) (dbits 15 4095) ?_
       refine aF 12 (v162) rfl rfl (hM177 12 rfl) (rfl) (fun _ => by exact r_mv (v := v162) (sx hS_ 3 rfl)) (dbits 15 8191) ?_
       refine ae_tail 13 (by decide) (by decide) (by kernel_rfl) (by kernel_rfl) rfl ?_
       refine s_call [u0_0, .agg (List.toArray (A8.enc .u8 (s161.1.set a2.toNat (IntKind.u8.wrap s161.2.2)))), .int .i64 (IntKind.i64.wrap (a2 + 1)), .int .i64 (IntKind.i64.wrap (a3 - (IntKind.i64.wrap (s161.2.2 * (a0.getD a2.toNat default))))), v162] _ Tryz.func150 rfl rfl rfl (ih_ a0 (s161.1.set a2.toNat (IntKind.u8.wrap s161.2.2)) (IntKind.i64.wrap (a2 + 1)) (IntKind.i64.wrap (a3 - (IntKind.i64.wrap (s161.2.2 * (a0.getD a2.toNat default))))) s161.2.1 h _ (hC.getP 0 rfl) (hC.getM 1 rfl) (fun b_ hb_ hb2_ => hC.pd _ (List.mem_of_getElem? (i := 0) rfl) b_ hb_ _ (List.mem_of_getElem? (i := 1) rfl) hb2_)) (fun ret183 w185 hR184 => ?_)
       obtain ⟨r186, v187, rfl, h, hr188, hf189, hB190⟩ := hR184
       refine ⟨_, rfl, ?_⟩
       replace hC := hC.turnO 1 rfl hB190 hr188 hf189
       refine s_as (v := v187) rfl ?_
       refine done ?_
       refine qn_norm ?_
       refine blk_norm ?_
       refine then_norm ?_
       refine cw_region ?_
       refine s_mv (v := .int .i64 s161.2.2) (sx hS_ 6 rfl) ?_
       refine s_sub rfl rfl ?_
       refine s_as (v := .int .i64 (IntKind.i64.wrap (s161.2.2 - 1))) rfl ?_
       refine done ?_
       exact hK165 (s161.1.set a2.toNat (IntKind.u8.wrap s161.2.2), r186, IntKind.i64.wrap (s161.2.2 - 1)) _ _ ⟨v187, (sk (sx hS_ 0 rfl) (sk (sx hS_ 1 rfl) (sk (sx hS_ 2 rfl) (sk rfl (sk (sx hS_ 4 rfl) (sk (sx hS_ 5 rfl) (sk rfl sn))))))), hC⟩ h
      ·replace h := iff_ h (cf hb171)
       refine wp_exit (then_exit (then_exit (exit_in ?_)))
       refine then_norm ?_
       refine sr ?_
       refine s_mv (v := v162) (sx hS_ 3 rfl) ?_
       refine s_as (v := v162) rfl ?_
       refine dn ?_
       refine wp_ret ?_
       refine ret1 (fn := Tryz.f150) rfl ?_ ⟨s161.2.1, v162, rfl, h, (hC.getM 1 rfl), (fun b_ hb_ => (hC.mfp _ (List.mem_of_getElem? (i := 1) rfl) b_ hb_).symm), hC.belO⟩ (.inl rfl)
       exact res_tmp rfl
     ·replace h := iff_ h (cf hb167)
      refine guardOff (b := false) 2 42 rfl (tr rfl (congrArg _ hb167)) (by decide) ?_
      refine guardOff (b := false) 2 42 rfl (tr rfl (congrArg _ hb167)) (by decide) ?_
      refine guardOff (b := false) 2 42 rfl (tr rfl (congrArg _ hb167)) (by decide) ?_
      refine s_pick (v := .bool false) (b := false) (tr rfl (congrArg _ hb167)) rfl ?_
      refine dn ?_
      refine cw_false rfl rfl ?_
      refine wp_exit (then_exit (then_exit (exit_in ?_)))
      refine then_norm ?_
      refine sr ?_
      refine s_mv (v := v162) (sx hS_ 3 rfl) ?_
      refine s_as (v := v162) rfl ?_
      refine dn ?_
      refine wp_ret ?_
      refine ret1 (fn := Tryz.f150) rfl ?_ ⟨s161.2.1, v162, rfl, h, (hC.getM 1 rfl), (fun b_ hb_ => (hC.mfp _ (List.mem_of_getElem? (i := 1) rfl) b_ hb_).symm), hC.belO⟩ (.inl rfl)
      exact res_tmp rfl
    ·skip
     exact ⟨u4_0, (sk rfl (sk rfl (sk rfl (sk rfl (sk rfl (sk rfl (sk rfl sn))))))), hC⟩
def f_spec_l01Monomials (a0 : List Int) (a1 : Int) (K : List A8 → Prop) : Prop :=
 f_spec_l01Fill 9 a0 A8.zero 0 a1 [] (fun r6 => K r6)
theorem c_spec_l01Monomials (a0 : List Int) (a1 : Int) {u0_0 : Value} {fp0 : List Nat} {K : List A8 → Prop} (h : f_spec_l01Monomials a0 a1 K) (w0 : World) (q0 : ((EI .i64).ty.sl).rep a0 [u0_0] fp0 w0) :
  Calls Tryz.prog 94 #[u0_0, .int .i64 a1] w0 fun e w' => ∃ (r0 : List A8) (z0_0 : Value) (fz0 : List Nat), 
   e = .returned (z0_0) ∧ K r0 ∧ (Tr.item (Tr.sl 136 ((EA .u8).tr)) r0 [z0_0] fz0).holds w' ∧ (∀ b, b ∈ fz0 → w0.heap.size ≤ b) ∧ Bel w0 w' := by
 unfold f_spec_l01Monomials at h
 refine calls_of (args := [u0_0, .int .i64 a1]) Tryz.func94 rfl 9 Tryz.ntmps94 (Nat.le_of_ble_eq_true rfl) ?_
 have hC := Ctx.start (X := Nox) w0 [Ty.item ((EI .i64).ty.sl) a0 [u0_0] fp0] (by simp only [List.mem_cons, List.not_mem_nil, or_false, forall_eq_or_imp, forall_eq]; exact q0)
 refine sr ?_
 refine s_as (v := .slice none 0 0) rfl ?_
 refine dn ?_
 refine sr ?_
 refine s_mv (v := u0_0) rfl ?_
 refine s_build [] rfl (bl136   _) ?_
 refine s_mv (v := .int .i64 a1) rfl ?_
 replace hC := hC.pushNil 136 8
 refine s_call [u0_0, .agg (List.toArray (A8.enc .u8 A8.zero)), .int .i64 0, .int .i64 a1, .slice none 0 0] _ Tryz.func150 rfl rfl rfl (c_spec_l01Fill 9 a0 A8.zero 0 a1 [] h _ (hC.getP 0 rfl) (hC.getM 0 rfl) (fun b_ hb_ hb2_ => hC.pd _ (List.mem_of_getElem? (i := 0) rfl) b_ hb_ _ (List.mem_of_getElem? (i := 0) rfl) hb2_)) (fun ret3 w5 hR4 => ?_)
 obtain ⟨r6, v7, rfl, h, hr8, hf9, hB10⟩ := hR4
 refine ⟨_, rfl, ?_⟩
 replace hC := hC.turnO 0 rfl hB10 hr8 hf9
 refine s_as (v := v7) rfl ?_
 refine dn ?_
 refine wp_ret ?_
 refine ret1 (fn := Tryz.f94) rfl ?_ ⟨r6, v7, (Option.toList (Value.ownBlock v7)), rfl, h, (own_item (hC.getM 0 rfl)), (own_fresh hC 0 rfl), hC.below⟩ (.inl rfl)
 exact res_tmp rfl
def f_spec_l09Count (a0 : Alg) (a1 : Int) (K : Int → Prop) : Prop :=
 whileP (fun (s78 : Int × Int) next79 => (if s78.2 < (a0.degrees.length : Int) then ((0 ≤ s78.2 ∧ s78.2 < (a0.degrees.length : Int)) ∧ (if a0.degrees.getD s78.2.toNat default ≥ a1 then ((0 ≤ s78.2 ∧ s78.2 < (a0.degrees.length : Int)) ∧ f_spec_l01Monomials a0.degrees (IntKind.i64.wrap ((a0.degrees.getD s78.2.toNat default) - a1)) (fun r104 => next79 (IntKind.i64.wrap (s78.1 + (r104.length : Int)), IntKind.i64.wrap (s78.2 + 1)))) else next79 (s78.1, IntKind.i64.wrap (s78.2 + 1)))) else K s78.1)) (0, 0)
theorem c_spec_l09Count (a0 : Alg) (a1 : Int) {u0_0 : Value} {u0_1 : Value} {fp0 : List Nat} {K : Int → Prop} (h : f_spec_l09Count a0 a1 K) (w0 : World) (q0 : TAlg.rep a0 [u0_0, u0_1] fp0 w0) :
  Calls Tryz.prog 93 #[.agg #[u0_0, u0_1], .int .i64 a1] w0 fun e w' => ∃ (r0 : Int), 
   e = .returned (.int .i64 r0) ∧ K r0 ∧ Bel w0 w' := by
 unfold f_spec_l09Count at h
 refine calls_of (args := [.agg #[u0_0, u0_1], .int .i64 a1]) Tryz.func93 rfl 35 Tryz.ntmps93 (Nat.le_of_ble_eq_true rfl) ?_
 have hC := Ctx.start (X := Nox) w0 [Ty.item TAlg a0 [u0_0, u0_1] fp0] (by simp only [List.mem_cons, List.not_mem_nil, or_false, forall_eq_or_imp, forall_eq]; exact q0)
 have hp2 := (hC.getP 0 rfl)
 replace hC := hC.derive 0 rfl (Ty.item ((EI .i64).ty.sl) a0.degrees [u0_0] fp0) (fun _ => (alg_parts hp2).1) (fun _ hb_ => hb_)
 replace hC := hC.derive 1 rfl (Ty.item TForm.sl a0.images [u0_1] fp0) (fun _ => (alg_parts hp2).2) (fun _ hb_ => hb_)
 refine sr ?_
 refine s_box (v := .agg #[u0_0, u0_1]) hC [u0_0, u0_1] rfl rfl fun b5 w7 hB_ hC => ?_
 refine s_as (v := .int .i64 0) rfl ?_
 refine dn ?_
 refine sr ?_
 refine s_as (v := .int .i64 0) rfl ?_
 refine dn ?_
 refine wp_seq ?_
 refine sr ?_
 refine s_as (v := .int .i64 0) rfl ?_
 refine dn ?_
 refine wp_block ?_
 refine loopW (S := Int × Int) _ (fun s78 e_ w_ => Slots e_ [(1, .int .i64 a1), (2, .pointer (some ⟨b5, 0, none⟩)), (4, .int .i64 0), (5, .int .i64 s78.1), (6, .int .i64 s78.2)] ∧ Ctx Nox w0 w_ [blk b5 32 [u0_0, u0_1]] [Ty.item TForm.sl a0.images [u0_1] fp0, Ty.item ((EI .i64).ty.sl) a0.degrees [u0_0] fp0, Ty.item TAlg a0 [u0_0, u0_1] fp0]) ?_ (s0 := (0, 0)) ?_ h
 ·clear hC h
  rintro s78 e_ w82 next79 K80 ⟨hS_, hC⟩ h hK81
  refine wp_seq ?_
  refine sr ?_
  refine s_mv (v := .int .i64 s78.2) (sx hS_ 4 rfl) ?_
  refine s_faddrB 0 Tryz.underlying32 rfl sc22.size (sx hS_ 1 rfl) rfl ?_
  refine s_loadS hC 0 (u0_0) rfl sc22 rfl rfl ?_
  obtain ⟨Ad83, c84, hv85⟩ := sl_len (hC.getP 1 rfl)
  refine s_len Tryz.underlying22 (tr rfl hv85) ?_
  refine s_lss rfl rfl ?_
  refine dn ?_
  refine cw_cond rfl (fun hb86 => ?_) (fun hb86 => ?_)
  ·replace h := ift h (ct hb86)
   refine wp_skip ?_
   refine then_norm ?_
   refine wp_seq ?_
   refine wp_block ?_
   refine sr ?_
   refine s_faddrB 0 Tryz.underlying32 rfl sc22.size (sx hS_ 1 rfl) rfl ?_
   refine s_loadS hC 0 (u0_0) rfl sc22 rfl rfl ?_
   refine s_mv (v := .int .i64 s78.2) (sx hS_ 4 rfl) ?_
   obtain ⟨⟨h0_87, h1_88⟩, h⟩ := h
   obtain ⟨Ad89, c90, hv91⟩ := sl_form (hC.getP 1 rfl) s78.2.toNat (show s78.2.toNat < a0.degrees.length by omega)
   refine s_iaddrS (len := a0.degrees.length) Tryz.underlying22 sc2.size (tr rfl hv91) rfl h0_87 h1_88 ?_
   refine s_loadCS (.int .i64 (a0.degrees.getD s78.2.toNat default)) (sl_cellsE (hC.getP 1 rfl) hv91 s78.2.toNat (show s78.2.toNat < a0.degrees.length by omega)) sc2 rfl ?_
   refine s_mv (v := .int .i64 a1) (sx hS_ 0 rfl) ?_
   refine s_geq rfl rfl ?_
   refine dn ?_
   refine cw_cond rfl (fun hb92 => ?_) (fun hb92 => ?_)
   ·replace h := ift h (ct hb92)
    refine cw_draw 12 mixed [0, 0, 2, 0, 8, 0, 56, 120, 0, 504, 1022, 2046, 4095, 8191] [2, 4, 6, 7, 11] [0, 1, 3, 5, 8, 9] (by kernel_rfl) (by kernel_rfl) (by kernel_rfl) (fun hM94 hM95 w93 hB_ => ?_)
    replace hC := hC.grow hB_
    refine aF 0 (.int .i64 s78.1) rfl rfl (hM95 0 rfl) (rfl) (fun _ => by exact r_mv (v := .int .i64 s78.1) (sx hS_ 3 rfl)) (dbits 14 1) ?_
    refine aF 1 (.pointer (some ⟨b5, 0, none⟩)) rfl rfl (hM95 1 rfl) (rfl) (fun _ => by exact r_faddrB 0 Tryz.underlying32 rfl sc22.size (sx hS_ 1 rfl) rfl) (dbits 14 3) ?_
    refine aL 2 (u0_0) rfl rfl (hM94 2 rfl) (rfl) (fun _ hB_ => by exact r_loadS (hC.grow hB_) 0 (u0_0) rfl sc22 rfl rfl) (dbits 14 7) ?_
    refine aF 3 (.pointer (some ⟨b5, 0, none⟩)) rfl rfl (hM95 3 rfl) (rfl) (fun _ => by exact r_faddrB 0 Tryz.underlying32 rfl sc22.size (sx hS_ 1 rfl) rfl) (dbits 14 15) ?_
    refine aL 4 (u0_0) rfl rfl (hM94 4 rfl) (rfl) (fun _ hB_ => by exact r_loadS (hC.grow hB_) 0 (u0_0) rfl sc22 rfl rfl) (dbits 14 31) ?_
    refine aF 5 (.int .i64 s78.2) rfl rfl (hM95 5 rfl) (rfl) (fun _ => by exact r_mv (v := .int .i64 s78.2) (sx hS_ 4 rfl)) (dbits 14 63) ?_
    obtain ⟨⟨h0_96, h1_97⟩, h⟩ := h
    obtain ⟨Ad98, c99, hv100⟩ := sl_form (hC.getP 1 rfl) s78.2.toNat (show s78.2.toNat < a0.degrees.length by omega)
    refine aL 6 (.pointer (some (Ad98.add (s78.2.toNat * 1)))) rfl rfl (hM94 6 rfl) (rfl) (fun _ hB_ => by exact r_iaddrS (len := a0.degrees.length) Tryz.underlying22 sc2.size (by exact tr rfl hv100) rfl h0_96 h1_97) (dbits 14 127) ?_
    refine aL 7 (.int .i64 (a0.degrees.getD s78.2.toNat default)) rfl rfl (hM94 7 rfl) (rfl) (fun _ hB_ => by exact r_loadCS (.int .i64 (a0.degrees.getD s78.2.toNat default)) (sl_cellsE ((hC.grow hB_).getP 1 rfl) hv100 s78.2.toNat (show s78.2.toNat < a0.degrees.length by omega)) sc2 rfl) (dbits 14 255) ?_
    refine aF 8 (.int .i64 a1) rfl rfl (hM95 8 rfl) (rfl) (fun _ => by exact r_mv (v := .int .i64 a1) (sx hS_ 0 rfl)) (dbits 14 511) ?_
    refine aF 9 (.int .i64 (IntKind.i64.wrap ((a0.degrees.getD s78.2.toNat default) - a1))) rfl rfl (hM95 9 rfl) (rfl) (fun _ => by exact r_sub rfl rfl) (dbits 14 1023) ?_
    refine aO 10 rfl ?_
    refine s_call [u0_0, .int .i64 (IntKind.i64.wrap ((a0.degrees.getD s78.2.toNat default) - a1))] _ Tryz.func94 rfl rfl rfl (c_spec_l01Monomials a0.degrees (IntKind.i64.wrap ((a0.degrees.getD s78.2.toNat default) - a1)) h _ (hC.getP 1 rfl)) (fun ret101 w103 hR102 => ?_)
    obtain ⟨r104, u105, f106, rfl, h, hr107, hf108, hB109⟩ := hR102
    refine ⟨_, rfl, ?_⟩
    replace hC := hC.push hB109 (Tr.item (Tr.sl 136 ((EA .u8).tr)) r104 [u105] f106) hr107 hf108
    obtain ⟨ho111, hf112⟩ := flat_tr (hC.getM 0 rfl).1
    subst hf112
    replace hC := hC.recast (c := own 136 8 u105 r104.length ((EA .u8).encs r104)) (fun _ h_ => h_) (fun _ => ho111)
    refine done ?_
    refine aK (by assumption) (dbits 14 2047) ?_
    obtain ⟨Ad114, c115, hv116⟩ := own_form (hC.getM 0 rfl)
    refine aL 11 (.int .i64 (r104.length : Int)) rfl rfl (hM94 11 rfl) (rfl) (fun _ hB_ => by exact r_len Tryz.underlying132 (by exact tr rfl hv116)) (dbits 14 4095) ?_
    refine ae_tail 12 (by decide) (by decide) (by kernel_rfl) (by kernel_rfl) rfl ?_
    refine s_add rfl rfl ?_
    refine s_as (v := .int .i64 (IntKind.i64.wrap (s78.1 + (r104.length : Int)))) rfl ?_
    refine done ?_
    refine qn_norm ?_
    refine blk_norm ?_
    refine then_norm ?_
    refine cw_region ?_
    refine s_mv (v := .int .i64 s78.2) (sx hS_ 4 rfl) ?_
    refine s_add rfl rfl ?_
    refine s_as (v := .int .i64 (IntKind.i64.wrap (s78.2 + 1))) rfl ?_
    refine done ?_
    replace hC := hC.sM [1] (M' := [blk b5 32 [u0_0, u0_1]]) (by decide) rfl
    exact hK81 (IntKind.i64.wrap (s78.1 + (r104.length : Int)), IntKind.i64.wrap (s78.2 + 1)) _ _ ⟨(sk (sx hS_ 0 rfl) (sk (sx hS_ 1 rfl) (sk (sx hS_ 2 rfl) (sk rfl (sk rfl sn))))), hC⟩ h
   ·replace h := iff_ h (cf hb92)
    refine wp_skip ?_
    refine blk_norm ?_
    refine then_norm ?_
    refine cw_region ?_
    refine s_mv (v := .int .i64 s78.2) (sx hS_ 4 rfl) ?_
    refine s_add rfl rfl ?_
    refine s_as (v := .int .i64 (IntKind.i64.wrap (s78.2 + 1))) rfl ?_
    refine done ?_
    exact hK81 (s78.1, IntKind.i64.wrap (s78.2 + 1)) _ _ ⟨(sk (sx hS_ 0 rfl) (sk (sx hS_ 1 rfl) (sk (sx hS_ 2 rfl) (sk (sx hS_ 3 rfl) (sk rfl sn))))), hC⟩ h
  ·replace h := iff_ h (cf hb86)
   refine wp_exit (then_exit (then_exit (exit_in ?_)))
   refine then_norm ?_
   refine sr ?_
   refine s_mv (v := .int .i64 s78.1) (sx hS_ 3 rfl) ?_
   refine s_as (v := .int .i64 s78.1) rfl ?_
   refine dn ?_
   refine wp_ret ?_
   refine ret1 (fn := Tryz.f93) rfl ?_ ⟨s78.1, rfl, h, hC.below⟩ (.inl rfl)
   exact res_tmp rfl
 ·skip
  exact ⟨(sk rfl (sk rfl (sk rfl (sk rfl (sk rfl sn))))), hC⟩
def f_spec_l09Code (a0 : Alg) (a1 : Int) (a2 : Int) (a3 : Int) (a4 : Int) (K : Int → Prop) : Prop :=
 f_spec_l02Is a0 (fun r11 => (if ¬ (r11 = true) then K 1 else f_spec_l01In a1 a2 a3 (fun r17 => (if ¬ (r17 = true) then K 2 else whileP (fun (s52 : Int) next53 => (if s52 ≤ IntKind.i64.wrap (a1 + a4) then (if s52 ≥ a1 then f_spec_l09Count a0 s52 (fun r62 => (if r62 > 120 then K 3 else next53 (IntKind.i64.wrap (s52 + 1)))) else (if a2 > 0 then f_spec_l09Count a0 s52 (fun r69 => (if r69 > 120 then K 3 else next53 (IntKind.i64.wrap (s52 + 1)))) else next53 (IntKind.i64.wrap (s52 + 1)))) else K 0)) (if IntKind.i64.wrap (a1 - 1) < 0 then 0 else IntKind.i64.wrap (a1 - 1))))))
theorem c_spec_l09Code (a0 : Alg) (a1 : Int) (a2 : Int) (a3 : Int) (a4 : Int) {u0_0 : Value} {u0_1 : Value} {fp0 : List Nat} {K : Int → Prop} (h : f_spec_l09Code a0 a1 a2 a3 a4 K) (w0 : World) (q0 : TAlg.rep a0 [u0_0, u0_1] fp0 w0) :
  Calls Tryz.prog 39 #[.agg #[u0_0, u0_1], .int .i64 a1, .int .i64 a2, .int .i64 a3, .int .i64 a4] w0 fun e w' => ∃ (r0 : Int), 
   e = .returned (.int .i64 r0) ∧ K r0 ∧ Bel w0 w' := by
 unfold f_spec_l09Code at h
 refine calls_of (args := [.agg #[u0_0, u0_1], .int .i64 a1, .int .i64 a2, .int .i64 a3, .int .i64 a4]) Tryz.func39 rfl 45 Tryz.ntmps39 (Nat.le_of_ble_eq_true rfl) ?_
 have hC := Ctx.start (X := Nox) w0 [Ty.item TAlg a0 [u0_0, u0_1] fp0] (by simp only [List.mem_cons, List.not_mem_nil, or_false, forall_eq_or_imp, forall_eq]; exact q0)
 have hp2 := (hC.getP 0 rfl)
 replace hC := hC.derive 0 rfl (Ty.item ((EI .i64).ty.sl) a0.degrees [u0_0] fp0) (fun _ => (alg_parts hp2).1) (fun _ hb_ => hb_)
 replace hC := hC.derive 1 rfl (Ty.item TForm.sl a0.images [u0_1] fp0) (fun _ => (alg_parts hp2).2) (fun _ hb_ => hb_)
 refine sr ?_
 refine s_box (v := .agg #[u0_0, u0_1]) hC [u0_0, u0_1] rfl rfl fun b5 w7 hB_ hC => ?_
 refine s_as (v := .int .i64 0) rfl ?_
 refine dn ?_
 refine wp_seq ?_
 refine wp_block ?_
 refine sr ?_
 refine s_loadA hC 0 [u0_0, u0_1] rfl ag32 rfl rfl rfl ?_
 refine s_call [.agg #[u0_0, u0_1]] _ Tryz.func92 rfl rfl rfl (c_spec_l02Is a0 h _ (alg_mk (hC.getP 1 rfl) (hC.getP 0 rfl))) (fun ret8 w10 hR9 => ?_)
 obtain ⟨r11, rfl, h, hB12⟩ := hR9
 refine ⟨_, rfl, ?_⟩
 replace hC := hC.grow hB12
 refine s_not rfl ?_
 refine s_as (v := .bool (!r11)) rfl ?_
 refine dn ?_
 refine cw_cond rfl (fun hb13 => ?_) (fun hb13 => ?_)
 ·replace h := ift h (ne_t (not_t hb13))
  refine sr ?_
  refine s_as (v := .int .i64 1) rfl ?_
  refine dn ?_
  refine wp_ret (blk_ret (then_ret ?_))
  refine ret1 (fn := Tryz.f39) rfl ?_ ⟨1, rfl, h, hC.below⟩ (.inl rfl)
  exact res_tmp rfl
 ·replace h := iff_ h (not_not_intro ((not_f hb13)))
  refine sr ?_
  refine s_mv (v := .int .i64 a1) rfl ?_
  refine s_mv (v := .int .i64 a2) rfl ?_
  refine s_mv (v := .int .i64 a3) rfl ?_
  refine s_call [.int .i64 a1, .int .i64 a2, .int .i64 a3] _ Tryz.func59 rfl rfl rfl (c_spec_l01In a1 a2 a3 h _) (fun ret14 w16 hR15 => ?_)
  obtain ⟨r17, rfl, h, hB18⟩ := hR15
  refine ⟨_, rfl, ?_⟩
  replace hC := hC.grow hB18
  refine s_not rfl ?_
  refine s_as (v := .bool (!r17)) rfl ?_
  refine dn ?_
  refine cw_cond rfl (fun hb19 => ?_) (fun hb19 => ?_)
  ·replace h := ift h (ne_t (not_t hb19))
   refine sr ?_
   refine s_as (v := .int .i64 2) rfl ?_
   refine dn ?_
   refine wp_ret (blk_ret (then_ret ?_))
   refine ret1 (fn := Tryz.f39) rfl ?_ ⟨2, rfl, h, hC.below⟩ (.inl rfl)
   exact res_tmp rfl
  ·replace h := iff_ h (not_not_intro ((not_f hb19)))
   refine wp_skip ?_
   refine blk_norm ?_
   refine then_norm ?_
   refine wp_seq ?_
   refine sr ?_
   refine s_mv (v := .int .i64 a1) rfl ?_
   refine s_sub rfl rfl ?_
   refine s_max rfl rfl ?_
   refine s_as (v := .int .i64 (if IntKind.i64.wrap (a1 - 1) < 0 then 0 else IntKind.i64.wrap (a1 - 1))) rfl ?_
   refine dn ?_
   refine wp_block ?_
   refine loopW (S := Int) _ (fun s52 e_ w_ => Slots e_ [(1, .int .i64 a1), (2, .int .i64 a2), (4, .int .i64 a4), (5, .pointer (some ⟨b5, 0, none⟩)), (10, .int .i64 0), (11, .int .i64 s52)] ∧ Ctx Nox w0 w_ [blk b5 32 [u0_0, u0_1]] [Ty.item TForm.sl a0.images [u0_1] fp0, Ty.item ((EI .i64).ty.sl) a0.degrees [u0_0] fp0, Ty.item TAlg a0 [u0_0, u0_1] fp0]) ?_ (s0 := (if IntKind.i64.wrap (a1 - 1) < 0 then 0 else IntKind.i64.wrap (a1 - 1))) ?_ h
   ·clear hC h
    rintro s52 e_ w56 next53 K54 ⟨hS_, hC⟩ h hK55
    refine wp_seq ?_
    refine sr ?_
    refine s_mv (v := .int .i64 s52) (sx hS_ 5 rfl) ?_
    refine s_mv (v := .int .i64 a1) (sx hS_ 0 rfl) ?_
    refine s_mv (v := .int .i64 a4) (sx hS_ 2 rfl) ?_
    refine s_add rfl rfl ?_
    refine s_leq rfl rfl ?_
    refine dn ?_
    refine cw_cond rfl (fun hb57 => ?_) (fun hb57 => ?_)
    ·replace h := ift h (ct hb57)
     refine wp_skip ?_
     refine then_norm ?_
     refine wp_seq ?_
     refine wp_block ?_
     refine sr ?_
     refine s_mv (v := .int .i64 s52) (sx hS_ 5 rfl) ?_
     refine s_mv (v := .int .i64 a1) (sx hS_ 0 rfl) ?_
     refine s_geq rfl rfl ?_
     refine s_mv (v := .bool (decide (s52 ≥ a1))) rfl ?_
     refine bsplit (decide (s52 ≥ a1)) (fun hb58 => ?_) (fun hb58 => ?_)
     ·replace h := ift h (ct hb58)
      refine guardOff (b := true) 3 35 rfl (tr rfl (congrArg _ hb58)) (by decide) ?_
      refine guardOff (b := true) 3 35 rfl (tr rfl (congrArg _ hb58)) (by decide) ?_
      refine s_pick (v := .bool true) (b := true) (tr rfl (congrArg _ hb58)) rfl ?_
      refine s_mv (v := .bool true) rfl ?_
      refine guardOn 7 39 rfl rfl rfl ?_
      refine s_loadA hC 0 [u0_0, u0_1] rfl ag32 (sx hS_ 3 rfl) rfl rfl ?_
      refine guardOn 7 39 rfl rfl rfl ?_
      refine s_mv (v := .int .i64 s52) (sx hS_ 5 rfl) ?_
      refine guardOn 7 39 rfl rfl rfl ?_
      refine s_call [.agg #[u0_0, u0_1], .int .i64 s52] _ Tryz.func93 rfl rfl rfl (c_spec_l09Count a0 s52 h _ (alg_mk (hC.getP 1 rfl) (hC.getP 0 rfl))) (fun ret59 w61 hR60 => ?_)
      obtain ⟨r62, rfl, h, hB63⟩ := hR60
      refine ⟨_, rfl, ?_⟩
      replace hC := hC.grow hB63
      refine guardOn 7 39 rfl rfl rfl ?_
      refine s_gtr rfl rfl ?_
      refine s_pick (v := .bool (decide (r62 > 120))) (b := true) rfl rfl ?_
      refine dn ?_
      refine cw_cond rfl (fun hb64 => ?_) (fun hb64 => ?_)
      ·replace h := ift h (ct hb64)
       refine sr ?_
       refine s_as (v := .int .i64 3) rfl ?_
       refine dn ?_
       refine wp_ret (blk_ret (then_ret (then_ret (blk_ret (then_ret ?_)))))
       refine ret1 (fn := Tryz.f39) rfl ?_ ⟨3, rfl, h, hC.below⟩ (.inl rfl)
       exact res_tmp rfl
      ·replace h := iff_ h (cf hb64)
       refine wp_skip ?_
       refine blk_norm ?_
       refine then_norm ?_
       refine cw_region ?_
       refine s_mv (v := .int .i64 s52) (sx hS_ 5 rfl) ?_
       refine s_add rfl rfl ?_
       refine s_as (v := .int .i64 (IntKind.i64.wrap (s52 + 1))) rfl ?_
       refine done ?_
       exact hK55 (IntKind.i64.wrap (s52 + 1)) _ _ ⟨(sk (sx hS_ 0 rfl) (sk (sx hS_ 1 rfl) (sk (sx hS_ 2 rfl) (sk (sx hS_ 3 rfl) (sk (sx hS_ 4 rfl) (sk rfl sn)))))), hC⟩ h
     ·replace h := iff_ h (cf hb58)
      refine guardOn 3 35 rfl rfl hb58 ?_
      refine s_mv (v := .int .i64 a2) (sx hS_ 1 rfl) ?_
      refine guardOn 3 35 rfl rfl hb58 ?_
      refine s_gtr rfl rfl ?_
      refine s_pick (v := .bool (decide (a2 > 0))) (b := false) (tr rfl (congrArg _ hb58)) rfl ?_
      refine s_mv (v := .bool (decide (a2 > 0))) rfl ?_
      refine bsplit (decide (a2 > 0)) (fun hb65 => ?_) (fun hb65 => ?_)
      ·replace h := ift h (ct hb65)
       refine guardOn 7 39 rfl rfl hb65 ?_
       refine s_loadA hC 0 [u0_0, u0_1] rfl ag32 (sx hS_ 3 rfl) rfl rfl ?_
       refine guardOn 7 39 rfl rfl hb65 ?_
       refine s_mv (v := .int .i64 s52) (sx hS_ 5 rfl) ?_
       refine guardOn 7 39 rfl rfl hb65 ?_
       refine s_call [.agg #[u0_0, u0_1], .int .i64 s52] _ Tryz.func93 rfl rfl rfl (c_spec_l09Count a0 s52 h _ (alg_mk (hC.getP 1 rfl) (hC.getP 0 rfl))) (fun ret66 w68 hR67 => ?_)
       obtain ⟨r69, rfl, h, hB70⟩ := hR67
       refine ⟨_, rfl, ?_⟩
       replace hC := hC.grow hB70
       refine guardOn 7 39 rfl rfl hb65 ?_
       refine s_gtr rfl rfl ?_
       refine s_pick (v := .bool (decide (r69 > 120))) (b := true) (tr rfl (congrArg _ hb65)) rfl ?_
       refine dn ?_
       refine cw_cond rfl (fun hb71 => ?_) (fun hb71 => ?_)
       ·replace h := ift h (ct hb71)
        refine sr ?_
        refine s_as (v := .int .i64 3) rfl ?_
        refine dn ?_
        refine wp_ret (blk_ret (then_ret (then_ret (blk_ret (then_ret ?_)))))
        refine ret1 (fn := Tryz.f39) rfl ?_ ⟨3, rfl, h, hC.below⟩ (.inl rfl)
        exact res_tmp rfl
       ·replace h := iff_ h (cf hb71)
        refine wp_skip ?_
        refine blk_norm ?_
        refine then_norm ?_
        refine cw_region ?_
        refine s_mv (v := .int .i64 s52) (sx hS_ 5 rfl) ?_
        refine s_add rfl rfl ?_
        refine s_as (v := .int .i64 (IntKind.i64.wrap (s52 + 1))) rfl ?_
        refine done ?_
        exact hK55 (IntKind.i64.wrap (s52 + 1)) _ _ ⟨(sk (sx hS_ 0 rfl) (sk (sx hS_ 1 rfl) (sk (sx hS_ 2 rfl) (sk (sx hS_ 3 rfl) (sk (sx hS_ 4 rfl) (sk rfl sn)))))), hC⟩ h
      ·replace h := iff_ h (cf hb65)
       refine guardOff (b := false) 7 39 rfl (tr rfl (congrArg _ hb65)) (by decide) ?_
       refine guardOff (b := false) 7 39 rfl (tr rfl (congrArg _ hb65)) (by decide) ?_
       refine guardOff (b := false) 7 39 rfl (tr rfl (congrArg _ hb65)) (by decide) ?_
       refine guardOff (b := false) 7 39 rfl (tr rfl (congrArg _ hb65)) (by decide) ?_
       refine s_pick (v := .bool false) (b := false) (tr rfl (congrArg _ hb65)) rfl ?_
       refine dn ?_
       refine cw_false rfl rfl ?_
       refine wp_skip ?_
       refine blk_norm ?_
       refine then_norm ?_
       refine cw_region ?_
       refine s_mv (v := .int .i64 s52) (sx hS_ 5 rfl) ?_
       refine s_add rfl rfl ?_
       refine s_as (v := .int .i64 (IntKind.i64.wrap (s52 + 1))) rfl ?_
       refine done ?_
       exact hK55 (IntKind.i64.wrap (s52 + 1)) _ _ ⟨(sk (sx hS_ 0 rfl) (sk (sx hS_ 1 rfl) (sk (sx hS_ 2 rfl) (sk (sx hS_ 3 rfl) (sk (sx hS_ 4 rfl) (sk rfl sn)))))), hC⟩ h
    ·replace h := iff_ h (cf hb57)
     refine wp_exit (then_exit (then_exit (exit_in ?_)))
     refine then_norm ?_
     refine sr ?_
     refine s_as (v := .int .i64 0) rfl ?_
     refine dn ?_
     refine wp_ret ?_
     refine ret1 (fn := Tryz.f39) rfl ?_ ⟨0, rfl, h, hC.below⟩ (.inl rfl)
     exact res_tmp rfl
   ·skip
    exact ⟨(sk rfl (sk rfl (sk rfl (sk rfl (sk rfl (sk rfl sn)))))), hC⟩
def f_spec_l09Elementary (a0 : Alg) (a1 : Int) (K : List Der → Prop) : Prop :=
 whileP (fun (s427 : (List Der) × Int) next430 => (if s427.2 < (a0.degrees.length : Int) then ((0 ≤ s427.2 ∧ s427.2 < (a0.degrees.length : Int)) ∧ (if a0.degrees.getD s427.2.toNat default < a1 then next430 (s427.1, IntKind.i64.wrap (s427.2 + 1)) else ((0 ≤ s427.2 ∧ s427.2 < (a0.degrees.length : Int)) ∧ f_spec_l01Monomials a0.degrees (IntKind.i64.wrap ((a0.degrees.getD s427.2.toNat default) - a1)) (fun r455 => forN (fun i576 (s577 : (List Der)) next581 => ((0 ≤ (a0.degrees.length : Int) ∧ (a0.degrees.length : Int) * 24 ≤ 281474976710656) ∧ f_spec_l01Single (r455.getD i576 default) 1 (fun r609 => ((0 ≤ s427.2 ∧ s427.2 < ((List.replicate ((a0.degrees.length : Int).toNat) ((⟨[]⟩ : Vc.Form) : Vc.Form)).length : Int)) ∧ (Room (s577.length + 1) 32 ∧ next581 (s577 ++ [(⟨a1, (List.replicate ((a0.degrees.length : Int).toNat) ((⟨[]⟩ : Vc.Form) : Vc.Form)).set s427.2.toNat r609⟩ : Der)])))))) (fun (s577 : (List Der)) => next430 (s577, IntKind.i64.wrap (s427.2 + 1))) r455.length 0 s427.1)))) else K s427.1)) ([], 0)
theorem c_spec_l09Elementary (a0 : Alg) (a1 : Int) {u0_0 : Value} {u0_1 : Value} {fp0 : List Nat} {K : List Der → Prop} (h : f_spec_l09Elementary a0 a1 K) (w0 : World) (q0 : TAlg.rep a0 [u0_0, u0_1] fp0 w0) :
  Calls Tryz.prog 40 #[.agg #[u0_0, u0_1], .int .i64 a1] w0 fun e w' => ∃ (r0 : List Der) (z0_0 : Value) (fz0 : List Nat), 
   e = .returned (z0_0) ∧ K r0 ∧ (Tr.item (Tr.sl 77 (TrDer 162 55)) r0 [z0_0] fz0).holds w' ∧ (∀ b, b ∈ fz0 → w0.heap.size ≤ b) ∧ Bel w0 w' := by
 unfold f_spec_l09Elementary at h
 refine calls_of (args := [.agg #[u0_0, u0_1], .int .i64 a1]) Tryz.func40 rfl 61 Tryz.ntmps40 (Nat.le_of_ble_eq_true rfl) ?_
 have hC := Ctx.start (X := Nox) w0 [Ty.item TAlg a0 [u0_0, u0_1] fp0] (by simp only [List.mem_cons, List.not_mem_nil, or_false, forall_eq_or_imp, forall_eq]; exact q0)
 have hp2 := (hC.getP 0 rfl)
 replace hC := hC.derive 0 rfl (Ty.item ((EI .i64).ty.sl) a0.degrees [u0_0] fp0) (fun _ => (alg_parts hp2).1) (fun _ hb_ => hb_)
 replace hC := hC.derive 1 rfl (Ty.item TForm.sl a0.images [u0_1] fp0) (fun _ => (alg_parts hp2).2) (fun _ hb_ => hb_)
 refine sr ?_
 refine s_box (v := .agg #[u0_0, u0_1]) hC [u0_0, u0_1] rfl rfl fun b5 w7 hB_ hC => ?_
 refine s_as (v := .slice none 0 0) rfl ?_
 refine dn ?_
 refine sr ?_
 refine s_bslice (sz := 2) hC [] [] rfl (fun _ => bs27_0 _) rfl (by decide) fun b8 w9 hB_ hC => ?_
 replace hC := hC.pushM0 (forest (TrDer 162 55) ([] : List Der) [] []) (forest_nil _ _) rfl
 replace hC := hC.gather (c := Tr.item (Tr.sl 77 (TrDer 162 55)) [] [.slice (some ⟨b8, 0, none⟩) 0 0] ((Option.toList (Value.ownBlock (.slice (some ⟨b8, 0, none⟩) 0 0))) ++ ([] : List (List Nat)).flatten)) (fun x_ hx_ => (List.mem_append.1 hx_).symm) (fun h1_ h2_ hd_ => forest_up h2_ h1_ (fun b_ hb_ hb2_ => hd_ b_ hb2_ hb_))
 refine s_as (v := .slice (some ⟨b8, 0, none⟩) 0 0) rfl ?_
 refine dn ?_
 refine wp_seq ?_
 refine sr ?_
 refine s_as (v := .int .i64 0) rfl ?_
 refine dn ?_
 refine wp_block ?_
 refine loopW (S := (List Der) × Int) _ (fun s427 e_ w_ => ∃ (v428 : Value), ∃ (f429 : List Nat), Slots e_ [(1, .int .i64 a1), (2, .pointer (some ⟨b5, 0, none⟩)), (4, .slice none 0 0), (5, v428), (6, .int .i64 s427.2)] ∧ Ctx Nox w0 w_ [Tr.item (Tr.sl 77 (TrDer 162 55)) s427.1 [v428] f429, blk b5 32 [u0_0, u0_1]] [Ty.item TForm.sl a0.images [u0_1] fp0, Ty.item ((EI .i64).ty.sl) a0.degrees [u0_0] fp0, Ty.item TAlg a0 [u0_0, u0_1] fp0]) ?_ (s0 := ([], 0)) ?_ h
 ·clear hC h
  rintro s427 e_ w433 next430 K431 ⟨v428, f429, hS_, hC⟩ h hK432
  refine wp_seq ?_
  refine sr ?_
  refine s_mv (v := .int .i64 s427.2) (sx hS_ 4 rfl) ?_
  refine s_faddrB 0 Tryz.underlying32 rfl sc22.size (sx hS_ 1 rfl) rfl ?_
  refine s_loadS hC 1 (u0_0) rfl sc22 rfl rfl ?_
  obtain ⟨Ad434, c435, hv436⟩ := sl_len (hC.getP 1 rfl)
  refine s_len Tryz.underlying22 (tr rfl hv436) ?_
  refine s_lss rfl rfl ?_
  refine dn ?_
  refine cw_cond rfl (fun hb437 => ?_) (fun hb437 => ?_)
  ·replace h := ift h (ct hb437)
   refine wp_skip ?_
   refine then_norm ?_
   refine wp_seq ?_
   refine wp_block ?_
   refine wp_seq ?_
   refine sr ?_
   refine s_faddrB 0 Tryz.underlying32 rfl sc22.size (sx hS_ 1 rfl) rfl ?_
   refine s_loadS hC 1 (u0_0) rfl sc22 rfl rfl ?_
   refine s_mv (v := .int .i64 s427.2) (sx hS_ 4 rfl) ?_
   obtain ⟨⟨h0_438, h1_439⟩, h⟩ := h
   obtain ⟨Ad440, c441, hv442⟩ := sl_form (hC.getP 1 rfl) s427.2.toNat (show s427.2.toNat < a0.degrees.length by omega)
   refine s_iaddrS (len := a0.degrees.length) Tryz.underlying22 sc2.size (tr rfl hv442) rfl h0_438 h1_439 ?_
   refine s_loadCS (.int .i64 (a0.degrees.getD s427.2.toNat default)) (sl_cellsE (hC.getP 1 rfl) hv442 s427.2.toNat (show s427.2.toNat < a0.degrees.length by omega)) sc2 rfl ?_
   refine s_mv (v := .int .i64 a1) (sx hS_ 0 rfl) ?_
   refine s_lss rfl rfl ?_
   refine dn ?_
   refine cw_cond rfl (fun hb443 => ?_) (fun hb443 => ?_)
   ·replace h := ift h (ct hb443)
    refine wp_exit (then_exit (exit_in ?_))
    refine then_norm ?_
    refine cw_region ?_
    refine s_mv (v := .int .i64 s427.2) (sx hS_ 4 rfl) ?_
    refine s_add rfl rfl ?_
    refine s_as (v := .int .i64 (IntKind.i64.wrap (s427.2 + 1))) rfl ?_
    refine done ?_
    exact hK432 (s427.1, IntKind.i64.wrap (s427.2 + 1)) _ _ ⟨v428, f429, (sk (sx hS_ 0 rfl) (sk (sx hS_ 1 rfl) (sk (sx hS_ 2 rfl) (sk (sx hS_ 3 rfl) (sk rfl sn))))), hC⟩ h
   ·replace h := iff_ h (cf hb443)
    refine wp_skip ?_
    refine then_norm ?_
    refine wp_seq ?_
    refine cw_draw 9 mixed [0, 1, 0, 4, 0, 28, 60, 0, 252, 511, 1023] [1, 3, 5, 6] [0, 2, 4, 7, 8] (by kernel_rfl) (by kernel_rfl) (by kernel_rfl) (fun hM445 hM446 w444 hB_ => ?_)
    replace hC := hC.grow hB_
    refine aF 0 (.pointer (some ⟨b5, 0, none⟩)) rfl rfl (hM446 0 rfl) (rfl) (fun _ => by exact r_faddrB 0 Tryz.underlying32 rfl sc22.size (sx hS_ 1 rfl) rfl) (dbits 11 1) ?_
    refine aL 1 (u0_0) rfl rfl (hM445 1 rfl) (rfl) (fun _ hB_ => by exact r_loadS (hC.grow hB_) 1 (u0_0) rfl sc22 rfl rfl) (dbits 11 3) ?_
    refine aF 2 (.pointer (some ⟨b5, 0, none⟩)) rfl rfl (hM446 2 rfl) (rfl) (fun _ => by exact r_faddrB 0 Tryz.underlying32 rfl sc22.size (sx hS_ 1 rfl) rfl) (dbits 11 7) ?_
    refine aL 3 (u0_0) rfl rfl (hM445 3 rfl) (rfl) (fun _ hB_ => by exact r_loadS (hC.grow hB_) 1 (u0_0) rfl sc22 rfl rfl) (dbits 11 15) ?_
    refine aF 4 (.int .i64 s427.2) rfl rfl (hM446 4 rfl) (rfl) (fun _ => by exact r_mv (v := .int .i64 s427.2) (sx hS_ 4 rfl)) (dbits 11 31) ?_
    obtain ⟨⟨h0_447, h1_448⟩, h⟩ := h
    obtain ⟨Ad449, c450, hv451⟩ := sl_form (hC.getP 1 rfl) s427.2.toNat (show s427.2.toNat < a0.degrees.length by omega)
    refine aL 5 (.pointer (some (Ad449.add (s427.2.toNat * 1)))) rfl rfl (hM445 5 rfl) (rfl) (fun _ hB_ => by exact r_iaddrS (len := a0.degrees.length) Tryz.underlying22 sc2.size (by exact tr rfl hv451) rfl h0_447 h1_448) (dbits 11 63) ?_
    refine aL 6 (.int .i64 (a0.degrees.getD s427.2.toNat default)) rfl rfl (hM445 6 rfl) (rfl) (fun _ hB_ => by exact r_loadCS (.int .i64 (a0.degrees.getD s427.2.toNat default)) (sl_cellsE ((hC.grow hB_).getP 1 rfl) hv451 s427.2.toNat (show s427.2.toNat < a0.degrees.length by omega)) sc2 rfl) (dbits 11 127) ?_
    refine aF 7 (.int .i64 a1) rfl rfl (hM446 7 rfl) (rfl) (fun _ => by exact r_mv (v := .int .i64 a1) (sx hS_ 0 rfl)) (dbits 11 255) ?_
    refine aF 8 (.int .i64 (IntKind.i64.wrap ((a0.degrees.getD s427.2.toNat default) - a1))) rfl rfl (hM446 8 rfl) (rfl) (fun _ => by exact r_sub rfl rfl) (dbits 11 511) ?_
    refine ae_tail 9 (by decide) (by decide) (by kernel_rfl) (by kernel_rfl) rfl ?_
    refine s_call [u0_0, .int .i64 (IntKind.i64.wrap ((a0.degrees.getD s427.2.toNat default) - a1))] _ Tryz.func94 rfl rfl rfl (c_spec_l01Monomials a0.degrees (IntKind.i64.wrap ((a0.degrees.getD s427.2.toNat default) - a1)) h _ (hC.getP 1 rfl)) (fun ret452 w454 hR453 => ?_)
    obtain ⟨r455, u456, f457, rfl, h, hr458, hf459, hB460⟩ := hR453
    refine ⟨_, rfl, ?_⟩
    replace hC := hC.push hB460 (Tr.item (Tr.sl 136 ((EA .u8).tr)) r455 [u456] f457) hr458 hf459
    obtain ⟨ho462, hf463⟩ := flat_tr (hC.getM 0 rfl).1
    subst hf463
    replace hC := hC.recast (c := own 136 8 u456 r455.length ((EA .u8).encs r455)) (fun _ h_ => h_) (fun _ => ho462)
    refine s_as (v := u456) rfl ?_
    refine done ?_
    refine qn_norm ?_
    refine then_norm ?_
    refine sr ?_
    refine s_as (v := .int .i64 0) rfl ?_
    refine dn ?_
    refine wp_block ?_
    have hN580 : r455.length ≤ 9223372036854775807 := own_max (hC.getM 0 rfl)
    refine loopN (S := (List Der)) _ _ (fun i576 s577 e_ w_ => ∃ (v578 : Value), ∃ (f579 : List Nat), Slots e_ [(1, .int .i64 a1), (2, .pointer (some ⟨b5, 0, none⟩)), (4, .slice none 0 0), (5, v578), (6, .int .i64 s427.2), (7, u456), (8, .int .i64 (i576 : Int)), (11, .int .i64 s427.2), (12, .pointer (some ⟨b5, 0, none⟩)), (13, u0_0), (14, .int .i64 (a0.degrees.length : Int)), (15, .bool (decide (s427.2 < (a0.degrees.length : Int)))), (18, .pointer (some ⟨b5, 0, none⟩)), (19, u0_0), (20, .int .i64 s427.2), (21, .pointer (some (Ad440.add (s427.2.toNat * 1)))), (22, .int .i64 (a0.degrees.getD s427.2.toNat default)), (23, .int .i64 a1), (24, .bool (decide (a0.degrees.getD s427.2.toNat default < a1))), (25, .pointer (some ⟨b5, 0, none⟩)), (26, u0_0), (27, .pointer (some ⟨b5, 0, none⟩)), (28, u0_0), (29, .int .i64 s427.2), (30, .pointer (some (Ad449.add (s427.2.toNat * 1)))), (31, .int .i64 (a0.degrees.getD s427.2.toNat default)), (32, .int .i64 a1), (33, .int .i64 (IntKind.i64.wrap ((a0.degrees.getD s427.2.toNat default) - a1))), (34, u456)] ∧ Ctx Nox w0 w_ [own 136 8 u456 r455.length ((EA .u8).encs r455), Tr.item (Tr.sl 77 (TrDer 162 55)) s577 [v578] f579, blk b5 32 [u0_0, u0_1]] [Ty.item TForm.sl a0.images [u0_1] fp0, Ty.item ((EI .i64).ty.sl) a0.degrees [u0_0] fp0, Ty.item TAlg a0 [u0_0, u0_1] fp0]) r455.length ?_ ?_ (s0 := s427.1) ?_ h
    ·clear hC h
     rintro i576 s577 e_ w585 next581 K582 hi584 ⟨v578, f579, hS_, hC⟩ h hK583
     refine wp_seq ?_
     refine sr ?_
     refine s_mv (v := .int .i64 (i576 : Int)) (sx hS_ 6 rfl) ?_
     refine s_mv (v := u456) (sx hS_ 5 rfl) ?_
     obtain ⟨Ad586, c587, hv588⟩ := own_form (hC.getM 0 rfl)
     refine s_len Tryz.underlying132 (tr rfl hv588) ?_
     refine s_lss rfl rfl ?_
     refine dn ?_
     refine cw_true rfl (decide_eq_true (by omega)) ?_
     refine wp_skip ?_
     refine then_norm ?_
     refine wp_seq ?_
     refine wp_block ?_
     refine sr ?_
     refine s_mv (v := .int .i64 a1) (sx hS_ 0 rfl) ?_
     refine s_faddrB 0 Tryz.underlying32 rfl sc22.size (sx hS_ 1 rfl) rfl ?_
     refine s_loadS hC 2 (u0_0) rfl sc22 rfl rfl ?_
     obtain ⟨Ad589, c590, hv591⟩ := sl_len (hC.getP 1 rfl)
     refine s_len Tryz.underlying22 (tr rfl hv591) ?_
     obtain ⟨hm594, h⟩ := h
     refine s_make (sz := 1) hC (List.replicate ((a0.degrees.length : Int).toNat) (.slice none 0 0)) Tryz.underlying30 el55 (tr rfl (congrArg (Value.int .i64) (Int.toNat_of_nonneg hm594.1).symm)) (tr rfl (congrArg (Value.int .i64) (Int.toNat_of_nonneg hm594.1).symm)) (by omega) (by omega) (made_nil _) fun v592 w593 hB_ hC => ?_
     replace hC := hC.pushM0 (forest (TrForm 162) (List.replicate ((a0.degrees.length : Int).toNat) ((⟨[]⟩ : Vc.Form) : Vc.Form)) (List.replicate ((a0.degrees.length : Int).toNat) (.slice none 0 0)) (List.replicate ((a0.degrees.length : Int).toNat) [])) (forest_rep (form_join (nil_item _ _ _)) rfl _) (flat_rep _)
     replace hC := hC.gather (c := Tr.item (Tr.sl 55 (TrForm 162)) (List.replicate ((a0.degrees.length : Int).toNat) ((⟨[]⟩ : Vc.Form) : Vc.Form)) [v592] ((Option.toList (Value.ownBlock v592)) ++ (List.replicate ((a0.degrees.length : Int).toNat) ([] : List Nat)).flatten)) (fun x_ hx_ => (List.mem_append.1 hx_).symm) (fun h1_ h2_ hd_ => forest_up (by rw [List.length_replicate]; exact h2_) h1_ (fun b_ hb_ hb2_ => hd_ b_ hb2_ hb_))
     refine s_build [(0, .int .i64 a1), (1, v592)] rfl (bl77_0int_1sl a1 v592 (rep_isSl (Tr.trep _ (hC.getM 0 rfl).1)) _) ?_
     refine s_alloc hC [.int .i64 0, .slice none 0 0] z77 rfl fun b596 w598 hB_ hC => ?_
     refine s_store (v := .agg #[.int .i64 a1, v592]) hC 0 [.int .i64 a1, v592] [.int .i64 a1, v592] rfl ag77.size rfl rfl rfl rfl (all_c rfl (all_c (rep_oneC (Tr.trep _ (hC.getM 1 rfl).1)) rfl)) (Nat.le_of_ble_eq_true rfl) rfl fun w599 hC => ?_
     refine dn ?_
     refine wp_seq ?_
     refine cw_draw 8 mixed [0, 1, 0, 0, 0, 24, 56, 120, 255, 511] [1, 5, 6] [0, 2, 3, 4] (by kernel_rfl) (by kernel_rfl) (by kernel_rfl) (fun hM601 hM602 w600 hB_ => ?_)
     replace hC := hC.grow hB_
     refine aF 0 (.pointer (some ⟨b596, 1, none⟩)) rfl rfl (hM602 0 rfl) (rfl) (fun _ => by exact r_faddrB 1 Tryz.underlying77 rfl sc30.size rfl rfl) (dbits 10 1) ?_
     refine aL 1 (v592) rfl rfl (hM601 1 rfl) (rfl) (fun _ hB_ => by exact r_loadS (hC.grow hB_) 0 (v592) rfl sc30 rfl rfl) (dbits 10 3) ?_
     refine aF 2 (.int .i64 s427.2) rfl rfl (hM602 2 rfl) (rfl) (fun _ => by exact r_mv (v := .int .i64 s427.2) (sx hS_ 4 rfl)) (dbits 10 7) ?_
     refine aF 3 (u456) rfl rfl (hM602 3 rfl) (rfl) (fun _ => by exact r_mv (v := u456) (sx hS_ 5 rfl)) (dbits 10 15) ?_
     refine aF 4 (.int .i64 (i576 : Int)) rfl rfl (hM602 4 rfl) (rfl) (fun _ => by exact r_mv (v := .int .i64 (i576 : Int)) (sx hS_ 6 rfl)) (dbits 10 31) ?_
     obtain ⟨Ad603, c604, hv605⟩ := own_formE (hC.getM 2 rfl) (Nat.lt_of_le_of_lt (Nat.zero_le _) hi584)
     refine aL 5 (.pointer (some ⟨Ad603, i576 * 8, none⟩)) rfl rfl (hM601 5 rfl) (rfl) (fun _ hB_ => by exact r_iaddrO (i576 * 8) Tryz.underlying132 ag136.size (by exact tr rfl hv605) rfl (Int.natCast_nonneg _) (Int.ofNat_lt.2 hi584) rfl) (dbits 10 63) ?_
     refine aL 6 (.agg (List.toArray (A8.enc .u8 (r455.getD i576 default)))) rfl rfl (hM601 6 rfl) (rfl) (fun _ hB_ => by exact r_loadCA (A8.enc .u8 (r455.getD i576 default)) (own_cellsE ((hC.grow hB_).getM 2 rfl) hv605 i576 hi584) ag136 rfl rfl) (dbits 10 127) ?_
     refine aO 7 rfl ?_
     refine s_call [.agg (List.toArray (A8.enc .u8 (r455.getD i576 default))), .int .i64 1] _ Tryz.func95 rfl rfl rfl (c_spec_l01Single (r455.getD i576 default) 1 h _) (fun ret606 w608 hR607 => ?_)
     obtain ⟨r609, u610, f611, rfl, h, hr612, hf613, hB614⟩ := hR607
     refine ⟨_, rfl, ?_⟩
     replace hC := hC.push hB614 (Tr.item (TrForm 162) r609 [u610] f611) hr612 hf613
     obtain ⟨ho616, hf617⟩ := form_split (hC.getM 0 rfl)
     subst hf617
     replace hC := hC.recast (c := own 162 9 u610 r609.terms.length (ETerm.encs r609.terms)) (fun _ h_ => h_) (fun _ => ho616)
     refine done ?_
     refine aK (by assumption) (dbits 10 255) ?_
     refine ae_tail 8 (by decide) (by decide) (by kernel_rfl) (by kernel_rfl) rfl ?_
     obtain ⟨⟨h0_619, h1_620⟩, h⟩ := h
     obtain ⟨g621, cap622, hv623⟩ := tr_formE (hC.getM 2 rfl) (Nat.lt_of_le_of_lt (Nat.zero_le _) (show s427.2.toNat < (List.replicate ((a0.degrees.length : Int).toNat) ((⟨[]⟩ : Vc.Form) : Vc.Form)).length by omega))
     refine s_iaddrO (s427.2.toNat * 1) Tryz.underlying30 ag55.size (tr rfl hv623) rfl h0_619 h1_620 rfl ?_
     replace hC := hC.recast (c := Tr.item (TrForm 162) r609 [u610] (Option.toList (Value.ownBlock u610))) (fun _ h_ => h_) (fun h_ => form_join (own_item h_))
     replace hC := hC.sM [2, 0, 1, 3, 4, 5] (M' := [Tr.item (Tr.sl 55 (TrForm 162)) (List.replicate ((a0.degrees.length : Int).toNat) ((⟨[]⟩ : Vc.Form) : Vc.Form)) [v592] ((Option.toList (Value.ownBlock v592)) ++ (List.replicate ((a0.degrees.length : Int).toNat) ([] : List Nat)).flatten), Tr.item (TrForm 162) r609 [u610] (Option.toList (Value.ownBlock u610)), blk b596 77 [.int .i64 a1, v592], own 136 8 u456 r455.length ((EA .u8).encs r455), Tr.item (Tr.sl 77 (TrDer 162 55)) s577 [v578] f579, blk b5 32 [u0_0, u0_1]]) (by decide) rfl
     refine s_storeT (u := .agg #[u610]) hC (show s427.2.toNat < (List.replicate ((a0.degrees.length : Int).toNat) ((⟨[]⟩ : Vc.Form) : Vc.Form)).length by omega) hv623 ag55.size rfl rfl rfl rfl fun f625 w626 hC => ?_
     refine done ?_
     refine qn_norm ?_
     refine then_norm ?_
     refine cw_region ?_
     refine s_mv (v := v578) (sx hS_ 3 rfl) ?_
     refine s_loadA hC 1 [.int .i64 a1, v592] rfl ag77 rfl rfl rfl ?_
     refine s_bslice (sz := 2) hC [(0, .agg #[.int .i64 a1, v592])] [.int .i64 a1, v592] rfl (fun _ => bsr27_1_is a1 v592 (rep_isSl (Tr.trep _ (hC.getM 0 rfl).1)) _) rfl (by decide) fun b627 w628 hB_ hC => ?_
     replace hC := hC.pushM0 (forest (TrDer 162 55) [] [] []) (forest_nil _ _) rfl
     replace hC := hC.sM [2, 0, 1, 3, 4, 5, 6] (M' := [Tr.item (Tr.sl 55 (TrForm 162)) ((List.replicate ((a0.degrees.length : Int).toNat) ((⟨[]⟩ : Vc.Form) : Vc.Form)).set s427.2.toNat r609) [v592] f625, forest (TrDer 162 55) [] [] [], own 77 2 (.slice (some ⟨b627, 0, none⟩) 1 1) 1 [.int .i64 a1, v592], blk b596 77 [.int .i64 a1, v592], own 136 8 u456 r455.length ((EA .u8).encs r455), Tr.item (Tr.sl 77 (TrDer 162 55)) s577 [v578] f579, blk b5 32 [u0_0, u0_1]]) (by decide) rfl
     replace hC := hC.gather (c := forest (TrDer 162 55) [(⟨a1, (List.replicate ((a0.degrees.length : Int).toNat) ((⟨[]⟩ : Vc.Form) : Vc.Form)).set s427.2.toNat r609⟩ : Der)] [.int .i64 a1, v592] [f625]) (fun x_ hx_ => forest_mem hx_) (fun h1_ h2_ hd_ => forest_cons (c := [.int .i64 a1, v592]) (der_join h1_) h2_ hd_)
     replace hC := hC.sM [1, 0, 2, 3, 4, 5] (M' := [own 77 2 (.slice (some ⟨b627, 0, none⟩) 1 1) 1 [.int .i64 a1, v592], forest (TrDer 162 55) [(⟨a1, (List.replicate ((a0.degrees.length : Int).toNat) ((⟨[]⟩ : Vc.Form) : Vc.Form)).set s427.2.toNat r609⟩ : Der)] [.int .i64 a1, v592] [f625], blk b596 77 [.int .i64 a1, v592], own 136 8 u456 r455.length ((EA .u8).encs r455), Tr.item (Tr.sl 77 (TrDer 162 55)) s577 [v578] f579, blk b5 32 [u0_0, u0_1]]) (by decide) rfl
     replace hC := hC.gather (c := Tr.item (Tr.sl 77 (TrDer 162 55)) [(⟨a1, (List.replicate ((a0.degrees.length : Int).toNat) ((⟨[]⟩ : Vc.Form) : Vc.Form)).set s427.2.toNat r609⟩ : Der)] [.slice (some ⟨b627, 0, none⟩) 1 1] ((Option.toList (Value.ownBlock (.slice (some ⟨b627, 0, none⟩) 1 1))) ++ ([f625] : List (List Nat)).flatten)) (fun x_ hx_ => List.mem_append.1 hx_) (fun h1_ h2_ hd_ => forest_up h1_ h2_ hd_)
     replace hC := hC.sM [3, 0, 1, 2, 4] (M' := [Tr.item (Tr.sl 77 (TrDer 162 55)) s577 [v578] f579, Tr.item (Tr.sl 77 (TrDer 162 55)) [(⟨a1, (List.replicate ((a0.degrees.length : Int).toNat) ((⟨[]⟩ : Vc.Form) : Vc.Form)).set s427.2.toNat r609⟩ : Der)] [.slice (some ⟨b627, 0, none⟩) 1 1] ((Option.toList (Value.ownBlock (.slice (some ⟨b627, 0, none⟩) 1 1))) ++ ([f625] : List (List Nat)).flatten), blk b596 77 [.int .i64 a1, v592], own 136 8 u456 r455.length ((EA .u8).encs r455), blk b5 32 [u0_0, u0_1]]) (by decide) rfl
     obtain ⟨hm635, h⟩ := h
     refine s_appT hC Tryz.underlying27 el77 rfl (by decide) (by decide) rfl rfl hm635 fun v632 f634 w633 hC => ?_
     refine s_as (v := v632) rfl ?_
     refine done ?_
     refine blk_norm ?_
     refine then_norm ?_
     refine cw_region ?_
     refine s_mv (v := .int .i64 (i576 : Int)) (sx hS_ 6 rfl) ?_
     refine s_add rfl rfl ?_
     refine s_as (v := .int .i64 (IntKind.i64.wrap ((i576 : Int) + 1))) rfl ?_
     refine done ?_
     replace hC := hC.sM [2, 0, 3] (M' := [own 136 8 u456 r455.length ((EA .u8).encs r455), Tr.item (Tr.sl 77 (TrDer 162 55)) (s577 ++ [(⟨a1, (List.replicate ((a0.degrees.length : Int).toNat) ((⟨[]⟩ : Vc.Form) : Vc.Form)).set s427.2.toNat r609⟩ : Der)]) [v632] f634, blk b5 32 [u0_0, u0_1]]) (by decide) rfl
     exact hK583 (s577 ++ [(⟨a1, (List.replicate ((a0.degrees.length : Int).toNat) ((⟨[]⟩ : Vc.Form) : Vc.Form)).set s427.2.toNat r609⟩ : Der)]) _ _ ⟨v632, f634, (sk (sx hS_ 0 rfl) (sk (sx hS_ 1 rfl) (sk (sx hS_ 2 rfl) (sk rfl (sk (sx hS_ 4 rfl) (sk (sx hS_ 5 rfl) (sk (tr rfl (congrArg _ (wrap64_nat hi584 hN580))) (sk (sx hS_ 7 rfl) (sk (sx hS_ 8 rfl) (sk (sx hS_ 9 rfl) (sk (sx hS_ 10 rfl) (sk (sx hS_ 11 rfl) (sk (sx hS_ 12 rfl) (sk (sx hS_ 13 rfl) (sk (sx hS_ 14 rfl) (sk (sx hS_ 15 rfl) (sk (sx hS_ 16 rfl) (sk (sx hS_ 17 rfl) (sk (sx hS_ 18 rfl) (sk (sx hS_ 19 rfl) (sk (sx hS_ 20 rfl) (sk (sx hS_ 21 rfl) (sk (sx hS_ 22 rfl) (sk (sx hS_ 23 rfl) (sk (sx hS_ 24 rfl) (sk (sx hS_ 25 rfl) (sk (sx hS_ 26 rfl) (sk (sx hS_ 27 rfl) (sk (sx hS_ 28 rfl) sn))))))))))))))))))))))))))))), hC⟩ h
    ·clear hC h
     rintro s577 e_ w636 K582 ⟨v578, f579, hS_, hC⟩ h
     refine wp_seq ?_
     refine sr ?_
     refine s_mv (v := .int .i64 (r455.length : Int)) (sx hS_ 6 rfl) ?_
     refine s_mv (v := u456) (sx hS_ 5 rfl) ?_
     obtain ⟨Ad637, c638, hv639⟩ := own_form (hC.getM 0 rfl)
     refine s_len Tryz.underlying132 (tr rfl hv639) ?_
     refine s_lss rfl rfl ?_
     refine dn ?_
     refine cw_false rfl (decide_eq_false (by omega)) ?_
     refine wp_exit (then_exit (then_exit (exit_in ?_)))
     refine blk_norm ?_
     refine then_norm ?_
     refine cw_region ?_
     refine s_mv (v := .int .i64 s427.2) (sx hS_ 4 rfl) ?_
     refine s_add rfl rfl ?_
     refine s_as (v := .int .i64 (IntKind.i64.wrap (s427.2 + 1))) rfl ?_
     refine done ?_
     replace hC := hC.sM [1, 2] (M' := [Tr.item (Tr.sl 77 (TrDer 162 55)) s577 [v578] f579, blk b5 32 [u0_0, u0_1]]) (by decide) rfl
     exact hK432 (s577, IntKind.i64.wrap (s427.2 + 1)) _ _ ⟨v578, f579, (sk (sx hS_ 0 rfl) (sk (sx hS_ 1 rfl) (sk (sx hS_ 2 rfl) (sk (sx hS_ 3 rfl) (sk rfl sn))))), hC⟩ h
    ·skip
     exact ⟨v428, f429, (sk (sx hS_ 0 rfl) (sk (sx hS_ 1 rfl) (sk (sx hS_ 2 rfl) (sk (sx hS_ 3 rfl) (sk (sx hS_ 4 rfl) (sk rfl (sk rfl (sk rfl (sk rfl (sk rfl (sk rfl (sk rfl (sk rfl (sk rfl (sk rfl (sk rfl (sk rfl (sk rfl (sk rfl (sk rfl (sk rfl (sk rfl (sk rfl (sk rfl (sk rfl (sk rfl (sk rfl (sk rfl (sk rfl sn))))))))))))))))))))))))))))), hC⟩
  ·replace h := iff_ h (cf hb437)
   refine wp_exit (then_exit (then_exit (exit_in ?_)))
   refine then_norm ?_
   refine sr ?_
   refine s_mv (v := v428) (sx hS_ 3 rfl) ?_
   refine s_as (v := v428) rfl ?_
   refine dn ?_
   refine wp_ret ?_
   refine ret1 (fn := Tryz.f40) rfl ?_ ⟨s427.1, v428, f429, rfl, h, (hC.getM 0 rfl), (tr_fresh hC 0 rfl), hC.below⟩ (.inl rfl)
   exact res_tmp rfl
 ·skip
  exact ⟨.slice (some ⟨b8, 0, none⟩) 0 0, ((Option.toList (Value.ownBlock (.slice (some ⟨b8, 0, none⟩) 0 0))) ++ ([] : List (List Nat)).flatten), (sk rfl (sk rfl (sk rfl (sk rfl (sk rfl sn))))), hC⟩
def f_spec_ElementaryDerivations (a0 : Alg) (a1 : Int) (K : List Der → Int → Prop) : Prop :=
 f_spec_l09Code a0 a1 0 12 0 (fun r11 => (if r11 ≠ 0 then K [] r11 else f_spec_l09Elementary a0 a1 (fun r17 => K r17 0)))
theorem c_spec_ElementaryDerivations (a0 : Alg) (a1 : Int) {u0_0 : Value} {u0_1 : Value} {fp0 : List Nat} {K : List Der → Int → Prop} (h : f_spec_ElementaryDerivations a0 a1 K) (w0 : World) (q0 : TAlg.rep a0 [u0_0, u0_1] fp0 w0) :
  Calls Tryz.prog 11 #[.agg #[u0_0, u0_1], .int .i64 a1] w0 fun e w' => ∃ (r0 : List Der) (z0_0 : Value) (fz0 : List Nat) (r1 : Int), 
   e = .returned (.tuple #[z0_0, .int .i64 r1]) ∧ K r0 r1 ∧ (Tr.item (Tr.sl 77 (TrDer 162 55)) r0 [z0_0] fz0).holds w' ∧ (∀ b, b ∈ fz0 → w0.heap.size ≤ b) ∧ Bel w0 w' := by
 unfold f_spec_ElementaryDerivations at h
 refine calls_of (args := [.agg #[u0_0, u0_1], .int .i64 a1]) Tryz.func11 rfl 16 Tryz.ntmps11 (Nat.le_of_ble_eq_true rfl) ?_
 have hC := Ctx.start (X := Nox) w0 [Ty.item TAlg a0 [u0_0, u0_1] fp0] (by simp only [List.mem_cons, List.not_mem_nil, or_false, forall_eq_or_imp, forall_eq]; exact q0)
 have hp2 := (hC.getP 0 rfl)
 replace hC := hC.derive 0 rfl (Ty.item ((EI .i64).ty.sl) a0.degrees [u0_0] fp0) (fun _ => (alg_parts hp2).1) (fun _ hb_ => hb_)
 replace hC := hC.derive 1 rfl (Ty.item TForm.sl a0.images [u0_1] fp0) (fun _ => (alg_parts hp2).2) (fun _ hb_ => hb_)
 refine sr ?_
 refine s_box (v := .agg #[u0_0, u0_1]) hC [u0_0, u0_1] rfl rfl fun b5 w7 hB_ hC => ?_
 refine s_as (v := .slice none 0 0) rfl ?_
 refine s_as (v := .int .i64 0) rfl ?_
 refine dn ?_
 refine wp_seq ?_
 refine sr ?_
 refine s_loadA hC 0 [u0_0, u0_1] rfl ag32 rfl rfl rfl ?_
 refine s_mv (v := .int .i64 a1) rfl ?_
 refine s_call [.agg #[u0_0, u0_1], .int .i64 a1, .int .i64 0, .int .i64 12, .int .i64 0] _ Tryz.func39 rfl rfl rfl (c_spec_l09Code a0 a1 0 12 0 h _ (alg_mk (hC.getP 1 rfl) (hC.getP 0 rfl))) (fun ret8 w10 hR9 => ?_)
 obtain ⟨r11, rfl, h, hB12⟩ := hR9
 refine ⟨_, rfl, ?_⟩
 replace hC := hC.grow hB12
 refine s_as (v := .int .i64 r11) rfl ?_
 refine dn ?_
 refine sr ?_
 refine s_mv (v := .int .i64 r11) rfl ?_
 refine s_neq rfl rfl ?_
 refine dn ?_
 refine cw_cond rfl (fun hb13 => ?_) (fun hb13 => ?_)
 ·replace h := ift h (ct hb13)
  refine sr ?_
  refine s_mv (v := .int .i64 r11) rfl ?_
  refine s_as (v := .slice none 0 0) rfl ?_
  refine s_as (v := .int .i64 r11) rfl ?_
  refine dn ?_
  refine wp_ret (then_ret ?_)
  refine ret2 (fn := Tryz.f11) rfl ?_ ?_ ⟨[], .slice none 0 0, [], r11, rfl, h, (nil_item _ _ _), (fun b hb => absurd hb (by simp)), hC.below⟩ (.inl rfl)
  ·exact res_tmp rfl
  ·exact res_tmp rfl
 ·replace h := iff_ h (cf hb13)
  refine wp_skip ?_
  refine then_norm ?_
  refine sr ?_
  refine s_loadA hC 0 [u0_0, u0_1] rfl ag32 rfl rfl rfl ?_
  refine s_mv (v := .int .i64 a1) rfl ?_
  refine s_call [.agg #[u0_0, u0_1], .int .i64 a1] _ Tryz.func40 rfl rfl rfl (c_spec_l09Elementary a0 a1 h _ (alg_mk (hC.getP 1 rfl) (hC.getP 0 rfl))) (fun ret14 w16 hR15 => ?_)
  obtain ⟨r17, u18, f19, rfl, h, hr20, hf21, hB22⟩ := hR15
  refine ⟨_, rfl, ?_⟩
  replace hC := hC.push hB22 (Tr.item (Tr.sl 77 (TrDer 162 55)) r17 [u18] f19) hr20 hf21
  refine s_as (v := u18) rfl ?_
  refine s_as (v := .int .i64 0) rfl ?_
  refine dn ?_
  refine wp_ret ?_
  refine ret2 (fn := Tryz.f11) rfl ?_ ?_ ⟨r17, u18, f19, 0, rfl, h, (hC.getM 0 rfl), (tr_fresh hC 0 rfl), hC.below⟩ (.inl rfl)
  ·exact res_tmp rfl
  ·exact res_tmp rfl
def f_impl_lister_from (fu_ : Nat) (a0 : List Int × Int × List A8) (a1 : Int) (a2 : A8) (a3 : Int) (K : List A8 → Prop) : Prop :=
 match fu_ with
 | 0 => False
 | fu_ + 1 => (if (a0.2.2.length : Int) > a0.2.1 then K a0.2.2 else (if a1 = (a0.1.length : Int) then (if a3 = 0 then (Room (a0.2.2.length + 1) 64 ∧ K (a0.2.2 ++ [a2])) else K a0.2.2) else ((0 ≤ a1 ∧ a1 < (a0.1.length : Int)) ∧ ((a0.1.getD a1.toNat default) ≠ 0 ∧ (if Int.tmod (a0.1.getD a1.toNat default) 2 = 1 then whileP (fun (s65 : A8 × (List A8) × Int) next67 => (if s65.2.2 ≥ 0 then ((0 ≤ a1 ∧ a1 < 8) ∧ f_impl_lister_from fu_ (⟨a0.1, a0.2.1, s65.2.1⟩ : List Int × Int × List A8) (IntKind.i64.wrap (a1 + 1)) (s65.1.set a1.toNat s65.2.2) (IntKind.i64.wrap (a3 - (IntKind.i64.wrap (s65.2.2 * (a0.1.getD a1.toNat default))))) (fun m79 => next67 (s65.1.set a1.toNat s65.2.2, m79, IntKind.i64.wrap (s65.2.2 - 1)))) else K s65.2.1)) (a2, a0.2.2, (if 1 < (if 20 < IntKind.i64.wrap (Int.tdiv a3 (a0.1.getD a1.toNat default)) then 20 else IntKind.i64.wrap (Int.tdiv a3 (a0.1.getD a1.toNat default))) then 1 else (if 20 < IntKind.i64.wrap (Int.tdiv a3 (a0.1.getD a1.toNat default)) then 20 else IntKind.i64.wrap (Int.tdiv a3 (a0.1.getD a1.toNat default))))) else whileP (fun (s113 : A8 × (List A8) × Int) next115 => (if s113.2.2 ≥ 0 then ((0 ≤ a1 ∧ a1 < 8) ∧ f_impl_lister_from fu_ (⟨a0.1, a0.2.1, s113.2.1⟩ : List Int × Int × List A8) (IntKind.i64.wrap (a1 + 1)) (s113.1.set a1.toNat s113.2.2) (IntKind.i64.wrap (a3 - (IntKind.i64.wrap (s113.2.2 * (a0.1.getD a1.toNat default))))) (fun m127 => next115 (s113.1.set a1.toNat s113.2.2, m127, IntKind.i64.wrap (s113.2.2 - 1)))) else K s113.2.1)) (a2, a0.2.2, (if 20 < IntKind.i64.wrap (Int.tdiv a3 (a0.1.getD a1.toNat default)) then 20 else IntKind.i64.wrap (Int.tdiv a3 (a0.1.getD a1.toNat default)))))))))
theorem c_impl_lister_from (fu_ : Nat) : ∀ (a0 : List Int × Int × List A8) (a1 : Int) (a2 : A8) (a3 : Int) {b0 : Nat} {u0_0 : Value} {u0_2 : Value} {fp0 : List Nat} {K : List A8 → Prop} (h : f_impl_lister_from fu_ a0 a1 a2 a3 K) (w0 : World) (q0 : (Ty.item ((EI .i64).ty.sl) a0.1 [u0_0] fp0).holds w0) (qb0 : (blk b0 187 [u0_0, .int .i64 a0.2.1, u0_2]).holds w0) (qo0 : (own 73 8 u0_2 a0.2.2.length ((EA .i64).encs a0.2.2)).holds w0) (db0 : b0 ∉ Option.toList (Value.ownBlock u0_2)) (dq0 : ∀ b, b ∈ fp0 → b ∉ b0 :: Option.toList (Value.ownBlock u0_2)),
  Calls Tryz.prog 159 #[.pointer (some ⟨b0, 0, none⟩), .int .i64 a1, .agg (List.toArray (A8.enc .i64 a2)), .int .i64 a3] w0 fun e w' => ∃ (m0 : List A8) (y0 : Value), 
   e = .returned (.tuple #[]) ∧ K m0 ∧ (blk b0 187 [u0_0, .int .i64 a0.2.1, y0]).holds w' ∧ (own 73 8 y0 m0.length ((EA .i64).encs m0)).holds w' ∧ (∀ b, b ∈ Option.toList (Value.ownBlock y0) → b ∈ Option.toList (Value.ownBlock u0_2) ∨ w0.heap.size ≤ b) ∧ BelO (b0 :: Option.toList (Value.ownBlock u0_2)) w0 w' := by
 induction fu_ with
 | zero =>
  intro a0 a1 a2 a3 b0 u0_0 u0_2 fp0 K h w0 q0 qb0 qo0 db0 dq0
  exact False.elim h
 | succ fu_ ih_ =>
  intro a0 a1 a2 a3 b0 u0_0 u0_2 fp0 K h w0 q0 qb0 qo0 db0 dq0
  rw [f_impl_lister_from.eq_2] at h
  refine calls_of (args := [.pointer (some ⟨b0, 0, none⟩), .int .i64 a1, .agg (List.toArray (A8.enc .i64 a2)), .int .i64 a3]) Tryz.func159 rfl 74 Tryz.ntmps159 (Nat.le_of_ble_eq_true rfl) ?_
  have hC := Ctx.startL w0 (b0 :: Option.toList (Value.ownBlock u0_2)) [blk b0 187 [u0_0, .int .i64 a0.2.1, u0_2], own 73 8 u0_2 a0.2.2.length ((EA .i64).encs a0.2.2)] [Ty.item ((EI .i64).ty.sl) a0.1 [u0_0] fp0] (by simp only [List.mem_cons, List.not_mem_nil, or_false, forall_eq_or_imp, forall_eq]; exact ⟨qb0, qo0⟩) (by simp only [List.mem_cons, List.not_mem_nil, or_false, forall_eq_or_imp, forall_eq]; exact q0) (fun it_ hi_ b_ hb_ => (List.mem_cons.1 hi_).elim (fun e_ => by subst e_; exact List.mem_cons.2 (.inl (List.mem_singleton.1 hb_))) (fun hi_ => by obtain rfl := List.mem_singleton.1 hi_; exact List.mem_cons_of_mem _ hb_)) (List.pairwise_cons.2 ⟨(fun it_ hi_ b_ hb_ hb2_ => by obtain rfl := List.mem_singleton.1 hi_; exact db0 (List.mem_singleton.1 hb_ ▸ hb2_)), List.pairwise_singleton _ _⟩) (fun it_ hi_ b_ hb_ => by obtain rfl := List.mem_singleton.1 hi_; exact dq0 b_ hb_)
  refine sr ?_
  refine s_box (v := .agg (List.toArray (A8.enc .i64 a2))) hC (A8.enc .i64 a2) rfl rfl fun b4 w6 hB_ hC => ?_
  refine dn ?_
  refine wp_seq ?_
  refine wp_seq ?_
  refine cw_draw 9 mixed [0, 1, 3, 7, 15, 0, 32, 96, 224, 511] [3, 4, 8] [0, 1, 2, 5, 6, 7] (by kernel_rfl) (by kernel_rfl) (by kernel_rfl) (fun hM8 hM9 w7 hB_ => ?_)
  replace hC := hC.grow hB_
  refine aF 0 (.pointer (some ⟨b0, 0, none⟩)) rfl rfl (hM9 0 rfl) (rfl) (fun _ => by exact r_mv (v := .pointer (some ⟨b0, 0, none⟩)) rfl) (dbits 10 1) ?_
  refine aF 1 (.pointer (some ⟨b0, 0, none⟩)) rfl rfl (hM9 1 rfl) (rfl) (fun _ => by exact r_nilchk rfl) (dbits 10 3) ?_
  refine aF 2 (.pointer (some ⟨b0, 2, none⟩)) rfl rfl (hM9 2 rfl) (rfl) (fun _ => by exact r_faddrB 2 Tryz.underlying187 rfl sc122.size rfl rfl) (dbits 10 7) ?_
  refine aL 3 (u0_2) rfl rfl (hM8 3 rfl) (rfl) (fun _ hB_ => by exact r_loadS (hC.grow hB_) 1 (u0_2) rfl sc122 rfl rfl) (dbits 10 15) ?_
  obtain ⟨Ad10, c11, hv12⟩ := own_form (hC.getM 2 rfl)
  refine aL 4 (.int .i64 (a0.2.2.length : Int)) rfl rfl (hM8 4 rfl) (rfl) (fun _ hB_ => by exact r_len Tryz.underlying122 (by exact tr rfl hv12)) (dbits 10 31) ?_
  refine aF 5 (.pointer (some ⟨b0, 0, none⟩)) rfl rfl (hM9 5 rfl) (rfl) (fun _ => by exact r_mv (v := .pointer (some ⟨b0, 0, none⟩)) rfl) (dbits 10 63) ?_
  refine aF 6 (.pointer (some ⟨b0, 0, none⟩)) rfl rfl (hM9 6 rfl) (rfl) (fun _ => by exact r_nilchk rfl) (dbits 10 127) ?_
  refine aF 7 (.pointer (some ⟨b0, 1, none⟩)) rfl rfl (hM9 7 rfl) (rfl) (fun _ => by exact r_faddrB 1 Tryz.underlying187 rfl sc3.size rfl rfl) (dbits 10 255) ?_
  refine aL 8 (.int .i64 a0.2.1) rfl rfl (hM8 8 rfl) (rfl) (fun _ hB_ => by exact r_loadS (hC.grow hB_) 1 (.int .i64 a0.2.1) rfl sc3 rfl rfl) (dbits 10 511) ?_
  refine ae_tail 9 (by decide) (by decide) (by kernel_rfl) (by kernel_rfl) rfl ?_
  refine s_gtr rfl rfl ?_
  refine done ?_
  refine qn_norm ?_
  refine then_norm ?_
  refine cw_cond rfl (fun hb13 => ?_) (fun hb13 => ?_)
  ·replace h := ift h (ct hb13)
   refine wp_ret (then_ret ?_)
   refine ret0 (fn := Tryz.f159) rfl  ⟨a0.2.2, u0_2, rfl, h, (hC.getM 1 rfl), (hC.getM 2 rfl), (fun b_ hb_ => (hC.mfp _ (List.mem_of_getElem? (i := 2) rfl) b_ hb_).elim .inr (fun q_ => (List.mem_cons.1 q_).elim (fun e_ => absurd hb_ (fun hb_ => hC.mm 1 2 rfl rfl (by decide) b_ (List.mem_singleton.2 e_) hb_)) .inl)), hC.belO⟩ (.inl rfl)
  ·replace h := iff_ h (cf hb13)
   refine wp_skip ?_
   refine then_norm ?_
   refine wp_seq ?_
   refine sr ?_
   refine s_mv (v := .int .i64 a1) rfl ?_
   refine s_mv (v := .pointer (some ⟨b0, 0, none⟩)) rfl ?_
   refine s_nilchk rfl ?_
   refine s_faddrB 0 Tryz.underlying187 rfl sc22.size rfl rfl ?_
   refine s_loadS hC 1 (u0_0) rfl sc22 rfl rfl ?_
   obtain ⟨Ad14, c15, hv16⟩ := sl_len (hC.getP 0 rfl)
   refine s_len Tryz.underlying22 (tr rfl hv16) ?_
   refine s_eql rfl rfl ?_
   refine dn ?_
   refine cw_cond rfl (fun hb17 => ?_) (fun hb17 => ?_)
   ·replace h := ift h (ct hb17)
    refine wp_seq ?_
    refine sr ?_
    refine s_mv (v := .int .i64 a3) rfl ?_
    refine s_eql rfl rfl ?_
    refine dn ?_
    refine cw_cond rfl (fun hb18 => ?_) (fun hb18 => ?_)
    ·replace h := ift h (ct hb18)
     refine cw_draw 7 mixed [0, 0, 2, 6, 14, 0, 32, 126, 255, 511, 1023] [4, 5] [0, 1, 2, 3] (by kernel_rfl) (by kernel_rfl) (by kernel_rfl) (fun hM20 hM21 w19 hB_ => ?_)
     replace hC := hC.grow hB_
     refine aF 0 (.pointer (some ⟨b0, 0, none⟩)) rfl rfl (hM21 0 rfl) (rfl) (fun _ => by exact r_mv (v := .pointer (some ⟨b0, 0, none⟩)) rfl) (dbits 11 1) ?_
     refine aF 1 (.pointer (some ⟨b0, 0, none⟩)) rfl rfl (hM21 1 rfl) (rfl) (fun _ => by exact r_mv (v := .pointer (some ⟨b0, 0, none⟩)) rfl) (dbits 11 3) ?_
     refine aF 2 (.pointer (some ⟨b0, 0, none⟩)) rfl rfl (hM21 2 rfl) (rfl) (fun _ => by exact r_nilchk rfl) (dbits 11 7) ?_
     refine aF 3 (.pointer (some ⟨b0, 2, none⟩)) rfl rfl (hM21 3 rfl) (rfl) (fun _ => by exact r_faddrB 2 Tryz.underlying187 rfl sc122.size rfl rfl) (dbits 11 15) ?_
     refine aL 4 (u0_2) rfl rfl (hM20 4 rfl) (rfl) (fun _ hB_ => by exact r_loadS (hC.grow hB_) 1 (u0_2) rfl sc122 rfl rfl) (dbits 11 31) ?_
     refine aL 5 (.agg (List.toArray (A8.enc .i64 a2))) rfl rfl (hM20 5 rfl) (rfl) (fun _ hB_ => by exact r_loadA (hC.grow hB_) 0 (A8.enc .i64 a2) rfl ag73 rfl rfl rfl) (dbits 11 63) ?_
     refine aO 6 rfl ?_
     refine s_bslice (sz := 8) hC [(0, .agg (List.toArray (A8.enc .i64 a2)))] ((EA .i64).encs [a2]) rfl (fun _ => bs122_1 a2 _) rfl (by decide) fun b22 w23 hB_ hC => ?_
     refine done ?_
     refine aK (by assumption) (dbits 11 127) ?_
     refine aO 7 rfl ?_
     obtain ⟨hm27, h⟩ := h
     refine s_app hC 3 Tryz.underlying122 el73 rfl (by decide) (by decide) rfl (own_rdr (hC.getM 0 rfl)) (fun q hq => Enc.encs_one' (E := (EA .i64)) _ q hq) rfl rfl hm27 fun v25 w26 hC => ?_
     replace hC := own_re hC 3 ((a0.2.2 ++ [a2]).length) ((EA .i64).encs (a0.2.2 ++ [a2])) rfl (by simp) (by first | (simp [Enc.encs_append]; done) | simp [Enc.encs_append, Enc.encs])
     refine done ?_
     refine ak_introN (by decide) (l9 := (dbits 11 255)) (by kernel_rfl) ?_
     refine ae_tail 8 (by decide) (by decide) (by kernel_rfl) (by kernel_rfl) rfl ?_
     refine s_nilchk rfl ?_
     refine s_faddrB 2 Tryz.underlying187 rfl sc122.size rfl rfl ?_
     refine s_store (v := v25) hC 2 [v25] [u0_0, .int .i64 a0.2.1, v25] rfl sc122.size rfl rfl (own_cellsV (hC.getM 3 rfl)) rfl (all_c (own_oneC (hC.getM 3 rfl)) rfl) (Nat.le_of_ble_eq_true rfl) rfl fun w28 hC => ?_
     refine done ?_
     refine qn_norm ?_
     refine then_norm ?_
     refine wp_ret (then_ret ?_)
     refine ret0 (fn := Tryz.f159) rfl  ⟨a0.2.2 ++ [a2], v25, rfl, h, (hC.getM 2 rfl), (hC.getM 3 rfl), (fun b_ hb_ => (hC.mfp _ (List.mem_of_getElem? (i := 3) rfl) b_ hb_).elim .inr (fun q_ => (List.mem_cons.1 q_).elim (fun e_ => absurd hb_ (fun hb_ => hC.mm 2 3 rfl rfl (by decide) b_ (List.mem_singleton.2 e_) hb_)) .inl)), hC.belO⟩ (.inl rfl)
    ·replace h := iff_ h (cf hb18)
     refine wp_skip ?_
     refine then_norm ?_
     refine wp_ret (then_ret ?_)
     refine ret0 (fn := Tryz.f159) rfl  ⟨a0.2.2, u0_2, rfl, h, (hC.getM 1 rfl), (hC.getM 2 rfl), (fun b_ hb_ => (hC.mfp _ (List.mem_of_getElem? (i := 2) rfl) b_ hb_).elim .inr (fun q_ => (List.mem_cons.1 q_).elim (fun e_ => absurd hb_ (fun hb_ => hC.mm 1 2 rfl rfl (by decide) b_ (List.mem_singleton.2 e_) hb_)) .inl)), hC.belO⟩ (.inl rfl)
   ·replace h := iff_ h (cf hb17)
    refine wp_skip ?_
    refine then_norm ?_
    refine sr ?_
    refine s_mv (v := .pointer (some ⟨b0, 0, none⟩)) rfl ?_
    refine s_nilchk rfl ?_
    refine s_faddrB 0 Tryz.underlying187 rfl sc22.size rfl rfl ?_
    refine s_loadS hC 1 (u0_0) rfl sc22 rfl rfl ?_
    refine s_mv (v := .int .i64 a1) rfl ?_
    obtain ⟨⟨h0_29, h1_30⟩, h⟩ := h
    obtain ⟨Ad31, c32, hv33⟩ := sl_form (hC.getP 0 rfl) a1.toNat (show a1.toNat < a0.1.length by omega)
    refine s_iaddrS (len := a0.1.length) Tryz.underlying22 sc2.size (tr rfl hv33) rfl h0_29 h1_30 ?_
    refine s_loadCS (.int .i64 (a0.1.getD a1.toNat default)) (sl_cellsE (hC.getP 0 rfl) hv33 a1.toNat (show a1.toNat < a0.1.length by omega)) sc2 rfl ?_
    refine s_as (v := .int .i64 (a0.1.getD a1.toNat default)) rfl ?_
    refine dn ?_
    refine sr ?_
    refine s_mv (v := .int .i64 a3) rfl ?_
    refine s_mv (v := .int .i64 (a0.1.getD a1.toNat default)) rfl ?_
    obtain ⟨h0_34, h⟩ := h
    refine s_quo rfl rfl h0_34 ?_
    refine s_min rfl rfl ?_
    refine s_as (v := .int .i64 (if 20 < IntKind.i64.wrap (Int.tdiv a3 (a0.1.getD a1.toNat default)) then 20 else IntKind.i64.wrap (Int.tdiv a3 (a0.1.getD a1.toNat default)))) rfl ?_
    refine dn ?_
    refine wp_seq ?_
    refine sr ?_
    refine s_mv (v := .int .i64 (a0.1.getD a1.toNat default)) rfl ?_
    refine s_rem rfl rfl (by decide) ?_
    refine s_eql rfl rfl ?_
    refine dn ?_
    refine cw_cond rfl (fun hb35 => ?_) (fun hb35 => ?_)
    ·replace h := ift h (ct hb35)
     refine cw_region ?_
     refine s_mv (v := .int .i64 (if 20 < IntKind.i64.wrap (Int.tdiv a3 (a0.1.getD a1.toNat default)) then 20 else IntKind.i64.wrap (Int.tdiv a3 (a0.1.getD a1.toNat default)))) rfl ?_
     refine s_min rfl rfl ?_
     refine s_as (v := .int .i64 (if 1 < (if 20 < IntKind.i64.wrap (Int.tdiv a3 (a0.1.getD a1.toNat default)) then 20 else IntKind.i64.wrap (Int.tdiv a3 (a0.1.getD a1.toNat default))) then 1 else (if 20 < IntKind.i64.wrap (Int.tdiv a3 (a0.1.getD a1.toNat default)) then 20 else IntKind.i64.wrap (Int.tdiv a3 (a0.1.getD a1.toNat default))))) rfl ?_
     refine dn ?_
     refine sr ?_
     refine s_mv (v := .int .i64 (if 1 < (if 20 < IntKind.i64.wrap (Int.tdiv a3 (a0.1.getD a1.toNat default)) then 20 else IntKind.i64.wrap (Int.tdiv a3 (a0.1.getD a1.toNat default))) then 1 else (if 20 < IntKind.i64.wrap (Int.tdiv a3 (a0.1.getD a1.toNat default)) then 20 else IntKind.i64.wrap (Int.tdiv a3 (a0.1.getD a1.toNat default))))) rfl ?_
     refine s_as (v := .int .i64 (if 1 < (if 20 < IntKind.i64.wrap (Int.tdiv a3 (a0.1.getD a1.toNat default)) then 20 else IntKind.i64.wrap (Int.tdiv a3 (a0.1.getD a1.toNat default))) then 1 else (if 20 < IntKind.i64.wrap (Int.tdiv a3 (a0.1.getD a1.toNat default)) then 20 else IntKind.i64.wrap (Int.tdiv a3 (a0.1.getD a1.toNat default))))) rfl ?_
     refine dn ?_
     refine wp_block ?_
     refine loopW (S := A8 × (List A8) × Int) _ (fun s65 e_ w_ => ∃ (v66 : Value), Slots e_ [(0, .pointer (some ⟨b0, 0, none⟩)), (1, .int .i64 a1), (3, .int .i64 a3), (6, .pointer (some ⟨b4, 0, none⟩)), (8, .int .i64 (a0.1.getD a1.toNat default)), (10, .int .i64 s65.2.2)] ∧ Ctx (fun c_ => c_ ∈ b0 :: Option.toList (Value.ownBlock u0_2)) w0 w_ [blk b4 73 (A8.enc .i64 s65.1), blk b0 187 [u0_0, .int .i64 a0.2.1, v66], own 73 8 v66 s65.2.1.length ((EA .i64).encs s65.2.1)] [Ty.item ((EI .i64).ty.sl) a0.1 [u0_0] fp0]) ?_ (s0 := (a2, a0.2.2, (if 1 < (if 20 < IntKind.i64.wrap (Int.tdiv a3 (a0.1.getD a1.toNat default)) then 20 else IntKind.i64.wrap (Int.tdiv a3 (a0.1.getD a1.toNat default))) then 1 else (if 20 < IntKind.i64.wrap (Int.tdiv a3 (a0.1.getD a1.toNat default)) then 20 else IntKind.i64.wrap (Int.tdiv a3 (a0.1.getD a1.toNat default)))))) ?_ h
     ·clear hC h
      rintro s65 e_ w70 next67 K68 ⟨v66, hS_, hC⟩ h hK69
      refine wp_seq ?_
      refine sr ?_
      refine s_mv (v := .int .i64 s65.2.2) (sx hS_ 5 rfl) ?_
      refine s_geq rfl rfl ?_
      refine dn ?_
      refine cw_cond rfl (fun hb71 => ?_) (fun hb71 => ?_)
      ·replace h := ift h (ct hb71)
       refine wp_skip ?_
       refine then_norm ?_
       refine wp_seq ?_
       refine wp_block ?_
       refine sr ?_
       refine s_mv (v := .int .i64 a1) (sx hS_ 1 rfl) ?_
       refine s_mv (v := .int .i64 s65.2.2) (sx hS_ 5 rfl) ?_
       obtain ⟨⟨h0_72, h1_73⟩, h⟩ := h
       refine s_iaddrB a1.toNat Tryz.underlying73 sc3.size (sx hS_ 3 rfl) rfl h0_72 h1_73 (by omega) ?_
       refine s_store (v := .int .i64 s65.2.2) hC 0 [.int .i64 s65.2.2] (A8.enc .i64 (s65.1.set a1.toNat s65.2.2)) rfl sc3.size rfl rfl rfl rfl rfl (show a1.toNat < 8 by omega) (A8.enc_set _ _ _ (show a1.toNat < 8 by omega)) fun w74 hC => ?_
       refine dn ?_
       refine cw_region ?_
       refine s_mv (v := .pointer (some ⟨b0, 0, none⟩)) (sx hS_ 0 rfl) ?_
       refine s_mv (v := .int .i64 a1) (sx hS_ 1 rfl) ?_
       refine s_add rfl rfl ?_
       refine s_loadA hC 0 (A8.enc .i64 (s65.1.set a1.toNat s65.2.2)) rfl ag73 (sx hS_ 3 rfl) rfl rfl ?_
       refine s_mv (v := .int .i64 a3) (sx hS_ 2 rfl) ?_
       refine s_mv (v := .int .i64 s65.2.2) (sx hS_ 5 rfl) ?_
       refine s_mv (v := .int .i64 (a0.1.getD a1.toNat default)) (sx hS_ 4 rfl) ?_
       refine s_mul rfl rfl ?_
       refine s_sub rfl rfl ?_
       replace hC := hC.sM [1, 2, 0] (M' := [blk b0 187 [u0_0, .int .i64 a0.2.1, v66], own 73 8 v66 s65.2.1.length ((EA .i64).encs s65.2.1), blk b4 73 (A8.enc .i64 (s65.1.set a1.toNat s65.2.2))]) (by decide) rfl
       refine s_call [.pointer (some ⟨b0, 0, none⟩), .int .i64 (IntKind.i64.wrap (a1 + 1)), .agg (List.toArray (A8.enc .i64 (s65.1.set a1.toNat s65.2.2))), .int .i64 (IntKind.i64.wrap (a3 - (IntKind.i64.wrap (s65.2.2 * (a0.1.getD a1.toNat default)))))] _ Tryz.func159 rfl rfl rfl (ih_ (⟨a0.1, a0.2.1, s65.2.1⟩ : List Int × Int × List A8) (IntKind.i64.wrap (a1 + 1)) (s65.1.set a1.toNat s65.2.2) (IntKind.i64.wrap (a3 - (IntKind.i64.wrap (s65.2.2 * (a0.1.getD a1.toNat default))))) h _ (hC.getP 0 rfl) (hC.getM 0 rfl) (hC.getM 1 rfl) (fun hb_ => hC.mm 0 1 rfl rfl (by decide) _ (List.mem_singleton_self _) hb_) (fun b_ hb_ hb2_ => (List.mem_cons.1 hb2_).elim (fun e_ => hC.pd _ (List.mem_of_getElem? (i := 0) rfl) b_ hb_ _ (List.mem_of_getElem? (i := 0) rfl) (List.mem_singleton.2 e_)) (fun hb2_ => hC.pd _ (List.mem_of_getElem? (i := 0) rfl) b_ hb_ _ (List.mem_of_getElem? (i := 1) rfl) hb2_))) (fun ret75 w77 hR76 => ?_)
       obtain ⟨m79, v80, rfl, h, hm81, hm82, hm83, hB78⟩ := hR76
       refine ⟨_, rfl, ?_⟩
       replace hC := hC.turnS hB78 hm81 hm82 hm83
       refine done ?_
       refine blk_norm ?_
       refine then_norm ?_
       refine cw_region ?_
       refine s_mv (v := .int .i64 s65.2.2) (sx hS_ 5 rfl) ?_
       refine s_sub rfl rfl ?_
       refine s_as (v := .int .i64 (IntKind.i64.wrap (s65.2.2 - 1))) rfl ?_
       refine done ?_
       replace hC := hC.sM [2, 0, 1] (M' := [blk b4 73 (A8.enc .i64 (s65.1.set a1.toNat s65.2.2)), blk b0 187 [u0_0, .int .i64 a0.2.1, v80], own 73 8 v80 m79.length ((EA .i64).encs m79)]) (by decide) rfl
       exact hK69 (s65.1.set a1.toNat s65.2.2, m79, IntKind.i64.wrap (s65.2.2 - 1)) _ _ ⟨v80, (sk (sx hS_ 0 rfl) (sk (sx hS_ 1 rfl) (sk (sx hS_ 2 rfl) (sk (sx hS_ 3 rfl) (sk (sx hS_ 4 rfl) (sk rfl sn)))))), hC⟩ h
      ·replace h := iff_ h (cf hb71)
       refine wp_exit (then_exit (then_exit (exit_in ?_)))
       refine ret0 (fn := Tryz.f159) rfl  ⟨s65.2.1, v66, rfl, h, (hC.getM 1 rfl), (hC.getM 2 rfl), (fun b_ hb_ => (hC.mfp _ (List.mem_of_getElem? (i := 2) rfl) b_ hb_).elim .inr (fun q_ => (List.mem_cons.1 q_).elim (fun e_ => absurd hb_ (fun hb_ => hC.mm 1 2 rfl rfl (by decide) b_ (List.mem_singleton.2 e_) hb_)) .inl)), hC.belO⟩ (.inr rfl)
     ·skip
      exact ⟨u0_2, (sk rfl (sk rfl (sk rfl (sk rfl (sk rfl (sk rfl sn)))))), hC⟩
    ·replace h := iff_ h (cf hb35)
     refine wp_skip ?_
     refine then_norm ?_
     refine sr ?_
     refine s_mv (v := .int .i64 (if 20 < IntKind.i64.wrap (Int.tdiv a3 (a0.1.getD a1.toNat default)) then 20 else IntKind.i64.wrap (Int.tdiv a3 (a0.1.getD a1.toNat default)))) rfl ?_
     refine s_as (v := .int .i64 (if 20 < IntKind.i64.wrap (Int.tdiv a3 (a0.1.getD a1.toNat default)) then 20 else IntKind.i64.wrap (Int.tdiv a3 (a0.1.getD a1.toNat default)))) rfl ?_
     refine dn ?_
     refine wp_block ?_
     refine loopW (S := A8 × (List A8) × Int) _ (fun s113 e_ w_ => ∃ (v114 : Value), Slots e_ [(0, .pointer (some ⟨b0, 0, none⟩)), (1, .int .i64 a1), (3, .int .i64 a3), (6, .pointer (some ⟨b4, 0, none⟩)), (8, .int .i64 (a0.1.getD a1.toNat default)), (10, .int .i64 s113.2.2)] ∧ Ctx (fun c_ => c_ ∈ b0 :: Option.toList (Value.ownBlock u0_2)) w0 w_ [blk b4 73 (A8.enc .i64 s113.1), blk b0 187 [u0_0, .int .i64 a0.2.1, v114], own 73 8 v114 s113.2.1.length ((EA .i64).encs s113.2.1)] [Ty.item ((EI .i64).ty.sl) a0.1 [u0_0] fp0]) ?_ (s0 := (a2, a0.2.2, (if 20 < IntKind.i64.wrap (Int.tdiv a3 (a0.1.getD a1.toNat default)) then 20 else IntKind.i64.wrap (Int.tdiv a3 (a0.1.getD a1.toNat default))))) ?_ h
     ·clear hC h
      rintro s113 e_ w118 next115 K116 ⟨v114, hS_, hC⟩ h hK117
      refine wp_seq ?_
      refine sr ?_
      refine s_mv (v := .int .i64 s113.2.2) (sx hS_ 5 rfl) ?_
      refine s_geq rfl rfl ?_
      refine dn ?_
      refine cw_cond rfl (fun hb119 => ?_) (fun hb119 => ?_)
      ·replace h := ift h (ct hb119)
       refine wp_skip ?_
       refine then_norm ?_
       refine wp_seq ?_
       refine wp_block ?_
       refine sr ?_
       refine s_mv (v := .int .i64 a1) (sx hS_ 1 rfl) ?_
       refine s_mv (v := .int .i64 s113.2.2) (sx hS_ 5 rfl) ?_
       obtain ⟨⟨h0_120, h1_121⟩, h⟩ := h
       refine s_iaddrB a1.toNat Tryz.underlying73 sc3.size (sx hS_ 3 rfl) rfl h0_120 h1_121 (by omega) ?_
       refine s_store (v := .int .i64 s113.2.2) hC 0 [.int .i64 s113.2.2] (A8.enc .i64 (s113.1.set a1.toNat s113.2.2)) rfl sc3.size rfl rfl rfl rfl rfl (show a1.toNat < 8 by omega) (A8.enc_set _ _ _ (show a1.toNat < 8 by omega)) fun w122 hC => ?_
       refine dn ?_
       refine cw_region ?_
       refine s_mv (v := .pointer (some ⟨b0, 0, none⟩)) (sx hS_ 0 rfl) ?_
       refine s_mv (v := .int .i64 a1) (sx hS_ 1 rfl) ?_
       refine s_add rfl rfl ?_
       refine s_loadA hC 0 (A8.enc .i64 (s113.1.set a1.toNat s113.2.2)) rfl ag73 (sx hS_ 3 rfl) rfl rfl ?_
       refine s_mv (v := .int .i64 a3) (sx hS_ 2 rfl) ?_
       refine s_mv (v := .int .i64 s113.2.2) (sx hS_ 5 rfl) ?_
       refine s_mv (v := .int .i64 (a0.1.getD a1.toNat default)) (sx hS_ 4 rfl) ?_
       refine s_mul rfl rfl ?_
       refine s_sub rfl rfl ?_
       replace hC := hC.sM [1, 2, 0] (M' := [blk b0 187 [u0_0, .int .i64 a0.2.1, v114], own 73 8 v114 s113.2.1.length ((EA .i64).encs s113.2.1), blk b4 73 (A8.enc .i64 (s113.1.set a1.toNat s113.2.2))]) (by decide) rfl
       refine s_call [.pointer (some ⟨b0, 0, none⟩), .int .i64 (IntKind.i64.wrap (a1 + 1)), .agg (List.toArray (A8.enc .i64 (s113.1.set a1.toNat s113.2.2))), .int .i64 (IntKind.i64.wrap (a3 - (IntKind.i64.wrap (s113.2.2 * (a0.1.getD a1.toNat default)))))] _ Tryz.func159 rfl rfl rfl (ih_ (⟨a0.1, a0.2.1, s113.2.1⟩ : List Int × Int × List A8) (IntKind.i64.wrap (a1 + 1)) (s113.1.set a1.toNat s113.2.2) (IntKind.i64.wrap (a3 - (IntKind.i64.wrap (s113.2.2 * (a0.1.getD a1.toNat default))))) h _ (hC.getP 0 rfl) (hC.getM 0 rfl) (hC.getM 1 rfl) (fun hb_ => hC.mm 0 1 rfl rfl (by decide) _ (List.mem_singleton_self _) hb_) (fun b_ hb_ hb2_ => (List.mem_cons.1 hb2_).elim (fun e_ => hC.pd _ (List.mem_of_getElem? (i := 0) rfl) b_ hb_ _ (List.mem_of_getElem? (i := 0) rfl) (List.mem_singleton.2 e_)) (fun hb2_ => hC.pd _ (List.mem_of_getElem? (i := 0) rfl) b_ hb_ _ (List.mem_of_getElem? (i := 1) rfl) hb2_))) (fun ret123 w125 hR124 => ?_)
       obtain ⟨m127, v128, rfl, h, hm129, hm130, hm131, hB126⟩ := hR124
       refine ⟨_, rfl, ?_⟩
       replace hC := hC.turnS hB126 hm129 hm130 hm131
       refine done ?_
       refine blk_norm ?_
       refine then_norm ?_
       refine cw_region ?_
       refine s_mv (v := .int .i64 s113.2.2) (sx hS_ 5 rfl) ?_
       refine s_sub rfl rfl ?_
       refine s_as (v := .int .i64 (IntKind.i64.wrap (s113.2.2 - 1))) rfl ?_
       refine done ?_
       replace hC := hC.sM [2, 0, 1] (M' := [blk b4 73 (A8.enc .i64 (s113.1.set a1.toNat s113.2.2)), blk b0 187 [u0_0, .int .i64 a0.2.1, v128], own 73 8 v128 m127.length ((EA .i64).encs m127)]) (by decide) rfl
       exact hK117 (s113.1.set a1.toNat s113.2.2, m127, IntKind.i64.wrap (s113.2.2 - 1)) _ _ ⟨v128, (sk (sx hS_ 0 rfl) (sk (sx hS_ 1 rfl) (sk (sx hS_ 2 rfl) (sk (sx hS_ 3 rfl) (sk (sx hS_ 4 rfl) (sk rfl sn)))))), hC⟩ h
      ·replace h := iff_ h (cf hb119)
       refine wp_exit (then_exit (then_exit (exit_in ?_)))
       refine ret0 (fn := Tryz.f159) rfl  ⟨s113.2.1, v114, rfl, h, (hC.getM 1 rfl), (hC.getM 2 rfl), (fun b_ hb_ => (hC.mfp _ (List.mem_of_getElem? (i := 2) rfl) b_ hb_).elim .inr (fun q_ => (List.mem_cons.1 q_).elim (fun e_ => absurd hb_ (fun hb_ => hC.mm 1 2 rfl rfl (by decide) b_ (List.mem_singleton.2 e_) hb_)) .inl)), hC.belO⟩ (.inr rfl)
     ·skip
      exact ⟨u0_2, (sk rfl (sk rfl (sk rfl (sk rfl (sk rfl (sk rfl sn)))))), hC⟩
def f_impl_monomials (a0 : List Int) (a1 : Int) (a2 : Int) (K : List A8 → Bool → Prop) : Prop :=
 (if a1 ≥ 0 then f_impl_lister_from 9 (⟨a0, a2, []⟩ : List Int × Int × List A8) 0 A8.zero a1 (fun m11 => K m11 (decide ((m11.length : Int) ≤ a2))) else K [] (decide (0 ≤ a2)))
theorem c_impl_monomials (a0 : List Int) (a1 : Int) (a2 : Int) {u0_0 : Value} {fp0 : List Nat} {K : List A8 → Bool → Prop} (h : f_impl_monomials a0 a1 a2 K) (w0 : World) (q0 : ((EI .i64).ty.sl).rep a0 [u0_0] fp0 w0) :
  Calls Tryz.prog 100 #[u0_0, .int .i64 a1, .int .i64 a2] w0 fun e w' => ∃ (r0 : List A8) (z0_0 : Value) (fz0 : List Nat) (r1 : Bool), 
   e = .returned (.tuple #[z0_0, .bool r1]) ∧ K r0 r1 ∧ (Tr.item (Tr.sl 73 ((EA .i64).tr)) r0 [z0_0] fz0).holds w' ∧ (∀ b, b ∈ fz0 → w0.heap.size ≤ b) ∧ Bel w0 w' := by
 unfold f_impl_monomials at h
 refine calls_of (args := [u0_0, .int .i64 a1, .int .i64 a2]) Tryz.func100 rfl 30 Tryz.ntmps100 (Nat.le_of_ble_eq_true rfl) ?_
 have hC := Ctx.start (X := Nox) w0 [Ty.item ((EI .i64).ty.sl) a0 [u0_0] fp0] (by simp only [List.mem_cons, List.not_mem_nil, or_false, forall_eq_or_imp, forall_eq]; exact q0)
 refine sr ?_
 refine s_as (v := .slice none 0 0) rfl ?_
 refine s_as (v := .bool false) rfl ?_
 refine dn ?_
 refine sr ?_
 refine s_mv (v := u0_0) rfl ?_
 refine s_mv (v := .int .i64 a2) rfl ?_
 refine s_build [(0, u0_0), (1, .int .i64 a2)] rfl (bl187_0sl_1int u0_0 a2 (rep_isSl (hC.getP 0 rfl)) _) ?_
 refine s_box (v := .agg #[u0_0, .int .i64 a2, .slice none 0 0]) hC [u0_0, .int .i64 a2, .slice none 0 0] rfl rfl fun b2 w4 hB_ hC => ?_
 refine s_as (v := .pointer (some ⟨b2, 0, none⟩)) rfl ?_
 refine dn ?_
 refine wp_seq ?_
 refine sr ?_
 refine s_mv (v := .int .i64 a1) rfl ?_
 refine s_geq rfl rfl ?_
 refine dn ?_
 refine cw_cond rfl (fun hb5 => ?_) (fun hb5 => ?_)
 ·replace h := ift h (ct hb5)
  refine cw_region ?_
  refine s_mv (v := .pointer (some ⟨b2, 0, none⟩)) rfl ?_
  refine s_build [] rfl (bl73   _) ?_
  refine s_mv (v := .int .i64 a1) rfl ?_
  replace hC := hC.pushNil 73 8
  replace hC := hC.sM [1, 0] (M' := [blk b2 187 [u0_0, .int .i64 a2, .slice none 0 0], own 73 8 (.slice none 0 0) 0 ((EA .i64).encs [])]) (by decide) rfl
  refine s_call [.pointer (some ⟨b2, 0, none⟩), .int .i64 0, .agg (List.toArray (A8.enc .i64 A8.zero)), .int .i64 a1] _ Tryz.func159 rfl rfl rfl (c_impl_lister_from 9 (⟨a0, a2, []⟩ : List Int × Int × List A8) 0 A8.zero a1 h _ (hC.getP 0 rfl) (hC.getM 0 rfl) (hC.getM 1 rfl) (fun hb_ => hC.mm 0 1 rfl rfl (by decide) _ (List.mem_singleton_self _) hb_) (fun b_ hb_ hb2_ => (List.mem_cons.1 hb2_).elim (fun e_ => hC.pd _ (List.mem_of_getElem? (i := 0) rfl) b_ hb_ _ (List.mem_of_getElem? (i := 0) rfl) (List.mem_singleton.2 e_)) (fun hb2_ => hC.pd _ (List.mem_of_getElem? (i := 0) rfl) b_ hb_ _ (List.mem_of_getElem? (i := 1) rfl) hb2_))) (fun ret7 w9 hR8 => ?_)
  obtain ⟨m11, v12, rfl, h, hm13, hm14, hm15, hB10⟩ := hR8
  refine ⟨_, rfl, ?_⟩
  replace hC := hC.turnS hB10 hm13 hm14 hm15
  refine dn ?_
  refine wp_seq ?_
  refine cw_draw 12 mixed [0, 1, 3, 7, 0, 16, 48, 112, 240, 0, 1008, 15, 4095] [3, 7, 8] [0, 1, 2, 4, 5, 6, 9, 10, 11] (by kernel_rfl) (by kernel_rfl) (by kernel_rfl) (fun hM17 hM18 w16 hB_ => ?_)
  replace hC := hC.grow hB_
  refine aF 0 (.pointer (some ⟨b2, 0, none⟩)) rfl rfl (hM18 0 rfl) (rfl) (fun _ => by exact r_mv (v := .pointer (some ⟨b2, 0, none⟩)) rfl) (dbits 13 1) ?_
  refine aF 1 (.pointer (some ⟨b2, 0, none⟩)) rfl rfl (hM18 1 rfl) (rfl) (fun _ => by exact r_nilchk rfl) (dbits 13 3) ?_
  refine aF 2 (.pointer (some ⟨b2, 2, none⟩)) rfl rfl (hM18 2 rfl) (rfl) (fun _ => by exact r_faddrB 2 Tryz.underlying187 rfl sc122.size rfl rfl) (dbits 13 7) ?_
  refine aL 3 (v12) rfl rfl (hM17 3 rfl) (rfl) (fun _ hB_ => by exact r_loadS (hC.grow hB_) 0 (v12) rfl sc122 rfl rfl) (dbits 13 15) ?_
  refine aF 4 (.pointer (some ⟨b2, 0, none⟩)) rfl rfl (hM18 4 rfl) (rfl) (fun _ => by exact r_mv (v := .pointer (some ⟨b2, 0, none⟩)) rfl) (dbits 13 31) ?_
  refine aF 5 (.pointer (some ⟨b2, 0, none⟩)) rfl rfl (hM18 5 rfl) (rfl) (fun _ => by exact r_nilchk rfl) (dbits 13 63) ?_
  refine aF 6 (.pointer (some ⟨b2, 2, none⟩)) rfl rfl (hM18 6 rfl) (rfl) (fun _ => by exact r_faddrB 2 Tryz.underlying187 rfl sc122.size rfl rfl) (dbits 13 127) ?_
  refine aL 7 (v12) rfl rfl (hM17 7 rfl) (rfl) (fun _ hB_ => by exact r_loadS (hC.grow hB_) 0 (v12) rfl sc122 rfl rfl) (dbits 13 255) ?_
  obtain ⟨Ad19, c20, hv21⟩ := own_form (hC.getM 1 rfl)
  refine aL 8 (.int .i64 (m11.length : Int)) rfl rfl (hM17 8 rfl) (rfl) (fun _ hB_ => by exact r_len Tryz.underlying122 (by exact tr rfl hv21)) (dbits 13 511) ?_
  refine aF 9 (.int .i64 a2) rfl rfl (hM18 9 rfl) (rfl) (fun _ => by exact r_mv (v := .int .i64 a2) rfl) (dbits 13 1023) ?_
  refine aF 10 (.bool (decide ((m11.length : Int) ≤ a2))) rfl rfl (hM18 10 rfl) (rfl) (fun _ => by exact r_leq rfl rfl) (dbits 13 2047) ?_
  refine aF 11 (v12) rfl rfl (hM18 11 rfl) (rfl) (fun _ => by exact r_as (v := v12) rfl) (dbits 13 4095) ?_
  refine ae_tail 12 (by decide) (by decide) (by kernel_rfl) (by kernel_rfl) rfl ?_
  refine s_as (v := .bool (decide ((m11.length : Int) ≤ a2))) rfl ?_
  refine done ?_
  refine qn_norm ?_
  refine then_norm ?_
  refine wp_ret ?_
  refine ret2 (fn := Tryz.f100) rfl ?_ ?_ ⟨m11, v12, (Option.toList (Value.ownBlock v12)), decide ((m11.length : Int) ≤ a2), rfl, h, (own_item (hC.getM 1 rfl)), (own_fresh hC 1 rfl), hC.below⟩ (.inl rfl)
  ·exact res_tmp rfl
  ·exact res_tmp rfl
 ·replace h := iff_ h (cf hb5)
  refine wp_skip ?_
  refine then_norm ?_
  refine wp_seq ?_
  refine cw_draw 12 mixed [0, 1, 3, 7, 0, 16, 48, 112, 240, 0, 1008, 15, 4095] [3, 7, 8] [0, 1, 2, 4, 5, 6, 9, 10, 11] (by kernel_rfl) (by kernel_rfl) (by kernel_rfl) (fun hM23 hM24 w22 hB_ => ?_)
  replace hC := hC.grow hB_
  refine aF 0 (.pointer (some ⟨b2, 0, none⟩)) rfl rfl (hM24 0 rfl) (rfl) (fun _ => by exact r_mv (v := .pointer (some ⟨b2, 0, none⟩)) rfl) (dbits 13 1) ?_
  refine aF 1 (.pointer (some ⟨b2, 0, none⟩)) rfl rfl (hM24 1 rfl) (rfl) (fun _ => by exact r_nilchk rfl) (dbits 13 3) ?_
  refine aF 2 (.pointer (some ⟨b2, 2, none⟩)) rfl rfl (hM24 2 rfl) (rfl) (fun _ => by exact r_faddrB 2 Tryz.underlying187 rfl sc122.size rfl rfl) (dbits 13 7) ?_
  refine aL 3 (.slice none 0 0) rfl rfl (hM23 3 rfl) (rfl) (fun _ hB_ => by exact r_loadS (hC.grow hB_) 0 (.slice none 0 0) rfl sc122 rfl rfl) (dbits 13 15) ?_
  refine aF 4 (.pointer (some ⟨b2, 0, none⟩)) rfl rfl (hM24 4 rfl) (rfl) (fun _ => by exact r_mv (v := .pointer (some ⟨b2, 0, none⟩)) rfl) (dbits 13 31) ?_
  refine aF 5 (.pointer (some ⟨b2, 0, none⟩)) rfl rfl (hM24 5 rfl) (rfl) (fun _ => by exact r_nilchk rfl) (dbits 13 63) ?_
  refine aF 6 (.pointer (some ⟨b2, 2, none⟩)) rfl rfl (hM24 6 rfl) (rfl) (fun _ => by exact r_faddrB 2 Tryz.underlying187 rfl sc122.size rfl rfl) (dbits 13 127) ?_
  refine aL 7 (.slice none 0 0) rfl rfl (hM23 7 rfl) (rfl) (fun _ hB_ => by exact r_loadS (hC.grow hB_) 0 (.slice none 0 0) rfl sc122 rfl rfl) (dbits 13 255) ?_
  refine aL 8 (.int .i64 0) rfl rfl (hM23 8 rfl) (rfl) (fun _ hB_ => by exact r_len Tryz.underlying122 rfl) (dbits 13 511) ?_
  refine aF 9 (.int .i64 a2) rfl rfl (hM24 9 rfl) (rfl) (fun _ => by exact r_mv (v := .int .i64 a2) rfl) (dbits 13 1023) ?_
  refine aF 10 (.bool (decide (0 ≤ a2))) rfl rfl (hM24 10 rfl) (rfl) (fun _ => by exact r_leq rfl rfl) (dbits 13 2047) ?_
  refine aF 11 (.slice none 0 0) rfl rfl (hM24 11 rfl) (rfl) (fun _ => by exact r_as (v := .slice none 0 0) rfl) (dbits 13 4095) ?_
  refine ae_tail 12 (by decide) (by decide) (by kernel_rfl) (by kernel_rfl) rfl ?_
  refine s_as (v := .bool (decide (0 ≤ a2))) rfl ?_
  refine done ?_
  refine qn_norm ?_
  refine then_norm ?_
  refine wp_ret ?_
  refine ret2 (fn := Tryz.f100) rfl ?_ ?_ ⟨[], .slice none 0 0, [], decide (0 ≤ a2), rfl, h, (nil_item _ _ _), (fun b hb => absurd hb (by simp)), hC.below⟩ (.inl rfl)
  ·exact res_tmp rfl
  ·exact res_tmp rfl
def f_impl_Algebra_elementaries (a0 : Alg) (a1 : Int) (K : List Elem → Int → Prop) : Prop :=
 forN (fun i219 (s220 : (List Elem)) next223 => f_impl_monomials a0.degrees (IntKind.i64.wrap ((a0.degrees.getD i219 default) - a1)) 120 (fun r234 r239 => (if ¬ (r239 = true) then K [] 3 else (if IntKind.i64.wrap ((s220.length : Int) + (r234.length : Int)) > 120 then K [] 3 else forN (fun i305 (s306 : (List Elem)) next309 => (Room (s306.length + 1) 72 ∧ next309 (s306 ++ [(⟨(i219 : Int), r234.getD i305 default⟩ : Elem)]))) (fun (s306 : (List Elem)) => next223 s306) r234.length 0 s220)))) (fun (s220 : (List Elem)) => K s220 0) a0.degrees.length 0 []
theorem c_impl_Algebra_elementaries (a0 : Alg) (a1 : Int) {b0 : Nat} {u0_0 : Value} {u0_1 : Value} {fp0 : List Nat} {K : List Elem → Int → Prop} (h : f_impl_Algebra_elementaries a0 a1 K) (w0 : World) (q0 : TAlg.rep a0 [u0_0, u0_1] fp0 w0) (qb0 : (blk b0 32 [u0_0, u0_1]).holds w0) :
  Calls Tryz.prog 47 #[.pointer (some ⟨b0, 0, none⟩), .int .i64 a1] w0 fun e w' => ∃ (r0 : List Elem) (z0_0 : Value) (fz0 : List Nat) (r1 : Int), 
   e = .returned (.tuple #[z0_0, .int .i64 r1]) ∧ K r0 r1 ∧ (Tr.item (Tr.sl 75 EElem.tr) r0 [z0_0] fz0).holds w' ∧ (∀ b, b ∈ fz0 → w0.heap.size ≤ b) ∧ Bel w0 w' := by
 unfold f_impl_Algebra_elementaries at h
 refine calls_of (args := [.pointer (some ⟨b0, 0, none⟩), .int .i64 a1]) Tryz.func47 rfl 60 Tryz.ntmps47 (Nat.le_of_ble_eq_true rfl) ?_
 have hC := Ctx.start (X := Nox) w0 [Ty.item TAlg a0 [u0_0, u0_1] fp0, blk b0 32 [u0_0, u0_1]] (by simp only [List.mem_cons, List.not_mem_nil, or_false, forall_eq_or_imp, forall_eq]; exact ⟨q0, qb0⟩)
 have hp3 := (hC.getP 0 rfl)
 replace hC := hC.derive 0 rfl (Ty.item ((EI .i64).ty.sl) a0.degrees [u0_0] fp0) (fun _ => (alg_parts hp3).1) (fun _ hb_ => hb_)
 replace hC := hC.derive 1 rfl (Ty.item TForm.sl a0.images [u0_1] fp0) (fun _ => (alg_parts hp3).2) (fun _ hb_ => hb_)
 refine sr ?_
 refine s_as (v := .slice none 0 0) rfl ?_
 refine s_as (v := .int .i64 0) rfl ?_
 refine dn ?_
 refine sr ?_
 refine s_bslice (sz := 9) hC [] (EElem.encs []) rfl (fun _ => bs69_0  _) rfl (by decide) fun b6 w7 hB_ hC => ?_
 refine s_as (v := .slice (some ⟨b6, 0, none⟩) 0 0) rfl ?_
 refine dn ?_
 refine wp_seq ?_
 refine sr ?_
 refine s_mv (v := .pointer (some ⟨b0, 0, none⟩)) rfl ?_
 refine s_nilchk rfl ?_
 refine s_faddrB 0 Tryz.underlying32 rfl sc22.size rfl rfl ?_
 refine s_loadSh (u0_0) (hC.getP 3 rfl) sc22 rfl rfl ?_
 obtain ⟨Ad9, c10, hv11⟩ := sl_len (hC.getP 1 rfl)
 refine s_len Tryz.underlying22 (tr rfl hv11) ?_
 refine s_mv (v := .int .i64 0) rfl ?_
 refine dn ?_
 refine wp_block ?_
 have hN222 : a0.degrees.length ≤ 9223372036854775807 := sl_max (hC.getP 1 rfl)
 refine loopN (S := (List Elem)) _ _ (fun i219 s220 e_ w_ => ∃ (v221 : Value), Slots e_ [(0, .pointer (some ⟨b0, 0, none⟩)), (1, .int .i64 a1), (4, .slice none 0 0), (5, .int .i64 0), (6, v221), (17, u0_0), (18, .int .i64 (a0.degrees.length : Int)), (19, .int .i64 (i219 : Int))] ∧ Ctx Nox w0 w_ [own 75 9 v221 s220.length (EElem.encs s220)] [Ty.item TForm.sl a0.images [u0_1] fp0, Ty.item ((EI .i64).ty.sl) a0.degrees [u0_0] fp0, Ty.item TAlg a0 [u0_0, u0_1] fp0, blk b0 32 [u0_0, u0_1]]) a0.degrees.length ?_ ?_ (s0 := []) ?_ h
 ·clear hC h
  rintro i219 s220 e_ w227 next223 K224 hi226 ⟨v221, hS_, hC⟩ h hK225
  refine sr ?_
  refine s_lss (sx hS_ 7 rfl) (sx hS_ 6 rfl) ?_
  refine dn ?_
  refine wp_seq ?_
  refine cw_true rfl (decide_eq_true (by omega)) ?_
  refine wp_skip ?_
  refine then_norm ?_
  refine wp_seq ?_
  refine wp_block ?_
  refine sr ?_
  refine s_mv (v := .int .i64 (i219 : Int)) (sx hS_ 7 rfl) ?_
  obtain ⟨Ad228, c229, hv230⟩ := sl_form (hC.getP 1 rfl) i219 hi226
  refine s_iaddrS (len := a0.degrees.length) Tryz.underlying22 sc2.size (tr (sx hS_ 5 rfl) hv230) (sx hS_ 7 rfl) (Int.natCast_nonneg _) (Int.ofNat_lt.2 hi226) ?_
  refine s_loadCS (.int .i64 (a0.degrees.getD i219 default)) (sl_cellsE (hC.getP 1 rfl) hv230 i219 hi226) sc2 rfl ?_
  refine s_as (v := .int .i64 (i219 : Int)) rfl ?_
  refine s_as (v := .int .i64 (a0.degrees.getD i219 default)) rfl ?_
  refine dn ?_
  refine sr ?_
  refine s_mv (v := .pointer (some ⟨b0, 0, none⟩)) (sx hS_ 0 rfl) ?_
  refine s_nilchk rfl ?_
  refine s_faddrB 0 Tryz.underlying32 rfl sc22.size rfl rfl ?_
  refine s_loadSh (u0_0) (hC.getP 3 rfl) sc22 rfl rfl ?_
  refine s_mv (v := .int .i64 (a0.degrees.getD i219 default)) rfl ?_
  refine s_mv (v := .int .i64 a1) (sx hS_ 1 rfl) ?_
  refine s_sub rfl rfl ?_
  refine s_call [u0_0, .int .i64 (IntKind.i64.wrap ((a0.degrees.getD i219 default) - a1)), .int .i64 120] _ Tryz.func100 rfl rfl rfl (c_impl_monomials a0.degrees (IntKind.i64.wrap ((a0.degrees.getD i219 default) - a1)) 120 h _ (hC.getP 1 rfl)) (fun ret231 w233 hR232 => ?_)
  obtain ⟨r234, u235, f236, r239, rfl, h, hr237, hf238, hB240⟩ := hR232
  refine ⟨_, rfl, ?_⟩
  replace hC := hC.push hB240 (Tr.item (Tr.sl 73 ((EA .i64).tr)) r234 [u235] f236) hr237 hf238
  obtain ⟨ho242, hf243⟩ := flat_tr (hC.getM 0 rfl).1
  subst hf243
  replace hC := hC.recast (c := own 73 8 u235 r234.length ((EA .i64).encs r234)) (fun _ h_ => h_) (fun _ => ho242)
  refine s_mv (v := .tuple #[u235, .bool r239]) rfl ?_
  refine s_ext (v := u235) rfl rfl ?_
  refine s_ext (v := .bool r239) rfl rfl ?_
  refine s_as (v := u235) rfl ?_
  refine s_as (v := .bool r239) rfl ?_
  refine dn ?_
  refine wp_seq ?_
  refine sr ?_
  refine s_mv (v := .bool r239) rfl ?_
  refine s_not rfl ?_
  refine s_mv (v := .bool (!r239)) rfl ?_
  refine bsplit (!r239) (fun hb245 => ?_) (fun hb245 => ?_)
  ·replace h := ift h (ne_t (not_t hb245))
   refine guardOff (b := true) 2 37 rfl (tr rfl (congrArg _ hb245)) (by decide) ?_
   refine guardOff (b := true) 2 37 rfl (tr rfl (congrArg _ hb245)) (by decide) ?_
   refine guardOff (b := true) 2 37 rfl (tr rfl (congrArg _ hb245)) (by decide) ?_
   refine guardOff (b := true) 2 37 rfl (tr rfl (congrArg _ hb245)) (by decide) ?_
   refine guardOff (b := true) 2 37 rfl (tr rfl (congrArg _ hb245)) (by decide) ?_
   refine guardOff (b := true) 2 37 rfl (tr rfl (congrArg _ hb245)) (by decide) ?_
   refine s_pick (v := .bool true) (b := true) (tr rfl (congrArg _ hb245)) rfl ?_
   refine dn ?_
   refine cw_true rfl rfl ?_
   refine sr ?_
   refine s_as (v := .slice none 0 0) rfl ?_
   refine s_as (v := .int .i64 3) rfl ?_
   refine dn ?_
   refine wp_ret (then_ret (blk_ret (then_ret (then_ret (blk_ret (then_ret ?_))))))
   refine ret2 (fn := Tryz.f47) rfl ?_ ?_ ⟨[], .slice none 0 0, [], 3, rfl, h, (nil_item _ _ _), (fun b hb => absurd hb (by simp)), hC.below⟩ (.inl rfl)
   ·exact res_tmp rfl
   ·exact res_tmp rfl
  ·replace h := iff_ h (not_not_intro ((not_f hb245)))
   refine guardOn 2 37 rfl rfl hb245 ?_
   refine s_mv (v := v221) (sx hS_ 4 rfl) ?_
   refine guardOn 2 37 rfl rfl hb245 ?_
   obtain ⟨Ad246, c247, hv248⟩ := own_form (hC.getM 1 rfl)
   refine s_len Tryz.underlying69 (tr rfl hv248) ?_
   refine guardOn 2 37 rfl rfl hb245 ?_
   refine s_mv (v := u235) rfl ?_
   refine guardOn 2 37 rfl rfl hb245 ?_
   obtain ⟨Ad249, c250, hv251⟩ := own_form (hC.getM 0 rfl)
   refine s_len Tryz.underlying122 (tr rfl hv251) ?_
   refine guardOn 2 37 rfl rfl hb245 ?_
   refine s_add rfl rfl ?_
   refine guardOn 2 37 rfl rfl hb245 ?_
   refine s_gtr rfl rfl ?_
   refine s_pick (v := .bool (decide (IntKind.i64.wrap ((s220.length : Int) + (r234.length : Int)) > 120))) (b := false) (tr rfl (congrArg _ hb245)) rfl ?_
   refine dn ?_
   refine cw_cond rfl (fun hb252 => ?_) (fun hb252 => ?_)
   ·replace h := ift h (ct hb252)
    refine sr ?_
    refine s_as (v := .slice none 0 0) rfl ?_
    refine s_as (v := .int .i64 3) rfl ?_
    refine dn ?_
    refine wp_ret (then_ret (blk_ret (then_ret (then_ret (blk_ret (then_ret ?_))))))
    refine ret2 (fn := Tryz.f47) rfl ?_ ?_ ⟨[], .slice none 0 0, [], 3, rfl, h, (nil_item _ _ _), (fun b hb => absurd hb (by simp)), hC.below⟩ (.inl rfl)
    ·exact res_tmp rfl
    ·exact res_tmp rfl
   ·replace h := iff_ h (cf hb252)
    refine wp_skip ?_
    refine then_norm ?_
    refine sr ?_
    refine s_mv (v := u235) rfl ?_
    obtain ⟨Ad253, c254, hv255⟩ := own_form (hC.getM 0 rfl)
    refine s_len Tryz.underlying122 (tr rfl hv255) ?_
    refine s_mv (v := .int .i64 0) rfl ?_
    refine dn ?_
    refine wp_block ?_
    have hN308 : r234.length ≤ 9223372036854775807 := own_max (hC.getM 0 rfl)
    refine loopN (S := (List Elem)) _ _ (fun i305 s306 e_ w_ => ∃ (v307 : Value), Slots e_ [(0, .pointer (some ⟨b0, 0, none⟩)), (1, .int .i64 a1), (4, .slice none 0 0), (5, .int .i64 0), (6, v307), (7, .int .i64 (i219 : Int)), (8, .int .i64 (a0.degrees.getD i219 default)), (9, u235), (10, .bool r239), (17, u0_0), (18, .int .i64 (a0.degrees.length : Int)), (19, .int .i64 (i219 : Int)), (20, .bool (decide ((i219 : Int) < (a0.degrees.length : Int)))), (21, .int .i64 (i219 : Int)), (22, .pointer (some (Ad228.add (i219 * 1)))), (23, .int .i64 (a0.degrees.getD i219 default)), (24, .tuple #[u235, .bool r239]), (25, .pointer (some ⟨b0, 0, none⟩)), (26, .pointer (some ⟨b0, 0, none⟩)), (27, .pointer (some ⟨b0, 0, none⟩)), (28, u0_0), (29, .int .i64 (a0.degrees.getD i219 default)), (30, .int .i64 a1), (31, .int .i64 (IntKind.i64.wrap ((a0.degrees.getD i219 default) - a1))), (32, .tuple #[u235, .bool r239]), (33, u235), (34, .bool r239), (35, .bool r239), (36, .bool (!r239)), (37, .bool (!r239)), (39, .int .i64 (s220.length : Int)), (40, u235), (41, .int .i64 (r234.length : Int)), (42, .int .i64 (IntKind.i64.wrap ((s220.length : Int) + (r234.length : Int)))), (43, .bool (decide (IntKind.i64.wrap ((s220.length : Int) + (r234.length : Int)) > 120))), (44, .bool (decide (IntKind.i64.wrap ((s220.length : Int) + (r234.length : Int)) > 120))), (45, u235), (46, .int .i64 (r234.length : Int)), (47, .int .i64 (i305 : Int))] ∧ Ctx Nox w0 w_ [own 73 8 u235 r234.length ((EA .i64).encs r234), own 75 9 v307 s306.length (EElem.encs s306)] [Ty.item TForm.sl a0.images [u0_1] fp0, Ty.item ((EI .i64).ty.sl) a0.degrees [u0_0] fp0, Ty.item TAlg a0 [u0_0, u0_1] fp0, blk b0 32 [u0_0, u0_1]]) r234.length ?_ ?_ (s0 := s220) ?_ h
    ·clear hC h
     rintro i305 s306 e_ w313 next309 K310 hi312 ⟨v307, hS_, hC⟩ h hK311
     refine sr ?_
     refine s_lss (sx hS_ 38 rfl) (sx hS_ 37 rfl) ?_
     refine dn ?_
     refine wp_seq ?_
     refine cw_true rfl (decide_eq_true (by omega)) ?_
     refine wp_skip ?_
     refine then_norm ?_
     refine wp_seq ?_
     refine wp_block ?_
     refine sr ?_
     obtain ⟨Ad314, c315, hv316⟩ := own_formE (hC.getM 0 rfl) (Nat.lt_of_le_of_lt (Nat.zero_le _) hi312)
     refine s_iaddrO (i305 * 8) Tryz.underlying122 ag73.size (tr (sx hS_ 36 rfl) hv316) (sx hS_ 38 rfl) (Int.natCast_nonneg _) (Int.ofNat_lt.2 hi312) rfl ?_
     refine s_loadCA (A8.enc .i64 (r234.getD i305 default)) (own_cellsE (hC.getM 0 rfl) hv316 i305 hi312) ag73 rfl rfl ?_
     refine s_alloc hC (A8.enc .i64 A8.zero) z73 rfl fun b317 w319 hB_ hC => ?_
     refine s_store (v := .agg (List.toArray (A8.enc .i64 (r234.getD i305 default)))) hC 0 (A8.enc .i64 (r234.getD i305 default)) (A8.enc .i64 (r234.getD i305 default)) rfl ag73.size rfl rfl rfl rfl rfl (Nat.le_of_ble_eq_true rfl) rfl fun w320 hC => ?_
     refine dn ?_
     refine cw_region ?_
     refine s_mv (v := v307) (sx hS_ 4 rfl) ?_
     refine s_mv (v := .int .i64 (i219 : Int)) (sx hS_ 5 rfl) ?_
     refine s_loadA hC 0 (A8.enc .i64 (r234.getD i305 default)) rfl ag73 rfl rfl rfl ?_
     refine s_build [(0, .int .i64 (i219 : Int)), (1, .agg (List.toArray (A8.enc .i64 (r234.getD i305 default))))] rfl (bl75_0int_1flat (i219 : Int) (r234.getD i305 default)  _) ?_
     refine s_bslice (sz := 9) hC [(0, .agg (List.toArray (Elem.enc (⟨(i219 : Int), r234.getD i305 default⟩ : Elem))))] (EElem.encs [(⟨(i219 : Int), r234.getD i305 default⟩ : Elem)]) rfl (fun _ => bs69_1 (⟨(i219 : Int), r234.getD i305 default⟩ : Elem) _) rfl (by decide) fun b321 w322 hB_ hC => ?_
     obtain ⟨hm326, h⟩ := h
     refine s_app hC 3 Tryz.underlying69 el75 rfl (by decide) (by decide) rfl (own_rdr (hC.getM 0 rfl)) (fun q hq => Enc.encs_one' (E := EElem) _ q hq) rfl rfl hm326 fun v324 w325 hC => ?_
     replace hC := own_re hC 3 ((s306 ++ [(⟨(i219 : Int), r234.getD i305 default⟩ : Elem)]).length) (EElem.encs (s306 ++ [(⟨(i219 : Int), r234.getD i305 default⟩ : Elem)])) rfl (by simp) (by first | (simp [Enc.encs_append]; done) | simp [Enc.encs_append, Enc.encs])
     refine s_as (v := v324) rfl ?_
     refine done ?_
     refine blk_norm ?_
     refine then_norm ?_
     refine cw_region ?_
     refine s_add (sx hS_ 38 rfl) rfl ?_
     refine s_mv (v := .int .i64 (IntKind.i64.wrap ((i305 : Int) + 1))) rfl ?_
     refine done ?_
     replace hC := hC.sM [2, 3] (M' := [own 73 8 u235 r234.length ((EA .i64).encs r234), own 75 9 v324 ((s306 ++ [(⟨(i219 : Int), r234.getD i305 default⟩ : Elem)]).length) (EElem.encs (s306 ++ [(⟨(i219 : Int), r234.getD i305 default⟩ : Elem)]))]) (by decide) rfl
     exact hK311 (s306 ++ [(⟨(i219 : Int), r234.getD i305 default⟩ : Elem)]) _ _ ⟨v324, (sk (sx hS_ 0 rfl) (sk (sx hS_ 1 rfl) (sk (sx hS_ 2 rfl) (sk (sx hS_ 3 rfl) (sk rfl (sk (sx hS_ 5 rfl) (sk (sx hS_ 6 rfl) (sk (sx hS_ 7 rfl) (sk (sx hS_ 8 rfl) (sk (sx hS_ 9 rfl) (sk (sx hS_ 10 rfl) (sk (sx hS_ 11 rfl) (sk (sx hS_ 12 rfl) (sk (sx hS_ 13 rfl) (sk (sx hS_ 14 rfl) (sk (sx hS_ 15 rfl) (sk (sx hS_ 16 rfl) (sk (sx hS_ 17 rfl) (sk (sx hS_ 18 rfl) (sk (sx hS_ 19 rfl) (sk (sx hS_ 20 rfl) (sk (sx hS_ 21 rfl) (sk (sx hS_ 22 rfl) (sk (sx hS_ 23 rfl) (sk (sx hS_ 24 rfl) (sk (sx hS_ 25 rfl) (sk (sx hS_ 26 rfl) (sk (sx hS_ 27 rfl) (sk (sx hS_ 28 rfl) (sk (sx hS_ 29 rfl) (sk (sx hS_ 30 rfl) (sk (sx hS_ 31 rfl) (sk (sx hS_ 32 rfl) (sk (sx hS_ 33 rfl) (sk (sx hS_ 34 rfl) (sk (sx hS_ 35 rfl) (sk (sx hS_ 36 rfl) (sk (sx hS_ 37 rfl) (sk (tr rfl (congrArg _ (wrap64_nat hi312 hN308))) sn))))))))))))))))))))))))))))))))))))))), hC⟩ h
    ·clear hC h
     rintro s306 e_ w327 K310 ⟨v307, hS_, hC⟩ h
     refine sr ?_
     refine s_lss (sx hS_ 38 rfl) (sx hS_ 37 rfl) ?_
     refine dn ?_
     refine wp_seq ?_
     refine cw_false rfl (decide_eq_false (by omega)) ?_
     refine wp_exit (then_exit (then_exit (exit_in ?_)))
     refine blk_norm ?_
     refine then_norm ?_
     refine cw_region ?_
     refine s_add (sx hS_ 11 rfl) rfl ?_
     refine s_mv (v := .int .i64 (IntKind.i64.wrap ((i219 : Int) + 1))) rfl ?_
     refine done ?_
     replace hC := hC.sM [1] (M' := [own 75 9 v307 s306.length (EElem.encs s306)]) (by decide) rfl
     exact hK225 s306 _ _ ⟨v307, (sk (sx hS_ 0 rfl) (sk (sx hS_ 1 rfl) (sk (sx hS_ 2 rfl) (sk (sx hS_ 3 rfl) (sk (sx hS_ 4 rfl) (sk (sx hS_ 9 rfl) (sk (sx hS_ 10 rfl) (sk (tr rfl (congrArg _ (wrap64_nat hi226 hN222))) sn)))))))), hC⟩ h
    ·skip
     exact ⟨v221, (sk (sx hS_ 0 rfl) (sk (sx hS_ 1 rfl) (sk (sx hS_ 2 rfl) (sk (sx hS_ 3 rfl) (sk (sx hS_ 4 rfl) (sk rfl (sk rfl (sk rfl (sk rfl (sk (sx hS_ 5 rfl) (sk (sx hS_ 6 rfl) (sk (sx hS_ 7 rfl) (sk rfl (sk rfl (sk rfl (sk rfl (sk rfl (sk rfl (sk rfl (sk rfl (sk rfl (sk rfl (sk rfl (sk rfl (sk rfl (sk rfl (sk rfl (sk rfl (sk rfl (sk rfl (sk rfl (sk rfl (sk rfl (sk rfl (sk rfl (sk rfl (sk rfl (sk rfl (sk rfl sn))))))))))))))))))))))))))))))))))))))), hC⟩
 ·clear hC h
  rintro s220 e_ w328 K224 ⟨v221, hS_, hC⟩ h
  refine sr ?_
  refine s_lss (sx hS_ 7 rfl) (sx hS_ 6 rfl) ?_
  refine dn ?_
  refine wp_seq ?_
  refine cw_false rfl (decide_eq_false (by omega)) ?_
  refine wp_exit (then_exit (then_exit (exit_in ?_)))
  refine then_norm ?_
  refine sr ?_
  refine s_mv (v := v221) (sx hS_ 4 rfl) ?_
  refine s_as (v := v221) rfl ?_
  refine s_as (v := .int .i64 0) rfl ?_
  refine dn ?_
  refine wp_ret ?_
  refine ret2 (fn := Tryz.f47) rfl ?_ ?_ ⟨s220, v221, (Option.toList (Value.ownBlock v221)), 0, rfl, h, (own_item (hC.getM 0 rfl)), (own_fresh hC 0 rfl), hC.below⟩ (.inl rfl)
  ·exact res_tmp rfl
  ·exact res_tmp rfl
 ·skip
  exact ⟨.slice (some ⟨b6, 0, none⟩) 0 0, (sk rfl (sk rfl (sk rfl (sk rfl (sk rfl (sk rfl (sk rfl (sk rfl sn)))))))), hC⟩
def f_impl_derive_forms (a0 : Vc.Derive) (K : Der → Int → Prop) : Prop :=
 forN (fun i136 (s137 : (List Vc.Form)) next142 => f_impl_sum_form (a0.images.getD i136 default) (fun r161 r166 => (if r166 ≠ 0 then K (⟨0, []⟩ : Der) r166 else (Room (s137.length + 1) 24 ∧ next142 (s137 ++ [r161]))))) (fun (s137 : (List Vc.Form)) => f_impl_when (decide (a0.drop > 12)) 3 (fun r195 => K (⟨a0.drop, s137⟩ : Der) r195)) a0.images.length 0 []
theorem c_impl_derive_forms (a0 : Vc.Derive) {b0 : Nat} {u0_0 : Value} {u0_1 : Value} {u0_2 : Value} {fp0 : List Nat} {K : Der → Int → Prop} (h : f_impl_derive_forms a0 K) (w0 : World) (q0 : (TDerive 32).rep a0 [u0_0, u0_1, u0_2] fp0 w0) (qb0 : (blk b0 144 [u0_0, u0_1, u0_2]).holds w0) :
  Calls Tryz.prog 49 #[.pointer (some ⟨b0, 0, none⟩)] w0 fun e w' => ∃ (r0 : Der) (z0_0 : Value) (z0_1 : Value) (fz0 : List Nat) (r1 : Int), 
   e = .returned (.tuple #[.agg #[z0_0, z0_1], .int .i64 r1]) ∧ K r0 r1 ∧ (Tr.item (TrDer 162 55) r0 [z0_0, z0_1] fz0).holds w' ∧ (∀ b, b ∈ fz0 → w0.heap.size ≤ b) ∧ Bel w0 w' := by
 unfold f_impl_derive_forms at h
 refine calls_of (args := [.pointer (some ⟨b0, 0, none⟩)]) Tryz.func49 rfl 46 Tryz.ntmps49 (Nat.le_of_ble_eq_true rfl) ?_
 have hC := Ctx.start (X := Nox) w0 [Ty.item (TDerive 32) a0 [u0_0, u0_1, u0_2] fp0, blk b0 144 [u0_0, u0_1, u0_2]] (by simp only [List.mem_cons, List.not_mem_nil, or_false, forall_eq_or_imp, forall_eq]; exact ⟨q0, qb0⟩)
 have hp3 := (hC.getP 0 rfl)
 obtain ⟨b4, u5, u6, rfl, rfl, hbf7, hk8, ha9, hi10⟩ := derive_parts hp3
 have hp11 := ha9
 replace hC := hC.derive 0 rfl (Ty.item ((EI .i64).ty.sl) a0.alg.degrees [u5] fp0) (fun _ => (alg_parts hp11).1) (fun _ hb_ => hb_)
 replace hC := hC.derive 1 rfl (Ty.item TForm.sl a0.alg.images [u6] fp0) (fun _ => (alg_parts hp11).2) (fun _ hb_ => hb_)
 replace hC := hC.derive 2 rfl (blk b4 32 [u5, u6]) (fun _ => hk8) (fun c_ hc_ => by obtain rfl := List.mem_singleton.1 hc_; exact hbf7)
 replace hC := hC.derive 3 rfl (Ty.item ((TMap (kvA .i64) (vvI .i64)).sl) a0.images [u0_2] fp0) (fun _ => hi10) (fun _ hb_ => hb_)
 refine sr ?_
 refine s_alloc hC [.int .i64 0, .slice none 0 0] z77 rfl fun b16 w18 hB_ hC => ?_
 refine s_as (v := .int .i64 0) rfl ?_
 refine dn ?_
 refine sr ?_
 refine s_mv (v := .pointer (some ⟨b0, 0, none⟩)) rfl ?_
 refine s_nilchk rfl ?_
 refine s_faddrB 1 Tryz.underlying144 rfl sc2.size rfl rfl ?_
 refine s_loadSh (.int .i64 a0.drop) (hC.getP 5 rfl) sc2 rfl rfl ?_
 refine s_build [(0, .int .i64 a0.drop)] rfl (bl77_0int a0.drop  _) ?_
 refine s_alloc hC [.int .i64 0, .slice none 0 0] z77 rfl fun b19 w21 hB_ hC => ?_
 refine s_store (v := .agg #[.int .i64 a0.drop, .slice none 0 0]) hC 0 [.int .i64 a0.drop, .slice none 0 0] [.int .i64 a0.drop, .slice none 0 0] rfl ag77.size rfl rfl rfl rfl rfl (Nat.le_of_ble_eq_true rfl) rfl fun w22 hC => ?_
 refine dn ?_
 refine wp_seq ?_
 refine sr ?_
 refine s_mv (v := .pointer (some ⟨b0, 0, none⟩)) rfl ?_
 refine s_nilchk rfl ?_
 refine s_faddrB 2 Tryz.underlying144 rfl sc142.size rfl rfl ?_
 refine s_loadSh (u0_2) (hC.getP 5 rfl) sc142 rfl rfl ?_
 obtain ⟨Ad23, c24, hv25⟩ := sl_len (hC.getP 0 rfl)
 refine s_len Tryz.underlying142 (tr rfl hv25) ?_
 refine s_mv (v := .int .i64 0) rfl ?_
 refine dn ?_
 refine wp_block ?_
 have hN141 : a0.images.length ≤ 9223372036854775807 := sl_max (hC.getP 0 rfl)
 refine loopN (S := (List Vc.Form)) _ _ (fun i136 s137 e_ w_ => ∃ (v138 : Value), ∃ (f140 : List Nat), Slots e_ [(0, .pointer (some ⟨b0, 0, none⟩)), (2, .pointer (some ⟨b16, 0, none⟩)), (3, .int .i64 0), (4, .pointer (some ⟨b19, 0, none⟩)), (17, u0_2), (18, .int .i64 (a0.images.length : Int)), (19, .int .i64 (i136 : Int))] ∧ Ctx Nox w0 w_ [Tr.item (Tr.sl 55 (TrForm 162)) s137 [v138] f140, blk b19 77 [.int .i64 a0.drop, v138], blk b16 77 [.int .i64 0, .slice none 0 0]] [Ty.item ((TMap (kvA .i64) (vvI .i64)).sl) a0.images [u0_2] fp0, blk b4 32 [u5, u6], Ty.item TForm.sl a0.alg.images [u6] fp0, Ty.item ((EI .i64).ty.sl) a0.alg.degrees [u5] fp0, Ty.item (TDerive 32) a0 [.pointer (some ⟨b4, 0, none⟩), .int .i64 a0.drop, u0_2] fp0, blk b0 144 [.pointer (some ⟨b4, 0, none⟩), .int .i64 a0.drop, u0_2]]) a0.images.length ?_ ?_ (s0 := []) ?_ h
 ·clear hC h
  rintro i136 s137 e_ w146 next142 K143 hi145 ⟨v138, f140, hS_, hC⟩ h hK144
  refine sr ?_
  refine s_lss (sx hS_ 6 rfl) (sx hS_ 5 rfl) ?_
  refine dn ?_
  refine wp_seq ?_
  refine cw_true rfl (decide_eq_true (by omega)) ?_
  refine wp_skip ?_
  refine then_norm ?_
  refine wp_seq ?_
  refine wp_block ?_
  refine sr ?_
  obtain ⟨Ad147, c148, hv149⟩ := sl_form (hC.getP 0 rfl) i136 hi145
  refine s_iaddrS (len := a0.images.length) Tryz.underlying142 sc115.size (tr (sx hS_ 4 rfl) hv149) (sx hS_ 6 rfl) (Int.natCast_nonneg _) (Int.ofNat_lt.2 hi145) ?_
  obtain ⟨cs_, hl151, hc152, hr153⟩ := sl_cells (hC.getP 0 rfl) hv149 i136 hi145
  obtain ⟨u150, rfl⟩ := List.length_eq_one_iff.1 hl151
  clear hl151
  rw [getD_eq _ _ hi145] at hr153
  obtain ⟨b154, rfl, hbf155, hm156⟩ := map_parts hr153
  replace hC := hC.derive 0 rfl (mapI (kvA .i64) (vvI .i64) b154 (a0.images.getD i136 default)) (fun _ => hm156) (fun c_ hc_ => by obtain rfl := List.mem_singleton.1 hc_; exact hbf155)
  refine s_loadCS (.map (some b154)) hc152 sc115 rfl ?_
  refine s_as (v := .map (some b154)) rfl ?_
  refine dn ?_
  refine sr ?_
  refine s_mv (v := .map (some b154)) rfl ?_
  refine s_call [.map (some b154)] _ Tryz.func101 rfl rfl rfl (c_impl_sum_form (a0.images.getD i136 default) h _ (hC.getP 0 rfl)) (fun ret158 w160 hR159 => ?_)
  obtain ⟨r161, u162, f163, r166, rfl, h, hr164, hf165, hB167⟩ := hR159
  refine ⟨_, rfl, ?_⟩
  replace hC := hC.push hB167 (Tr.item (TrForm 162) r161 [u162] f163) hr164 hf165
  obtain ⟨ho169, hf170⟩ := form_split (hC.getM 0 rfl)
  subst hf170
  replace hC := hC.recast (c := own 162 9 u162 r161.terms.length (ETerm.encs r161.terms)) (fun _ h_ => h_) (fun _ => ho169)
  refine s_mv (v := .tuple #[.agg #[u162], .int .i64 r166]) rfl ?_
  refine s_ext (v := .agg #[u162]) rfl rfl ?_
  refine s_ext (v := .int .i64 r166) rfl rfl ?_
  refine s_alloc hC [.slice none 0 0] z55 rfl fun b172 w174 hB_ hC => ?_
  refine s_store (v := .agg #[u162]) hC 0 [u162] [u162] rfl ag55.size rfl rfl rfl rfl (all_c (own_oneC (hC.getM 1 rfl)) rfl) (Nat.le_of_ble_eq_true rfl) rfl fun w175 hC => ?_
  refine s_as (v := .int .i64 r166) rfl ?_
  refine dn ?_
  refine wp_seq ?_
  refine sr ?_
  refine s_mv (v := .int .i64 r166) rfl ?_
  refine s_neq rfl rfl ?_
  refine dn ?_
  refine cw_cond rfl (fun hb176 => ?_) (fun hb176 => ?_)
  ·replace h := ift h (ct hb176)
   refine sr ?_
   refine s_build [] rfl (bl77   _) ?_
   refine s_mv (v := .int .i64 r166) rfl ?_
   refine s_store (v := .agg #[.int .i64 0, .slice none 0 0]) hC 4 [.int .i64 0, .slice none 0 0] [.int .i64 0, .slice none 0 0] rfl ag77.size (sx hS_ 1 rfl) rfl rfl rfl rfl (Nat.le_of_ble_eq_true rfl) rfl fun w177 hC => ?_
   refine s_as (v := .int .i64 r166) rfl ?_
   refine dn ?_
   refine wp_ret (then_ret (blk_ret (then_ret (then_ret (blk_ret (then_ret ?_))))))
   refine ret2 (fn := Tryz.f49) rfl ?_ ?_ ⟨(⟨0, []⟩ : Der), .int .i64 0, .slice none 0 0, [], r166, rfl, h, (der_join (nil_item _ _ _)), (fun b hb => absurd hb (by simp)), hC.below⟩ (.inl rfl)
   ·exact res_cellA hC 4 rfl ag77 (sx hS_ 1 rfl) rfl
   ·exact res_tmp rfl
  ·replace h := iff_ h (cf hb176)
   refine wp_skip ?_
   refine then_norm ?_
   refine cw_region ?_
   refine s_faddrB 1 Tryz.underlying77 rfl sc30.size (sx hS_ 3 rfl) rfl ?_
   refine s_loadS hC 3 (v138) rfl sc30 rfl rfl ?_
   refine s_loadA hC 0 [u162] rfl ag55 rfl rfl rfl ?_
   refine s_bslice (sz := 1) hC [(0, .agg #[u162])] [u162] rfl (fun _ => bsr30_1_s u162 (own_isSl (hC.getM 1 rfl)) _) rfl (by decide) fun b178 w179 hB_ hC => ?_
   replace hC := hC.pushM0 (forest (TrForm 162) [] [] []) (forest_nil _ _) rfl
   replace hC := hC.sM [3, 0, 1, 2, 4, 5, 6] (M' := [own 162 9 u162 r161.terms.length (ETerm.encs r161.terms), forest (TrForm 162) [] [] [], own 55 1 (.slice (some ⟨b178, 0, none⟩) 1 1) 1 [u162], blk b172 55 [u162], Tr.item (Tr.sl 55 (TrForm 162)) s137 [v138] f140, blk b19 77 [.int .i64 a0.drop, v138], blk b16 77 [.int .i64 0, .slice none 0 0]]) (by decide) rfl
   replace hC := hC.gather (c := forest (TrForm 162) [r161] [u162] [(Option.toList (Value.ownBlock u162))]) (fun x_ hx_ => forest_mem hx_) (fun h1_ h2_ hd_ => forest_cons (c := [u162]) (form_join (own_item h1_)) h2_ hd_)
   replace hC := hC.sM [1, 0, 2, 3, 4, 5] (M' := [own 55 1 (.slice (some ⟨b178, 0, none⟩) 1 1) 1 [u162], forest (TrForm 162) [r161] [u162] [(Option.toList (Value.ownBlock u162))], blk b172 55 [u162], Tr.item (Tr.sl 55 (TrForm 162)) s137 [v138] f140, blk b19 77 [.int .i64 a0.drop, v138], blk b16 77 [.int .i64 0, .slice none 0 0]]) (by decide) rfl
   replace hC := hC.gather (c := Tr.item (Tr.sl 55 (TrForm 162)) [r161] [.slice (some ⟨b178, 0, none⟩) 1 1] ((Option.toList (Value.ownBlock (.slice (some ⟨b178, 0, none⟩) 1 1))) ++ ([(Option.toList (Value.ownBlock u162))] : List (List Nat)).flatten)) (fun x_ hx_ => List.mem_append.1 hx_) (fun h1_ h2_ hd_ => forest_up h1_ h2_ hd_)
   replace hC := hC.sM [2, 0, 1, 3, 4] (M' := [Tr.item (Tr.sl 55 (TrForm 162)) s137 [v138] f140, Tr.item (Tr.sl 55 (TrForm 162)) [r161] [.slice (some ⟨b178, 0, none⟩) 1 1] ((Option.toList (Value.ownBlock (.slice (some ⟨b178, 0, none⟩) 1 1))) ++ ([(Option.toList (Value.ownBlock u162))] : List (List Nat)).flatten), blk b172 55 [u162], blk b19 77 [.int .i64 a0.drop, v138], blk b16 77 [.int .i64 0, .slice none 0 0]]) (by decide) rfl
   obtain ⟨hm186, h⟩ := h
   refine s_appT hC Tryz.underlying30 el55 rfl (by decide) (by decide) rfl rfl hm186 fun v183 f185 w184 hC => ?_
   refine s_faddrB 1 Tryz.underlying77 rfl sc30.size (sx hS_ 3 rfl) rfl ?_
   refine s_store (v := v183) hC 2 [v183] [.int .i64 a0.drop, v183] rfl sc30.size rfl rfl (rep_cellsV (Tr.trep _ (hC.getM 0 rfl).1)) rfl (all_c (rep_oneC (Tr.trep _ (hC.getM 0 rfl).1)) rfl) (Nat.le_of_ble_eq_true rfl) rfl fun w187 hC => ?_
   refine done ?_
   refine blk_norm ?_
   refine then_norm ?_
   refine cw_region ?_
   refine s_add (sx hS_ 6 rfl) rfl ?_
   refine s_mv (v := .int .i64 (IntKind.i64.wrap ((i136 : Int) + 1))) rfl ?_
   refine done ?_
   replace hC := hC.sM [0, 2, 3] (M' := [Tr.item (Tr.sl 55 (TrForm 162)) (s137 ++ [r161]) [v183] f185, blk b19 77 [.int .i64 a0.drop, v183], blk b16 77 [.int .i64 0, .slice none 0 0]]) (by decide) rfl
   replace hC := hC.sP [1, 2, 3, 4, 5, 6] (Ps' := [Ty.item ((TMap (kvA .i64) (vvI .i64)).sl) a0.images [u0_2] fp0, blk b4 32 [u5, u6], Ty.item TForm.sl a0.alg.images [u6] fp0, Ty.item ((EI .i64).ty.sl) a0.alg.degrees [u5] fp0, Ty.item (TDerive 32) a0 [.pointer (some ⟨b4, 0, none⟩), .int .i64 a0.drop, u0_2] fp0, blk b0 144 [.pointer (some ⟨b4, 0, none⟩), .int .i64 a0.drop, u0_2]]) rfl
   exact hK144 (s137 ++ [r161]) _ _ ⟨v183, f185, (sk (sx hS_ 0 rfl) (sk (sx hS_ 1 rfl) (sk (sx hS_ 2 rfl) (sk (sx hS_ 3 rfl) (sk (sx hS_ 4 rfl) (sk (sx hS_ 5 rfl) (sk (tr rfl (congrArg _ (wrap64_nat hi145 hN141))) sn))))))), hC⟩ h
 ·clear hC h
  rintro s137 e_ w188 K143 ⟨v138, f140, hS_, hC⟩ h
  refine sr ?_
  refine s_lss (sx hS_ 6 rfl) (sx hS_ 5 rfl) ?_
  refine dn ?_
  refine wp_seq ?_
  refine cw_false rfl (decide_eq_false (by omega)) ?_
  refine wp_exit (then_exit (then_exit (exit_in ?_)))
  refine then_norm ?_
  refine wp_seq ?_
  refine cw_draw 7 mixed [0, 0, 2, 6, 14, 30, 62, 127, 255] [0, 4] [1, 2, 3, 5] (by kernel_rfl) (by kernel_rfl) (by kernel_rfl) (fun hM190 hM191 w189 hB_ => ?_)
  replace hC := hC.grow hB_
  refine aL 0 (.agg #[.int .i64 a0.drop, v138]) rfl rfl (hM190 0 rfl) (rfl) (fun _ hB_ => by exact r_loadA (hC.grow hB_) 1 [.int .i64 a0.drop, v138] rfl ag77 (sx hS_ 3 rfl) rfl rfl) (dbits 9 1) ?_
  refine aF 1 (.pointer (some ⟨b0, 0, none⟩)) rfl rfl (hM191 1 rfl) (rfl) (fun _ => by exact r_mv (v := .pointer (some ⟨b0, 0, none⟩)) (sx hS_ 0 rfl)) (dbits 9 3) ?_
  refine aF 2 (.pointer (some ⟨b0, 0, none⟩)) rfl rfl (hM191 2 rfl) (rfl) (fun _ => by exact r_nilchk rfl) (dbits 9 7) ?_
  refine aF 3 (.pointer (some ⟨b0, 1, none⟩)) rfl rfl (hM191 3 rfl) (rfl) (fun _ => by exact r_faddrB 1 Tryz.underlying144 rfl sc2.size rfl rfl) (dbits 9 15) ?_
  refine aL 4 (.int .i64 a0.drop) rfl rfl (hM190 4 rfl) (rfl) (fun _ hB_ => by exact r_loadSh (.int .i64 a0.drop) ((hC.grow hB_).getP 5 rfl) sc2 rfl rfl) (dbits 9 31) ?_
  refine aF 5 (.bool (decide (a0.drop > 12))) rfl rfl (hM191 5 rfl) (rfl) (fun _ => by exact r_gtr rfl rfl) (dbits 9 63) ?_
  refine aO 6 rfl ?_
  refine s_call [.bool (decide (a0.drop > 12)), .int .i64 3] _ Tryz.func45 rfl rfl rfl (c_impl_when (decide (a0.drop > 12)) 3 h _) (fun ret192 w194 hR193 => ?_)
  obtain ⟨r195, rfl, h, hB196⟩ := hR193
  refine ⟨_, rfl, ?_⟩
  replace hC := hC.grow hB196
  refine done ?_
  refine aK (by assumption) (dbits 9 127) ?_
  refine ae_tail 7 (by decide) (by decide) (by kernel_rfl) (by kernel_rfl) rfl ?_
  refine s_store (v := .agg #[.int .i64 a0.drop, v138]) hC 2 [.int .i64 a0.drop, v138] [.int .i64 a0.drop, v138] rfl ag77.size (sx hS_ 1 rfl) rfl rfl rfl (all_c rfl (all_c (rep_oneC (Tr.trep _ (hC.getM 0 rfl).1)) rfl)) (Nat.le_of_ble_eq_true rfl) rfl fun w197 hC => ?_
  refine s_as (v := .int .i64 r195) rfl ?_
  refine done ?_
  refine qn_norm ?_
  refine then_norm ?_
  refine wp_ret ?_
  refine ret2 (fn := Tryz.f49) rfl ?_ ?_ ⟨(⟨a0.drop, s137⟩ : Der), .int .i64 a0.drop, v138, f140, r195, rfl, h, (der_join (hC.getM 0 rfl)), (tr_fresh hC 0 rfl), hC.below⟩ (.inl rfl)
  ·exact res_cellA hC 2 rfl ag77 (sx hS_ 1 rfl) rfl
  ·exact res_tmp rfl
 ·skip
  replace hC := hC.pushM0 (Tr.item (Tr.sl 55 (TrForm 162)) [] [.slice none 0 0] []) (nil_item _ _ _) rfl
  exact ⟨.slice none 0 0, [], (sk rfl (sk rfl (sk rfl (sk rfl (sk rfl (sk rfl (sk rfl sn))))))), hC⟩
def f_impl_ElementaryDerivations (a0 : Alg) (a1 : Int) (K : List Der → Int → Prop) : Prop :=
 f_impl_algebraCode a0 [] (fun r11 => f_impl_within a1 0 12 (fun r16 => f_impl_when (!r16) 2 (fun r21 => f_impl_first [r11, r21] (fun r29 => (if r29 ≠ 0 then K [] r29 else f_impl_Algebra_elementaries a0 a1 (fun r35 r40 => (if r40 ≠ 0 then K [] r40 else forN (fun i453 (s454 : (List Der)) next458 => forN (fun i595 (s596 : (List (List (A8 × Int)))) next601 => (if (i595 : Int) = (r35.getD i453 default).gen then (Room (s596.length + 1) 8 ∧ next601 (s596 ++ [mset ([] : List (A8 × Int)) ((r35.getD i453 default).mono) 1])) else (Room (s596.length + 1) 8 ∧ next601 (s596 ++ [([] : List (A8 × Int))])))) (fun (s596 : (List (List (A8 × Int)))) => f_impl_derive_forms (⟨(⟨a0.degrees, a0.images⟩ : Alg), a1, s596⟩ : Vc.Derive) (fun r635 r641 => (Room (s454.length + 1) 32 ∧ next458 (s454 ++ [r635])))) a0.degrees.length 0 []) (fun (s454 : (List Der)) => K s454 0) r35.length 0 [])))))))
theorem c_impl_ElementaryDerivations (a0 : Alg) (a1 : Int) {u0_0 : Value} {u0_1 : Value} {fp0 : List Nat} {K : List Der → Int → Prop} (h : f_impl_ElementaryDerivations a0 a1 K) (w0 : World) (q0 : TAlg.rep a0 [u0_0, u0_1] fp0 w0) :
  Calls Tryz.prog 13 #[.agg #[u0_0, u0_1], .int .i64 a1] w0 fun e w' => ∃ (r0 : List Der) (z0_0 : Value) (fz0 : List Nat) (r1 : Int), 
   e = .returned (.tuple #[z0_0, .int .i64 r1]) ∧ K r0 r1 ∧ (Tr.item (Tr.sl 77 (TrDer 162 55)) r0 [z0_0] fz0).holds w' ∧ (∀ b, b ∈ fz0 → w0.heap.size ≤ b) ∧ Bel w0 w' := by
 unfold f_impl_ElementaryDerivations at h
 refine calls_of (args := [.agg #[u0_0, u0_1], .int .i64 a1]) Tryz.func13 rfl 52 Tryz.ntmps13 (Nat.le_of_ble_eq_true rfl) ?_
 have hC := Ctx.start (X := Nox) w0 [Ty.item TAlg a0 [u0_0, u0_1] fp0] (by simp only [List.mem_cons, List.not_mem_nil, or_false, forall_eq_or_imp, forall_eq]; exact q0)
 have hp2 := (hC.getP 0 rfl)
 replace hC := hC.derive 0 rfl (Ty.item ((EI .i64).ty.sl) a0.degrees [u0_0] fp0) (fun _ => (alg_parts hp2).1) (fun _ hb_ => hb_)
 replace hC := hC.derive 1 rfl (Ty.item TForm.sl a0.images [u0_1] fp0) (fun _ => (alg_parts hp2).2) (fun _ hb_ => hb_)
 refine sr ?_
 refine s_box (v := .agg #[u0_0, u0_1]) hC [u0_0, u0_1] rfl rfl fun b5 w7 hB_ hC => ?_
 refine s_as (v := .slice none 0 0) rfl ?_
 refine s_as (v := .int .i64 0) rfl ?_
 refine dn ?_
 refine wp_seq ?_
 refine sr ?_
 refine s_call [.pointer (some ⟨b5, 0, none⟩), .slice none 0 0] _ Tryz.func44 rfl rfl rfl (c_impl_algebraCode a0 [] h _ (alg_mk (hC.getP 1 rfl) (hC.getP 0 rfl)) (hC.getM 0 rfl) (rep_nil _ _)) (fun ret8 w10 hR9 => ?_)
 obtain ⟨r11, rfl, h, hB12⟩ := hR9
 refine ⟨_, rfl, ?_⟩
 replace hC := hC.grow hB12
 refine s_mv (v := .int .i64 a1) rfl ?_
 refine s_call [.int .i64 a1, .int .i64 0, .int .i64 12] _ Tryz.func46 rfl rfl rfl (c_impl_within a1 0 12 h _) (fun ret13 w15 hR14 => ?_)
 obtain ⟨r16, rfl, h, hB17⟩ := hR14
 refine ⟨_, rfl, ?_⟩
 replace hC := hC.grow hB17
 refine s_not rfl ?_
 refine s_call [.bool (!r16), .int .i64 2] _ Tryz.func45 rfl rfl rfl (c_impl_when (!r16) 2 h _) (fun ret18 w20 hR19 => ?_)
 obtain ⟨r21, rfl, h, hB22⟩ := hR19
 refine ⟨_, rfl, ?_⟩
 replace hC := hC.grow hB22
 refine s_bslice (sz := 1) hC [(0, .int .i64 r11), (1, .int .i64 r21)] ((EI .i64).encs [r11, r21]) rfl (fun _ => bs22_2 r11 r21 _) rfl (by decide) fun b23 w24 hB_ hC => ?_
 refine s_call [.slice (some ⟨b23, 0, none⟩) 2 2] _ Tryz.func43 rfl rfl rfl (c_impl_first [r11, r21] h _ (own_repE (hC.getM 0 rfl))) (fun ret26 w28 hR27 => ?_)
 obtain ⟨r29, rfl, h, hB30⟩ := hR27
 refine ⟨_, rfl, ?_⟩
 replace hC := hC.grow hB30
 refine s_as (v := .int .i64 r29) rfl ?_
 refine dn ?_
 refine sr ?_
 refine s_mv (v := .int .i64 r29) rfl ?_
 refine s_neq rfl rfl ?_
 refine dn ?_
 refine cw_cond rfl (fun hb31 => ?_) (fun hb31 => ?_)
 ·replace h := ift h (ct hb31)
  refine sr ?_
  refine s_mv (v := .int .i64 r29) rfl ?_
  refine s_as (v := .slice none 0 0) rfl ?_
  refine s_as (v := .int .i64 r29) rfl ?_
  refine dn ?_
  refine wp_ret (then_ret ?_)
  refine ret2 (fn := Tryz.f13) rfl ?_ ?_ ⟨[], .slice none 0 0, [], r29, rfl, h, (nil_item _ _ _), (fun b hb => absurd hb (by simp)), hC.below⟩ (.inl rfl)
  ·exact res_tmp rfl
  ·exact res_tmp rfl
 ·replace h := iff_ h (cf hb31)
  refine wp_skip ?_
  refine then_norm ?_
  refine sr ?_
  refine s_mv (v := .int .i64 a1) rfl ?_
  refine s_call [.pointer (some ⟨b5, 0, none⟩), .int .i64 a1] _ Tryz.func47 rfl rfl rfl (c_impl_Algebra_elementaries a0 a1 h _ (alg_mk (hC.getP 1 rfl) (hC.getP 0 rfl)) (hC.getM 1 rfl)) (fun ret32 w34 hR33 => ?_)
  obtain ⟨r35, u36, f37, r40, rfl, h, hr38, hf39, hB41⟩ := hR33
  refine ⟨_, rfl, ?_⟩
  replace hC := hC.push hB41 (Tr.item (Tr.sl 75 EElem.tr) r35 [u36] f37) hr38 hf39
  obtain ⟨ho43, hf44⟩ := flat_tr (hC.getM 0 rfl).1
  subst hf44
  replace hC := hC.recast (c := own 75 9 u36 r35.length (EElem.encs r35)) (fun _ h_ => h_) (fun _ => ho43)
  refine s_mv (v := .tuple #[u36, .int .i64 r40]) rfl ?_
  refine s_ext (v := u36) rfl rfl ?_
  refine s_ext (v := .int .i64 r40) rfl rfl ?_
  refine s_as (v := u36) rfl ?_
  refine s_as (v := .int .i64 r40) rfl ?_
  refine dn ?_
  refine wp_seq ?_
  refine sr ?_
  refine s_mv (v := .int .i64 r40) rfl ?_
  refine s_neq rfl rfl ?_
  refine dn ?_
  refine cw_cond rfl (fun hb46 => ?_) (fun hb46 => ?_)
  ·replace h := ift h (ct hb46)
   refine sr ?_
   refine s_mv (v := .int .i64 r40) rfl ?_
   refine s_as (v := .slice none 0 0) rfl ?_
   refine s_as (v := .int .i64 r40) rfl ?_
   refine dn ?_
   refine wp_ret (then_ret ?_)
   refine ret2 (fn := Tryz.f13) rfl ?_ ?_ ⟨[], .slice none 0 0, [], r40, rfl, h, (nil_item _ _ _), (fun b hb => absurd hb (by simp)), hC.below⟩ (.inl rfl)
   ·exact res_tmp rfl
   ·exact res_tmp rfl
  ·replace h := iff_ h (cf hb46)
   refine wp_skip ?_
   refine then_norm ?_
   refine sr ?_
   refine s_bslice (sz := 2) hC [] [] rfl (fun _ => bs27_0 _) rfl (by decide) fun b47 w48 hB_ hC => ?_
   replace hC := hC.pushM0 (forest (TrDer 162 55) ([] : List Der) [] []) (forest_nil _ _) rfl
   replace hC := hC.gather (c := Tr.item (Tr.sl 77 (TrDer 162 55)) [] [.slice (some ⟨b47, 0, none⟩) 0 0] ((Option.toList (Value.ownBlock (.slice (some ⟨b47, 0, none⟩) 0 0))) ++ ([] : List (List Nat)).flatten)) (fun x_ hx_ => (List.mem_append.1 hx_).symm) (fun h1_ h2_ hd_ => forest_up h2_ h1_ (fun b_ hb_ hb2_ => hd_ b_ hb2_ hb_))
   refine s_as (v := .slice (some ⟨b47, 0, none⟩) 0 0) rfl ?_
   refine dn ?_
   refine wp_seq ?_
   refine sr ?_
   refine s_mv (v := u36) rfl ?_
   obtain ⟨Ad50, c51, hv52⟩ := own_form (hC.getM 1 rfl)
   refine s_len Tryz.underlying69 (tr rfl hv52) ?_
   refine s_mv (v := .int .i64 0) rfl ?_
   refine dn ?_
   refine wp_block ?_
   have hN457 : r35.length ≤ 9223372036854775807 := own_max (hC.getM 1 rfl)
   refine loopN (S := (List Der)) _ _ (fun i453 s454 e_ w_ => ∃ (v455 : Value), ∃ (f456 : List Nat), Slots e_ [(1, .int .i64 a1), (2, .pointer (some ⟨b5, 0, none⟩)), (4, .slice none 0 0), (5, .int .i64 0), (9, v455), (33, u36), (34, .int .i64 (r35.length : Int)), (35, .int .i64 (i453 : Int))] ∧ Ctx Nox w0 w_ [Tr.item (Tr.sl 77 (TrDer 162 55)) s454 [v455] f456, own 75 9 u36 r35.length (EElem.encs r35), blk b5 32 [u0_0, u0_1]] [Ty.item TForm.sl a0.images [u0_1] fp0, Ty.item ((EI .i64).ty.sl) a0.degrees [u0_0] fp0, Ty.item TAlg a0 [u0_0, u0_1] fp0]) r35.length ?_ ?_ (s0 := []) ?_ h
   ·clear hC h
    rintro i453 s454 e_ w462 next458 K459 hi461 ⟨v455, f456, hS_, hC⟩ h hK460
    refine sr ?_
    refine s_lss (sx hS_ 7 rfl) (sx hS_ 6 rfl) ?_
    refine dn ?_
    refine wp_seq ?_
    refine cw_true rfl (decide_eq_true (by omega)) ?_
    refine wp_skip ?_
    refine then_norm ?_
    refine wp_seq ?_
    refine wp_block ?_
    refine sr ?_
    obtain ⟨Ad463, c464, hv465⟩ := own_formE (hC.getM 1 rfl) (Nat.lt_of_le_of_lt (Nat.zero_le _) hi461)
    refine s_iaddrO (i453 * 9) Tryz.underlying69 ag75.size (tr (sx hS_ 5 rfl) hv465) (sx hS_ 7 rfl) (Int.natCast_nonneg _) (Int.ofNat_lt.2 hi461) rfl ?_
    refine s_loadCA (Elem.enc (r35.getD i453 default)) (own_cellsE (hC.getM 1 rfl) hv465 i453 hi461) ag75 rfl rfl ?_
    refine s_alloc hC (Elem.enc (⟨0, A8.zero⟩ : Elem)) z75 rfl fun b466 w468 hB_ hC => ?_
    refine s_store (v := .agg (List.toArray (Elem.enc (r35.getD i453 default)))) hC 0 (Elem.enc (r35.getD i453 default)) (Elem.enc (r35.getD i453 default)) rfl ag75.size rfl rfl rfl rfl rfl (Nat.le_of_ble_eq_true rfl) rfl fun w469 hC => ?_
    refine dn ?_
    refine sr ?_
    refine s_loadA hC 0 (Elem.enc (r35.getD i453 default)) rfl ag75 rfl rfl rfl ?_
    refine s_mv (v := .int .i64 a1) (sx hS_ 0 rfl) ?_
    refine s_inline [.agg (List.toArray (Elem.enc (r35.getD i453 default))), .pointer (some ⟨b5, 0, none⟩), .int .i64 a1] Tryz.func48 rfl rfl 42 Tryz.ntmps48 (Nat.le_of_ble_eq_true rfl) (ev_cons rfl (ev_cons (sx hS_ 1 rfl) (ev_cons rfl rfl))) ?_
    have hSi470 := hS_
    refine sr ?_
    refine s_box (v := .agg (List.toArray (Elem.enc (r35.getD i453 default)))) hC (Elem.enc (r35.getD i453 default)) rfl rfl fun b471 w473 hB_ hC => ?_
    refine s_as (v := .pointer none) rfl ?_
    refine dn ?_
    refine sr ?_
    refine s_mv (v := .pointer (some ⟨b5, 0, none⟩)) rfl ?_
    refine s_mv (v := .int .i64 a1) rfl ?_
    refine s_build [(0, .pointer (some ⟨b5, 0, none⟩)), (1, .int .i64 a1)] rfl (bl144_0ptr_1int b5 a1  _) ?_
    refine s_box (v := .agg #[.pointer (some ⟨b5, 0, none⟩), .int .i64 a1, .slice none 0 0]) hC [.pointer (some ⟨b5, 0, none⟩), .int .i64 a1, .slice none 0 0] rfl rfl fun b474 w476 hB_ hC => ?_
    refine s_as (v := .pointer (some ⟨b474, 0, none⟩)) rfl ?_
    refine dn ?_
    refine wp_seq ?_
    refine sr ?_
    refine s_mv (v := .pointer (some ⟨b5, 0, none⟩)) rfl ?_
    refine s_nilchk rfl ?_
    refine s_faddrB 0 Tryz.underlying32 rfl sc22.size rfl rfl ?_
    refine s_loadS hC 5 (u0_0) rfl sc22 rfl rfl ?_
    obtain ⟨Ad477, c478, hv479⟩ := sl_len (hC.getP 1 rfl)
    refine s_len Tryz.underlying22 (tr rfl hv479) ?_
    refine s_mv (v := .int .i64 0) rfl ?_
    refine dn ?_
    refine wp_block ?_
    have hN600 : a0.degrees.length ≤ 9223372036854775807 := sl_max (hC.getP 1 rfl)
    refine loopN (S := (List (List (A8 × Int)))) _ _ (fun i595 s596 e_ w_ => ∃ (v597 : Value), ∃ (f599 : List Nat), Slots e_ [(3, .pointer (some ⟨b471, 0, none⟩)), (7, .pointer (some ⟨b474, 0, none⟩)), (18, .int .i64 (a0.degrees.length : Int)), (19, .int .i64 (i595 : Int))] ∧ Ctx Nox w0 w_ [Tr.item (Tr.sl 115 (TrMap (kvA .i64) (vvI .i64))) s596 [v597] f599, blk b474 144 [.pointer (some ⟨b5, 0, none⟩), .int .i64 a1, v597], blk b471 75 (Elem.enc (r35.getD i453 default)), blk b466 75 (Elem.enc (r35.getD i453 default)), Tr.item (Tr.sl 77 (TrDer 162 55)) s454 [v455] f456, own 75 9 u36 r35.length (EElem.encs r35), blk b5 32 [u0_0, u0_1]] [Ty.item TForm.sl a0.images [u0_1] fp0, Ty.item ((EI .i64).ty.sl) a0.degrees [u0_0] fp0, Ty.item TAlg a0 [u0_0, u0_1] fp0]) a0.degrees.length ?_ ?_ (s0 := []) ?_ h
    ·clear hC h
     rintro i595 s596 e_ w605 next601 K602 hi604 ⟨v597, f599, hS_, hC⟩ h hK603
     refine sr ?_
     refine s_lss (sx hS_ 3 rfl) (sx hS_ 2 rfl) ?_
     refine dn ?_
     refine wp_seq ?_
     refine cw_true rfl (decide_eq_true (by omega)) ?_
     refine wp_skip ?_
     refine then_norm ?_
     refine wp_seq ?_
     refine wp_block ?_
     refine sr ?_
     refine s_mv (v := .int .i64 (i595 : Int)) (sx hS_ 3 rfl) ?_
     refine s_as (v := .int .i64 (i595 : Int)) rfl ?_
     refine dn ?_
     refine sr ?_
     refine s_makeMap hC (kvA .i64) (vvI .i64) fun b606 w608 hB_ hC => ?_
     refine s_as (v := .map (some b606)) rfl ?_
     refine dn ?_
     refine wp_seq ?_
     refine sr ?_
     refine s_mv (v := .int .i64 (i595 : Int)) rfl ?_
     refine s_faddrB 0 Tryz.underlying75 rfl sc3.size (sx hS_ 0 rfl) rfl ?_
     refine s_loadS hC 3 (.int .i64 ((r35.getD i453 default).gen)) rfl sc3 rfl rfl ?_
     refine s_eql rfl rfl ?_
     refine dn ?_
     refine cw_cond rfl (fun hb609 => ?_) (fun hb609 => ?_)
     ·replace h := ift h (ct hb609)
      refine cw_region ?_
      refine s_mv (v := .map (some b606)) rfl ?_
      refine s_faddrB 1 Tryz.underlying75 rfl ag73.size (sx hS_ 0 rfl) rfl ?_
      refine s_loadA hC 3 (A8.enc .i64 ((r35.getD i453 default).mono)) rfl ag73 rfl rfl rfl ?_
      refine s_mapset hC 0 ((r35.getD i453 default).mono) 1 rfl kt73 Tryz.underlying115 rfl rfl rfl (fun w610 hC => ?_) (.inl rfl)
      refine dn ?_
      refine cw_region ?_
      refine s_mv (v := .pointer (some ⟨b474, 0, none⟩)) (sx hS_ 1 rfl) ?_
      refine s_mv (v := .pointer (some ⟨b474, 0, none⟩)) (sx hS_ 1 rfl) ?_
      refine s_nilchk rfl ?_
      refine s_faddrB 2 Tryz.underlying144 rfl sc142.size rfl rfl ?_
      refine s_loadS hC 2 (v597) rfl sc142 rfl rfl ?_
      refine s_mv (v := .map (some b606)) rfl ?_
      refine s_bslice (sz := 1) hC [(0, .map (some b606))] [.map (some b606)] rfl (fun _ => bsr142_1_m b606  _) rfl (by decide) fun b611 w612 hB_ hC => ?_
      replace hC := hC.pushM0 (forest (TrMap (kvA .i64) (vvI .i64)) [] [] []) (forest_nil _ _) rfl
      replace hC := hC.sM [2, 0, 1, 3, 4, 5, 6, 7, 8, 9] (M' := [mapI (kvA .i64) (vvI .i64) b606 (mset ([] : List (A8 × Int)) ((r35.getD i453 default).mono) 1), forest (TrMap (kvA .i64) (vvI .i64)) [] [] [], own 115 1 (.slice (some ⟨b611, 0, none⟩) 1 1) 1 [.map (some b606)], Tr.item (Tr.sl 115 (TrMap (kvA .i64) (vvI .i64))) s596 [v597] f599, blk b474 144 [.pointer (some ⟨b5, 0, none⟩), .int .i64 a1, v597], blk b471 75 (Elem.enc (r35.getD i453 default)), blk b466 75 (Elem.enc (r35.getD i453 default)), Tr.item (Tr.sl 77 (TrDer 162 55)) s454 [v455] f456, own 75 9 u36 r35.length (EElem.encs r35), blk b5 32 [u0_0, u0_1]]) (by decide) rfl
      replace hC := hC.gather (c := forest (TrMap (kvA .i64) (vvI .i64)) [mset ([] : List (A8 × Int)) ((r35.getD i453 default).mono) 1] [.map (some b606)] [[b606]]) (fun x_ hx_ => forest_mem hx_) (fun h1_ h2_ hd_ => forest_cons (c := [.map (some b606)]) (map_item h1_) h2_ hd_)
      replace hC := hC.sM [1, 0, 2, 3, 4, 5, 6, 7, 8] (M' := [own 115 1 (.slice (some ⟨b611, 0, none⟩) 1 1) 1 [.map (some b606)], forest (TrMap (kvA .i64) (vvI .i64)) [mset ([] : List (A8 × Int)) ((r35.getD i453 default).mono) 1] [.map (some b606)] [[b606]], Tr.item (Tr.sl 115 (TrMap (kvA .i64) (vvI .i64))) s596 [v597] f599, blk b474 144 [.pointer (some ⟨b5, 0, none⟩), .int .i64 a1, v597], blk b471 75 (Elem.enc (r35.getD i453 default)), blk b466 75 (Elem.enc (r35.getD i453 default)), Tr.item (Tr.sl 77 (TrDer 162 55)) s454 [v455] f456, own 75 9 u36 r35.length (EElem.encs r35), blk b5 32 [u0_0, u0_1]]) (by decide) rfl
      replace hC := hC.gather (c := Tr.item (Tr.sl 115 (TrMap (kvA .i64) (vvI .i64))) [mset ([] : List (A8 × Int)) ((r35.getD i453 default).mono) 1] [.slice (some ⟨b611, 0, none⟩) 1 1] ((Option.toList (Value.ownBlock (.slice (some ⟨b611, 0, none⟩) 1 1))) ++ ([[b606]] : List (List Nat)).flatten)) (fun x_ hx_ => List.mem_append.1 hx_) (fun h1_ h2_ hd_ => forest_up h1_ h2_ hd_)
      replace hC := hC.sM [1, 0, 2, 3, 4, 5, 6, 7] (M' := [Tr.item (Tr.sl 115 (TrMap (kvA .i64) (vvI .i64))) s596 [v597] f599, Tr.item (Tr.sl 115 (TrMap (kvA .i64) (vvI .i64))) [mset ([] : List (A8 × Int)) ((r35.getD i453 default).mono) 1] [.slice (some ⟨b611, 0, none⟩) 1 1] ((Option.toList (Value.ownBlock (.slice (some ⟨b611, 0, none⟩) 1 1))) ++ ([[b606]] : List (List Nat)).flatten), blk b474 144 [.pointer (some ⟨b5, 0, none⟩), .int .i64 a1, v597], blk b471 75 (Elem.enc (r35.getD i453 default)), blk b466 75 (Elem.enc (r35.getD i453 default)), Tr.item (Tr.sl 77 (TrDer 162 55)) s454 [v455] f456, own 75 9 u36 r35.length (EElem.encs r35), blk b5 32 [u0_0, u0_1]]) (by decide) rfl
      obtain ⟨hm619, h⟩ := h
      refine s_appT hC Tryz.underlying142 el115 rfl (by decide) (by decide) rfl rfl hm619 fun v616 f618 w617 hC => ?_
      refine s_nilchk rfl ?_
      refine s_faddrB 2 Tryz.underlying144 rfl sc142.size rfl rfl ?_
      refine s_store (v := v616) hC 1 [v616] [.pointer (some ⟨b5, 0, none⟩), .int .i64 a1, v616] rfl sc142.size rfl rfl (rep_cellsV (Tr.trep _ (hC.getM 0 rfl).1)) rfl (all_c (rep_oneC (Tr.trep _ (hC.getM 0 rfl).1)) rfl) (Nat.le_of_ble_eq_true rfl) rfl fun w620 hC => ?_
      refine done ?_
      refine blk_norm ?_
      refine then_norm ?_
      refine cw_region ?_
      refine s_add (sx hS_ 3 rfl) rfl ?_
      refine s_mv (v := .int .i64 (IntKind.i64.wrap ((i595 : Int) + 1))) rfl ?_
      refine done ?_
      exact hK603 (s596 ++ [mset ([] : List (A8 × Int)) ((r35.getD i453 default).mono) 1]) _ _ ⟨v616, f618, (sk (sx hS_ 0 rfl) (sk (sx hS_ 1 rfl) (sk (sx hS_ 2 rfl) (sk (tr rfl (congrArg _ (wrap64_nat hi604 hN600))) sn)))), hC⟩ h
     ·replace h := iff_ h (cf hb609)
      refine wp_skip ?_
      refine then_norm ?_
      refine cw_region ?_
      refine s_mv (v := .pointer (some ⟨b474, 0, none⟩)) (sx hS_ 1 rfl) ?_
      refine s_mv (v := .pointer (some ⟨b474, 0, none⟩)) (sx hS_ 1 rfl) ?_
      refine s_nilchk rfl ?_
      refine s_faddrB 2 Tryz.underlying144 rfl sc142.size rfl rfl ?_
      refine s_loadS hC 2 (v597) rfl sc142 rfl rfl ?_
      refine s_mv (v := .map (some b606)) rfl ?_
      refine s_bslice (sz := 1) hC [(0, .map (some b606))] [.map (some b606)] rfl (fun _ => bsr142_1_m b606  _) rfl (by decide) fun b621 w622 hB_ hC => ?_
      replace hC := hC.pushM0 (forest (TrMap (kvA .i64) (vvI .i64)) [] [] []) (forest_nil _ _) rfl
      replace hC := hC.sM [2, 0, 1, 3, 4, 5, 6, 7, 8, 9] (M' := [mapI (kvA .i64) (vvI .i64) b606 ([] : List (A8 × Int)), forest (TrMap (kvA .i64) (vvI .i64)) [] [] [], own 115 1 (.slice (some ⟨b621, 0, none⟩) 1 1) 1 [.map (some b606)], Tr.item (Tr.sl 115 (TrMap (kvA .i64) (vvI .i64))) s596 [v597] f599, blk b474 144 [.pointer (some ⟨b5, 0, none⟩), .int .i64 a1, v597], blk b471 75 (Elem.enc (r35.getD i453 default)), blk b466 75 (Elem.enc (r35.getD i453 default)), Tr.item (Tr.sl 77 (TrDer 162 55)) s454 [v455] f456, own 75 9 u36 r35.length (EElem.encs r35), blk b5 32 [u0_0, u0_1]]) (by decide) rfl
      replace hC := hC.gather (c := forest (TrMap (kvA .i64) (vvI .i64)) [([] : List (A8 × Int))] [.map (some b606)] [[b606]]) (fun x_ hx_ => forest_mem hx_) (fun h1_ h2_ hd_ => forest_cons (c := [.map (some b606)]) (map_item h1_) h2_ hd_)
      replace hC := hC.sM [1, 0, 2, 3, 4, 5, 6, 7, 8] (M' := [own 115 1 (.slice (some ⟨b621, 0, none⟩) 1 1) 1 [.map (some b606)], forest (TrMap (kvA .i64) (vvI .i64)) [([] : List (A8 × Int))] [.map (some b606)] [[b606]], Tr.item (Tr.sl 115 (TrMap (kvA .i64) (vvI .i64))) s596 [v597] f599, blk b474 144 [.pointer (some ⟨b5, 0, none⟩), .int .i64 a1, v597], blk b471 75 (Elem.enc (r35.getD i453 default)), blk b466 75 (Elem.enc (r35.getD i453 default)), Tr.item (Tr.sl 77 (TrDer 162 55)) s454 [v455] f456, own 75 9 u36 r35.length (EElem.encs r35), blk b5 32 [u0_0, u0_1]]) (by decide) rfl
      replace hC := hC.gather (c := Tr.item (Tr.sl 115 (TrMap (kvA .i64) (vvI .i64))) [([] : List (A8 × Int))] [.slice (some ⟨b621, 0, none⟩) 1 1] ((Option.toList (Value.ownBlock (.slice (some ⟨b621, 0, none⟩) 1 1))) ++ ([[b606]] : List (List Nat)).flatten)) (fun x_ hx_ => List.mem_append.1 hx_) (fun h1_ h2_ hd_ => forest_up h1_ h2_ hd_)
      replace hC := hC.sM [1, 0, 2, 3, 4, 5, 6, 7] (M' := [Tr.item (Tr.sl 115 (TrMap (kvA .i64) (vvI .i64))) s596 [v597] f599, Tr.item (Tr.sl 115 (TrMap (kvA .i64) (vvI .i64))) [([] : List (A8 × Int))] [.slice (some ⟨b621, 0, none⟩) 1 1] ((Option.toList (Value.ownBlock (.slice (some ⟨b621, 0, none⟩) 1 1))) ++ ([[b606]] : List (List Nat)).flatten), blk b474 144 [.pointer (some ⟨b5, 0, none⟩), .int .i64 a1, v597], blk b471 75 (Elem.enc (r35.getD i453 default)), blk b466 75 (Elem.enc (r35.getD i453 default)), Tr.item (Tr.sl 77 (TrDer 162 55)) s454 [v455] f456, own 75 9 u36 r35.length (EElem.encs r35), blk b5 32 [u0_0, u0_1]]) (by decide) rfl
      obtain ⟨hm629, h⟩ := h
      refine s_appT hC Tryz.underlying142 el115 rfl (by decide) (by decide) rfl rfl hm629 fun v626 f628 w627 hC => ?_
      refine s_nilchk rfl ?_
      refine s_faddrB 2 Tryz.underlying144 rfl sc142.size rfl rfl ?_
      refine s_store (v := v626) hC 1 [v626] [.pointer (some ⟨b5, 0, none⟩), .int .i64 a1, v626] rfl sc142.size rfl rfl (rep_cellsV (Tr.trep _ (hC.getM 0 rfl).1)) rfl (all_c (rep_oneC (Tr.trep _ (hC.getM 0 rfl).1)) rfl) (Nat.le_of_ble_eq_true rfl) rfl fun w630 hC => ?_
      refine done ?_
      refine blk_norm ?_
      refine then_norm ?_
      refine cw_region ?_
      refine s_add (sx hS_ 3 rfl) rfl ?_
      refine s_mv (v := .int .i64 (IntKind.i64.wrap ((i595 : Int) + 1))) rfl ?_
      refine done ?_
      exact hK603 (s596 ++ [([] : List (A8 × Int))]) _ _ ⟨v626, f628, (sk (sx hS_ 0 rfl) (sk (sx hS_ 1 rfl) (sk (sx hS_ 2 rfl) (sk (tr rfl (congrArg _ (wrap64_nat hi604 hN600))) sn)))), hC⟩ h
    ·clear hC h
     rintro s596 e_ w631 K602 ⟨v597, f599, hS_, hC⟩ h
     refine sr ?_
     refine s_lss (sx hS_ 3 rfl) (sx hS_ 2 rfl) ?_
     refine dn ?_
     refine wp_seq ?_
     refine cw_false rfl (decide_eq_false (by omega)) ?_
     refine wp_exit (then_exit (then_exit (exit_in ?_)))
     refine then_norm ?_
     refine sr ?_
     refine s_mv (v := .pointer (some ⟨b474, 0, none⟩)) (sx hS_ 1 rfl) ?_
     refine s_as (v := .pointer (some ⟨b474, 0, none⟩)) rfl ?_
     refine dn ?_
     refine wp_ret ?_
     refine ret1 (fn := Tryz.f48) (v := .pointer (some ⟨b474, 0, none⟩)) rfl (res_tmp rfl) ⟨_, rfl, ?_⟩ (.inl rfl)
     refine s_call [.pointer (some ⟨b474, 0, none⟩)] _ Tryz.func49 rfl rfl rfl (c_impl_derive_forms (⟨(⟨a0.degrees, a0.images⟩ : Alg), a1, s596⟩ : Vc.Derive) h _ (derive_mk (hC.getM 6 rfl) (alg_mk (hC.getP 1 rfl) (hC.getP 0 rfl)) (Tr.trep _ (hC.getM 0 rfl).1)) (hC.getM 1 rfl)) (fun ret632 w634 hR633 => ?_)
     obtain ⟨r635, u636, u637, f638, r641, rfl, h, hr639, hf640, hB642⟩ := hR633
     refine ⟨_, rfl, ?_⟩
     replace hC := hC.push hB642 (Tr.item (TrDer 162 55) r635 [u636, u637] f638) hr639 hf640
     obtain ⟨rfl, ho644⟩ := der_split (hC.getM 0 rfl)
     replace hC := hC.recast (c := Tr.item (Tr.sl 55 (TrForm 162)) r635.images [u637] f638) (fun _ h_ => h_) (fun _ => ho644)
     refine s_mv (v := .tuple #[.agg #[.int .i64 r635.drop, u637], .int .i64 r641]) rfl ?_
     refine s_ext (v := .agg #[.int .i64 r635.drop, u637]) rfl rfl ?_
     refine s_ext (v := .int .i64 r641) rfl rfl ?_
     refine s_alloc hC [.int .i64 0, .slice none 0 0] z77 rfl fun b646 w648 hB_ hC => ?_
     refine s_store (v := .agg #[.int .i64 r635.drop, u637]) hC 0 [.int .i64 r635.drop, u637] [.int .i64 r635.drop, u637] rfl ag77.size rfl rfl rfl rfl (all_c rfl (all_c (rep_oneC (Tr.trep _ (hC.getM 1 rfl).1)) rfl)) (Nat.le_of_ble_eq_true rfl) rfl fun w649 hC => ?_
     refine s_as (v := .int .i64 r641) rfl ?_
     refine dn ?_
     refine cw_region ?_
     refine s_mv (v := v455) (slot hSi470 4 rfl) ?_
     refine s_loadA hC 0 [.int .i64 r635.drop, u637] rfl ag77 rfl rfl rfl ?_
     refine s_bslice (sz := 2) hC [(0, .agg #[.int .i64 r635.drop, u637])] [.int .i64 r635.drop, u637] rfl (fun _ => bsr27_1_is r635.drop u637 (rep_isSl (Tr.trep _ (hC.getM 1 rfl).1)) _) rfl (by decide) fun b650 w651 hB_ hC => ?_
     replace hC := hC.pushM0 (forest (TrDer 162 55) [] [] []) (forest_nil _ _) rfl
     replace hC := hC.sM [3, 0, 1, 2, 4, 5, 6, 7, 8, 9, 10] (M' := [Tr.item (Tr.sl 55 (TrForm 162)) r635.images [u637] f638, forest (TrDer 162 55) [] [] [], own 77 2 (.slice (some ⟨b650, 0, none⟩) 1 1) 1 [.int .i64 r635.drop, u637], blk b646 77 [.int .i64 r635.drop, u637], Tr.item (Tr.sl 115 (TrMap (kvA .i64) (vvI .i64))) s596 [v597] f599, blk b474 144 [.pointer (some ⟨b5, 0, none⟩), .int .i64 a1, v597], blk b471 75 (Elem.enc (r35.getD i453 default)), blk b466 75 (Elem.enc (r35.getD i453 default)), Tr.item (Tr.sl 77 (TrDer 162 55)) s454 [v455] f456, own 75 9 u36 r35.length (EElem.encs r35), blk b5 32 [u0_0, u0_1]]) (by decide) rfl
     replace hC := hC.gather (c := forest (TrDer 162 55) [r635] [.int .i64 r635.drop, u637] [f638]) (fun x_ hx_ => forest_mem hx_) (fun h1_ h2_ hd_ => forest_cons (c := [.int .i64 r635.drop, u637]) (der_join h1_) h2_ hd_)
     replace hC := hC.sM [1, 0, 2, 3, 4, 5, 6, 7, 8, 9] (M' := [own 77 2 (.slice (some ⟨b650, 0, none⟩) 1 1) 1 [.int .i64 r635.drop, u637], forest (TrDer 162 55) [r635] [.int .i64 r635.drop, u637] [f638], blk b646 77 [.int .i64 r635.drop, u637], Tr.item (Tr.sl 115 (TrMap (kvA .i64) (vvI .i64))) s596 [v597] f599, blk b474 144 [.pointer (some ⟨b5, 0, none⟩), .int .i64 a1, v597], blk b471 75 (Elem.enc (r35.getD i453 default)), blk b466 75 (Elem.enc (r35.getD i453 default)), Tr.item (Tr.sl 77 (TrDer 162 55)) s454 [v455] f456, own 75 9 u36 r35.length (EElem.encs r35), blk b5 32 [u0_0, u0_1]]) (by decide) rfl
     replace hC := hC.gather (c := Tr.item (Tr.sl 77 (TrDer 162 55)) [r635] [.slice (some ⟨b650, 0, none⟩) 1 1] ((Option.toList (Value.ownBlock (.slice (some ⟨b650, 0, none⟩) 1 1))) ++ ([f638] : List (List Nat)).flatten)) (fun x_ hx_ => List.mem_append.1 hx_) (fun h1_ h2_ hd_ => forest_up h1_ h2_ hd_)
     replace hC := hC.sM [6, 0, 1, 2, 3, 4, 5, 7, 8] (M' := [Tr.item (Tr.sl 77 (TrDer 162 55)) s454 [v455] f456, Tr.item (Tr.sl 77 (TrDer 162 55)) [r635] [.slice (some ⟨b650, 0, none⟩) 1 1] ((Option.toList (Value.ownBlock (.slice (some ⟨b650, 0, none⟩) 1 1))) ++ ([f638] : List (List Nat)).flatten), blk b646 77 [.int .i64 r635.drop, u637], Tr.item (Tr.sl 115 (TrMap (kvA .i64) (vvI .i64))) s596 [v597] f599, blk b474 144 [.pointer (some ⟨b5, 0, none⟩), .int .i64 a1, v597], blk b471 75 (Elem.enc (r35.getD i453 default)), blk b466 75 (Elem.enc (r35.getD i453 default)), own 75 9 u36 r35.length (EElem.encs r35), blk b5 32 [u0_0, u0_1]]) (by decide) rfl
     obtain ⟨hm658, h⟩ := h
     refine s_appT hC Tryz.underlying27 el77 rfl (by decide) (by decide) rfl rfl hm658 fun v655 f657 w656 hC => ?_
     refine s_as (v := v655) rfl ?_
     refine done ?_
     refine blk_norm ?_
     refine then_norm ?_
     refine cw_region ?_
     refine s_add (slot hSi470 7 rfl) rfl ?_
     refine s_mv (v := .int .i64 (IntKind.i64.wrap ((i453 : Int) + 1))) rfl ?_
     refine done ?_
     replace hC := hC.sM [0, 6, 7] (M' := [Tr.item (Tr.sl 77 (TrDer 162 55)) (s454 ++ [r635]) [v655] f657, own 75 9 u36 r35.length (EElem.encs r35), blk b5 32 [u0_0, u0_1]]) (by decide) rfl
     exact hK460 (s454 ++ [r635]) _ _ ⟨v655, f657, (sk (slot hSi470 0 rfl) (sk (slot hSi470 1 rfl) (sk (slot hSi470 2 rfl) (sk (slot hSi470 3 rfl) (sk rfl (sk (slot hSi470 5 rfl) (sk (slot hSi470 6 rfl) (sk (tr rfl (congrArg _ (wrap64_nat hi461 hN457))) sn)))))))), hC⟩ h
    ·skip
     replace hC := hC.pushM0 (Tr.item (Tr.sl 115 (TrMap (kvA .i64) (vvI .i64))) [] [.slice none 0 0] []) (nil_item _ _ _) rfl
     exact ⟨.slice none 0 0, [], (sk rfl (sk rfl (sk rfl (sk rfl sn)))), hC⟩
   ·clear hC h
    rintro s454 e_ w660 K459 ⟨v455, f456, hS_, hC⟩ h
    refine sr ?_
    refine s_lss (sx hS_ 7 rfl) (sx hS_ 6 rfl) ?_
    refine dn ?_
    refine wp_seq ?_
    refine cw_false rfl (decide_eq_false (by omega)) ?_
    refine wp_exit (then_exit (then_exit (exit_in ?_)))
    refine then_norm ?_
    refine sr ?_
    refine s_mv (v := v455) (sx hS_ 4 rfl) ?_
    refine s_as (v := v455) rfl ?_
    refine s_as (v := .int .i64 0) rfl ?_
    refine dn ?_
    refine wp_ret ?_
    refine ret2 (fn := Tryz.f13) rfl ?_ ?_ ⟨s454, v455, f456, 0, rfl, h, (hC.getM 0 rfl), (tr_fresh hC 0 rfl), hC.below⟩ (.inl rfl)
    ·exact res_tmp rfl
    ·exact res_tmp rfl
   ·skip
    replace hC := hC.sM [0, 1, 3] (M' := [Tr.item (Tr.sl 77 (TrDer 162 55)) [] [.slice (some ⟨b47, 0, none⟩) 0 0] ((Option.toList (Value.ownBlock (.slice (some ⟨b47, 0, none⟩) 0 0))) ++ ([] : List (List Nat)).flatten), own 75 9 u36 r35.length (EElem.encs r35), blk b5 32 [u0_0, u0_1]]) (by decide) rfl
    exact ⟨.slice (some ⟨b47, 0, none⟩) 0 0, ((Option.toList (Value.ownBlock (.slice (some ⟨b47, 0, none⟩) 0 0))) ++ ([] : List (List Nat)).flatten), (sk rfl (sk rfl (sk rfl (sk rfl (sk rfl (sk rfl (sk rfl (sk rfl sn)))))))), hC⟩
def f_laws_eqDerivation (a0 : Der) (a1 : Der) (K : Bool → Prop) : Prop :=
 (if a0.drop ≠ a1.drop then K false else f_laws_eqFormS a0.images a1.images (fun r17 => (if ¬ (r17 = true) then K false else K true)))
theorem c_laws_eqDerivation (a0 : Der) (a1 : Der) {u0_0 : Value} {u0_1 : Value} {u1_0 : Value} {u1_1 : Value} {fp0 : List Nat} {fp1 : List Nat} {K : Bool → Prop} (h : f_laws_eqDerivation a0 a1 K) (w0 : World) (q0 : TDer.rep a0 [u0_0, u0_1] fp0 w0) (q1 : TDer.rep a1 [u1_0, u1_1] fp1 w0) :
  Calls Tryz.prog 50 #[.agg #[u0_0, u0_1], .agg #[u1_0, u1_1]] w0 fun e w' => ∃ (r0 : Bool), 
   e = .returned (.bool r0) ∧ K r0 ∧ Bel w0 w' := by
 unfold f_laws_eqDerivation at h
 refine calls_of (args := [.agg #[u0_0, u0_1], .agg #[u1_0, u1_1]]) Tryz.func50 rfl 16 Tryz.ntmps50 (Nat.le_of_ble_eq_true rfl) ?_
 have hC := Ctx.start (X := Nox) w0 [Ty.item TDer a0 [u0_0, u0_1] fp0, Ty.item TDer a1 [u1_0, u1_1] fp1] (by simp only [List.mem_cons, List.not_mem_nil, or_false, forall_eq_or_imp, forall_eq]; exact ⟨q0, q1⟩)
 have hp3 := (hC.getP 0 rfl)
 obtain rfl := (der_parts hp3).1
 replace hC := hC.derive 0 rfl (Ty.item TForm.sl a0.images [u0_1] fp0) (fun _ => (der_parts hp3).2) (fun _ hb_ => hb_)
 have hp5 := (hC.getP 2 rfl)
 obtain rfl := (der_parts hp5).1
 replace hC := hC.derive 2 rfl (Ty.item TForm.sl a1.images [u1_1] fp1) (fun _ => (der_parts hp5).2) (fun _ hb_ => hb_)
 refine sr ?_
 refine s_box (v := .agg #[.int .i64 a0.drop, u0_1]) hC [.int .i64 a0.drop, u0_1] rfl rfl fun b7 w9 hB_ hC => ?_
 refine s_box (v := .agg #[.int .i64 a1.drop, u1_1]) hC [.int .i64 a1.drop, u1_1] rfl rfl fun b10 w12 hB_ hC => ?_
 refine s_as (v := .bool false) rfl ?_
 refine dn ?_
 refine wp_seq ?_
 refine sr ?_
 refine s_faddrB 0 Tryz.underlying77 rfl sc2.size rfl rfl ?_
 refine s_loadS hC 1 (.int .i64 a0.drop) rfl sc2 rfl rfl ?_
 refine s_faddrB 0 Tryz.underlying77 rfl sc2.size rfl rfl ?_
 refine s_loadS hC 0 (.int .i64 a1.drop) rfl sc2 rfl rfl ?_
 refine s_neq rfl rfl ?_
 refine dn ?_
 refine cw_cond rfl (fun hb13 => ?_) (fun hb13 => ?_)
 ·replace h := ift h (ct hb13)
  refine sr ?_
  refine s_as (v := .bool false) rfl ?_
  refine dn ?_
  refine wp_ret (then_ret ?_)
  refine ret1 (fn := Tryz.f50) rfl ?_ ⟨false, rfl, h, hC.below⟩ (.inl rfl)
  exact res_tmp rfl
 ·replace h := iff_ h (cf hb13)
  refine wp_skip ?_
  refine then_norm ?_
  refine wp_seq ?_
  refine sr ?_
  refine s_faddrB 1 Tryz.underlying77 rfl sc30.size rfl rfl ?_
  refine s_loadS hC 1 (u0_1) rfl sc30 rfl rfl ?_
  refine s_faddrB 1 Tryz.underlying77 rfl sc30.size rfl rfl ?_
  refine s_loadS hC 0 (u1_1) rfl sc30 rfl rfl ?_
  refine s_call [u0_1, u1_1] _ Tryz.func51 rfl rfl rfl (c_laws_eqFormS a0.images a1.images h _ (hC.getP 1 rfl) (hC.getP 0 rfl)) (fun ret14 w16 hR15 => ?_)
  obtain ⟨r17, rfl, h, hB18⟩ := hR15
  refine ⟨_, rfl, ?_⟩
  replace hC := hC.grow hB18
  refine s_not rfl ?_
  refine dn ?_
  refine cw_cond rfl (fun hb19 => ?_) (fun hb19 => ?_)
  ·replace h := ift h (ne_t (not_t hb19))
   refine sr ?_
   refine s_as (v := .bool false) rfl ?_
   refine dn ?_
   refine wp_ret (then_ret ?_)
   refine ret1 (fn := Tryz.f50) rfl ?_ ⟨false, rfl, h, hC.below⟩ (.inl rfl)
   exact res_tmp rfl
  ·replace h := iff_ h (not_not_intro ((not_f hb19)))
   refine wp_skip ?_
   refine then_norm ?_
   refine sr ?_
   refine s_as (v := .bool true) rfl ?_
   refine dn ?_
   refine wp_ret ?_
   refine ret1 (fn := Tryz.f50) rfl ?_ ⟨true, rfl, h, hC.below⟩ (.inl rfl)
   exact res_tmp rfl
def f_laws_eqDerivationS (a0 : List Der) (a1 : List Der) (K : Bool → Prop) : Prop :=
 (if (a0.length : Int) ≠ (a1.length : Int) then K false else forN (fun i50 (s51 : Unit) next53 => ((0 ≤ (i50 : Int) ∧ (i50 : Int) < (a1.length : Int)) ∧ f_laws_eqDerivation (a0.getD i50 default) (a1.getD i50 default) (fun r89 => (if ¬ (r89 = true) then K false else next53 ())))) (fun (s51 : Unit) => K true) a0.length 0 ())
theorem c_laws_eqDerivationS (a0 : List Der) (a1 : List Der) {u0_0 : Value} {u1_0 : Value} {fp0 : List Nat} {fp1 : List Nat} {K : Bool → Prop} (h : f_laws_eqDerivationS a0 a1 K) (w0 : World) (q0 : TDer.sl.rep a0 [u0_0] fp0 w0) (q1 : TDer.sl.rep a1 [u1_0] fp1 w0) :
  Calls Tryz.prog 14 #[u0_0, u1_0] w0 fun e w' => ∃ (r0 : Bool), 
   e = .returned (.bool r0) ∧ K r0 ∧ Bel w0 w' := by
 unfold f_laws_eqDerivationS at h
 refine calls_of (args := [u0_0, u1_0]) Tryz.func14 rfl 27 Tryz.ntmps14 (Nat.le_of_ble_eq_true rfl) ?_
 have hC := Ctx.start (X := Nox) w0 [Ty.item TDer.sl a0 [u0_0] fp0, Ty.item TDer.sl a1 [u1_0] fp1] (by simp only [List.mem_cons, List.not_mem_nil, or_false, forall_eq_or_imp, forall_eq]; exact ⟨q0, q1⟩)
 refine sr ?_
 refine s_as (v := .bool false) rfl ?_
 refine dn ?_
 refine wp_seq ?_
 refine sr ?_
 refine s_mv (v := u0_0) rfl ?_
 obtain ⟨Ad3, c4, hv5⟩ := sl_len (hC.getP 0 rfl)
 refine s_len Tryz.underlying27 (tr rfl hv5) ?_
 refine s_mv (v := u1_0) rfl ?_
 obtain ⟨Ad6, c7, hv8⟩ := sl_len (hC.getP 1 rfl)
 refine s_len Tryz.underlying27 (tr rfl hv8) ?_
 refine s_neq rfl rfl ?_
 refine dn ?_
 refine cw_cond rfl (fun hb9 => ?_) (fun hb9 => ?_)
 ·replace h := ift h (ct hb9)
  refine sr ?_
  refine s_as (v := .bool false) rfl ?_
  refine dn ?_
  refine wp_ret (then_ret ?_)
  refine ret1 (fn := Tryz.f14) rfl ?_ ⟨false, rfl, h, hC.below⟩ (.inl rfl)
  exact res_tmp rfl
 ·replace h := iff_ h (cf hb9)
  refine wp_skip ?_
  refine then_norm ?_
  refine wp_seq ?_
  refine sr ?_
  refine s_as (v := .int .i64 0) rfl ?_
  refine dn ?_
  refine wp_block ?_
  have hN52 : a0.length ≤ 9223372036854775807 := sl_max (hC.getP 0 rfl)
  refine loopN (S := Unit) _ _ (fun i50 s51 e_ w_ => Slots e_ [(0, u0_0), (1, u1_0), (4, .bool false), (5, .int .i64 (i50 : Int))] ∧ Ctx Nox w0 w_ [] [Ty.item TDer.sl a0 [u0_0] fp0, Ty.item TDer.sl a1 [u1_0] fp1]) a0.length ?_ ?_ (s0 := ()) ?_ h
  ·clear hC h
   rintro i50 s51 e_ w57 next53 K54 hi56 ⟨hS_, hC⟩ h hK55
   refine wp_seq ?_
   refine sr ?_
   refine s_mv (v := .int .i64 (i50 : Int)) (sx hS_ 3 rfl) ?_
   refine s_mv (v := u0_0) (sx hS_ 0 rfl) ?_
   obtain ⟨Ad58, c59, hv60⟩ := sl_len (hC.getP 0 rfl)
   refine s_len Tryz.underlying27 (tr rfl hv60) ?_
   refine s_lss rfl rfl ?_
   refine dn ?_
   refine cw_true rfl (decide_eq_true (by omega)) ?_
   refine wp_skip ?_
   refine then_norm ?_
   refine wp_seq ?_
   refine wp_block ?_
   refine wp_seq ?_
   refine cw_draw 8 mixed [0, 0, 3, 7, 0, 0, 48, 112, 255, 511] [2, 3, 6, 7] [0, 1, 4, 5] (by kernel_rfl) (by kernel_rfl) (by kernel_rfl) (fun hM62 hM63 w61 hB_ => ?_)
   replace hC := hC.grow hB_
   refine aF 0 (u0_0) rfl rfl (hM63 0 rfl) (rfl) (fun _ => by exact r_mv (v := u0_0) (sx hS_ 0 rfl)) (dbits 10 1) ?_
   refine aF 1 (.int .i64 (i50 : Int)) rfl rfl (hM63 1 rfl) (rfl) (fun _ => by exact r_mv (v := .int .i64 (i50 : Int)) (sx hS_ 3 rfl)) (dbits 10 3) ?_
   obtain ⟨Ad64, c65, hv66⟩ := sl_form (hC.getP 0 rfl) i50 hi56
   refine aL 2 (.pointer (some (Ad64.add (i50 * 2)))) rfl rfl (hM62 2 rfl) (rfl) (fun _ hB_ => by exact r_iaddrS (len := a0.length) Tryz.underlying27 ag77.size (by exact tr rfl hv66) rfl (Int.natCast_nonneg _) (Int.ofNat_lt.2 hi56)) (dbits 10 7) ?_
   obtain ⟨cs_, hl69, hc70, hr71⟩ := sl_cells (hC.getP 0 rfl) hv66 i50 hi56
   obtain ⟨u67, u68, rfl⟩ := len_two hl69
   clear hl69
   rw [getD_eq _ _ hi56] at hr71
   have hp72 := hr71
   obtain rfl := (der_parts hp72).1
   replace hC := hC.derive 0 rfl (Ty.item TForm.sl ((a0.getD i50 default).images) [u68] fp0) (fun _ => (der_parts hp72).2) (fun _ hb_ => hb_)
   refine aL 3 (.agg #[.int .i64 ((a0.getD i50 default).drop), u68]) rfl rfl (hM62 3 rfl) (rfl) (fun _ hB_ => by exact r_loadCA [.int .i64 ((a0.getD i50 default).drop), u68] (cellsAt_bel hB_ hc70) ag77 rfl rfl) (dbits 10 15) ?_
   refine aF 4 (u1_0) rfl rfl (hM63 4 rfl) (rfl) (fun _ => by exact r_mv (v := u1_0) (sx hS_ 1 rfl)) (dbits 10 31) ?_
   refine aF 5 (.int .i64 (i50 : Int)) rfl rfl (hM63 5 rfl) (rfl) (fun _ => by exact r_mv (v := .int .i64 (i50 : Int)) (sx hS_ 3 rfl)) (dbits 10 63) ?_
   obtain ⟨⟨h0_74, h1_75⟩, h⟩ := h
   obtain ⟨Ad76, c77, hv78⟩ := sl_form (hC.getP 2 rfl) i50 (show i50 < a1.length by omega)
   refine aL 6 (.pointer (some (Ad76.add (i50 * 2)))) rfl rfl (hM62 6 rfl) (rfl) (fun _ hB_ => by exact r_iaddrS (len := a1.length) Tryz.underlying27 ag77.size (by exact tr rfl hv78) rfl h0_74 h1_75) (dbits 10 127) ?_
   obtain ⟨cs_, hl81, hc82, hr83⟩ := sl_cells (hC.getP 2 rfl) hv78 i50 (show i50 < a1.length by omega)
   obtain ⟨u79, u80, rfl⟩ := len_two hl81
   clear hl81
   rw [getD_eq _ _ (show i50 < a1.length by omega)] at hr83
   have hp84 := hr83
   obtain rfl := (der_parts hp84).1
   replace hC := hC.derive 2 rfl (Ty.item TForm.sl ((a1.getD i50 default).images) [u80] fp1) (fun _ => (der_parts hp84).2) (fun _ hb_ => hb_)
   refine aL 7 (.agg #[.int .i64 ((a1.getD i50 default).drop), u80]) rfl rfl (hM62 7 rfl) (rfl) (fun _ hB_ => by exact r_loadCA [.int .i64 ((a1.getD i50 default).drop), u80] (cellsAt_bel hB_ hc82) ag77 rfl rfl) (dbits 10 255) ?_
   refine ae_tail 8 (by decide) (by decide) (by kernel_rfl) (by kernel_rfl) rfl ?_
   refine s_call [.agg #[.int .i64 ((a0.getD i50 default).drop), u68], .agg #[.int .i64 ((a1.getD i50 default).drop), u80]] _ Tryz.func50 rfl rfl rfl (c_laws_eqDerivation (a0.getD i50 default) (a1.getD i50 default) h _ (der_mk (hC.getP 1 rfl)) (der_mk (hC.getP 0 rfl))) (fun ret86 w88 hR87 => ?_)
   obtain ⟨r89, rfl, h, hB90⟩ := hR87
   refine ⟨_, rfl, ?_⟩
   replace hC := hC.grow hB90
   refine s_not rfl ?_
   refine done ?_
   refine qn_norm ?_
   refine then_norm ?_
   refine cw_cond rfl (fun hb91 => ?_) (fun hb91 => ?_)
   ·replace h := ift h (ne_t (not_t hb91))
    refine sr ?_
    refine s_as (v := .bool false) rfl ?_
    refine dn ?_
    refine wp_ret (blk_ret (then_ret (then_ret (blk_ret (then_ret ?_)))))
    refine ret1 (fn := Tryz.f14) rfl ?_ ⟨false, rfl, h, hC.below⟩ (.inl rfl)
    exact res_tmp rfl
   ·replace h := iff_ h (not_not_intro ((not_f hb91)))
    refine wp_skip ?_
    refine blk_norm ?_
    refine then_norm ?_
    refine cw_region ?_
    refine s_mv (v := .int .i64 (i50 : Int)) (sx hS_ 3 rfl) ?_
    refine s_add rfl rfl ?_
    refine s_as (v := .int .i64 (IntKind.i64.wrap ((i50 : Int) + 1))) rfl ?_
    refine done ?_
    replace hC := hC.sP [2, 3] (Ps' := [Ty.item TDer.sl a0 [u0_0] fp0, Ty.item TDer.sl a1 [u1_0] fp1]) rfl
    exact hK55 () _ _ ⟨(sk (sx hS_ 0 rfl) (sk (sx hS_ 1 rfl) (sk (sx hS_ 2 rfl) (sk (tr rfl (congrArg _ (wrap64_nat hi56 hN52))) sn)))), hC⟩ h
  ·clear hC h
   rintro s51 e_ w92 K54 ⟨hS_, hC⟩ h
   refine wp_seq ?_
   refine sr ?_
   refine s_mv (v := .int .i64 (a0.length : Int)) (sx hS_ 3 rfl) ?_
   refine s_mv (v := u0_0) (sx hS_ 0 rfl) ?_
   obtain ⟨Ad93, c94, hv95⟩ := sl_len (hC.getP 0 rfl)
   refine s_len Tryz.underlying27 (tr rfl hv95) ?_
   refine s_lss rfl rfl ?_
   refine dn ?_
   refine cw_false rfl (decide_eq_false (by omega)) ?_
   refine wp_exit (then_exit (then_exit (exit_in ?_)))
   refine then_norm ?_
   refine sr ?_
   refine s_as (v := .bool true) rfl ?_
   refine dn ?_
   refine wp_ret ?_
   refine ret1 (fn := Tryz.f14) rfl ?_ ⟨true, rfl, h, hC.below⟩ (.inl rfl)
   exact res_tmp rfl
  ·skip
   exact ⟨(sk rfl (sk rfl (sk rfl (sk rfl sn)))), hC⟩
def f_laws_markDerivationS (a0 : List Der) (a1 : Int) (K : Int → List Der → Prop) : Prop :=
 whileP (fun (s145 : (List Der) × Int × Int) next146 => (if s145.2.2 < (s145.1.length : Int) then ((0 ≤ s145.2.2 ∧ s145.2.2 < (s145.1.length : Int)) ∧ ((0 ≤ s145.2.2 ∧ s145.2.2 < ((s145.1.set s145.2.2.toNat (⟨s145.2.1, (s145.1.getD s145.2.2.toNat default).images⟩ : Der)).length : Int)) ∧ f_laws_markFormS (((s145.1.set s145.2.2.toNat (⟨s145.2.1, (s145.1.getD s145.2.2.toNat default).images⟩ : Der)).getD s145.2.2.toNat default).images) (IntKind.i64.wrap (s145.2.1 + 1)) (fun r180 m182 => next146 ((s145.1.set s145.2.2.toNat (⟨s145.2.1, (s145.1.getD s145.2.2.toNat default).images⟩ : Der)).set s145.2.2.toNat (⟨((s145.1.set s145.2.2.toNat (⟨s145.2.1, (s145.1.getD s145.2.2.toNat default).images⟩ : Der)).getD s145.2.2.toNat default).drop, m182⟩ : Der), r180, IntKind.i64.wrap (s145.2.2 + 1))))) else K s145.2.1 s145.1)) (a0, a1, 0)
theorem c_laws_markDerivationS (a0 : List Der) (a1 : Int) {u0_0 : Value} {fp0_0 : List Nat} {K : Int → List Der → Prop} (h : f_laws_markDerivationS a0 a1 K) (w0 : World) (qw0 : (Tr.item (Tr.sl 77 (TrDer 162 55)) a0 [u0_0] fp0_0).holds w0) :
  Calls Tryz.prog 17 #[u0_0, .int .i64 a1] w0 fun e w' => ∃ (r0 : Int) (mw : List Der), 
   e = .returned (.int .i64 r0) ∧ K r0 mw ∧ (Tr.item (Tr.sl 77 (TrDer 162 55)) mw [u0_0] fp0_0).holds w' ∧ BelO (fp0_0) w0 w' := by
 unfold f_laws_markDerivationS at h
 refine calls_of (args := [u0_0, .int .i64 a1]) Tryz.func17 rfl 27 Tryz.ntmps17 (Nat.le_of_ble_eq_true rfl) ?_
 have hC := Ctx.startL w0 (fp0_0) [Tr.item (Tr.sl 77 (TrDer 162 55)) a0 [u0_0] fp0_0] [] (by simp only [List.mem_cons, List.not_mem_nil, or_false, forall_eq_or_imp, forall_eq]; exact qw0) (by simp) (by simp only [List.mem_cons, List.not_mem_nil, or_false, forall_eq_or_imp, forall_eq]; exact fun b hb => hb) (List.pairwise_singleton _ _) (by simp)
 refine sr ?_
 refine s_as (v := .int .i64 0) rfl ?_
 refine dn ?_
 refine wp_seq ?_
 refine sr ?_
 refine s_as (v := .int .i64 0) rfl ?_
 refine dn ?_
 refine wp_block ?_
 refine loopW (S := (List Der) × Int × Int) _ (fun s145 e_ w_ => Slots e_ [(0, u0_0), (1, .int .i64 s145.2.1), (4, .int .i64 0), (5, .int .i64 s145.2.2)] ∧ Ctx (fun c_ => c_ ∈ fp0_0) w0 w_ [Tr.item (Tr.sl 77 (TrDer 162 55)) s145.1 [u0_0] fp0_0] []) ?_ (s0 := (a0, a1, 0)) ?_ h
 ·clear hC h
  rintro s145 e_ w149 next146 K147 ⟨hS_, hC⟩ h hK148
  refine wp_seq ?_
  refine sr ?_
  refine s_mv (v := .int .i64 s145.2.2) (sx hS_ 3 rfl) ?_
  refine s_mv (v := u0_0) (sx hS_ 0 rfl) ?_
  obtain ⟨Ad150, c151, hv152⟩ := tr_form (hC.getM 0 rfl)
  refine s_len Tryz.underlying27 (tr rfl hv152) ?_
  refine s_lss rfl rfl ?_
  refine dn ?_
  refine cw_cond rfl (fun hb153 => ?_) (fun hb153 => ?_)
  ·replace h := ift h (ct hb153)
   refine wp_skip ?_
   refine then_norm ?_
   refine wp_seq ?_
   refine wp_block ?_
   refine sr ?_
   refine s_mv (v := u0_0) (sx hS_ 0 rfl) ?_
   refine s_mv (v := .int .i64 s145.2.2) (sx hS_ 3 rfl) ?_
   refine s_mv (v := .int .i64 s145.2.1) (sx hS_ 1 rfl) ?_
   obtain ⟨⟨h0_154, h1_155⟩, h⟩ := h
   obtain ⟨g159, cap160, hv161⟩ := tr_formE (hC.getM 0 rfl) (Nat.lt_of_le_of_lt (Nat.zero_le _) (show s145.2.2.toNat < s145.1.length by omega))
   refine s_iaddrO (s145.2.2.toNat * 2) Tryz.underlying27 ag77.size (tr rfl hv161) rfl h0_154 h1_155 rfl ?_
   refine s_faddrB (s145.2.2.toNat * 2 + 0) Tryz.underlying77 rfl sc2.size rfl rfl ?_
   refine s_storeDrop hC (show s145.2.2.toNat < s145.1.length by omega) hv161 sc2.size rfl rfl rfl fun w162 hC => ?_
   refine dn ?_
   refine sr ?_
   refine s_mv (v := .int .i64 s145.2.1) (sx hS_ 1 rfl) ?_
   refine s_add rfl rfl ?_
   refine s_as (v := .int .i64 (IntKind.i64.wrap (s145.2.1 + 1))) rfl ?_
   refine dn ?_
   refine cw_region ?_
   refine s_mv (v := u0_0) (sx hS_ 0 rfl) ?_
   refine s_mv (v := .int .i64 s145.2.2) (sx hS_ 3 rfl) ?_
   obtain ⟨⟨h0_163, h1_164⟩, h⟩ := h
   obtain ⟨g168, cap169, hv170⟩ := tr_formE (hC.getM 0 rfl) (Nat.lt_of_le_of_lt (Nat.zero_le _) (show s145.2.2.toNat < (s145.1.set s145.2.2.toNat (⟨s145.2.1, (s145.1.getD s145.2.2.toNat default).images⟩ : Der)).length by omega))
   refine s_iaddrO (s145.2.2.toNat * 2) Tryz.underlying27 ag77.size (tr rfl hv170) rfl h0_163 h1_164 rfl ?_
   refine s_faddrB (s145.2.2.toNat * 2 + 1) Tryz.underlying77 rfl sc30.size rfl rfl ?_
   obtain ⟨u171, f172, hcell173, ho174, hsub175, hout176⟩ := der_focus (hC.getM 0 rfl) (show s145.2.2.toNat < (s145.1.set s145.2.2.toNat (⟨s145.2.1, (s145.1.getD s145.2.2.toNat default).images⟩ : Der)).length by omega) hv170
   refine s_loadCS (u171) hcell173 sc30 rfl ?_
   refine s_mv (v := .int .i64 (IntKind.i64.wrap (s145.2.1 + 1))) rfl ?_
   refine s_call [u171, .int .i64 (IntKind.i64.wrap (s145.2.1 + 1))] _ Tryz.func52 rfl rfl rfl (c_laws_markFormS (((s145.1.set s145.2.2.toNat (⟨s145.2.1, (s145.1.getD s145.2.2.toNat default).images⟩ : Der)).getD s145.2.2.toNat default).images) (IntKind.i64.wrap (s145.2.1 + 1)) h _ ho174) (fun ret177 w179 hR178 => ?_)
   obtain ⟨r180, m182, rfl, h, hm183, hB181⟩ := hR178
   refine ⟨_, rfl, ?_⟩
   replace hC := hC.turn 0 (jt := Tr.item (Tr.sl 77 (TrDer 162 55)) ((s145.1.set s145.2.2.toNat (⟨s145.2.1, (s145.1.getD s145.2.2.toNat default).images⟩ : Der)).set s145.2.2.toNat (⟨((s145.1.set s145.2.2.toNat (⟨s145.2.1, (s145.1.getD s145.2.2.toNat default).images⟩ : Der)).getD s145.2.2.toNat default).drop, m182⟩ : Der)) [u0_0] fp0_0) rfl hB181.os hB181.tape hB181.output hB181.size hB181.drawn (fun c_ hc_ hn_ => hB181.old c_ hc_ (fun h_ => hn_ (hsub175 c_ h_))) (hout176 m182 _ hm183 hB181) (fun b_ hb_ => .inl hb_)
   refine s_as (v := .int .i64 r180) rfl ?_
   refine done ?_
   refine blk_norm ?_
   refine then_norm ?_
   refine cw_region ?_
   refine s_mv (v := .int .i64 s145.2.2) (sx hS_ 3 rfl) ?_
   refine s_add rfl rfl ?_
   refine s_as (v := .int .i64 (IntKind.i64.wrap (s145.2.2 + 1))) rfl ?_
   refine done ?_
   exact hK148 ((s145.1.set s145.2.2.toNat (⟨s145.2.1, (s145.1.getD s145.2.2.toNat default).images⟩ : Der)).set s145.2.2.toNat (⟨((s145.1.set s145.2.2.toNat (⟨s145.2.1, (s145.1.getD s145.2.2.toNat default).images⟩ : Der)).getD s145.2.2.toNat default).drop, m182⟩ : Der), r180, IntKind.i64.wrap (s145.2.2 + 1)) _ _ ⟨(sk (sx hS_ 0 rfl) (sk rfl (sk (sx hS_ 2 rfl) (sk rfl sn)))), hC⟩ h
  ·replace h := iff_ h (cf hb153)
   refine wp_exit (then_exit (then_exit (exit_in ?_)))
   refine then_norm ?_
   refine sr ?_
   refine s_mv (v := .int .i64 s145.2.1) (sx hS_ 1 rfl) ?_
   refine s_as (v := .int .i64 s145.2.1) rfl ?_
   refine dn ?_
   refine wp_ret ?_
   refine ret1 (fn := Tryz.f17) rfl ?_ ⟨s145.2.1, s145.1, rfl, h, (hC.getM 0 rfl), hC.belO⟩ (.inl rfl)
   exact res_tmp rfl
 ·skip
  exact ⟨(sk rfl (sk rfl (sk rfl (sk rfl sn)))), hC⟩
def f_laws_heldDerivationS (a0 : List Der) (a1 : Int) (K : Int → Prop) : Prop :=
 forN (fun i71 (s72 : Int) next74 => (if (a0.getD i71 default).drop ≠ s72 then K (-1) else f_laws_heldFormS ((a0.getD i71 default).images) (IntKind.i64.wrap (s72 + 1)) (fun r106 => (if r106 < 0 then K (-1) else next74 r106)))) (fun (s72 : Int) => K s72) a0.length 0 a1
theorem c_laws_heldDerivationS (a0 : List Der) (a1 : Int) {u0_0 : Value} {fp0 : List Nat} {K : Int → Prop} (h : f_laws_heldDerivationS a0 a1 K) (w0 : World) (q0 : TDer.sl.rep a0 [u0_0] fp0 w0) :
  Calls Tryz.prog 18 #[u0_0, .int .i64 a1] w0 fun e w' => ∃ (r0 : Int), 
   e = .returned (.int .i64 r0) ∧ K r0 ∧ Bel w0 w' := by
 unfold f_laws_heldDerivationS at h
 refine calls_of (args := [u0_0, .int .i64 a1]) Tryz.func18 rfl 31 Tryz.ntmps18 (Nat.le_of_ble_eq_true rfl) ?_
 have hC := Ctx.start (X := Nox) w0 [Ty.item TDer.sl a0 [u0_0] fp0] (by simp only [List.mem_cons, List.not_mem_nil, or_false, forall_eq_or_imp, forall_eq]; exact q0)
 refine sr ?_
 refine s_as (v := .int .i64 0) rfl ?_
 refine dn ?_
 refine wp_seq ?_
 refine sr ?_
 refine s_as (v := .int .i64 0) rfl ?_
 refine dn ?_
 refine wp_block ?_
 have hN73 : a0.length ≤ 9223372036854775807 := sl_max (hC.getP 0 rfl)
 refine loopN (S := Int) _ _ (fun i71 s72 e_ w_ => Slots e_ [(0, u0_0), (1, .int .i64 s72), (4, .int .i64 0), (5, .int .i64 (i71 : Int))] ∧ Ctx Nox w0 w_ [] [Ty.item TDer.sl a0 [u0_0] fp0]) a0.length ?_ ?_ (s0 := a1) ?_ h
 ·clear hC h
  rintro i71 s72 e_ w78 next74 K75 hi77 ⟨hS_, hC⟩ h hK76
  refine wp_seq ?_
  refine sr ?_
  refine s_mv (v := .int .i64 (i71 : Int)) (sx hS_ 3 rfl) ?_
  refine s_mv (v := u0_0) (sx hS_ 0 rfl) ?_
  obtain ⟨Ad79, c80, hv81⟩ := sl_len (hC.getP 0 rfl)
  refine s_len Tryz.underlying27 (tr rfl hv81) ?_
  refine s_lss rfl rfl ?_
  refine dn ?_
  refine cw_true rfl (decide_eq_true (by omega)) ?_
  refine wp_skip ?_
  refine then_norm ?_
  refine wp_seq ?_
  refine wp_block ?_
  refine wp_seq ?_
  refine sr ?_
  refine s_mv (v := u0_0) (sx hS_ 0 rfl) ?_
  refine s_mv (v := .int .i64 (i71 : Int)) (sx hS_ 3 rfl) ?_
  obtain ⟨Ad82, c83, hv84⟩ := sl_form (hC.getP 0 rfl) i71 hi77
  refine s_iaddrS (len := a0.length) Tryz.underlying27 ag77.size (tr rfl hv84) rfl (Int.natCast_nonneg _) (Int.ofNat_lt.2 hi77) ?_
  refine s_faddrS (i71 * 2 + 0) Tryz.underlying77 rfl sc2.size rfl rfl ?_
  obtain ⟨cs_, hl87, hc88, hr89⟩ := sl_cells (hC.getP 0 rfl) hv84 i71 hi77
  obtain ⟨u85, u86, rfl⟩ := len_two hl87
  clear hl87
  rw [getD_eq _ _ hi77] at hr89
  have hp90 := hr89
  obtain rfl := (der_parts hp90).1
  replace hC := hC.derive 0 rfl (Ty.item TForm.sl ((a0.getD i71 default).images) [u86] fp0) (fun _ => (der_parts hp90).2) (fun _ hb_ => hb_)
  refine s_loadCS (.int .i64 ((a0.getD i71 default).drop)) (cells_subS (o := 0) (k := 1) hc88 rfl) sc2 rfl ?_
  refine s_mv (v := .int .i64 s72) (sx hS_ 1 rfl) ?_
  refine s_neq rfl rfl ?_
  refine dn ?_
  refine cw_cond rfl (fun hb92 => ?_) (fun hb92 => ?_)
  ·replace h := ift h (ct hb92)
   refine sr ?_
   refine s_as (v := .int .i64 (-1)) rfl ?_
   refine dn ?_
   refine wp_ret (then_ret (blk_ret (then_ret (then_ret (blk_ret (then_ret ?_))))))
   refine ret1 (fn := Tryz.f18) rfl ?_ ⟨(-1), rfl, h, hC.below⟩ (.inl rfl)
   exact res_tmp rfl
  ·replace h := iff_ h (cf hb92)
   refine wp_skip ?_
   refine then_norm ?_
   refine sr ?_
   refine s_mv (v := .int .i64 s72) (sx hS_ 1 rfl) ?_
   refine s_add rfl rfl ?_
   refine s_as (v := .int .i64 (IntKind.i64.wrap (s72 + 1))) rfl ?_
   refine dn ?_
   refine sr ?_
   refine s_mv (v := u0_0) (sx hS_ 0 rfl) ?_
   refine s_mv (v := .int .i64 (i71 : Int)) (sx hS_ 3 rfl) ?_
   obtain ⟨Ad93, c94, hv95⟩ := sl_form (hC.getP 1 rfl) i71 hi77
   refine s_iaddrS (len := a0.length) Tryz.underlying27 ag77.size (tr rfl hv95) rfl (Int.natCast_nonneg _) (Int.ofNat_lt.2 hi77) ?_
   refine s_faddrS (i71 * 2 + 1) Tryz.underlying77 rfl sc30.size rfl rfl ?_
   obtain ⟨cs_, hl98, hc99, hr100⟩ := sl_cells (hC.getP 1 rfl) hv95 i71 hi77
   obtain ⟨u96, u97, rfl⟩ := len_two hl98
   clear hl98
   rw [getD_eq _ _ hi77] at hr100
   have hp101 := hr100
   obtain rfl := (der_parts hp101).1
   replace hC := hC.derive 1 rfl (Ty.item TForm.sl ((a0.getD i71 default).images) [u97] fp0) (fun _ => (der_parts hp101).2) (fun _ hb_ => hb_)
   refine s_loadCS (u97) (cells_subS (o := 1) (k := 1) hc99 rfl) sc30 rfl ?_
   refine s_mv (v := .int .i64 (IntKind.i64.wrap (s72 + 1))) rfl ?_
   refine s_call [u97, .int .i64 (IntKind.i64.wrap (s72 + 1))] _ Tryz.func53 rfl rfl rfl (c_laws_heldFormS ((a0.getD i71 default).images) (IntKind.i64.wrap (s72 + 1)) h _ (hC.getP 0 rfl)) (fun ret103 w105 hR104 => ?_)
   obtain ⟨r106, rfl, h, hB107⟩ := hR104
   refine ⟨_, rfl, ?_⟩
   replace hC := hC.grow hB107
   refine s_as (v := .int .i64 r106) rfl ?_
   refine dn ?_
   refine sr ?_
   refine s_mv (v := .int .i64 r106) rfl ?_
   refine s_lss rfl rfl ?_
   refine dn ?_
   refine cw_cond rfl (fun hb108 => ?_) (fun hb108 => ?_)
   ·replace h := ift h (ct hb108)
    refine sr ?_
    refine s_as (v := .int .i64 (-1)) rfl ?_
    refine dn ?_
    refine wp_ret (blk_ret (then_ret (then_ret (blk_ret (then_ret ?_)))))
    refine ret1 (fn := Tryz.f18) rfl ?_ ⟨(-1), rfl, h, hC.below⟩ (.inl rfl)
    exact res_tmp rfl
   ·replace h := iff_ h (cf hb108)
    refine wp_skip ?_
    refine blk_norm ?_
    refine then_norm ?_
    refine cw_region ?_
    refine s_mv (v := .int .i64 (i71 : Int)) (sx hS_ 3 rfl) ?_
    refine s_add rfl rfl ?_
    refine s_as (v := .int .i64 (IntKind.i64.wrap ((i71 : Int) + 1))) rfl ?_
    refine done ?_
    replace hC := hC.sP [2] (Ps' := [Ty.item TDer.sl a0 [u0_0] fp0]) rfl
    exact hK76 r106 _ _ ⟨(sk (sx hS_ 0 rfl) (sk rfl (sk (sx hS_ 2 rfl) (sk (tr rfl (congrArg _ (wrap64_nat hi77 hN73))) sn)))), hC⟩ h
 ·clear hC h
  rintro s72 e_ w109 K75 ⟨hS_, hC⟩ h
  refine wp_seq ?_
  refine sr ?_
  refine s_mv (v := .int .i64 (a0.length : Int)) (sx hS_ 3 rfl) ?_
  refine s_mv (v := u0_0) (sx hS_ 0 rfl) ?_
  obtain ⟨Ad110, c111, hv112⟩ := sl_len (hC.getP 0 rfl)
  refine s_len Tryz.underlying27 (tr rfl hv112) ?_
  refine s_lss rfl rfl ?_
  refine dn ?_
  refine cw_false rfl (decide_eq_false (by omega)) ?_
  refine wp_exit (then_exit (then_exit (exit_in ?_)))
  refine then_norm ?_
  refine sr ?_
  refine s_mv (v := .int .i64 s72) (sx hS_ 1 rfl) ?_
  refine s_as (v := .int .i64 s72) rfl ?_
  refine dn ?_
  refine wp_ret ?_
  refine ret1 (fn := Tryz.f18) rfl ?_ ⟨s72, rfl, h, hC.below⟩ (.inl rfl)
  exact res_tmp rfl
 ·skip
  exact ⟨(sk rfl (sk rfl (sk rfl (sk rfl sn)))), hC⟩
def f_laws_FnExactElementaryDerivations (a0 : Alg) (a1 : Int) (K : Bool → Prop) : Prop :=
 f_laws_szAlgebra a0 1048576 (fun r11 => (if r11 < 0 then K true else f_laws_toAlgebra a0 (fun r17 => f_spec_ElementaryDerivations r17 a1 (fun r36 r41 => f_laws_toAlgebra a0 (fun r48 => f_impl_ElementaryDerivations r48 a1 (fun r71 r76 => f_laws_eqDerivationS r71 r36 (fun r83 => (if ¬ (r83 = true) then K false else (if r76 ≠ r41 then K false else f_laws_toAlgebra a0 (fun r93 => f_laws_eqAlgebra r48 r93 (fun r112 => (if ¬ (r112 = true) then K false else f_laws_markAlgebra r48 1 (fun r118 m120 => (if r118 < 0 then K false else f_laws_eqDerivationS r71 r36 (fun r127 => (if ¬ (r127 = true) then K false else f_laws_markDerivationS r71 1 (fun r133 m135 => f_laws_heldDerivationS m135 1 (fun r140 => (if r140 < 0 then K false else (if r140 ≠ r133 then K false else f_laws_toAlgebra (⟨a0.degrees, a0.images⟩ : Alg) (fun r147 => f_impl_ElementaryDerivations r147 a1 (fun r166 r171 => f_laws_eqDerivationS r166 r36 (fun r178 => (if ¬ (r178 = true) then K false else (if r171 ≠ r41 then K false else f_laws_heldDerivationS m135 1 (fun r185 => (if r185 < 0 then K false else (if r185 ≠ r133 then K false else K true))))))))))))))))))))))))))))
theorem c_laws_FnExactElementaryDerivations (a0 : Alg) (a1 : Int) {u0_0 : Value} {u0_1 : Value} {fp0 : List Nat} {K : Bool → Prop} (h : f_laws_FnExactElementaryDerivations a0 a1 K) (w0 : World) (q0 : TAlg.rep a0 [u0_0, u0_1] fp0 w0) :
  Calls Tryz.prog 3 #[.agg #[u0_0, u0_1], .int .i64 a1] w0 fun e w' => ∃ (r0 : Bool), 
   e = .returned (.bool r0) ∧ K r0 ∧ Bel w0 w' := by
 unfold f_laws_FnExactElementaryDerivations at h
 refine calls_of (args := [.agg #[u0_0, u0_1], .int .i64 a1]) Tryz.func3 rfl 101 Tryz.ntmps3 (Nat.le_of_ble_eq_true rfl) ?_
 have hC := Ctx.start (X := Nox) w0 [Ty.item TAlg a0 [u0_0, u0_1] fp0] (by simp only [List.mem_cons, List.not_mem_nil, or_false, forall_eq_or_imp, forall_eq]; exact q0)
 have hp2 := (hC.getP 0 rfl)
 replace hC := hC.derive 0 rfl (Ty.item ((EI .i64).ty.sl) a0.degrees [u0_0] fp0) (fun _ => (alg_parts hp2).1) (fun _ hb_ => hb_)
 replace hC := hC.derive 1 rfl (Ty.item TForm.sl a0.images [u0_1] fp0) (fun _ => (alg_parts hp2).2) (fun _ hb_ => hb_)
 refine sr ?_
 refine s_box (v := .agg #[u0_0, u0_1]) hC [u0_0, u0_1] rfl rfl fun b5 w7 hB_ hC => ?_
 refine s_as (v := .bool false) rfl ?_
 refine dn ?_
 refine sr ?_
 refine s_as (v := .int .i64 1048576) rfl ?_
 refine dn ?_
 refine sr ?_
 refine s_loadA hC 0 [u0_0, u0_1] rfl ag25 rfl rfl rfl ?_
 refine s_mv (v := .int .i64 1048576) rfl ?_
 refine s_call [.agg #[u0_0, u0_1], .int .i64 1048576] _ Tryz.func10 rfl rfl rfl (c_laws_szAlgebra a0 1048576 h _ (alg_mk (hC.getP 1 rfl) (hC.getP 0 rfl))) (fun ret8 w10 hR9 => ?_)
 obtain ⟨r11, rfl, h, hB12⟩ := hR9
 refine ⟨_, rfl, ?_⟩
 replace hC := hC.grow hB12
 refine s_as (v := .int .i64 r11) rfl ?_
 refine dn ?_
 refine wp_seq ?_
 refine sr ?_
 refine s_mv (v := .int .i64 r11) rfl ?_
 refine s_lss rfl rfl ?_
 refine dn ?_
 refine cw_cond rfl (fun hb13 => ?_) (fun hb13 => ?_)
 ·replace h := ift h (ct hb13)
  refine sr ?_
  refine s_as (v := .bool true) rfl ?_
  refine dn ?_
  refine wp_ret (then_ret ?_)
  refine ret1 (fn := Tryz.f3) rfl ?_ ⟨true, rfl, h, hC.below⟩ (.inl rfl)
  exact res_tmp rfl
 ·replace h := iff_ h (cf hb13)
  refine wp_skip ?_
  refine then_norm ?_
  refine sr ?_
  refine s_loadA hC 0 [u0_0, u0_1] rfl ag25 rfl rfl rfl ?_
  refine s_call [.agg #[u0_0, u0_1]] _ Tryz.func12 rfl rfl rfl (c_laws_toAlgebra a0 h _ (alg_mk (hC.getP 1 rfl) (hC.getP 0 rfl))) (fun ret14 w16 hR15 => ?_)
  obtain ⟨r17, u18, u19, f20, rfl, h, hr21, hf22, hB23⟩ := hR15
  refine ⟨_, rfl, ?_⟩
  replace hC := hC.push hB23 (Tr.item (TrAlg 2 162 55) r17 [u18, u19] f20) hr21 hf22
  obtain ⟨f25, ho26, ho27, hs28, hs29, hd30⟩ := alg_split (hC.getM 0 rfl)
  replace hC := hC.split (a := own 2 1 u18 r17.degrees.length ((EI .i64).encs r17.degrees)) (b := Tr.item (Tr.sl 55 (TrForm 162)) r17.images [u19] f25) hs28 hs29 ⟨ho26, ho27, hd30⟩
  refine s_mv (v := .int .i64 a1) rfl ?_
  refine s_call [.agg #[u18, u19], .int .i64 a1] _ Tryz.func11 rfl rfl rfl (c_spec_ElementaryDerivations r17 a1 h _ (alg_mk (own_repE (hC.getM 0 rfl)) (Tr.trep _ (hC.getM 1 rfl).1))) (fun ret33 w35 hR34 => ?_)
  obtain ⟨r36, u37, f38, r41, rfl, h, hr39, hf40, hB42⟩ := hR34
  refine ⟨_, rfl, ?_⟩
  replace hC := hC.push hB42 (Tr.item (Tr.sl 77 (TrDer 162 55)) r36 [u37] f38) hr39 hf40
  refine s_mv (v := .tuple #[u37, .int .i64 r41]) rfl ?_
  refine s_ext (v := u37) rfl rfl ?_
  refine s_ext (v := .int .i64 r41) rfl rfl ?_
  refine s_as (v := u37) rfl ?_
  refine s_as (v := .int .i64 r41) rfl ?_
  refine dn ?_
  refine sr ?_
  refine s_loadA hC 3 [u0_0, u0_1] rfl ag25 rfl rfl rfl ?_
  refine s_call [.agg #[u0_0, u0_1]] _ Tryz.func12 rfl rfl rfl (c_laws_toAlgebra a0 h _ (alg_mk (hC.getP 1 rfl) (hC.getP 0 rfl))) (fun ret45 w47 hR46 => ?_)
  obtain ⟨r48, u49, u50, f51, rfl, h, hr52, hf53, hB54⟩ := hR46
  refine ⟨_, rfl, ?_⟩
  replace hC := hC.push hB54 (Tr.item (TrAlg 2 162 55) r48 [u49, u50] f51) hr52 hf53
  obtain ⟨f56, ho57, ho58, hs59, hs60, hd61⟩ := alg_split (hC.getM 0 rfl)
  replace hC := hC.split (a := own 2 1 u49 r48.degrees.length ((EI .i64).encs r48.degrees)) (b := Tr.item (Tr.sl 55 (TrForm 162)) r48.images [u50] f56) hs59 hs60 ⟨ho57, ho58, hd61⟩
  refine s_alloc hC [.slice none 0 0, .slice none 0 0] z32 rfl fun b64 w66 hB_ hC => ?_
  refine s_store (v := .agg #[u49, u50]) hC 0 [u49, u50] [u49, u50] rfl ag32.size rfl rfl rfl rfl (all_c (own_oneC (hC.getM 1 rfl)) (all_c (rep_oneC (Tr.trep _ (hC.getM 2 rfl).1)) rfl)) (Nat.le_of_ble_eq_true rfl) rfl fun w67 hC => ?_
  refine dn ?_
  refine sr ?_
  refine s_loadA hC 0 [u49, u50] rfl ag32 rfl rfl rfl ?_
  refine s_mv (v := .int .i64 a1) rfl ?_
  refine s_call [.agg #[u49, u50], .int .i64 a1] _ Tryz.func13 rfl rfl rfl (c_impl_ElementaryDerivations r48 a1 h _ (alg_mk (own_repE (hC.getM 1 rfl)) (Tr.trep _ (hC.getM 2 rfl).1))) (fun ret68 w70 hR69 => ?_)
  obtain ⟨r71, u72, f73, r76, rfl, h, hr74, hf75, hB77⟩ := hR69
  refine ⟨_, rfl, ?_⟩
  replace hC := hC.push hB77 (Tr.item (Tr.sl 77 (TrDer 162 55)) r71 [u72] f73) hr74 hf75
  refine s_mv (v := .tuple #[u72, .int .i64 r76]) rfl ?_
  refine s_ext (v := u72) rfl rfl ?_
  refine s_ext (v := .int .i64 r76) rfl rfl ?_
  refine s_as (v := u72) rfl ?_
  refine s_as (v := .int .i64 r76) rfl ?_
  refine dn ?_
  refine wp_seq ?_
  refine sr ?_
  refine s_mv (v := u72) rfl ?_
  refine s_mv (v := u37) rfl ?_
  refine s_call [u72, u37] _ Tryz.func14 rfl rfl rfl (c_laws_eqDerivationS r71 r36 h _ (Tr.trep _ (hC.getM 0 rfl).1) (Tr.trep _ (hC.getM 4 rfl).1)) (fun ret80 w82 hR81 => ?_)
  obtain ⟨r83, rfl, h, hB84⟩ := hR81
  refine ⟨_, rfl, ?_⟩
  replace hC := hC.grow hB84
  refine s_not rfl ?_
  refine s_mv (v := .bool (!r83)) rfl ?_
  refine bsplit (!r83) (fun hb85 => ?_) (fun hb85 => ?_)
  ·replace h := ift h (ne_t (not_t hb85))
   refine guardOff (b := true) 4 40 rfl (tr rfl (congrArg _ hb85)) (by decide) ?_
   refine guardOff (b := true) 4 40 rfl (tr rfl (congrArg _ hb85)) (by decide) ?_
   refine guardOff (b := true) 4 40 rfl (tr rfl (congrArg _ hb85)) (by decide) ?_
   refine s_pick (v := .bool true) (b := true) (tr rfl (congrArg _ hb85)) rfl ?_
   refine dn ?_
   refine cw_true rfl rfl ?_
   refine sr ?_
   refine s_as (v := .bool false) rfl ?_
   refine dn ?_
   refine wp_ret (then_ret ?_)
   refine ret1 (fn := Tryz.f3) rfl ?_ ⟨false, rfl, h, hC.below⟩ (.inl rfl)
   exact res_tmp rfl
  ·replace h := iff_ h (not_not_intro ((not_f hb85)))
   refine guardOn 4 40 rfl rfl hb85 ?_
   refine s_mv (v := .int .i64 r76) rfl ?_
   refine guardOn 4 40 rfl rfl hb85 ?_
   refine s_mv (v := .int .i64 r41) rfl ?_
   refine guardOn 4 40 rfl rfl hb85 ?_
   refine s_neq rfl rfl ?_
   refine s_pick (v := .bool (decide (r76 ≠ r41))) (b := false) (tr rfl (congrArg _ hb85)) rfl ?_
   refine dn ?_
   refine cw_cond rfl (fun hb86 => ?_) (fun hb86 => ?_)
   ·replace h := ift h (ct hb86)
    refine sr ?_
    refine s_as (v := .bool false) rfl ?_
    refine dn ?_
    refine wp_ret (then_ret ?_)
    refine ret1 (fn := Tryz.f3) rfl ?_ ⟨false, rfl, h, hC.below⟩ (.inl rfl)
    exact res_tmp rfl
   ·replace h := iff_ h (cf hb86)
    refine wp_skip ?_
    refine then_norm ?_
    refine wp_seq ?_
    refine wp_seq ?_
    refine cw_draw 3 mixed [0, 0, 2, 7, 15] [0, 1] [] (by kernel_rfl) (by kernel_rfl) (by kernel_rfl) (fun hM88 hM89 w87 hB_ => ?_)
    replace hC := hC.grow hB_
    refine aL 0 (.agg #[u49, u50]) rfl rfl (hM88 0 rfl) (rfl) (fun _ hB_ => by exact r_loadA (hC.grow hB_) 1 [u49, u50] rfl ag32 rfl rfl rfl) (dbits 5 1) ?_
    refine aL 1 (.agg #[u0_0, u0_1]) rfl rfl (hM88 1 rfl) (rfl) (fun _ hB_ => by exact r_loadA (hC.grow hB_) 7 [u0_0, u0_1] rfl ag25 rfl rfl rfl) (dbits 5 3) ?_
    refine aO 2 rfl ?_
    refine s_call [.agg #[u0_0, u0_1]] _ Tryz.func12 rfl rfl rfl (c_laws_toAlgebra a0 h _ (alg_mk (hC.getP 1 rfl) (hC.getP 0 rfl))) (fun ret90 w92 hR91 => ?_)
    obtain ⟨r93, u94, u95, f96, rfl, h, hr97, hf98, hB99⟩ := hR91
    refine ⟨_, rfl, ?_⟩
    replace hC := hC.push hB99 (Tr.item (TrAlg 2 162 55) r93 [u94, u95] f96) hr97 hf98
    obtain ⟨f101, ho102, ho103, hs104, hs105, hd106⟩ := alg_split (hC.getM 0 rfl)
    replace hC := hC.split (a := own 2 1 u94 r93.degrees.length ((EI .i64).encs r93.degrees)) (b := Tr.item (Tr.sl 55 (TrForm 162)) r93.images [u95] f101) hs104 hs105 ⟨ho102, ho103, hd106⟩
    refine done ?_
    refine aK (by assumption) (dbits 5 7) ?_
    refine ae_tail 3 (by decide) (by decide) (by kernel_rfl) (by kernel_rfl) rfl ?_
    refine s_call [.agg #[u49, u50], .agg #[u94, u95]] _ Tryz.func15 rfl rfl rfl (c_laws_eqAlgebra r48 r93 h _ (alg_mk (own_repE (hC.getM 4 rfl)) (Tr.trep _ (hC.getM 5 rfl).1)) (alg_mk (own_repE (hC.getM 0 rfl)) (Tr.trep _ (hC.getM 1 rfl).1))) (fun ret109 w111 hR110 => ?_)
    obtain ⟨r112, rfl, h, hB113⟩ := hR110
    refine ⟨_, rfl, ?_⟩
    replace hC := hC.grow hB113
    refine s_not rfl ?_
    refine done ?_
    refine qn_norm ?_
    refine then_norm ?_
    refine cw_cond rfl (fun hb114 => ?_) (fun hb114 => ?_)
    ·replace h := ift h (ne_t (not_t hb114))
     refine sr ?_
     refine s_as (v := .bool false) rfl ?_
     refine dn ?_
     refine wp_ret (then_ret ?_)
     refine ret1 (fn := Tryz.f3) rfl ?_ ⟨false, rfl, h, hC.below⟩ (.inl rfl)
     exact res_tmp rfl
    ·replace h := iff_ h (not_not_intro ((not_f hb114)))
     refine wp_skip ?_
     refine then_norm ?_
     refine sr ?_
     refine s_as (v := .int .i64 1) rfl ?_
     refine dn ?_
     refine sr ?_
     refine s_loadA hC 3 [u49, u50] rfl ag32 rfl rfl rfl ?_
     refine s_mv (v := .int .i64 1) rfl ?_
     refine s_call [.agg #[u49, u50], .int .i64 1] _ Tryz.func16 rfl rfl rfl (c_laws_markAlgebra r48 1 h _ (hC.getM 4 rfl) (hC.getM 5 rfl) (hC.mm 4 5 rfl rfl (by decide))) (fun ret115 w117 hR116 => ?_)
     obtain ⟨r118, m120, rfl, h, hm121, hm122, hB119⟩ := hR116
     refine ⟨_, rfl, ?_⟩
     replace hC := hC.turnL hB119 (M' := [own 2 1 u94 r93.degrees.length ((EI .i64).encs r93.degrees), Tr.item (Tr.sl 55 (TrForm 162)) r93.images [u95] f101, Tr.item (Tr.sl 77 (TrDer 162 55)) r71 [u72] f73, blk b64 32 [u49, u50], own 2 1 u49 m120.degrees.length ((EI .i64).encs m120.degrees), Tr.item (Tr.sl 55 (TrForm 162)) m120.images [u50] f56, Tr.item (Tr.sl 77 (TrDer 162 55)) r36 [u37] f38, own 2 1 u18 r17.degrees.length ((EI .i64).encs r17.degrees), Tr.item (Tr.sl 55 (TrForm 162)) r17.images [u19] f25, blk b5 25 [u0_0, u0_1]]) rfl (fun x_ hx_ => (List.mem_append.1 hx_).elim (fun hx_ => ⟨_, List.mem_of_getElem? (i := 4) rfl, hx_⟩) (fun hx_ => ⟨_, List.mem_of_getElem? (i := 5) rfl, hx_⟩)) (by simp only [List.mem_cons, List.not_mem_nil, or_false, forall_eq_or_imp, forall_eq]; exact ⟨(hC.stay 0 rfl hB119 (fun x_ hq_ hx_ => (List.mem_append.1 hx_).elim (fun hx_ => hC.mm 0 4 rfl rfl (by decide) x_ hq_ hx_) (fun hx_ => hC.mm 0 5 rfl rfl (by decide) x_ hq_ hx_))), (hC.stay 1 rfl hB119 (fun x_ hq_ hx_ => (List.mem_append.1 hx_).elim (fun hx_ => hC.mm 1 4 rfl rfl (by decide) x_ hq_ hx_) (fun hx_ => hC.mm 1 5 rfl rfl (by decide) x_ hq_ hx_))), (hC.stay 2 rfl hB119 (fun x_ hq_ hx_ => (List.mem_append.1 hx_).elim (fun hx_ => hC.mm 2 4 rfl rfl (by decide) x_ hq_ hx_) (fun hx_ => hC.mm 2 5 rfl rfl (by decide) x_ hq_ hx_))), (hC.stay 3 rfl hB119 (fun x_ hq_ hx_ => (List.mem_append.1 hx_).elim (fun hx_ => hC.mm 3 4 rfl rfl (by decide) x_ hq_ hx_) (fun hx_ => hC.mm 3 5 rfl rfl (by decide) x_ hq_ hx_))), hm121, hm122, (hC.stay 6 rfl hB119 (fun x_ hq_ hx_ => (List.mem_append.1 hx_).elim (fun hx_ => hC.mm 6 4 rfl rfl (by decide) x_ hq_ hx_) (fun hx_ => hC.mm 6 5 rfl rfl (by decide) x_ hq_ hx_))), (hC.stay 7 rfl hB119 (fun x_ hq_ hx_ => (List.mem_append.1 hx_).elim (fun hx_ => hC.mm 7 4 rfl rfl (by decide) x_ hq_ hx_) (fun hx_ => hC.mm 7 5 rfl rfl (by decide) x_ hq_ hx_))), (hC.stay 8 rfl hB119 (fun x_ hq_ hx_ => (List.mem_append.1 hx_).elim (fun hx_ => hC.mm 8 4 rfl rfl (by decide) x_ hq_ hx_) (fun hx_ => hC.mm 8 5 rfl rfl (by decide) x_ hq_ hx_))), (hC.stay 9 rfl hB119 (fun x_ hq_ hx_ => (List.mem_append.1 hx_).elim (fun hx_ => hC.mm 9 4 rfl rfl (by decide) x_ hq_ hx_) (fun hx_ => hC.mm 9 5 rfl rfl (by decide) x_ hq_ hx_)))⟩)
     refine s_as (v := .int .i64 r118) rfl ?_
     refine dn ?_
     refine wp_seq ?_
     refine sr ?_
     refine s_mv (v := .int .i64 r118) rfl ?_
     refine s_lss rfl rfl ?_
     refine s_mv (v := .bool (decide (r118 < 0))) rfl ?_
     refine bsplit (decide (r118 < 0)) (fun hb123 => ?_) (fun hb123 => ?_)
     ·replace h := ift h (ct hb123)
      refine guardOff (b := true) 2 55 rfl (tr rfl (congrArg _ hb123)) (by decide) ?_
      refine guardOff (b := true) 2 55 rfl (tr rfl (congrArg _ hb123)) (by decide) ?_
      refine guardOff (b := true) 2 55 rfl (tr rfl (congrArg _ hb123)) (by decide) ?_
      refine guardOff (b := true) 2 55 rfl (tr rfl (congrArg _ hb123)) (by decide) ?_
      refine s_pick (v := .bool true) (b := true) (tr rfl (congrArg _ hb123)) rfl ?_
      refine s_mv (v := .bool true) rfl ?_
      refine guardOff (b := true) 8 61 rfl (tr rfl (congrArg _ rfl)) (by decide) ?_
      refine guardOff (b := true) 8 61 rfl (tr rfl (congrArg _ rfl)) (by decide) ?_
      refine guardOff (b := true) 8 61 rfl (tr rfl (congrArg _ rfl)) (by decide) ?_
      refine s_pick (v := .bool true) (b := true) rfl rfl ?_
      refine dn ?_
      refine cw_true rfl rfl ?_
      refine sr ?_
      refine s_as (v := .bool false) rfl ?_
      refine dn ?_
      refine wp_ret (then_ret ?_)
      refine ret1 (fn := Tryz.f3) rfl ?_ ⟨false, rfl, h, hC.below⟩ (.inl rfl)
      exact res_tmp rfl
     ·replace h := iff_ h (cf hb123)
      refine guardOn 2 55 rfl rfl hb123 ?_
      refine s_mv (v := u72) rfl ?_
      refine guardOn 2 55 rfl rfl hb123 ?_
      refine s_mv (v := u37) rfl ?_
      refine guardOn 2 55 rfl rfl hb123 ?_
      refine s_call [u72, u37] _ Tryz.func14 rfl rfl rfl (c_laws_eqDerivationS r71 r36 h _ (Tr.trep _ (hC.getM 2 rfl).1) (Tr.trep _ (hC.getM 6 rfl).1)) (fun ret124 w126 hR125 => ?_)
      obtain ⟨r127, rfl, h, hB128⟩ := hR125
      refine ⟨_, rfl, ?_⟩
      replace hC := hC.grow hB128
      refine guardOn 2 55 rfl rfl hb123 ?_
      refine s_not rfl ?_
      refine s_pick (v := .bool (!r127)) (b := false) (tr rfl (congrArg _ hb123)) rfl ?_
      refine s_mv (v := .bool (!r127)) rfl ?_
      refine bsplit (!r127) (fun hb129 => ?_) (fun hb129 => ?_)
      ·replace h := ift h (ne_t (not_t hb129))
       refine guardOff (b := true) 8 61 rfl (tr rfl (congrArg _ hb129)) (by decide) ?_
       refine guardOff (b := true) 8 61 rfl (tr rfl (congrArg _ hb129)) (by decide) ?_
       refine guardOff (b := true) 8 61 rfl (tr rfl (congrArg _ hb129)) (by decide) ?_
       refine s_pick (v := .bool true) (b := true) (tr rfl (congrArg _ hb129)) rfl ?_
       refine dn ?_
       refine cw_true rfl rfl ?_
       refine sr ?_
       refine s_as (v := .bool false) rfl ?_
       refine dn ?_
       refine wp_ret (then_ret ?_)
       refine ret1 (fn := Tryz.f3) rfl ?_ ⟨false, rfl, h, hC.below⟩ (.inl rfl)
       exact res_tmp rfl
      ·replace h := iff_ h (not_not_intro ((not_f hb129)))
       refine guardOn 8 61 rfl rfl hb129 ?_
       refine s_mv (v := .int .i64 r76) rfl ?_
       refine guardOn 8 61 rfl rfl hb129 ?_
       refine s_mv (v := .int .i64 r41) rfl ?_
       refine guardOn 8 61 rfl rfl hb129 ?_
       refine s_neq rfl rfl ?_
       refine s_pick (v := .bool (decide (r76 ≠ r41))) (b := false) (tr rfl (congrArg _ hb129)) rfl ?_
       refine dn ?_
       refine cw_false rfl hb86 ?_
       refine wp_skip ?_
       refine then_norm ?_
       refine sr ?_
       refine s_as (v := .int .i64 1) rfl ?_
       refine dn ?_
       refine sr ?_
       refine s_mv (v := u72) rfl ?_
       refine s_mv (v := .int .i64 1) rfl ?_
       refine s_call [u72, .int .i64 1] _ Tryz.func17 rfl rfl rfl (c_laws_markDerivationS r71 1 h _ (hC.getM 2 rfl)) (fun ret130 w132 hR131 => ?_)
       obtain ⟨r133, m135, rfl, h, hm136, hB134⟩ := hR131
       refine ⟨_, rfl, ?_⟩
       replace hC := hC.turnL hB134 (M' := [own 2 1 u94 r93.degrees.length ((EI .i64).encs r93.degrees), Tr.item (Tr.sl 55 (TrForm 162)) r93.images [u95] f101, Tr.item (Tr.sl 77 (TrDer 162 55)) m135 [u72] f73, blk b64 32 [u49, u50], own 2 1 u49 m120.degrees.length ((EI .i64).encs m120.degrees), Tr.item (Tr.sl 55 (TrForm 162)) m120.images [u50] f56, Tr.item (Tr.sl 77 (TrDer 162 55)) r36 [u37] f38, own 2 1 u18 r17.degrees.length ((EI .i64).encs r17.degrees), Tr.item (Tr.sl 55 (TrForm 162)) r17.images [u19] f25, blk b5 25 [u0_0, u0_1]]) rfl (fun x_ hx_ => ⟨_, List.mem_of_getElem? (i := 2) rfl, hx_⟩) (by simp only [List.mem_cons, List.not_mem_nil, or_false, forall_eq_or_imp, forall_eq]; exact ⟨(hC.stay 0 rfl hB134 (fun x_ hq_ hx_ => hC.mm 0 2 rfl rfl (by decide) x_ hq_ hx_)), (hC.stay 1 rfl hB134 (fun x_ hq_ hx_ => hC.mm 1 2 rfl rfl (by decide) x_ hq_ hx_)), hm136, (hC.stay 3 rfl hB134 (fun x_ hq_ hx_ => hC.mm 3 2 rfl rfl (by decide) x_ hq_ hx_)), (hC.stay 4 rfl hB134 (fun x_ hq_ hx_ => hC.mm 4 2 rfl rfl (by decide) x_ hq_ hx_)), (hC.stay 5 rfl hB134 (fun x_ hq_ hx_ => hC.mm 5 2 rfl rfl (by decide) x_ hq_ hx_)), (hC.stay 6 rfl hB134 (fun x_ hq_ hx_ => hC.mm 6 2 rfl rfl (by decide) x_ hq_ hx_)), (hC.stay 7 rfl hB134 (fun x_ hq_ hx_ => hC.mm 7 2 rfl rfl (by decide) x_ hq_ hx_)), (hC.stay 8 rfl hB134 (fun x_ hq_ hx_ => hC.mm 8 2 rfl rfl (by decide) x_ hq_ hx_)), (hC.stay 9 rfl hB134 (fun x_ hq_ hx_ => hC.mm 9 2 rfl rfl (by decide) x_ hq_ hx_))⟩)
       refine s_as (v := .int .i64 r133) rfl ?_
       refine dn ?_
       refine sr ?_
       refine s_as (v := .int .i64 1) rfl ?_
       refine dn ?_
       refine sr ?_
       refine s_mv (v := u72) rfl ?_
       refine s_mv (v := .int .i64 1) rfl ?_
       refine s_call [u72, .int .i64 1] _ Tryz.func18 rfl rfl rfl (c_laws_heldDerivationS m135 1 h _ (Tr.trep _ (hC.getM 2 rfl).1)) (fun ret137 w139 hR138 => ?_)
       obtain ⟨r140, rfl, h, hB141⟩ := hR138
       refine ⟨_, rfl, ?_⟩
       replace hC := hC.grow hB141
       refine s_as (v := .int .i64 r140) rfl ?_
       refine dn ?_
       refine wp_seq ?_
       refine sr ?_
       refine s_mv (v := .int .i64 r140) rfl ?_
       refine s_lss rfl rfl ?_
       refine dn ?_
       refine cw_cond rfl (fun hb142 => ?_) (fun hb142 => ?_)
       ·replace h := ift h (ct hb142)
        refine sr ?_
        refine s_as (v := .bool false) rfl ?_
        refine dn ?_
        refine wp_ret (then_ret ?_)
        refine ret1 (fn := Tryz.f3) rfl ?_ ⟨false, rfl, h, hC.below⟩ (.inl rfl)
        exact res_tmp rfl
       ·replace h := iff_ h (cf hb142)
        refine wp_skip ?_
        refine then_norm ?_
        refine wp_seq ?_
        refine sr ?_
        refine s_mv (v := .int .i64 r140) rfl ?_
        refine s_mv (v := .int .i64 r133) rfl ?_
        refine s_neq rfl rfl ?_
        refine dn ?_
        refine cw_cond rfl (fun hb143 => ?_) (fun hb143 => ?_)
        ·replace h := ift h (ct hb143)
         refine sr ?_
         refine s_as (v := .bool false) rfl ?_
         refine dn ?_
         refine wp_ret (then_ret ?_)
         refine ret1 (fn := Tryz.f3) rfl ?_ ⟨false, rfl, h, hC.below⟩ (.inl rfl)
         exact res_tmp rfl
        ·replace h := iff_ h (cf hb143)
         refine wp_skip ?_
         refine then_norm ?_
         refine sr ?_
         refine s_loadA hC 9 [u0_0, u0_1] rfl ag25 rfl rfl rfl ?_
         refine s_call [.agg #[u0_0, u0_1]] _ Tryz.func12 rfl rfl rfl (c_laws_toAlgebra (⟨a0.degrees, a0.images⟩ : Alg) h _ (alg_mk (hC.getP 1 rfl) (hC.getP 0 rfl))) (fun ret144 w146 hR145 => ?_)
         obtain ⟨r147, u148, u149, f150, rfl, h, hr151, hf152, hB153⟩ := hR145
         refine ⟨_, rfl, ?_⟩
         replace hC := hC.push hB153 (Tr.item (TrAlg 2 162 55) r147 [u148, u149] f150) hr151 hf152
         obtain ⟨f155, ho156, ho157, hs158, hs159, hd160⟩ := alg_split (hC.getM 0 rfl)
         replace hC := hC.split (a := own 2 1 u148 r147.degrees.length ((EI .i64).encs r147.degrees)) (b := Tr.item (Tr.sl 55 (TrForm 162)) r147.images [u149] f155) hs158 hs159 ⟨ho156, ho157, hd160⟩
         refine s_mv (v := .int .i64 a1) rfl ?_
         refine s_call [.agg #[u148, u149], .int .i64 a1] _ Tryz.func13 rfl rfl rfl (c_impl_ElementaryDerivations r147 a1 h _ (alg_mk (own_repE (hC.getM 0 rfl)) (Tr.trep _ (hC.getM 1 rfl).1))) (fun ret163 w165 hR164 => ?_)
         obtain ⟨r166, u167, f168, r171, rfl, h, hr169, hf170, hB172⟩ := hR164
         refine ⟨_, rfl, ?_⟩
         replace hC := hC.push hB172 (Tr.item (Tr.sl 77 (TrDer 162 55)) r166 [u167] f168) hr169 hf170
         refine s_mv (v := .tuple #[u167, .int .i64 r171]) rfl ?_
         refine s_ext (v := u167) rfl rfl ?_
         refine s_ext (v := .int .i64 r171) rfl rfl ?_
         refine s_as (v := u167) rfl ?_
         refine s_as (v := .int .i64 r171) rfl ?_
         refine dn ?_
         refine wp_seq ?_
         refine sr ?_
         refine s_mv (v := u167) rfl ?_
         refine s_mv (v := u37) rfl ?_
         refine s_call [u167, u37] _ Tryz.func14 rfl rfl rfl (c_laws_eqDerivationS r166 r36 h _ (Tr.trep _ (hC.getM 0 rfl).1) (Tr.trep _ (hC.getM 9 rfl).1)) (fun ret175 w177 hR176 => ?_)
         obtain ⟨r178, rfl, h, hB179⟩ := hR176
         refine ⟨_, rfl, ?_⟩
         replace hC := hC.grow hB179
         refine s_not rfl ?_
         refine s_mv (v := .bool (!r178)) rfl ?_
         refine bsplit (!r178) (fun hb180 => ?_) (fun hb180 => ?_)
         ·replace h := ift h (ne_t (not_t hb180))
          refine guardOff (b := true) 4 88 rfl (tr rfl (congrArg _ hb180)) (by decide) ?_
          refine guardOff (b := true) 4 88 rfl (tr rfl (congrArg _ hb180)) (by decide) ?_
          refine guardOff (b := true) 4 88 rfl (tr rfl (congrArg _ hb180)) (by decide) ?_
          refine s_pick (v := .bool true) (b := true) (tr rfl (congrArg _ hb180)) rfl ?_
          refine dn ?_
          refine cw_true rfl rfl ?_
          refine sr ?_
          refine s_as (v := .bool false) rfl ?_
          refine dn ?_
          refine wp_ret (then_ret ?_)
          refine ret1 (fn := Tryz.f3) rfl ?_ ⟨false, rfl, h, hC.below⟩ (.inl rfl)
          exact res_tmp rfl
         ·replace h := iff_ h (not_not_intro ((not_f hb180)))
          refine guardOn 4 88 rfl rfl hb180 ?_
          refine s_mv (v := .int .i64 r171) rfl ?_
          refine guardOn 4 88 rfl rfl hb180 ?_
          refine s_mv (v := .int .i64 r41) rfl ?_
          refine guardOn 4 88 rfl rfl hb180 ?_
          refine s_neq rfl rfl ?_
          refine s_pick (v := .bool (decide (r171 ≠ r41))) (b := false) (tr rfl (congrArg _ hb180)) rfl ?_
          refine dn ?_
          refine cw_cond rfl (fun hb181 => ?_) (fun hb181 => ?_)
          ·replace h := ift h (ct hb181)
           refine sr ?_
           refine s_as (v := .bool false) rfl ?_
           refine dn ?_
           refine wp_ret (then_ret ?_)
           refine ret1 (fn := Tryz.f3) rfl ?_ ⟨false, rfl, h, hC.below⟩ (.inl rfl)
           exact res_tmp rfl
          ·replace h := iff_ h (cf hb181)
           refine wp_skip ?_
           refine then_norm ?_
           refine sr ?_
           refine s_as (v := .int .i64 1) rfl ?_
           refine dn ?_
           refine sr ?_
           refine s_mv (v := u72) rfl ?_
           refine s_mv (v := .int .i64 1) rfl ?_
           refine s_call [u72, .int .i64 1] _ Tryz.func18 rfl rfl rfl (c_laws_heldDerivationS m135 1 h _ (Tr.trep _ (hC.getM 5 rfl).1)) (fun ret182 w184 hR183 => ?_)
           obtain ⟨r185, rfl, h, hB186⟩ := hR183
           refine ⟨_, rfl, ?_⟩
           replace hC := hC.grow hB186
           refine s_as (v := .int .i64 r185) rfl ?_
           refine dn ?_
           refine wp_seq ?_
           refine sr ?_
           refine s_mv (v := .int .i64 r185) rfl ?_
           refine s_lss rfl rfl ?_
           refine dn ?_
           refine cw_cond rfl (fun hb187 => ?_) (fun hb187 => ?_)
           ·replace h := ift h (ct hb187)
            refine sr ?_
            refine s_as (v := .bool false) rfl ?_
            refine dn ?_
            refine wp_ret (then_ret ?_)
            refine ret1 (fn := Tryz.f3) rfl ?_ ⟨false, rfl, h, hC.below⟩ (.inl rfl)
            exact res_tmp rfl
           ·replace h := iff_ h (cf hb187)
            refine wp_skip ?_
            refine then_norm ?_
            refine wp_seq ?_
            refine sr ?_
            refine s_mv (v := .int .i64 r185) rfl ?_
            refine s_mv (v := .int .i64 r133) rfl ?_
            refine s_neq rfl rfl ?_
            refine dn ?_
            refine cw_cond rfl (fun hb188 => ?_) (fun hb188 => ?_)
            ·replace h := ift h (ct hb188)
             refine sr ?_
             refine s_as (v := .bool false) rfl ?_
             refine dn ?_
             refine wp_ret (then_ret ?_)
             refine ret1 (fn := Tryz.f3) rfl ?_ ⟨false, rfl, h, hC.below⟩ (.inl rfl)
             exact res_tmp rfl
            ·replace h := iff_ h (cf hb188)
             refine wp_skip ?_
             refine then_norm ?_
             refine sr ?_
             refine s_as (v := .bool true) rfl ?_
             refine dn ?_
             refine wp_ret ?_
             refine ret1 (fn := Tryz.f3) rfl ?_ ⟨true, rfl, h, hC.below⟩ (.inl rfl)
             exact res_tmp rfl
end Go.Proofs.YtaagfepgbofmlaaGreat
