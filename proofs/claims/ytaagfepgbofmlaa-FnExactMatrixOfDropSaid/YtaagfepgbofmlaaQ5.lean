import Derived.Test.YtaagfepgbofmlaaQ4
import Derived.KernelRfl
set_option linter.unusedVariables false
set_option linter.unusedSimpArgs false
set_option maxRecDepth 4000
set_option maxHeartbeats 4000000
namespace Go.Proofs.Ytaagfepgbofmlaa
open Go Go.RowKit Vc
theorem Zs3 (x0 : A8) (w : World) : (Instr.buildSlice 59 1 #[(0, .agg (List.toArray (A8.enc .u8 x0)))]).run Try.prog w = .ok (.slice (some ⟨w.heap.size, 0, none⟩) 1 1) (w.alloc (.cells (List.toArray ((EA .u8).encs [x0])) 49)) := by kernel_rfl
theorem Zs4 : Jz Try.prog 49 (.agg (List.toArray (A8.enc .u8 A8.zero))) 8 8 := by unfold Jz; kernel_rfl
theorem Zs5 (w : World) : (Instr.buildSlice 130 0 #[]).run Try.prog w = .ok (.slice (some ⟨w.heap.size, 0, none⟩) 0 0) (w.alloc (.cells (List.toArray []) 134)) := by kernel_rfl
theorem Zs6 (x0 : Int) (x1 : Value) (hx1 : Zb8 x1) (w : World) : (Instr.build 134 #[(0, .int .i64 x0), (1, x1)]).run Try.prog w = .ok (.agg #[.int .i64 x0, x1]) w := by obtain ⟨_, _, _, rfl⟩ := hx1; kernel_rfl
theorem Zj0 : Jc Try.prog 134 (.agg #[.int .i64 0, .slice none 0 0]) := by unfold Jc; kernel_rfl
theorem ag134 : AggT Try.prog 134 2 := ⟨⟨_, Try.underlying134, rfl⟩, by kernel_rfl⟩
theorem Zs7 (x0 : Int) (x1 : Value) (hx1 : Zb8 x1) (w : World) : (Instr.buildSlice 130 1 #[(0, .agg #[.int .i64 x0, x1])]).run Try.prog w = .ok (.slice (some ⟨w.heap.size, 0, none⟩) 1 1) (w.alloc (.cells (List.toArray [.int .i64 x0, x1]) 134)) := by obtain ⟨_, _, _, rfl⟩ := hx1; kernel_rfl
theorem Zs8 : Jz Try.prog 134 (.agg #[.int .i64 0, .slice none 0 0]) 2 32 := by unfold Jz; kernel_rfl
theorem Zs9 : Try.prog.eqGuardType Try.prog.depth 49 = false := by kernel_rfl
theorem Zta : KeyT Try.prog 49 (kvA .u8) := Zk7 Try.underlying49 Try.underlying5 sc5
theorem Zmo  (w : World) : (Instr.buildSlice 22 0 #[]).run Try.prog w = .ok (.slice (some ⟨w.heap.size, 0, none⟩) 0 0) (w.alloc (.cells (List.toArray ((EI .i64).encs [])) 2)) := by kernel_rfl
theorem Ztb (x0 : Int) (w : World) : (Instr.build 134 #[(0, .int .i64 x0)]).run Try.prog w = .ok (.agg #[.int .i64 x0, .slice none 0 0]) w := by kernel_rfl
theorem Ztc (x0 : Value) (hx0 : Zb8 x0) (w : World) : (Instr.buildSlice 30 1 #[(0, .agg #[x0])]).run Try.prog w = .ok (.slice (some ⟨w.heap.size, 0, none⟩) 1 1) (w.alloc (.cells (List.toArray [x0]) 95)) := by obtain ⟨_, _, _, rfl⟩ := hx0; kernel_rfl
theorem Zmp (w : World) : (Instr.buildSlice 27 0 #[]).run Try.prog w = .ok (.slice (some ⟨w.heap.size, 0, none⟩) 0 0) (w.alloc (.cells (List.toArray []) 22)) := by kernel_rfl
theorem Zmq (x0 : Value) (hx0 : Zb8 x0) (w : World) : (Instr.buildSlice 27 1 #[(0, x0)]).run Try.prog w = .ok (.slice (some ⟨w.heap.size, 0, none⟩) 1 1) (w.alloc (.cells (List.toArray [x0]) 22)) := by obtain ⟨_, _, _, rfl⟩ := hx0; kernel_rfl
theorem Zmr : Jz Try.prog 22 (.slice none 0 0) 1 24 := by unfold Jz; kernel_rfl
theorem sc121 : ScaT Try.prog 121 := ⟨⟨_, Try.underlying121, rfl⟩, by kernel_rfl⟩
theorem Ztd (x0 : Value) (x1 : Int) (hx0 : Zb8 x0) (w : World) : (Instr.build 175 #[(0, x0), (1, .int .i64 x1)]).run Try.prog w = .ok (.agg #[x0, .int .i64 x1, .slice none 0 0]) w := by obtain ⟨_, _, _, rfl⟩ := hx0; kernel_rfl
theorem Zte  (w : World) : (Instr.buildSlice 140 0 #[]).run Try.prog w = .ok (.slice (some ⟨w.heap.size, 0, none⟩) 0 0) (w.alloc (.cells (List.toArray (EElem.encs [])) 144)) := by kernel_rfl
theorem Ztf (x0 : Int) (x1 : A8) (w : World) : (Instr.build 144 #[(0, .int .i64 x0), (1, .agg (List.toArray (A8.enc .i64 x1)))]).run Try.prog w = .ok (.agg (List.toArray (Elem.enc (⟨x0, x1⟩ : Elem)))) w := by kernel_rfl
theorem Ztg (x0 : Elem) (w : World) : (Instr.buildSlice 140 1 #[(0, .agg (List.toArray (Elem.enc x0)))]).run Try.prog w = .ok (.slice (some ⟨w.heap.size, 0, none⟩) 1 1) (w.alloc (.cells (List.toArray (EElem.encs [x0])) 144)) := by kernel_rfl
theorem Zth : Jz Try.prog 144 (.agg (List.toArray (Elem.enc (⟨0, A8.zero⟩ : Elem)))) 9 72 := by unfold Jz; kernel_rfl
theorem sc148 : ScaT Try.prog 148 := ⟨⟨_, Try.underlying148, rfl⟩, by kernel_rfl⟩
theorem Zms (x0 : Nat) (x1 : Int) (w : World) : (Instr.build 150 #[(0, .pointer (some ⟨x0, 0, none⟩)), (1, .int .i64 x1)]).run Try.prog w = .ok (.agg #[.pointer (some ⟨x0, 0, none⟩), .int .i64 x1, .slice none 0 0]) w := by kernel_rfl
theorem Zj1 (x0 : Nat) (w : World) : (Instr.buildSlice 148 1 #[(0, .map (some x0))]).run Try.prog w = .ok (.slice (some ⟨w.heap.size, 0, none⟩) 1 1) (w.alloc (.cells (List.toArray [.map (some x0)]) 99)) := by kernel_rfl
theorem Zj2 : Jz Try.prog 99 (.map none) 1 8 := by unfold Jz; kernel_rfl
theorem Zmt (x0 : Int) (x1 : Int) (w : World) : (Instr.buildSlice 22 2 #[(0, .int .i64 x0), (1, .int .i64 x1)]).run Try.prog w = .ok (.slice (some ⟨w.heap.size, 0, none⟩) 2 2) (w.alloc (.cells (List.toArray ((EI .i64).encs [x0, x1])) 2)) := by kernel_rfl
theorem ag144 : AggT Try.prog 144 9 := ⟨⟨_, Try.underlying144, rfl⟩, by kernel_rfl⟩
theorem Zmu : Jc Try.prog 144 (.agg (List.toArray (Elem.enc (⟨0, A8.zero⟩ : Elem)))) := by unfold Jc; kernel_rfl
theorem Zti (x0 : Int) (w : World) : (Instr.buildSlice 22 1 #[(0, .int .i64 x0)]).run Try.prog w = .ok (.slice (some ⟨w.heap.size, 0, none⟩) 1 1) (w.alloc (.cells (List.toArray ((EI .i64).encs [x0])) 2)) := by kernel_rfl
theorem Zf3 : AggT Try.prog 25 2 := ⟨⟨_, Try.underlying25, rfl⟩, by kernel_rfl⟩
def f_spec_l01Fill (fu_ : Nat) (a0 : List Int) (a1 : A8) (a2 : Int) (a3 : Int) (a4 : List A8) (K : List A8 → Prop) : Prop :=
 match fu_ with
 | 0 => False
 | fu_ + 1 => (if a2 = (a0.length : Int) then (if a3 = 0 then (Xp (a4.length + 1) 8 ∧ K (a4 ++ [a1])) else K a4) else ((0 ≤ a2 ∧ a2 < (a0.length : Int)) ∧ ((a0.getD a2.toNat default) ≠ 0 ∧ ((0 ≤ a2 ∧ a2 < (a0.length : Int)) ∧ (if Int.tmod (a0.getD a2.toNat default) 2 ≠ 0 then Xf (fun (s10 : A8 × (List A8) × Int) nx10 => (if s10.2.2 ≥ 0 then (if (s10.2.1.length : Int) ≤ 400 then ((0 ≤ a2 ∧ a2 < 8) ∧ ((0 ≤ a2 ∧ a2 < (a0.length : Int)) ∧ f_spec_l01Fill fu_ a0 (s10.1.set a2.toNat (IntKind.u8.wrap s10.2.2)) (IntKind.i64.wrap (a2 + 1)) (IntKind.i64.wrap (a3 - (IntKind.i64.wrap (s10.2.2 * (a0.getD a2.toNat default))))) s10.2.1 (fun r10 => nx10 (s10.1.set a2.toNat (IntKind.u8.wrap s10.2.2), r10, IntKind.i64.wrap (s10.2.2 - 1))))) else K s10.2.1) else K s10.2.1)) (a1, a4, (if 20 < (if 1 < IntKind.i64.wrap (Int.tdiv a3 (a0.getD a2.toNat default)) then 1 else IntKind.i64.wrap (Int.tdiv a3 (a0.getD a2.toNat default))) then 20 else (if 1 < IntKind.i64.wrap (Int.tdiv a3 (a0.getD a2.toNat default)) then 1 else IntKind.i64.wrap (Int.tdiv a3 (a0.getD a2.toNat default))))) else Xf (fun (s11 : A8 × (List A8) × Int) nx11 => (if s11.2.2 ≥ 0 then (if (s11.2.1.length : Int) ≤ 400 then ((0 ≤ a2 ∧ a2 < 8) ∧ ((0 ≤ a2 ∧ a2 < (a0.length : Int)) ∧ f_spec_l01Fill fu_ a0 (s11.1.set a2.toNat (IntKind.u8.wrap s11.2.2)) (IntKind.i64.wrap (a2 + 1)) (IntKind.i64.wrap (a3 - (IntKind.i64.wrap (s11.2.2 * (a0.getD a2.toNat default))))) s11.2.1 (fun r11 => nx11 (s11.1.set a2.toNat (IntKind.u8.wrap s11.2.2), r11, IntKind.i64.wrap (s11.2.2 - 1))))) else K s11.2.1) else K s11.2.1)) (a1, a4, (if 20 < IntKind.i64.wrap (Int.tdiv a3 (a0.getD a2.toNat default)) then 20 else IntKind.i64.wrap (Int.tdiv a3 (a0.getD a2.toNat default)))))))))
theorem Ztj (fu_ : Nat) : ∀ (a0 : List Int) (a1 : A8) (a2 : Int) (a3 : Int) (a4 : List A8) {u4_0 : Value} {u0_0 : Value} {fp0 : List Nat} {K : List A8 → Prop} (h : f_spec_l01Fill fu_ a0 a1 a2 a3 a4 K) (w0 : World) (q0 : ((EI .i64).ty.sl).rep a0 [u0_0] fp0 w0) (qo4 : (own 49 8 u4_0 a4.length ((EA .u8).encs a4)).holds w0) (do0 : ∀ b, b ∈ fp0 → b ∉ Option.toList (Value.ownBlock u4_0)),
  Calls Try.prog 128 #[u0_0, .agg (List.toArray (A8.enc .u8 a1)), .int .i64 a2, .int .i64 a3, u4_0] w0 fun e w' => ∃ (r0 : List A8) (z0_0 : Value), 
   e = .returned (z0_0) ∧ K r0 ∧ (own 49 8 z0_0 r0.length ((EA .u8).encs r0)).holds w' ∧ (∀ b, b ∈ Option.toList (Value.ownBlock z0_0) → b ∈ Option.toList (Value.ownBlock u4_0) ∨ w0.heap.size ≤ b) ∧ BelO (Option.toList (Value.ownBlock u4_0)) w0 w' := by
 induction fu_ with
 | zero =>
  intro a0 a1 a2 a3 a4 u4_0 u0_0 fp0 K h w0 q0 qo4 do0
  exact False.elim h
 | succ fu_ ih_ =>
  intro a0 a1 a2 a3 a4 u4_0 u0_0 fp0 K h w0 q0 qo4 do0
  rw [f_spec_l01Fill.eq_2] at h
  refine Z6 (args := [u0_0, .agg (List.toArray (A8.enc .u8 a1)), .int .i64 a2, .int .i64 a3, u4_0]) Try.func128 rfl 68 Try.ntmps128 (Nat.le_of_ble_eq_true rfl) ?_
  have hC := Ctx.startL w0 (Option.toList (Value.ownBlock u4_0)) [own 49 8 u4_0 a4.length ((EA .u8).encs a4)] [Ty.item ((EI .i64).ty.sl) a0 [u0_0] fp0] (by simp only [List.mem_cons, List.not_mem_nil, or_false, forall_eq_or_imp, forall_eq]; exact qo4) (by simp only [List.mem_cons, List.not_mem_nil, or_false, forall_eq_or_imp, forall_eq]; exact q0) (by simp only [List.mem_cons, List.not_mem_nil, or_false, forall_eq_or_imp, forall_eq]; exact (fun b_ hb_ => hb_)) (List.pairwise_singleton _ _) (by simp only [List.mem_cons, List.not_mem_nil, or_false, forall_eq_or_imp, forall_eq]; exact do0)
  refine sr (Ye (v := .agg (List.toArray (A8.enc .u8 a1))) hC (A8.enc .u8 a1) rfl rfl fun b3 w5 hB_ hC => Zc (v := .slice none 0 0) rfl (dn (wp_seq (sr (Zb (v := .int .i64 a2) rfl (Zb (v := u0_0) rfl ?_))))))
  obtain ⟨Ad6, c7, hv8⟩ := Z2 (hC.getP 0 rfl)
  refine Z0 Try.underlying22 (tr rfl hv8) (Jl rfl rfl (dn ?_))
  refine Zr rfl (fun hb9 => ?_) (fun hb9 => ?_)
  ·replace h := ift h (ct hb9)
   refine wp_seq (sr (Zb (v := .int .i64 a3) rfl (Jl rfl rfl (dn ?_))))
   refine Zr rfl (fun hb12 => ?_) (fun hb12 => ?_)
   ·replace h := ift h (ct hb12)
    refine sr (Zb (v := u4_0) rfl (Ys hC 0 (A8.enc .u8 a1) rfl ag49 rfl rfl rfl (Jg (sz := 8) hC [(0, .agg (List.toArray (A8.enc .u8 a1)))] ((EA .u8).encs [a1]) rfl (fun _ => Zs3 a1 _) rfl (by decide) fun b10 w10 hB_ hC => ?_)))
    obtain ⟨hm10, h⟩ := h
    refine Zbj hC 2 Try.underlying59 Zs4 rfl (by decide) (by decide) rfl (Zaq (hC.getM 0 rfl)) (fun q hq => Enc.encs_one' (E := (EA .u8)) _ q hq) rfl rfl hm10 fun v12 w11 hC => ?_
    replace hC := J8 hC 2 ((a4 ++ [a1]).length) ((EA .u8).encs (a4 ++ [a1])) rfl (by simp) (by first | (simp [Enc.encs_append]; done) | simp [Enc.encs_append, Enc.encs])
    refine Zc (v := v12) rfl (dn ?_)
    refine wp_ret (Zj (Zj ?_))
    refine Zo (fn := Try.f128) rfl ?_ ⟨a4 ++ [a1], v12, rfl, h, (hC.getM 2 rfl), (fun b_ hb_ => (hC.mfp _ (List.mem_of_getElem? (i := 2) rfl) b_ hb_).symm), hC.belO⟩ (.inl rfl)
    exact Zh rfl
   ·replace h := Zi h (cf hb12)
    refine wp_skip (Zd (sr (Zb (v := u4_0) rfl (Zc (v := u4_0) rfl (dn ?_)))))
    refine wp_ret (Zj ?_)
    refine Zo (fn := Try.f128) rfl ?_ ⟨a4, u4_0, rfl, h, (hC.getM 1 rfl), (fun b_ hb_ => (hC.mfp _ (List.mem_of_getElem? (i := 1) rfl) b_ hb_).symm), hC.belO⟩ (.inl rfl)
    exact Zh rfl
  ·replace h := Zi h (cf hb9)
   refine wp_skip (Zd (sr (Zb (v := .int .i64 a3) rfl (Zb (v := u0_0) rfl (Zb (v := .int .i64 a2) rfl ?_)))))
   obtain ⟨⟨h10, h11⟩, h⟩ := h
   obtain ⟨Ad12, c10, hv10⟩ := Z9 (hC.getP 0 rfl) a2.toNat (show a2.toNat < a0.length by omega)
   refine Xe (len := a0.length) Try.underlying22 sc2.size (tr rfl hv10) rfl h10 h11 (X5 (.int .i64 (a0.getD a2.toNat default)) (Yk (hC.getP 0 rfl) hv10 a2.toNat (show a2.toNat < a0.length by omega)) sc2 rfl ?_)
   obtain ⟨h12, h⟩ := h
   refine Zkg rfl rfl h12 (Zc (v := .int .i64 (IntKind.i64.wrap (Int.tdiv a3 (a0.getD a2.toNat default)))) rfl (dn (wp_seq (sr (Zb (v := u0_0) rfl (Zb (v := .int .i64 a2) rfl ?_))))))
   obtain ⟨⟨h13, h14⟩, h⟩ := h
   obtain ⟨Ad13, c11, hv11⟩ := Z9 (hC.getP 0 rfl) a2.toNat (show a2.toNat < a0.length by omega)
   refine Xe (len := a0.length) Try.underlying22 sc2.size (tr rfl hv11) rfl h13 h14 (X5 (.int .i64 (a0.getD a2.toNat default)) (Yk (hC.getP 0 rfl) hv11 a2.toNat (show a2.toNat < a0.length by omega)) sc2 rfl (Jk rfl rfl (by decide) (Xj rfl rfl (dn ?_))))
   refine Zr rfl (fun hb13 => ?_) (fun hb13 => ?_)
   ·replace h := ift h (ct hb13)
    refine Zk (Zb (v := .int .i64 (IntKind.i64.wrap (Int.tdiv a3 (a0.getD a2.toNat default)))) rfl (Zf2 rfl rfl (Zc (v := .int .i64 (if 1 < IntKind.i64.wrap (Int.tdiv a3 (a0.getD a2.toNat default)) then 1 else IntKind.i64.wrap (Int.tdiv a3 (a0.getD a2.toNat default)))) rfl (dn (wp_seq (sr (Zb (v := .int .i64 (if 1 < IntKind.i64.wrap (Int.tdiv a3 (a0.getD a2.toNat default)) then 1 else IntKind.i64.wrap (Int.tdiv a3 (a0.getD a2.toNat default)))) rfl (Zf2 rfl rfl (Zc (v := .int .i64 (if 20 < (if 1 < IntKind.i64.wrap (Int.tdiv a3 (a0.getD a2.toNat default)) then 1 else IntKind.i64.wrap (Int.tdiv a3 (a0.getD a2.toNat default))) then 20 else (if 1 < IntKind.i64.wrap (Int.tdiv a3 (a0.getD a2.toNat default)) then 1 else IntKind.i64.wrap (Int.tdiv a3 (a0.getD a2.toNat default))))) rfl (dn (wp_block ?_)))))))))))
    refine Xu (S := A8 × (List A8) × Int) _ (fun s10 e_ w_ => ∃ (v10 : Value), Z4 e_ [(0, u0_0), (2, .int .i64 a2), (3, .int .i64 a3), (4, v10), (6, .pointer (some ⟨b3, 0, none⟩)), (12, .int .i64 s10.2.2)] ∧ Ctx (fun c_ => c_ ∈ Option.toList (Value.ownBlock u4_0)) w0 w_ [blk b3 49 (A8.enc .u8 s10.1), own 49 8 v10 s10.2.1.length ((EA .u8).encs s10.2.1)] [Ty.item ((EI .i64).ty.sl) a0 [u0_0] fp0]) ?_ (s0 := (a1, a4, (if 20 < (if 1 < IntKind.i64.wrap (Int.tdiv a3 (a0.getD a2.toNat default)) then 1 else IntKind.i64.wrap (Int.tdiv a3 (a0.getD a2.toNat default))) then 20 else (if 1 < IntKind.i64.wrap (Int.tdiv a3 (a0.getD a2.toNat default)) then 1 else IntKind.i64.wrap (Int.tdiv a3 (a0.getD a2.toNat default)))))) ?_ h
    ·clear hC h
     rintro s10 e_ w12 nx10 K10 ⟨v10, hS_, hC⟩ h hK10
     rw [ue hS_]
     refine wp_seq (sr (Zb (v := .int .i64 s10.2.2) rfl (Zai rfl rfl (Zb (v := .bool (decide (s10.2.2 ≥ 0))) rfl ?_))))
     refine Xa (decide (s10.2.2 ≥ 0)) (fun hb10 => ?_) (fun hb10 => ?_)
     ·replace h := ift h (ct hb10)
      refine Zm 2 42 rfl rfl hb10 (Zb (v := v10) rfl (Zm 2 42 rfl rfl hb10 ?_))
      obtain ⟨Ad14, c12, hv14⟩ := J6 (hC.getM 1 rfl)
      refine Z0 Try.underlying59 (tr rfl hv14) (Zm 2 42 rfl rfl hb10 (Zbi rfl rfl (Yb (v := .bool (decide ((s10.2.1.length : Int) ≤ 400))) (b := true) (tr rfl (congrArg _ hb10)) rfl (dn ?_))))
      refine Zr rfl (fun hb14 => ?_) (fun hb14 => ?_)
      ·replace h := ift h (ct hb14)
       refine wp_skip (Zd (wp_seq (wp_block (sr (Zb (v := .int .i64 a2) rfl (Zb (v := .int .i64 s10.2.2) rfl (Zec Try.underlying2 Try.underlying5 rfl ?_)))))))
       obtain ⟨⟨h15, h16⟩, h⟩ := h
       refine Y1 a2.toNat Try.underlying49 sc5.size rfl rfl h15 h16 (by omega) (Zu (v := .int .u8 (IntKind.u8.wrap s10.2.2)) hC 0 [.int .u8 (IntKind.u8.wrap s10.2.2)] (A8.enc .u8 (s10.1.set a2.toNat (IntKind.u8.wrap s10.2.2))) rfl sc5.size rfl rfl rfl rfl rfl (show a2.toNat < 8 by omega) (A8.enc_set _ _ _ (show a2.toNat < 8 by omega)) fun w13 hC => dn ?_)
       refine Ym 13 Yg [0, 0, 0, 4, 0, 0, 0, 0, 192, 448, 992, 2032, 0, 8191, 16383] [1, 8, 9] [0, 2, 3, 4, 5, 6, 7, 10, 11, 12] (by kernel_rfl) (by kernel_rfl) (by kernel_rfl) (fun hM12 hM10 w14 hB_ => ?_)
       replace hC := hC.grow hB_
       refine aF 0 (u0_0) rfl rfl (hM10 0 rfl) (rfl) (fun _ => by exact Zg (v := u0_0) rfl) (Za 15 1) (aL 1 (.agg (List.toArray (A8.enc .u8 (s10.1.set a2.toNat (IntKind.u8.wrap s10.2.2))))) rfl rfl (hM12 1 rfl) (rfl) (fun _ hB_ => by exact Yu (hC.grow hB_) 0 (A8.enc .u8 (s10.1.set a2.toNat (IntKind.u8.wrap s10.2.2))) rfl ag49 rfl rfl rfl) (Za 15 3) (aF 2 (.int .i64 a2) rfl rfl (hM10 2 rfl) (rfl) (fun _ => by exact Zg (v := .int .i64 a2) rfl) (Za 15 7) (aF 3 (.int .i64 (IntKind.i64.wrap (a2 + 1))) rfl rfl (hM10 3 rfl) (rfl) (fun _ => by exact Zgo rfl rfl) (Za 15 15) (aF 4 (.int .i64 a3) rfl rfl (hM10 4 rfl) (rfl) (fun _ => by exact Zg (v := .int .i64 a3) rfl) (Za 15 31) (aF 5 (.int .i64 s10.2.2) rfl rfl (hM10 5 rfl) (rfl) (fun _ => by exact Zg (v := .int .i64 s10.2.2) rfl) (Za 15 63) (aF 6 (u0_0) rfl rfl (hM10 6 rfl) (rfl) (fun _ => by exact Zg (v := u0_0) rfl) (Za 15 127) (aF 7 (.int .i64 a2) rfl rfl (hM10 7 rfl) (rfl) (fun _ => by exact Zg (v := .int .i64 a2) rfl) (Za 15 255) ?_)))))))
       obtain ⟨⟨h17, h18⟩, h⟩ := h
       obtain ⟨Ad10, c13, hv12⟩ := Z9 (hC.getP 0 rfl) a2.toNat (show a2.toNat < a0.length by omega)
       refine aL 8 (.pointer (some (Ad10.add (a2.toNat * 1)))) rfl rfl (hM12 8 rfl) (rfl) (fun _ hB_ => by exact Yv (len := a0.length) Try.underlying22 sc2.size (by exact tr rfl hv12) rfl h17 h18) (Za 15 511) (aL 9 (.int .i64 (a0.getD a2.toNat default)) rfl rfl (hM12 9 rfl) (rfl) (fun _ hB_ => by exact Jf (.int .i64 (a0.getD a2.toNat default)) (Yk ((hC.grow hB_).getP 0 rfl) hv12 a2.toNat (show a2.toNat < a0.length by omega)) sc2 rfl) (Za 15 1023) (aF 10 (.int .i64 (IntKind.i64.wrap (s10.2.2 * (a0.getD a2.toNat default)))) rfl rfl (hM10 10 rfl) (rfl) (fun _ => by exact Zbh rfl rfl) (Za 15 2047) (aF 11 (.int .i64 (IntKind.i64.wrap (a3 - (IntKind.i64.wrap (s10.2.2 * (a0.getD a2.toNat default)))))) rfl rfl (hM10 11 rfl) (rfl) (fun _ => by exact Zb1 rfl rfl) (Za 15 4095) (aF 12 (v10) rfl rfl (hM10 12 rfl) (rfl) (fun _ => by exact Zg (v := v10) rfl) (Za 15 8191) (Zv 13 (by decide) (by decide) (by kernel_rfl) (by kernel_rfl) rfl ?_)))))
       refine Zf [u0_0, .agg (List.toArray (A8.enc .u8 (s10.1.set a2.toNat (IntKind.u8.wrap s10.2.2)))), .int .i64 (IntKind.i64.wrap (a2 + 1)), .int .i64 (IntKind.i64.wrap (a3 - (IntKind.i64.wrap (s10.2.2 * (a0.getD a2.toNat default))))), v10] _ Try.func128 rfl rfl rfl (ih_ a0 (s10.1.set a2.toNat (IntKind.u8.wrap s10.2.2)) (IntKind.i64.wrap (a2 + 1)) (IntKind.i64.wrap (a3 - (IntKind.i64.wrap (s10.2.2 * (a0.getD a2.toNat default))))) s10.2.1 h _ (hC.getP 0 rfl) (hC.getM 1 rfl) (fun b_ hb_ hb2_ => hC.pd _ (List.mem_of_getElem? (i := 0) rfl) b_ hb_ _ (List.mem_of_getElem? (i := 1) rfl) hb2_)) (fun ret10 w15 hR10 => ?_)
       obtain ⟨r10, v13, rfl, h, hr10, hf10, hB10⟩ := hR10
       refine ⟨_, rfl, ?_⟩
       replace hC := hC.turnO 1 rfl hB10 hr10 hf10
       refine Zc (v := v13) rfl (done (Zw (Zt (Zd (Zk (Zb (v := .int .i64 s10.2.2) rfl (J5 rfl rfl (Zc (v := .int .i64 (IntKind.i64.wrap (s10.2.2 - 1))) rfl (done ?_)))))))))
       exact hK10 (s10.1.set a2.toNat (IntKind.u8.wrap s10.2.2), r10, IntKind.i64.wrap (s10.2.2 - 1)) _ _ ⟨v13, (sl ⟨rfl, rfl, rfl, rfl, rfl, rfl, trivial⟩), hC⟩ h
      ·replace h := Zi h (cf hb14)
       refine wp_exit (Zl (Zl (Yc ?_)))
       refine Zd (sr (Zb (v := v10) rfl (Zc (v := v10) rfl (dn (wp_ret ?_)))))
       refine Zo (fn := Try.f128) rfl ?_ ⟨s10.2.1, v10, rfl, h, (hC.getM 1 rfl), (fun b_ hb_ => (hC.mfp _ (List.mem_of_getElem? (i := 1) rfl) b_ hb_).symm), hC.belO⟩ (.inl rfl)
       exact Zh rfl
     ·replace h := Zi h (cf hb10)
      refine Zn (b := false) 2 42 rfl (tr rfl (congrArg _ hb10)) (by decide) (Zn (b := false) 2 42 rfl (tr rfl (congrArg _ hb10)) (by decide) (Zn (b := false) 2 42 rfl (tr rfl (congrArg _ hb10)) (by decide) (Yb (v := .bool false) (b := false) (tr rfl (congrArg _ hb10)) rfl (dn (Yj rfl rfl ?_)))))
      refine wp_exit (Zl (Zl (Yc ?_)))
      refine Zd (sr (Zb (v := v10) rfl (Zc (v := v10) rfl (dn (wp_ret ?_)))))
      refine Zo (fn := Try.f128) rfl ?_ ⟨s10.2.1, v10, rfl, h, (hC.getM 1 rfl), (fun b_ hb_ => (hC.mfp _ (List.mem_of_getElem? (i := 1) rfl) b_ hb_).symm), hC.belO⟩ (.inl rfl)
      exact Zh rfl
    ·skip
     exact ⟨u4_0, (sl ⟨rfl, rfl, rfl, rfl, rfl, rfl, trivial⟩), hC⟩
   ·replace h := Zi h (cf hb13)
    refine wp_skip (Zd (wp_seq (sr (Zb (v := .int .i64 (IntKind.i64.wrap (Int.tdiv a3 (a0.getD a2.toNat default)))) rfl (Zf2 rfl rfl (Zc (v := .int .i64 (if 20 < IntKind.i64.wrap (Int.tdiv a3 (a0.getD a2.toNat default)) then 20 else IntKind.i64.wrap (Int.tdiv a3 (a0.getD a2.toNat default)))) rfl (dn (wp_block ?_))))))))
    refine Xu (S := A8 × (List A8) × Int) _ (fun s11 e_ w_ => ∃ (v11 : Value), Z4 e_ [(0, u0_0), (2, .int .i64 a2), (3, .int .i64 a3), (4, v11), (6, .pointer (some ⟨b3, 0, none⟩)), (12, .int .i64 s11.2.2)] ∧ Ctx (fun c_ => c_ ∈ Option.toList (Value.ownBlock u4_0)) w0 w_ [blk b3 49 (A8.enc .u8 s11.1), own 49 8 v11 s11.2.1.length ((EA .u8).encs s11.2.1)] [Ty.item ((EI .i64).ty.sl) a0 [u0_0] fp0]) ?_ (s0 := (a1, a4, (if 20 < IntKind.i64.wrap (Int.tdiv a3 (a0.getD a2.toNat default)) then 20 else IntKind.i64.wrap (Int.tdiv a3 (a0.getD a2.toNat default))))) ?_ h
    ·clear hC h
     rintro s11 e_ w16 nx11 K11 ⟨v11, hS_, hC⟩ h hK11
     rw [ue hS_]
     refine wp_seq (sr (Zb (v := .int .i64 s11.2.2) rfl (Zai rfl rfl (Zb (v := .bool (decide (s11.2.2 ≥ 0))) rfl ?_))))
     refine Xa (decide (s11.2.2 ≥ 0)) (fun hb11 => ?_) (fun hb11 => ?_)
     ·replace h := ift h (ct hb11)
      refine Zm 2 42 rfl rfl hb11 (Zb (v := v11) rfl (Zm 2 42 rfl rfl hb11 ?_))
      obtain ⟨Ad15, c14, hv15⟩ := J6 (hC.getM 1 rfl)
      refine Z0 Try.underlying59 (tr rfl hv15) (Zm 2 42 rfl rfl hb11 (Zbi rfl rfl (Yb (v := .bool (decide ((s11.2.1.length : Int) ≤ 400))) (b := true) (tr rfl (congrArg _ hb11)) rfl (dn ?_))))
      refine Zr rfl (fun hb15 => ?_) (fun hb15 => ?_)
      ·replace h := ift h (ct hb15)
       refine wp_skip (Zd (wp_seq (wp_block (sr (Zb (v := .int .i64 a2) rfl (Zb (v := .int .i64 s11.2.2) rfl (Zec Try.underlying2 Try.underlying5 rfl ?_)))))))
       obtain ⟨⟨h19, h20⟩, h⟩ := h
       refine Y1 a2.toNat Try.underlying49 sc5.size rfl rfl h19 h20 (by omega) (Zu (v := .int .u8 (IntKind.u8.wrap s11.2.2)) hC 0 [.int .u8 (IntKind.u8.wrap s11.2.2)] (A8.enc .u8 (s11.1.set a2.toNat (IntKind.u8.wrap s11.2.2))) rfl sc5.size rfl rfl rfl rfl rfl (show a2.toNat < 8 by omega) (A8.enc_set _ _ _ (show a2.toNat < 8 by omega)) fun w17 hC => dn ?_)
       refine Ym 13 Yg [0, 0, 0, 4, 0, 0, 0, 0, 192, 448, 992, 2032, 0, 8191, 16383] [1, 8, 9] [0, 2, 3, 4, 5, 6, 7, 10, 11, 12] (by kernel_rfl) (by kernel_rfl) (by kernel_rfl) (fun hM13 hM11 w18 hB_ => ?_)
       replace hC := hC.grow hB_
       refine aF 0 (u0_0) rfl rfl (hM11 0 rfl) (rfl) (fun _ => by exact Zg (v := u0_0) rfl) (Za 15 1) (aL 1 (.agg (List.toArray (A8.enc .u8 (s11.1.set a2.toNat (IntKind.u8.wrap s11.2.2))))) rfl rfl (hM13 1 rfl) (rfl) (fun _ hB_ => by exact Yu (hC.grow hB_) 0 (A8.enc .u8 (s11.1.set a2.toNat (IntKind.u8.wrap s11.2.2))) rfl ag49 rfl rfl rfl) (Za 15 3) (aF 2 (.int .i64 a2) rfl rfl (hM11 2 rfl) (rfl) (fun _ => by exact Zg (v := .int .i64 a2) rfl) (Za 15 7) (aF 3 (.int .i64 (IntKind.i64.wrap (a2 + 1))) rfl rfl (hM11 3 rfl) (rfl) (fun _ => by exact Zgo rfl rfl) (Za 15 15) (aF 4 (.int .i64 a3) rfl rfl (hM11 4 rfl) (rfl) (fun _ => by exact Zg (v := .int .i64 a3) rfl) (Za 15 31) (aF 5 (.int .i64 s11.2.2) rfl rfl (hM11 5 rfl) (rfl) (fun _ => by exact Zg (v := .int .i64 s11.2.2) rfl) (Za 15 63) (aF 6 (u0_0) rfl rfl (hM11 6 rfl) (rfl) (fun _ => by exact Zg (v := u0_0) rfl) (Za 15 127) (aF 7 (.int .i64 a2) rfl rfl (hM11 7 rfl) (rfl) (fun _ => by exact Zg (v := .int .i64 a2) rfl) (Za 15 255) ?_)))))))
       obtain ⟨⟨h21, h22⟩, h⟩ := h
       obtain ⟨Ad11, c15, hv13⟩ := Z9 (hC.getP 0 rfl) a2.toNat (show a2.toNat < a0.length by omega)
       refine aL 8 (.pointer (some (Ad11.add (a2.toNat * 1)))) rfl rfl (hM13 8 rfl) (rfl) (fun _ hB_ => by exact Yv (len := a0.length) Try.underlying22 sc2.size (by exact tr rfl hv13) rfl h21 h22) (Za 15 511) (aL 9 (.int .i64 (a0.getD a2.toNat default)) rfl rfl (hM13 9 rfl) (rfl) (fun _ hB_ => by exact Jf (.int .i64 (a0.getD a2.toNat default)) (Yk ((hC.grow hB_).getP 0 rfl) hv13 a2.toNat (show a2.toNat < a0.length by omega)) sc2 rfl) (Za 15 1023) (aF 10 (.int .i64 (IntKind.i64.wrap (s11.2.2 * (a0.getD a2.toNat default)))) rfl rfl (hM11 10 rfl) (rfl) (fun _ => by exact Zbh rfl rfl) (Za 15 2047) (aF 11 (.int .i64 (IntKind.i64.wrap (a3 - (IntKind.i64.wrap (s11.2.2 * (a0.getD a2.toNat default)))))) rfl rfl (hM11 11 rfl) (rfl) (fun _ => by exact Zb1 rfl rfl) (Za 15 4095) (aF 12 (v11) rfl rfl (hM11 12 rfl) (rfl) (fun _ => by exact Zg (v := v11) rfl) (Za 15 8191) (Zv 13 (by decide) (by decide) (by kernel_rfl) (by kernel_rfl) rfl ?_)))))
       refine Zf [u0_0, .agg (List.toArray (A8.enc .u8 (s11.1.set a2.toNat (IntKind.u8.wrap s11.2.2)))), .int .i64 (IntKind.i64.wrap (a2 + 1)), .int .i64 (IntKind.i64.wrap (a3 - (IntKind.i64.wrap (s11.2.2 * (a0.getD a2.toNat default))))), v11] _ Try.func128 rfl rfl rfl (ih_ a0 (s11.1.set a2.toNat (IntKind.u8.wrap s11.2.2)) (IntKind.i64.wrap (a2 + 1)) (IntKind.i64.wrap (a3 - (IntKind.i64.wrap (s11.2.2 * (a0.getD a2.toNat default))))) s11.2.1 h _ (hC.getP 0 rfl) (hC.getM 1 rfl) (fun b_ hb_ hb2_ => hC.pd _ (List.mem_of_getElem? (i := 0) rfl) b_ hb_ _ (List.mem_of_getElem? (i := 1) rfl) hb2_)) (fun ret11 w19 hR11 => ?_)
       obtain ⟨r11, v14, rfl, h, hr11, hf11, hB11⟩ := hR11
       refine ⟨_, rfl, ?_⟩
       replace hC := hC.turnO 1 rfl hB11 hr11 hf11
       refine Zc (v := v14) rfl (done (Zw (Zt (Zd (Zk (Zb (v := .int .i64 s11.2.2) rfl (J5 rfl rfl (Zc (v := .int .i64 (IntKind.i64.wrap (s11.2.2 - 1))) rfl (done ?_)))))))))
       exact hK11 (s11.1.set a2.toNat (IntKind.u8.wrap s11.2.2), r11, IntKind.i64.wrap (s11.2.2 - 1)) _ _ ⟨v14, (sl ⟨rfl, rfl, rfl, rfl, rfl, rfl, trivial⟩), hC⟩ h
      ·replace h := Zi h (cf hb15)
       refine wp_exit (Zl (Zl (Yc ?_)))
       refine Zd (sr (Zb (v := v11) rfl (Zc (v := v11) rfl (dn (wp_ret ?_)))))
       refine Zo (fn := Try.f128) rfl ?_ ⟨s11.2.1, v11, rfl, h, (hC.getM 1 rfl), (fun b_ hb_ => (hC.mfp _ (List.mem_of_getElem? (i := 1) rfl) b_ hb_).symm), hC.belO⟩ (.inl rfl)
       exact Zh rfl
     ·replace h := Zi h (cf hb11)
      refine Zn (b := false) 2 42 rfl (tr rfl (congrArg _ hb11)) (by decide) (Zn (b := false) 2 42 rfl (tr rfl (congrArg _ hb11)) (by decide) (Zn (b := false) 2 42 rfl (tr rfl (congrArg _ hb11)) (by decide) (Yb (v := .bool false) (b := false) (tr rfl (congrArg _ hb11)) rfl (dn (Yj rfl rfl ?_)))))
      refine wp_exit (Zl (Zl (Yc ?_)))
      refine Zd (sr (Zb (v := v11) rfl (Zc (v := v11) rfl (dn (wp_ret ?_)))))
      refine Zo (fn := Try.f128) rfl ?_ ⟨s11.2.1, v11, rfl, h, (hC.getM 1 rfl), (fun b_ hb_ => (hC.mfp _ (List.mem_of_getElem? (i := 1) rfl) b_ hb_).symm), hC.belO⟩ (.inl rfl)
      exact Zh rfl
    ·skip
     exact ⟨u4_0, (sl ⟨rfl, rfl, rfl, rfl, rfl, rfl, trivial⟩), hC⟩
def Zc6 (a0 : List Int) (a1 : Int) (K : List A8 → Prop) : Prop :=
 f_spec_l01Fill 9 a0 A8.zero 0 a1 [] (fun r6 => K r6)
theorem Zj3 (a0 : List Int) (a1 : Int) {u0_0 : Value} {fp0 : List Nat} {K : List A8 → Prop} (h : Zc6 a0 a1 K) (w0 : World) (q0 : ((EI .i64).ty.sl).rep a0 [u0_0] fp0 w0) :
  Calls Try.prog 92 #[u0_0, .int .i64 a1] w0 fun e w' => ∃ (r0 : List A8) (z0_0 : Value) (fz0 : List Nat), 
   e = .returned (z0_0) ∧ K r0 ∧ (Tr.item (Tr.sl 49 ((EA .u8).tr)) r0 [z0_0] fz0).holds w' ∧ (∀ b, b ∈ fz0 → w0.heap.size ≤ b) ∧ Bel w0 w' := by
 unfold Zc6 at h
 refine Z6 (args := [u0_0, .int .i64 a1]) Try.func92 rfl 9 Try.ntmps92 (Nat.le_of_ble_eq_true rfl) ?_
 have hC := Ctx.start (X := Nox) w0 [Ty.item ((EI .i64).ty.sl) a0 [u0_0] fp0] (by simp only [List.mem_cons, List.not_mem_nil, or_false, forall_eq_or_imp, forall_eq]; exact q0)
 refine sr (Zc (v := .slice none 0 0) rfl (dn (sr (Zb (v := u0_0) rfl (Jd [] rfl (Zhe   _) (Zb (v := .int .i64 a1) rfl ?_))))))
 replace hC := hC.pushNil 49 8
 refine Zf [u0_0, .agg (List.toArray (A8.enc .u8 A8.zero)), .int .i64 0, .int .i64 a1, .slice none 0 0] _ Try.func128 rfl rfl rfl (Ztj 9 a0 A8.zero 0 a1 [] h _ (hC.getP 0 rfl) (hC.getM 0 rfl) (fun b_ hb_ hb2_ => hC.pd _ (List.mem_of_getElem? (i := 0) rfl) b_ hb_ _ (List.mem_of_getElem? (i := 0) rfl) hb2_)) (fun Znx w5 hR4 => ?_)
 obtain ⟨r6, v7, rfl, h, hr8, hf9, hB10⟩ := hR4
 refine ⟨_, rfl, ?_⟩
 replace hC := hC.turnO 0 rfl hB10 hr8 hf9
 refine Zc (v := v7) rfl (dn (wp_ret ?_))
 refine Zo (fn := Try.f92) rfl ?_ ⟨r6, v7, (Option.toList (Value.ownBlock v7)), rfl, h, (Js (hC.getM 0 rfl)), (Zae hC 0 rfl), hC.below⟩ (.inl rfl)
 exact Zh rfl
def Zc7 (a0 : Alg) (a1 : Int) (K : Int → Prop) : Prop :=
 Xf (fun (s10 : Int × Int) nx10 => (if s10.2 < (a0.degrees.length : Int) then ((0 ≤ s10.2 ∧ s10.2 < (a0.degrees.length : Int)) ∧ (if a0.degrees.getD s10.2.toNat default ≥ a1 then ((0 ≤ s10.2 ∧ s10.2 < (a0.degrees.length : Int)) ∧ Zc6 a0.degrees (IntKind.i64.wrap ((a0.degrees.getD s10.2.toNat default) - a1)) (fun r10 => nx10 (IntKind.i64.wrap (s10.1 + (r10.length : Int)), IntKind.i64.wrap (s10.2 + 1)))) else nx10 (s10.1, IntKind.i64.wrap (s10.2 + 1)))) else K s10.1)) (0, 0)
theorem Zmv (a0 : Alg) (a1 : Int) {u0_0 : Value} {u0_1 : Value} {fp0 : List Nat} {K : Int → Prop} (h : Zc7 a0 a1 K) (w0 : World) (q0 : TAlg.rep a0 [u0_0, u0_1] fp0 w0) :
  Calls Try.prog 98 #[.agg #[u0_0, u0_1], .int .i64 a1] w0 fun e w' => ∃ (r0 : Int), 
   e = .returned (.int .i64 r0) ∧ K r0 ∧ Bel w0 w' := by
 unfold Zc7 at h
 refine Z6 (args := [.agg #[u0_0, u0_1], .int .i64 a1]) Try.func98 rfl 35 Try.ntmps98 (Nat.le_of_ble_eq_true rfl) ?_
 have hC := Ctx.start (X := Nox) w0 [Ty.item TAlg a0 [u0_0, u0_1] fp0] (by simp only [List.mem_cons, List.not_mem_nil, or_false, forall_eq_or_imp, forall_eq]; exact q0)
 have hp2 := (hC.getP 0 rfl)
 replace hC := hC.derive 0 rfl (Ty.item ((EI .i64).ty.sl) a0.degrees [u0_0] fp0) (fun _ => (Yt hp2).1) (fun _ hb_ => hb_)
 replace hC := hC.derive 1 rfl (Ty.item TForm.sl a0.images [u0_1] fp0) (fun _ => (Yt hp2).2) (fun _ hb_ => hb_)
 refine sr (Ye (v := .agg #[u0_0, u0_1]) hC [u0_0, u0_1] rfl rfl fun b5 w7 hB_ hC => Zc (v := .int .i64 0) rfl (dn (sr (Zc (v := .int .i64 0) rfl (dn (wp_seq (sr (Zc (v := .int .i64 0) rfl (dn (wp_block ?_))))))))))
 refine Xu (S := Int × Int) _ (fun s10 e_ w_ => Z4 e_ [(1, .int .i64 a1), (2, .pointer (some ⟨b5, 0, none⟩)), (5, .int .i64 s10.1), (6, .int .i64 s10.2)] ∧ Ctx Nox w0 w_ [blk b5 32 [u0_0, u0_1]] [Ty.item TForm.sl a0.images [u0_1] fp0, Ty.item ((EI .i64).ty.sl) a0.degrees [u0_0] fp0, Ty.item TAlg a0 [u0_0, u0_1] fp0]) ?_ (s0 := (0, 0)) ?_ h
 ·clear hC h
  rintro s10 e_ w10 nx10 K10 ⟨hS_, hC⟩ h hK10
  rw [ue hS_]
  refine wp_seq (sr (Zb (v := .int .i64 s10.2) rfl (Z1 0 Try.underlying32 rfl sc22.size rfl rfl (Z8 hC 0 (u0_0) rfl sc22 rfl rfl ?_))))
  obtain ⟨Ad11, c10, hv12⟩ := Z2 (hC.getP 1 rfl)
  refine Z0 Try.underlying22 (tr rfl hv12) (Zs rfl rfl (dn ?_))
  refine Zr rfl (fun hb10 => ?_) (fun hb10 => ?_)
  ·replace h := ift h (ct hb10)
   refine wp_skip (Zd (wp_seq (wp_block (sr (Z1 0 Try.underlying32 rfl sc22.size rfl rfl (Z8 hC 0 (u0_0) rfl sc22 rfl rfl (Zb (v := .int .i64 s10.2) rfl ?_)))))))
   obtain ⟨⟨h10, h11⟩, h⟩ := h
   obtain ⟨Ad12, c11, hv10⟩ := Z9 (hC.getP 1 rfl) s10.2.toNat (show s10.2.toNat < a0.degrees.length by omega)
   refine Xe (len := a0.degrees.length) Try.underlying22 sc2.size (tr rfl hv10) rfl h10 h11 (X5 (.int .i64 (a0.degrees.getD s10.2.toNat default)) (Yk (hC.getP 1 rfl) hv10 s10.2.toNat (show s10.2.toNat < a0.degrees.length by omega)) sc2 rfl (Zb (v := .int .i64 a1) rfl (Zai rfl rfl (dn ?_))))
   refine Zr rfl (fun hb11 => ?_) (fun hb11 => ?_)
   ·replace h := ift h (ct hb11)
    refine Ym 12 Yg [0, 0, 2, 0, 8, 0, 56, 120, 0, 504, 1022, 2046, 4095, 8191] [2, 4, 6, 7, 11] [0, 1, 3, 5, 8, 9] (by kernel_rfl) (by kernel_rfl) (by kernel_rfl) (fun hM11 hM10 w11 hB_ => ?_)
    replace hC := hC.grow hB_
    refine aF 0 (.int .i64 s10.1) rfl rfl (hM10 0 rfl) (rfl) (fun _ => by exact Zg (v := .int .i64 s10.1) rfl) (Za 14 1) (aF 1 (.pointer (some ⟨b5, 0, none⟩)) rfl rfl (hM10 1 rfl) (rfl) (fun _ => by exact Z7 0 Try.underlying32 rfl sc22.size rfl rfl) (Za 14 3) (aL 2 (u0_0) rfl rfl (hM11 2 rfl) (rfl) (fun _ hB_ => by exact Z5 (hC.grow hB_) 0 (u0_0) rfl sc22 rfl rfl) (Za 14 7) (aF 3 (.pointer (some ⟨b5, 0, none⟩)) rfl rfl (hM10 3 rfl) (rfl) (fun _ => by exact Z7 0 Try.underlying32 rfl sc22.size rfl rfl) (Za 14 15) (aL 4 (u0_0) rfl rfl (hM11 4 rfl) (rfl) (fun _ hB_ => by exact Z5 (hC.grow hB_) 0 (u0_0) rfl sc22 rfl rfl) (Za 14 31) (aF 5 (.int .i64 s10.2) rfl rfl (hM10 5 rfl) (rfl) (fun _ => by exact Zg (v := .int .i64 s10.2) rfl) (Za 14 63) ?_)))))
    obtain ⟨⟨h12, h13⟩, h⟩ := h
    obtain ⟨Ad10, c12, hv11⟩ := Z9 (hC.getP 1 rfl) s10.2.toNat (show s10.2.toNat < a0.degrees.length by omega)
    refine aL 6 (.pointer (some (Ad10.add (s10.2.toNat * 1)))) rfl rfl (hM11 6 rfl) (rfl) (fun _ hB_ => by exact Yv (len := a0.degrees.length) Try.underlying22 sc2.size (by exact tr rfl hv11) rfl h12 h13) (Za 14 127) (aL 7 (.int .i64 (a0.degrees.getD s10.2.toNat default)) rfl rfl (hM11 7 rfl) (rfl) (fun _ hB_ => by exact Jf (.int .i64 (a0.degrees.getD s10.2.toNat default)) (Yk ((hC.grow hB_).getP 1 rfl) hv11 s10.2.toNat (show s10.2.toNat < a0.degrees.length by omega)) sc2 rfl) (Za 14 255) (aF 8 (.int .i64 a1) rfl rfl (hM10 8 rfl) (rfl) (fun _ => by exact Zg (v := .int .i64 a1) rfl) (Za 14 511) (aF 9 (.int .i64 (IntKind.i64.wrap ((a0.degrees.getD s10.2.toNat default) - a1))) rfl rfl (hM10 9 rfl) (rfl) (fun _ => by exact Zb1 rfl rfl) (Za 14 1023) (aO 10 rfl ?_))))
    refine Zf [u0_0, .int .i64 (IntKind.i64.wrap ((a0.degrees.getD s10.2.toNat default) - a1))] _ Try.func92 rfl rfl rfl (Zj3 a0.degrees (IntKind.i64.wrap ((a0.degrees.getD s10.2.toNat default) - a1)) h _ (hC.getP 1 rfl)) (fun ret10 w12 hR10 => ?_)
    obtain ⟨r10, u10, f10, rfl, h, hr10, hf10, hB10⟩ := hR10
    refine ⟨_, rfl, ?_⟩
    replace hC := hC.push hB10 (Tr.item (Tr.sl 49 ((EA .u8).tr)) r10 [u10] f10) hr10 hf10
    obtain ⟨ho10, hf11⟩ := Zat (hC.getM 0 rfl).1
    subst hf11
    replace hC := hC.recast (c := own 49 8 u10 r10.length ((EA .u8).encs r10)) (fun _ h_ => h_) (fun _ => ho10)
    refine done (aK (by assumption) (Za 14 2047) ?_)
    obtain ⟨Ad13, c13, hv13⟩ := J6 (hC.getM 0 rfl)
    refine aL 11 (.int .i64 (r10.length : Int)) rfl rfl (hM11 11 rfl) (rfl) (fun _ hB_ => by exact Zck Try.underlying59 (by exact tr rfl hv13)) (Za 14 4095) (Zv 12 (by decide) (by decide) (by kernel_rfl) (by kernel_rfl) rfl (Zq rfl rfl (Zc (v := .int .i64 (IntKind.i64.wrap (s10.1 + (r10.length : Int)))) rfl (done (Zw (Zt (Zd (Zk (Zb (v := .int .i64 s10.2) rfl (Zq rfl rfl (Zc (v := .int .i64 (IntKind.i64.wrap (s10.2 + 1))) rfl ?_)))))))))))
    refine done ?_
    replace hC := hC.sM [1] (M' := [blk b5 32 [u0_0, u0_1]]) (by decide) rfl
    exact hK10 (IntKind.i64.wrap (s10.1 + (r10.length : Int)), IntKind.i64.wrap (s10.2 + 1)) _ _ ⟨(sl ⟨rfl, rfl, rfl, rfl, trivial⟩), hC⟩ h
   ·replace h := Zi h (cf hb11)
    refine wp_skip (Zt (Zd (Zk (Zb (v := .int .i64 s10.2) rfl (Zq rfl rfl (Zc (v := .int .i64 (IntKind.i64.wrap (s10.2 + 1))) rfl (done ?_)))))))
    exact hK10 (s10.1, IntKind.i64.wrap (s10.2 + 1)) _ _ ⟨(sl ⟨rfl, rfl, rfl, rfl, trivial⟩), hC⟩ h
  ·replace h := Zi h (cf hb10)
   refine wp_exit (Zl (Zl (Yc ?_)))
   refine Zd (sr (Zb (v := .int .i64 s10.1) rfl (Zc (v := .int .i64 s10.1) rfl (dn (wp_ret ?_)))))
   refine Zo (fn := Try.f98) rfl ?_ ⟨s10.1, rfl, h, hC.below⟩ (.inl rfl)
   exact Zh rfl
 ·skip
  exact ⟨(sl ⟨rfl, rfl, rfl, rfl, trivial⟩), hC⟩
def Zf4 (a0 : Alg) (a1 : Int) (a2 : Int) (a3 : Int) (a4 : Int) (K : Int → Prop) : Prop :=
 Zfa a0 (fun r10 => (if ¬ (r10 = true) then K 1 else Zcy a1 a2 a3 (fun r11 => (if ¬ (r11 = true) then K 2 else Xf (fun (s10 : Int) nx10 => (if s10 ≤ IntKind.i64.wrap (a1 + a4) then (if s10 ≥ a1 then Zc7 a0 s10 (fun r12 => (if r12 > 120 then K 3 else nx10 (IntKind.i64.wrap (s10 + 1)))) else (if a2 > 0 then Zc7 a0 s10 (fun r13 => (if r13 > 120 then K 3 else nx10 (IntKind.i64.wrap (s10 + 1)))) else nx10 (IntKind.i64.wrap (s10 + 1)))) else K 0)) (if IntKind.i64.wrap (a1 - 1) < 0 then 0 else IntKind.i64.wrap (a1 - 1))))))
theorem Ztk (a0 : Alg) (a1 : Int) (a2 : Int) (a3 : Int) (a4 : Int) {u0_0 : Value} {u0_1 : Value} {fp0 : List Nat} {K : Int → Prop} (h : Zf4 a0 a1 a2 a3 a4 K) (w0 : World) (q0 : TAlg.rep a0 [u0_0, u0_1] fp0 w0) :
  Calls Try.prog 41 #[.agg #[u0_0, u0_1], .int .i64 a1, .int .i64 a2, .int .i64 a3, .int .i64 a4] w0 fun e w' => ∃ (r0 : Int), 
   e = .returned (.int .i64 r0) ∧ K r0 ∧ Bel w0 w' := by
 unfold Zf4 at h
 refine Z6 (args := [.agg #[u0_0, u0_1], .int .i64 a1, .int .i64 a2, .int .i64 a3, .int .i64 a4]) Try.func41 rfl 45 Try.ntmps41 (Nat.le_of_ble_eq_true rfl) ?_
 have hC := Ctx.start (X := Nox) w0 [Ty.item TAlg a0 [u0_0, u0_1] fp0] (by simp only [List.mem_cons, List.not_mem_nil, or_false, forall_eq_or_imp, forall_eq]; exact q0)
 have hp2 := (hC.getP 0 rfl)
 replace hC := hC.derive 0 rfl (Ty.item ((EI .i64).ty.sl) a0.degrees [u0_0] fp0) (fun _ => (Yt hp2).1) (fun _ hb_ => hb_)
 replace hC := hC.derive 1 rfl (Ty.item TForm.sl a0.images [u0_1] fp0) (fun _ => (Yt hp2).2) (fun _ hb_ => hb_)
 refine sr (Ye (v := .agg #[u0_0, u0_1]) hC [u0_0, u0_1] rfl rfl fun b5 w7 hB_ hC => Zc (v := .int .i64 0) rfl (dn (wp_seq (wp_block (sr (Ys hC 0 [u0_0, u0_1] rfl ag32 rfl rfl rfl ?_))))))
 refine Zf [.agg #[u0_0, u0_1]] _ Try.func97 rfl rfl rfl (Zqm a0 h _ (Xr (hC.getP 1 rfl) (hC.getP 0 rfl))) (fun ret8 w10 hR9 => ?_)
 obtain ⟨r10, rfl, h, hB10⟩ := hR9
 refine ⟨_, rfl, ?_⟩
 replace hC := hC.grow hB10
 refine X0 rfl (Zc (v := .bool (!r10)) rfl (dn ?_))
 refine Zr rfl (fun hb12 => ?_) (fun hb12 => ?_)
 ·replace h := ift h (Xq (X6 hb12))
  refine sr (Zc (v := .int .i64 1) rfl (dn ?_))
  refine wp_ret (Yd (Zj ?_))
  refine Zo (fn := Try.f41) rfl ?_ ⟨1, rfl, h, hC.below⟩ (.inl rfl)
  exact Zh rfl
 ·replace h := Zi h (not_not_intro ((X7 hb12)))
  refine sr (Zb (v := .int .i64 a1) rfl (Zb (v := .int .i64 a2) rfl (Zb (v := .int .i64 a3) rfl ?_)))
  refine Zf [.int .i64 a1, .int .i64 a2, .int .i64 a3] _ Try.func60 rfl rfl rfl (Zjb a1 a2 a3 h _) (fun ret10 w11 hR10 => ?_)
  obtain ⟨r11, rfl, h, hB11⟩ := hR10
  refine ⟨_, rfl, ?_⟩
  replace hC := hC.grow hB11
  refine X0 rfl (Zc (v := .bool (!r11)) rfl (dn ?_))
  refine Zr rfl (fun hb13 => ?_) (fun hb13 => ?_)
  ·replace h := ift h (Xq (X6 hb13))
   refine sr (Zc (v := .int .i64 2) rfl (dn ?_))
   refine wp_ret (Yd (Zj ?_))
   refine Zo (fn := Try.f41) rfl ?_ ⟨2, rfl, h, hC.below⟩ (.inl rfl)
   exact Zh rfl
  ·replace h := Zi h (not_not_intro ((X7 hb13)))
   refine wp_skip (Zt (Zd (wp_seq (sr (Zb (v := .int .i64 a1) rfl (J5 rfl rfl (Zs1 rfl rfl (Zc (v := .int .i64 (if IntKind.i64.wrap (a1 - 1) < 0 then 0 else IntKind.i64.wrap (a1 - 1))) rfl (dn (wp_block ?_))))))))))
   refine Xu (S := Int) _ (fun s10 e_ w_ => Z4 e_ [(1, .int .i64 a1), (2, .int .i64 a2), (4, .int .i64 a4), (5, .pointer (some ⟨b5, 0, none⟩)), (11, .int .i64 s10)] ∧ Ctx Nox w0 w_ [blk b5 32 [u0_0, u0_1]] [Ty.item TForm.sl a0.images [u0_1] fp0, Ty.item ((EI .i64).ty.sl) a0.degrees [u0_0] fp0, Ty.item TAlg a0 [u0_0, u0_1] fp0]) ?_ (s0 := (if IntKind.i64.wrap (a1 - 1) < 0 then 0 else IntKind.i64.wrap (a1 - 1))) ?_ h
   ·clear hC h
    rintro s10 e_ w12 nx10 K10 ⟨hS_, hC⟩ h hK10
    rw [ue hS_]
    refine wp_seq (sr (Zb (v := .int .i64 s10) rfl (Zb (v := .int .i64 a1) rfl (Zb (v := .int .i64 a4) rfl (Zq rfl rfl (Zbi rfl rfl (dn ?_)))))))
    refine Zr rfl (fun hb14 => ?_) (fun hb14 => ?_)
    ·replace h := ift h (ct hb14)
     refine wp_skip (Zd (wp_seq (wp_block (sr (Zb (v := .int .i64 s10) rfl (Zb (v := .int .i64 a1) rfl (Zai rfl rfl (Zb (v := .bool (decide (s10 ≥ a1))) rfl ?_))))))))
     refine Xa (decide (s10 ≥ a1)) (fun hb11 => ?_) (fun hb11 => ?_)
     ·replace h := ift h (ct hb11)
      refine Zn (b := true) 3 35 rfl (tr rfl (congrArg _ hb11)) (by decide) (Zn (b := true) 3 35 rfl (tr rfl (congrArg _ hb11)) (by decide) (Yb (v := .bool true) (b := true) (tr rfl (congrArg _ hb11)) rfl (Zb (v := .bool true) rfl (Zm 7 39 rfl rfl rfl (Ys hC 0 [u0_0, u0_1] rfl ag32 rfl rfl rfl (Zm 7 39 rfl rfl rfl (Zb (v := .int .i64 s10) rfl (Zm 7 39 rfl rfl rfl ?_))))))))
      refine Zf [.agg #[u0_0, u0_1], .int .i64 s10] _ Try.func98 rfl rfl rfl (Zmv a0 s10 h _ (Xr (hC.getP 1 rfl) (hC.getP 0 rfl))) (fun ret11 w13 hR11 => ?_)
      obtain ⟨r12, rfl, h, hB12⟩ := hR11
      refine ⟨_, rfl, ?_⟩
      replace hC := hC.grow hB12
      refine Zm 7 39 rfl rfl rfl (Jm rfl rfl (Yb (v := .bool (decide (r12 > 120))) (b := true) rfl rfl (dn ?_)))
      refine Zr rfl (fun hb15 => ?_) (fun hb15 => ?_)
      ·replace h := ift h (ct hb15)
       refine sr (Zc (v := .int .i64 3) rfl (dn ?_))
       refine wp_ret (Yd (Zj (Zj (Yd (Zj ?_)))))
       refine Zo (fn := Try.f41) rfl ?_ ⟨3, rfl, h, hC.below⟩ (.inl rfl)
       exact Zh rfl
      ·replace h := Zi h (cf hb15)
       refine wp_skip (Zt (Zd (Zk (Zb (v := .int .i64 s10) rfl (Zq rfl rfl (Zc (v := .int .i64 (IntKind.i64.wrap (s10 + 1))) rfl (done ?_)))))))
       exact hK10 (IntKind.i64.wrap (s10 + 1)) _ _ ⟨(sl ⟨rfl, rfl, rfl, rfl, rfl, trivial⟩), hC⟩ h
     ·replace h := Zi h (cf hb11)
      refine Zm 3 35 rfl rfl hb11 (Zb (v := .int .i64 a2) rfl (Zm 3 35 rfl rfl hb11 (Jm rfl rfl (Yb (v := .bool (decide (a2 > 0))) (b := false) (tr rfl (congrArg _ hb11)) rfl (Zb (v := .bool (decide (a2 > 0))) rfl ?_)))))
      refine Xa (decide (a2 > 0)) (fun hb10 => ?_) (fun hb10 => ?_)
      ·replace h := ift h (ct hb10)
       refine Zm 7 39 rfl rfl hb10 (Ys hC 0 [u0_0, u0_1] rfl ag32 rfl rfl rfl (Zm 7 39 rfl rfl hb10 (Zb (v := .int .i64 s10) rfl (Zm 7 39 rfl rfl hb10 ?_))))
       refine Zf [.agg #[u0_0, u0_1], .int .i64 s10] _ Try.func98 rfl rfl rfl (Zmv a0 s10 h _ (Xr (hC.getP 1 rfl) (hC.getP 0 rfl))) (fun ret12 w14 hR12 => ?_)
       obtain ⟨r13, rfl, h, hB13⟩ := hR12
       refine ⟨_, rfl, ?_⟩
       replace hC := hC.grow hB13
       refine Zm 7 39 rfl rfl hb10 (Jm rfl rfl (Yb (v := .bool (decide (r13 > 120))) (b := true) (tr rfl (congrArg _ hb10)) rfl (dn ?_)))
       refine Zr rfl (fun hb16 => ?_) (fun hb16 => ?_)
       ·replace h := ift h (ct hb16)
        refine sr (Zc (v := .int .i64 3) rfl (dn ?_))
        refine wp_ret (Yd (Zj (Zj (Yd (Zj ?_)))))
        refine Zo (fn := Try.f41) rfl ?_ ⟨3, rfl, h, hC.below⟩ (.inl rfl)
        exact Zh rfl
       ·replace h := Zi h (cf hb16)
        refine wp_skip (Zt (Zd (Zk (Zb (v := .int .i64 s10) rfl (Zq rfl rfl (Zc (v := .int .i64 (IntKind.i64.wrap (s10 + 1))) rfl (done ?_)))))))
        exact hK10 (IntKind.i64.wrap (s10 + 1)) _ _ ⟨(sl ⟨rfl, rfl, rfl, rfl, rfl, trivial⟩), hC⟩ h
      ·replace h := Zi h (cf hb10)
       refine Zn (b := false) 7 39 rfl (tr rfl (congrArg _ hb10)) (by decide) (Zn (b := false) 7 39 rfl (tr rfl (congrArg _ hb10)) (by decide) (Zn (b := false) 7 39 rfl (tr rfl (congrArg _ hb10)) (by decide) (Zn (b := false) 7 39 rfl (tr rfl (congrArg _ hb10)) (by decide) (Yb (v := .bool false) (b := false) (tr rfl (congrArg _ hb10)) rfl (dn (Yj rfl rfl (wp_skip (Zt (Zd (Zk (Zb (v := .int .i64 s10) rfl ?_)))))))))))
       refine Zq rfl rfl (Zc (v := .int .i64 (IntKind.i64.wrap (s10 + 1))) rfl (done ?_))
       exact hK10 (IntKind.i64.wrap (s10 + 1)) _ _ ⟨(sl ⟨rfl, rfl, rfl, rfl, rfl, trivial⟩), hC⟩ h
    ·replace h := Zi h (cf hb14)
     refine wp_exit (Zl (Zl (Yc ?_)))
     refine Zd (sr (Zc (v := .int .i64 0) rfl (dn (wp_ret ?_))))
     refine Zo (fn := Try.f41) rfl ?_ ⟨0, rfl, h, hC.below⟩ (.inl rfl)
     exact Zh rfl
   ·skip
    exact ⟨(sl ⟨rfl, rfl, rfl, rfl, rfl, trivial⟩), hC⟩
def Zf5 (a0 : Alg) (a1 : Int) (K : List Der → Prop) : Prop :=
 Xf (fun (s10 : (List Der) × Int) nx10 => (if s10.2 < (a0.degrees.length : Int) then ((0 ≤ s10.2 ∧ s10.2 < (a0.degrees.length : Int)) ∧ (if a0.degrees.getD s10.2.toNat default < a1 then nx10 (s10.1, IntKind.i64.wrap (s10.2 + 1)) else ((0 ≤ s10.2 ∧ s10.2 < (a0.degrees.length : Int)) ∧ Zc6 a0.degrees (IntKind.i64.wrap ((a0.degrees.getD s10.2.toNat default) - a1)) (fun r10 => Yy (fun i10 (s11 : (List Der)) nx11 => ((0 ≤ (a0.degrees.length : Int) ∧ (a0.degrees.length : Int) * 24 ≤ 281474976710656) ∧ X2 (r10.getD i10 default) 1 (fun r11 => ((0 ≤ s10.2 ∧ s10.2 < ((List.replicate ((a0.degrees.length : Int).toNat) ((⟨[]⟩ : Vc.Form) : Vc.Form)).length : Int)) ∧ (Xp (s11.length + 1) 32 ∧ nx11 (s11 ++ [(⟨a1, (List.replicate ((a0.degrees.length : Int).toNat) ((⟨[]⟩ : Vc.Form) : Vc.Form)).set s10.2.toNat r11⟩ : Der)])))))) (fun (s11 : (List Der)) => nx10 (s11, IntKind.i64.wrap (s10.2 + 1))) r10.length 0 s10.1)))) else K s10.1)) ([], 0)
theorem Ztl (a0 : Alg) (a1 : Int) {u0_0 : Value} {u0_1 : Value} {fp0 : List Nat} {K : List Der → Prop} (h : Zf5 a0 a1 K) (w0 : World) (q0 : TAlg.rep a0 [u0_0, u0_1] fp0 w0) :
  Calls Try.prog 99 #[.agg #[u0_0, u0_1], .int .i64 a1] w0 fun e w' => ∃ (r0 : List Der) (z0_0 : Value) (fz0 : List Nat), 
   e = .returned (z0_0) ∧ K r0 ∧ (Tr.item (Tr.sl 134 (Jv 114 95)) r0 [z0_0] fz0).holds w' ∧ (∀ b, b ∈ fz0 → w0.heap.size ≤ b) ∧ Bel w0 w' := by
 unfold Zf5 at h
 refine Z6 (args := [.agg #[u0_0, u0_1], .int .i64 a1]) Try.func99 rfl 61 Try.ntmps99 (Nat.le_of_ble_eq_true rfl) ?_
 have hC := Ctx.start (X := Nox) w0 [Ty.item TAlg a0 [u0_0, u0_1] fp0] (by simp only [List.mem_cons, List.not_mem_nil, or_false, forall_eq_or_imp, forall_eq]; exact q0)
 have hp2 := (hC.getP 0 rfl)
 replace hC := hC.derive 0 rfl (Ty.item ((EI .i64).ty.sl) a0.degrees [u0_0] fp0) (fun _ => (Yt hp2).1) (fun _ hb_ => hb_)
 replace hC := hC.derive 1 rfl (Ty.item TForm.sl a0.images [u0_1] fp0) (fun _ => (Yt hp2).2) (fun _ hb_ => hb_)
 refine sr (Ye (v := .agg #[u0_0, u0_1]) hC [u0_0, u0_1] rfl rfl fun b5 w7 hB_ hC => Zc (v := .slice none 0 0) rfl (dn (sr (Jg (sz := 2) hC [] [] rfl (fun _ => Zs5 _) rfl (by decide) fun b8 w9 hB_ hC => ?_))))
 replace hC := hC.pushM0 (Yo (Jv 114 95) ([] : List Der) [] []) (Zbf _ _) rfl
 replace hC := hC.gather (c := Tr.item (Tr.sl 134 (Jv 114 95)) [] [.slice (some ⟨b8, 0, none⟩) 0 0] ((Option.toList (Value.ownBlock (.slice (some ⟨b8, 0, none⟩) 0 0))) ++ ([] : List (List Nat)).flatten)) (fun x_ hx_ => (List.mem_append.1 hx_).symm) (fun h1_ h2_ hd_ => Zap h2_ h1_ (fun b_ hb_ hb2_ => hd_ b_ hb2_ hb_))
 refine Zc (v := .slice (some ⟨b8, 0, none⟩) 0 0) rfl (dn (wp_seq (sr (Zc (v := .int .i64 0) rfl (dn (wp_block ?_))))))
 refine Xu (S := (List Der) × Int) _ (fun s10 e_ w_ => ∃ (v12 : Value), ∃ (f11 : List Nat), Z4 e_ [(1, .int .i64 a1), (2, .pointer (some ⟨b5, 0, none⟩)), (5, v12), (6, .int .i64 s10.2)] ∧ Ctx Nox w0 w_ [Tr.item (Tr.sl 134 (Jv 114 95)) s10.1 [v12] f11, blk b5 32 [u0_0, u0_1]] [Ty.item TForm.sl a0.images [u0_1] fp0, Ty.item ((EI .i64).ty.sl) a0.degrees [u0_0] fp0, Ty.item TAlg a0 [u0_0, u0_1] fp0]) ?_ (s0 := ([], 0)) ?_ h
 ·clear hC h
  rintro s10 e_ w10 nx10 K11 ⟨v12, f11, hS_, hC⟩ h hK10
  rw [ue hS_]
  refine wp_seq (sr (Zb (v := .int .i64 s10.2) rfl (Z1 0 Try.underlying32 rfl sc22.size rfl rfl (Z8 hC 1 (u0_0) rfl sc22 rfl rfl ?_))))
  obtain ⟨Ad12, c10, hv14⟩ := Z2 (hC.getP 1 rfl)
  refine Z0 Try.underlying22 (tr rfl hv14) (Zs rfl rfl (dn ?_))
  refine Zr rfl (fun hb10 => ?_) (fun hb10 => ?_)
  ·replace h := ift h (ct hb10)
   refine wp_skip (Zd (wp_seq (wp_block (wp_seq (sr (Z1 0 Try.underlying32 rfl sc22.size rfl rfl (Z8 hC 1 (u0_0) rfl sc22 rfl rfl (Zb (v := .int .i64 s10.2) rfl ?_))))))))
   obtain ⟨⟨h10, h11⟩, h⟩ := h
   obtain ⟨Ad13, c11, hv10⟩ := Z9 (hC.getP 1 rfl) s10.2.toNat (show s10.2.toNat < a0.degrees.length by omega)
   refine Xe (len := a0.degrees.length) Try.underlying22 sc2.size (tr rfl hv10) rfl h10 h11 (X5 (.int .i64 (a0.degrees.getD s10.2.toNat default)) (Yk (hC.getP 1 rfl) hv10 s10.2.toNat (show s10.2.toNat < a0.degrees.length by omega)) sc2 rfl (Zb (v := .int .i64 a1) rfl (Zs rfl rfl (dn ?_))))
   refine Zr rfl (fun hb11 => ?_) (fun hb11 => ?_)
   ·replace h := ift h (ct hb11)
    refine wp_exit (Zl (Yc ?_))
    refine Zd (Zk (Zb (v := .int .i64 s10.2) rfl (Zq rfl rfl (Zc (v := .int .i64 (IntKind.i64.wrap (s10.2 + 1))) rfl (done ?_)))))
    exact hK10 (s10.1, IntKind.i64.wrap (s10.2 + 1)) _ _ ⟨v12, f11, (sl ⟨rfl, rfl, rfl, rfl, trivial⟩), hC⟩ h
   ·replace h := Zi h (cf hb11)
    refine wp_skip (Zd (wp_seq ?_))
    refine Ym 9 Yg [0, 1, 0, 4, 0, 28, 60, 0, 252, 511, 1023] [1, 3, 5, 6] [0, 2, 4, 7, 8] (by kernel_rfl) (by kernel_rfl) (by kernel_rfl) (fun hM11 hM10 w11 hB_ => ?_)
    replace hC := hC.grow hB_
    refine aF 0 (.pointer (some ⟨b5, 0, none⟩)) rfl rfl (hM10 0 rfl) (rfl) (fun _ => by exact Z7 0 Try.underlying32 rfl sc22.size rfl rfl) (Za 11 1) (aL 1 (u0_0) rfl rfl (hM11 1 rfl) (rfl) (fun _ hB_ => by exact Z5 (hC.grow hB_) 1 (u0_0) rfl sc22 rfl rfl) (Za 11 3) (aF 2 (.pointer (some ⟨b5, 0, none⟩)) rfl rfl (hM10 2 rfl) (rfl) (fun _ => by exact Z7 0 Try.underlying32 rfl sc22.size rfl rfl) (Za 11 7) (aL 3 (u0_0) rfl rfl (hM11 3 rfl) (rfl) (fun _ hB_ => by exact Z5 (hC.grow hB_) 1 (u0_0) rfl sc22 rfl rfl) (Za 11 15) (aF 4 (.int .i64 s10.2) rfl rfl (hM10 4 rfl) (rfl) (fun _ => by exact Zg (v := .int .i64 s10.2) rfl) (Za 11 31) ?_))))
    obtain ⟨⟨h12, h13⟩, h⟩ := h
    obtain ⟨Ad10, c12, hv11⟩ := Z9 (hC.getP 1 rfl) s10.2.toNat (show s10.2.toNat < a0.degrees.length by omega)
    refine aL 5 (.pointer (some (Ad10.add (s10.2.toNat * 1)))) rfl rfl (hM11 5 rfl) (rfl) (fun _ hB_ => by exact Yv (len := a0.degrees.length) Try.underlying22 sc2.size (by exact tr rfl hv11) rfl h12 h13) (Za 11 63) (aL 6 (.int .i64 (a0.degrees.getD s10.2.toNat default)) rfl rfl (hM11 6 rfl) (rfl) (fun _ hB_ => by exact Jf (.int .i64 (a0.degrees.getD s10.2.toNat default)) (Yk ((hC.grow hB_).getP 1 rfl) hv11 s10.2.toNat (show s10.2.toNat < a0.degrees.length by omega)) sc2 rfl) (Za 11 127) (aF 7 (.int .i64 a1) rfl rfl (hM10 7 rfl) (rfl) (fun _ => by exact Zg (v := .int .i64 a1) rfl) (Za 11 255) (aF 8 (.int .i64 (IntKind.i64.wrap ((a0.degrees.getD s10.2.toNat default) - a1))) rfl rfl (hM10 8 rfl) (rfl) (fun _ => by exact Zb1 rfl rfl) (Za 11 511) (Zv 9 (by decide) (by decide) (by kernel_rfl) (by kernel_rfl) rfl ?_))))
    refine Zf [u0_0, .int .i64 (IntKind.i64.wrap ((a0.degrees.getD s10.2.toNat default) - a1))] _ Try.func92 rfl rfl rfl (Zj3 a0.degrees (IntKind.i64.wrap ((a0.degrees.getD s10.2.toNat default) - a1)) h _ (hC.getP 1 rfl)) (fun ret10 w12 hR10 => ?_)
    obtain ⟨r10, u10, f14, rfl, h, hr10, hf10, hB10⟩ := hR10
    refine ⟨_, rfl, ?_⟩
    replace hC := hC.push hB10 (Tr.item (Tr.sl 49 ((EA .u8).tr)) r10 [u10] f14) hr10 hf10
    obtain ⟨ho10, hf11⟩ := Zat (hC.getM 0 rfl).1
    subst hf11
    replace hC := hC.recast (c := own 49 8 u10 r10.length ((EA .u8).encs r10)) (fun _ h_ => h_) (fun _ => ho10)
    refine Zc (v := u10) rfl (done (Zw (Zd (sr (Zc (v := .int .i64 0) rfl (dn (wp_block ?_)))))))
    have hN10 : r10.length ≤ 9223372036854775807 := Zgt (hC.getM 0 rfl)
    refine Y6 (S := (List Der)) _ _ (fun i10 s11 e_ w_ => ∃ (v11 : Value), ∃ (f10 : List Nat), Z4 e_ [(1, .int .i64 a1), (2, .pointer (some ⟨b5, 0, none⟩)), (5, v11), (6, .int .i64 s10.2), (7, u10), (8, .int .i64 (i10 : Int))] ∧ Ctx Nox w0 w_ [own 49 8 u10 r10.length ((EA .u8).encs r10), Tr.item (Tr.sl 134 (Jv 114 95)) s11 [v11] f10, blk b5 32 [u0_0, u0_1]] [Ty.item TForm.sl a0.images [u0_1] fp0, Ty.item ((EI .i64).ty.sl) a0.degrees [u0_0] fp0, Ty.item TAlg a0 [u0_0, u0_1] fp0]) r10.length ?_ ?_ (s0 := s10.1) ?_ h
    ·clear hC h
     rintro i10 s11 e_ w13 nx11 K10 hi10 ⟨v11, f10, hS_, hC⟩ h hK11
     rw [ue hS_]
     refine wp_seq (sr (Zb (v := .int .i64 (i10 : Int)) rfl (Zb (v := u10) rfl ?_)))
     obtain ⟨Ad14, c13, hv15⟩ := J6 (hC.getM 0 rfl)
     refine Z0 Try.underlying59 (tr rfl hv15) (Zs rfl rfl (dn (Yq rfl (decide_eq_true (by omega)) (wp_skip (Zd (wp_seq (wp_block (sr (Zb (v := .int .i64 a1) rfl (Z1 0 Try.underlying32 rfl sc22.size rfl rfl (Z8 hC 2 (u0_0) rfl sc22 rfl rfl ?_)))))))))))
     obtain ⟨Ad15, c14, hv16⟩ := Z2 (hC.getP 1 rfl)
     refine Z0 Try.underlying22 (tr rfl hv16) ?_
     obtain ⟨hm10, h⟩ := h
     refine Zee (sz := 1) hC (List.replicate ((a0.degrees.length : Int).toNat) (.slice none 0 0)) Try.underlying30 Zji (tr rfl (congrArg (Value.int .i64) (Int.toNat_of_nonneg hm10.1).symm)) (tr rfl (congrArg (Value.int .i64) (Int.toNat_of_nonneg hm10.1).symm)) (by omega) (by omega) (Zlv _) fun v10 w14 hB_ hC => ?_
     replace hC := hC.pushM0 (Yo (Zz 114) (List.replicate ((a0.degrees.length : Int).toNat) ((⟨[]⟩ : Vc.Form) : Vc.Form)) (List.replicate ((a0.degrees.length : Int).toNat) (.slice none 0 0)) (List.replicate ((a0.degrees.length : Int).toNat) [])) (Zlx (Zau (Za4 _ _ _)) rfl _) (Zlw _)
     replace hC := hC.gather (c := Tr.item (Tr.sl 95 (Zz 114)) (List.replicate ((a0.degrees.length : Int).toNat) ((⟨[]⟩ : Vc.Form) : Vc.Form)) [v10] ((Option.toList (Value.ownBlock v10)) ++ (List.replicate ((a0.degrees.length : Int).toNat) ([] : List Nat)).flatten)) (fun x_ hx_ => (List.mem_append.1 hx_).symm) (fun h1_ h2_ hd_ => Zap (by rw [List.length_replicate]; exact h2_) h1_ (fun b_ hb_ hb2_ => hd_ b_ hb2_ hb_))
     refine Jd [(0, .int .i64 a1), (1, v10)] rfl (Zs6 a1 v10 (Zi6 (Tr.trep _ (hC.getM 0 rfl).1)) _) (Yf hC [.int .i64 0, .slice none 0 0] Zj0 rfl fun b11 w15 hB_ hC => Zu (v := .agg #[.int .i64 a1, v10]) hC 0 [.int .i64 a1, v10] [.int .i64 a1, v10] rfl ag134.size rfl rfl rfl rfl (Y3 rfl (Y3 (Zbc (Tr.trep _ (hC.getM 1 rfl).1)) rfl)) (Nat.le_of_ble_eq_true rfl) rfl fun w16 hC => dn (wp_seq ?_))
     refine Ym 8 Yg [0, 1, 0, 0, 0, 24, 56, 120, 255, 511] [1, 5, 6] [0, 2, 3, 4] (by kernel_rfl) (by kernel_rfl) (by kernel_rfl) (fun hM13 hM12 w17 hB_ => ?_)
     replace hC := hC.grow hB_
     refine aF 0 (.pointer (some ⟨b11, 1, none⟩)) rfl rfl (hM12 0 rfl) (rfl) (fun _ => by exact Z7 1 Try.underlying134 rfl sc30.size rfl rfl) (Za 10 1) (aL 1 (v10) rfl rfl (hM13 1 rfl) (rfl) (fun _ hB_ => by exact Z5 (hC.grow hB_) 0 (v10) rfl sc30 rfl rfl) (Za 10 3) (aF 2 (.int .i64 s10.2) rfl rfl (hM12 2 rfl) (rfl) (fun _ => by exact Zg (v := .int .i64 s10.2) rfl) (Za 10 7) (aF 3 (u10) rfl rfl (hM12 3 rfl) (rfl) (fun _ => by exact Zg (v := u10) rfl) (Za 10 15) (aF 4 (.int .i64 (i10 : Int)) rfl rfl (hM12 4 rfl) (rfl) (fun _ => by exact Zg (v := .int .i64 (i10 : Int)) rfl) (Za 10 31) ?_))))
     obtain ⟨Ad11, c15, hv12⟩ := Zav (hC.getM 2 rfl) (Nat.lt_of_le_of_lt (Nat.zero_le _) hi10)
     refine aL 5 (.pointer (some ⟨Ad11, i10 * 8, none⟩)) rfl rfl (hM13 5 rfl) (rfl) (fun _ hB_ => by exact Zio (i10 * 8) Try.underlying59 ag49.size (by exact tr rfl hv12) rfl (Int.natCast_nonneg _) (Int.ofNat_lt.2 hi10) rfl) (Za 10 63) (aL 6 (.agg (List.toArray (A8.enc .u8 (r10.getD i10 default)))) rfl rfl (hM13 6 rfl) (rfl) (fun _ hB_ => by exact Xw (A8.enc .u8 (r10.getD i10 default)) (Zeh ((hC.grow hB_).getM 2 rfl) hv12 i10 hi10) ag49 rfl rfl) (Za 10 127) (aO 7 rfl ?_))
     refine Zf [.agg (List.toArray (A8.enc .u8 (r10.getD i10 default))), .int .i64 1] _ Try.func70 rfl rfl rfl (Zaz (r10.getD i10 default) 1 h _) (fun ret11 w18 hR11 => ?_)
     obtain ⟨r11, u11, f15, rfl, h, hr11, hf12, hB11⟩ := hR11
     refine ⟨_, rfl, ?_⟩
     replace hC := hC.push hB11 (Tr.item (Zz 114) r11 [u11] f15) hr11 hf12
     obtain ⟨ho11, hf13⟩ := Y8 (hC.getM 0 rfl)
     subst hf13
     replace hC := hC.recast (c := own 114 9 u11 r11.terms.length (ETerm.encs r11.terms)) (fun _ h_ => h_) (fun _ => ho11)
     refine done (aK (by assumption) (Za 10 255) (Zv 8 (by decide) (by decide) (by kernel_rfl) (by kernel_rfl) rfl ?_))
     obtain ⟨⟨h14, h15⟩, h⟩ := h
     obtain ⟨g10, cap10, hv13⟩ := Zly (hC.getM 2 rfl) (Nat.lt_of_le_of_lt (Nat.zero_le _) (show s10.2.toNat < (List.replicate ((a0.degrees.length : Int).toNat) ((⟨[]⟩ : Vc.Form) : Vc.Form)).length by omega))
     refine Zaw (s10.2.toNat * 1) Try.underlying30 ag95.size (tr rfl hv13) rfl h14 h15 rfl ?_
     replace hC := hC.recast (c := Tr.item (Zz 114) r11 [u11] (Option.toList (Value.ownBlock u11))) (fun _ h_ => h_) (fun h_ => Zau (Js h_))
     replace hC := hC.sM [2, 0, 1, 3, 4, 5] (M' := [Tr.item (Tr.sl 95 (Zz 114)) (List.replicate ((a0.degrees.length : Int).toNat) ((⟨[]⟩ : Vc.Form) : Vc.Form)) [v10] ((Option.toList (Value.ownBlock v10)) ++ (List.replicate ((a0.degrees.length : Int).toNat) ([] : List Nat)).flatten), Tr.item (Zz 114) r11 [u11] (Option.toList (Value.ownBlock u11)), blk b11 134 [.int .i64 a1, v10], own 49 8 u10 r10.length ((EA .u8).encs r10), Tr.item (Tr.sl 134 (Jv 114 95)) s11 [v11] f10, blk b5 32 [u0_0, u0_1]]) (by decide) rfl
     refine Zlz (u := .agg #[u11]) hC (show s10.2.toNat < (List.replicate ((a0.degrees.length : Int).toNat) ((⟨[]⟩ : Vc.Form) : Vc.Form)).length by omega) hv13 ag95.size rfl rfl rfl rfl fun f12 w19 hC => done (Zw (Zd (Zk (Zb (v := v11) rfl (Ys hC 1 [.int .i64 a1, v10] rfl ag134 rfl rfl rfl (Jg (sz := 2) hC [(0, .agg #[.int .i64 a1, v10])] [.int .i64 a1, v10] rfl (fun _ => Zs7 a1 v10 (Zi6 (Tr.trep _ (hC.getM 0 rfl).1)) _) rfl (by decide) fun b10 w20 hB_ hC => ?_))))))
     replace hC := hC.pushM0 (Yo (Jv 114 95) [] [] []) (Zbf _ _) rfl
     replace hC := hC.sM [2, 0, 1, 3, 4, 5, 6] (M' := [Tr.item (Tr.sl 95 (Zz 114)) ((List.replicate ((a0.degrees.length : Int).toNat) ((⟨[]⟩ : Vc.Form) : Vc.Form)).set s10.2.toNat r11) [v10] f12, Yo (Jv 114 95) [] [] [], own 134 2 (.slice (some ⟨b10, 0, none⟩) 1 1) 1 [.int .i64 a1, v10], blk b11 134 [.int .i64 a1, v10], own 49 8 u10 r10.length ((EA .u8).encs r10), Tr.item (Tr.sl 134 (Jv 114 95)) s11 [v11] f10, blk b5 32 [u0_0, u0_1]]) (by decide) rfl
     replace hC := hC.gather (c := Yo (Jv 114 95) [(⟨a1, (List.replicate ((a0.degrees.length : Int).toNat) ((⟨[]⟩ : Vc.Form) : Vc.Form)).set s10.2.toNat r11⟩ : Der)] [.int .i64 a1, v10] [f12]) (fun x_ hx_ => Zcw hx_) (fun h1_ h2_ hd_ => Zb7 (c := [.int .i64 a1, v10]) (Zml h1_) h2_ hd_)
     replace hC := hC.sM [1, 0, 2, 3, 4, 5] (M' := [own 134 2 (.slice (some ⟨b10, 0, none⟩) 1 1) 1 [.int .i64 a1, v10], Yo (Jv 114 95) [(⟨a1, (List.replicate ((a0.degrees.length : Int).toNat) ((⟨[]⟩ : Vc.Form) : Vc.Form)).set s10.2.toNat r11⟩ : Der)] [.int .i64 a1, v10] [f12], blk b11 134 [.int .i64 a1, v10], own 49 8 u10 r10.length ((EA .u8).encs r10), Tr.item (Tr.sl 134 (Jv 114 95)) s11 [v11] f10, blk b5 32 [u0_0, u0_1]]) (by decide) rfl
     replace hC := hC.gather (c := Tr.item (Tr.sl 134 (Jv 114 95)) [(⟨a1, (List.replicate ((a0.degrees.length : Int).toNat) ((⟨[]⟩ : Vc.Form) : Vc.Form)).set s10.2.toNat r11⟩ : Der)] [.slice (some ⟨b10, 0, none⟩) 1 1] ((Option.toList (Value.ownBlock (.slice (some ⟨b10, 0, none⟩) 1 1))) ++ ([f12] : List (List Nat)).flatten)) (fun x_ hx_ => List.mem_append.1 hx_) (fun h1_ h2_ hd_ => Zap h1_ h2_ hd_)
     replace hC := hC.sM [3, 0, 1, 2, 4] (M' := [Tr.item (Tr.sl 134 (Jv 114 95)) s11 [v11] f10, Tr.item (Tr.sl 134 (Jv 114 95)) [(⟨a1, (List.replicate ((a0.degrees.length : Int).toNat) ((⟨[]⟩ : Vc.Form) : Vc.Form)).set s10.2.toNat r11⟩ : Der)] [.slice (some ⟨b10, 0, none⟩) 1 1] ((Option.toList (Value.ownBlock (.slice (some ⟨b10, 0, none⟩) 1 1))) ++ ([f12] : List (List Nat)).flatten), blk b11 134 [.int .i64 a1, v10], own 49 8 u10 r10.length ((EA .u8).encs r10), blk b5 32 [u0_0, u0_1]]) (by decide) rfl
     obtain ⟨hm11, h⟩ := h
     refine Zcv hC Try.underlying130 Zs8 rfl (by decide) (by decide) rfl rfl hm11 fun v13 f13 w21 hC => Zc (v := v13) rfl (done (Zt (Zd (Zk (Zb (v := .int .i64 (i10 : Int)) rfl (Zq rfl rfl (Zc (v := .int .i64 (IntKind.i64.wrap ((i10 : Int) + 1))) rfl (done ?_))))))))
     replace hC := hC.sM [2, 0, 3] (M' := [own 49 8 u10 r10.length ((EA .u8).encs r10), Tr.item (Tr.sl 134 (Jv 114 95)) (s11 ++ [(⟨a1, (List.replicate ((a0.degrees.length : Int).toNat) ((⟨[]⟩ : Vc.Form) : Vc.Form)).set s10.2.toNat r11⟩ : Der)]) [v13] f13, blk b5 32 [u0_0, u0_1]]) (by decide) rfl
     exact hK11 (s11 ++ [(⟨a1, (List.replicate ((a0.degrees.length : Int).toNat) ((⟨[]⟩ : Vc.Form) : Vc.Form)).set s10.2.toNat r11⟩ : Der)]) _ _ ⟨v13, f13, (sl ⟨rfl, rfl, rfl, rfl, rfl, (tr rfl (congrArg _ (Yi hi10 hN10))), trivial⟩), hC⟩ h
    ·clear hC h
     rintro s11 e_ w22 K10 ⟨v11, f10, hS_, hC⟩ h
     rw [ue hS_]
     refine wp_seq (sr (Zb (v := .int .i64 (r10.length : Int)) rfl (Zb (v := u10) rfl ?_)))
     obtain ⟨Ad16, c16, hv17⟩ := J6 (hC.getM 0 rfl)
     refine Z0 Try.underlying59 (tr rfl hv17) (Zs rfl rfl (dn (Yj rfl (decide_eq_false (by omega)) ?_)))
     refine wp_exit (Zl (Zl (Yc ?_)))
     refine Zt (Zd (Zk (Zb (v := .int .i64 s10.2) rfl (Zq rfl rfl (Zc (v := .int .i64 (IntKind.i64.wrap (s10.2 + 1))) rfl (done ?_))))))
     replace hC := hC.sM [1, 2] (M' := [Tr.item (Tr.sl 134 (Jv 114 95)) s11 [v11] f10, blk b5 32 [u0_0, u0_1]]) (by decide) rfl
     exact hK10 (s11, IntKind.i64.wrap (s10.2 + 1)) _ _ ⟨v11, f10, (sl ⟨rfl, rfl, rfl, rfl, trivial⟩), hC⟩ h
    ·skip
     exact ⟨v12, f11, (sl ⟨rfl, rfl, rfl, rfl, rfl, rfl, trivial⟩), hC⟩
  ·replace h := Zi h (cf hb10)
   refine wp_exit (Zl (Zl (Yc ?_)))
   refine Zd (sr (Zb (v := v12) rfl (Zc (v := v12) rfl (dn (wp_ret ?_)))))
   refine Zo (fn := Try.f99) rfl ?_ ⟨s10.1, v12, f11, rfl, h, (hC.getM 0 rfl), (Zbx hC 0 rfl), hC.below⟩ (.inl rfl)
   exact Zh rfl
 ·skip
  exact ⟨.slice (some ⟨b8, 0, none⟩) 0 0, ((Option.toList (Value.ownBlock (.slice (some ⟨b8, 0, none⟩) 0 0))) ++ ([] : List (List Nat)).flatten), (sl ⟨rfl, rfl, rfl, rfl, trivial⟩), hC⟩
def Zf6 (a0 : Vc.Form) (a1 : List A8) (K : List Int → Prop) : Prop :=
 ((0 ≤ (a1.length : Int) ∧ (a1.length : Int) * 8 ≤ 281474976710656) ∧ Xf (fun (s10 : (List Int) × Int × Int) nx10 => (if s10.2.2 < (a1.length : Int) then (if s10.2.1 < (a0.terms.length : Int) then ((0 ≤ s10.2.1 ∧ s10.2.1 < (a0.terms.length : Int)) ∧ ((0 ≤ s10.2.2 ∧ s10.2.2 < (a1.length : Int)) ∧ (if (a0.terms.getD s10.2.1.toNat default).mono = a1.getD s10.2.2.toNat default then ((0 ≤ s10.2.1 ∧ s10.2.1 < (a0.terms.length : Int)) ∧ ((0 ≤ s10.2.2 ∧ s10.2.2 < (s10.1.length : Int)) ∧ nx10 (s10.1.set s10.2.2.toNat ((a0.terms.getD s10.2.1.toNat default).factor), IntKind.i64.wrap (s10.2.1 + 1), IntKind.i64.wrap (s10.2.2 + 1)))) else nx10 (s10.1, s10.2.1, IntKind.i64.wrap (s10.2.2 + 1))))) else K s10.1) else K s10.1)) (List.replicate ((a1.length : Int).toNat) (0 : Int), 0, 0))
theorem Ztm (a0 : Vc.Form) (a1 : List A8) {u0_0 : Value} {u1_0 : Value} {fp0 : List Nat} {fp1 : List Nat} {K : List Int → Prop} (h : Zf6 a0 a1 K) (w0 : World) (q0 : TForm.rep a0 [u0_0] fp0 w0) (q1 : ((EA .u8).ty.sl).rep a1 [u1_0] fp1 w0) :
  Calls Try.prog 133 #[.agg #[u0_0], u1_0] w0 fun e w' => ∃ (r0 : List Int) (z0_0 : Value) (fz0 : List Nat), 
   e = .returned (z0_0) ∧ K r0 ∧ (Tr.item (Tr.sl 2 ((EI .i64).tr)) r0 [z0_0] fz0).holds w' ∧ (∀ b, b ∈ fz0 → w0.heap.size ≤ b) ∧ Bel w0 w' := by
 unfold Zf6 at h
 refine Z6 (args := [.agg #[u0_0], u1_0]) Try.func133 rfl 47 Try.ntmps133 (Nat.le_of_ble_eq_true rfl) ?_
 have hC := Ctx.start (X := Nox) w0 [Ty.item TForm a0 [u0_0] fp0, Ty.item ((EA .u8).ty.sl) a1 [u1_0] fp1] (by simp only [List.mem_cons, List.not_mem_nil, or_false, forall_eq_or_imp, forall_eq]; exact ⟨q0, q1⟩)
 have hp3 := (hC.getP 0 rfl)
 replace hC := hC.derive 0 rfl (Ty.item ETerm.ty.sl a0.terms [u0_0] fp0) (fun _ => (Xb hp3)) (fun _ hb_ => hb_)
 refine sr (Ye (v := .agg #[u0_0]) hC [u0_0] rfl rfl fun b5 w7 hB_ hC => Zc (v := .slice none 0 0) rfl (dn (sr (Zb (v := u1_0) rfl ?_))))
 obtain ⟨Ad8, c9, hv14⟩ := Z2 (hC.getP 2 rfl)
 refine Z0 Try.underlying59 (tr rfl hv14) ?_
 obtain ⟨hm10, h⟩ := h
 refine Zee (sz := 1) hC ((EI .i64).encs (List.replicate ((a1.length : Int).toNat) (0 : Int))) Try.underlying22 el2 (tr rfl (congrArg (Value.int .i64) (Int.toNat_of_nonneg hm10.1).symm)) (tr rfl (congrArg (Value.int .i64) (Int.toNat_of_nonneg hm10.1).symm)) (by omega) (by omega) (Zeg (E := (EI .i64)) _ _) fun v11 w10 hB_ hC => ?_
 replace hC := J8 hC 0 ((List.replicate ((a1.length : Int).toNat) (0 : Int)).length) ((EI .i64).encs (List.replicate ((a1.length : Int).toNat) (0 : Int))) rfl (by simp) rfl
 refine Zc (v := v11) rfl (Zc (v := .int .i64 0) rfl (dn (wp_seq (sr (Zc (v := .int .i64 0) rfl (dn (wp_block ?_)))))))
 refine Xu (S := (List Int) × Int × Int) _ (fun s10 e_ w_ => ∃ (v10 : Value), Z4 e_ [(1, u1_0), (2, .pointer (some ⟨b5, 0, none⟩)), (5, v10), (6, .int .i64 s10.2.1), (7, .int .i64 s10.2.2)] ∧ Ctx Nox w0 w_ [own 2 1 v10 s10.1.length ((EI .i64).encs s10.1), blk b5 95 [u0_0]] [Ty.item ETerm.ty.sl a0.terms [u0_0] fp0, Ty.item TForm a0 [u0_0] fp0, Ty.item ((EA .u8).ty.sl) a1 [u1_0] fp1]) ?_ (s0 := (List.replicate ((a1.length : Int).toNat) (0 : Int), 0, 0)) ?_ h
 ·clear hC h
  rintro s10 e_ w11 nx10 K10 ⟨v10, hS_, hC⟩ h hK10
  rw [ue hS_]
  refine wp_seq (sr (Zb (v := .int .i64 s10.2.2) rfl (Zb (v := u1_0) rfl ?_)))
  obtain ⟨Ad12, c10, hv15⟩ := Z2 (hC.getP 2 rfl)
  refine Z0 Try.underlying59 (tr rfl hv15) (Zs rfl rfl (Zb (v := .bool (decide (s10.2.2 < (a1.length : Int)))) rfl ?_))
  refine Xa (decide (s10.2.2 < (a1.length : Int))) (fun hb10 => ?_) (fun hb10 => ?_)
  ·replace h := ift h (ct hb10)
   refine Zm 4 15 rfl rfl hb10 (Zb (v := .int .i64 s10.2.1) rfl (Zm 4 15 rfl rfl hb10 (Z1 0 Try.underlying95 rfl sc93.size rfl rfl (Zm 4 15 rfl rfl hb10 (Z8 hC 1 (u0_0) rfl sc93 rfl rfl (Zm 4 15 rfl rfl hb10 ?_))))))
   obtain ⟨Ad13, c11, hv16⟩ := Z2 (hC.getP 0 rfl)
   refine Z0 Try.underlying93 (tr rfl hv16) (Zm 4 15 rfl rfl hb10 (Zs rfl rfl (Yb (v := .bool (decide (s10.2.1 < (a0.terms.length : Int)))) (b := true) (tr rfl (congrArg _ hb10)) rfl (dn ?_))))
   refine Zr rfl (fun hb11 => ?_) (fun hb11 => ?_)
   ·replace h := ift h (ct hb11)
    refine wp_skip (Zd (wp_seq (wp_block (wp_seq ?_))))
    refine Ym 10 Yg [0, 1, 0, 7, 15, 31, 0, 0, 192, 448, 1023] [1, 3, 5, 8, 9] [0, 2, 4, 6, 7] (by kernel_rfl) (by kernel_rfl) (by kernel_rfl) (fun hM10 hM11 w12 hB_ => ?_)
    replace hC := hC.grow hB_
    refine aF 0 (.pointer (some ⟨b5, 0, none⟩)) rfl rfl (hM11 0 rfl) (rfl) (fun _ => by exact Z7 0 Try.underlying95 rfl sc93.size rfl rfl) (Za 11 1) (aL 1 (u0_0) rfl rfl (hM10 1 rfl) (rfl) (fun _ hB_ => by exact Z5 (hC.grow hB_) 1 (u0_0) rfl sc93 rfl rfl) (Za 11 3) (aF 2 (.int .i64 s10.2.1) rfl rfl (hM11 2 rfl) (rfl) (fun _ => by exact Zg (v := .int .i64 s10.2.1) rfl) (Za 11 7) ?_))
    obtain ⟨⟨h10, h11⟩, h⟩ := h
    obtain ⟨Ad10, c12, hv10⟩ := Z9 (hC.getP 0 rfl) s10.2.1.toNat (show s10.2.1.toNat < a0.terms.length by omega)
    refine aL 3 (.pointer (some (Ad10.add (s10.2.1.toNat * 9)))) rfl rfl (hM10 3 rfl) (rfl) (fun _ hB_ => by exact Yv (len := a0.terms.length) Try.underlying93 ag114.size (by exact tr rfl hv10) rfl h10 h11) (Za 11 15) (aF 4 (.pointer (some (Ad10.add (s10.2.1.toNat * 9 + 0)))) rfl rfl (hM11 4 rfl) (rfl) (fun _ => by exact Zaj (s10.2.1.toNat * 9 + 0) Try.underlying114 rfl ag49.size rfl rfl) (Za 11 31) (aL 5 (.agg (List.toArray (A8.enc .u8 ((a0.terms.getD s10.2.1.toNat default).mono)))) rfl rfl (hM10 5 rfl) (rfl) (fun _ hB_ => by exact Xw (A8.enc .u8 ((a0.terms.getD s10.2.1.toNat default).mono)) (Jq (o := 0) (k := 8) (Yk ((hC.grow hB_).getP 0 rfl) hv10 s10.2.1.toNat (show s10.2.1.toNat < a0.terms.length by omega)) rfl) ag49 rfl rfl) (Za 11 63) (aF 6 (u1_0) rfl rfl (hM11 6 rfl) (rfl) (fun _ => by exact Zg (v := u1_0) rfl) (Za 11 127) (aF 7 (.int .i64 s10.2.2) rfl rfl (hM11 7 rfl) (rfl) (fun _ => by exact Zg (v := .int .i64 s10.2.2) rfl) (Za 11 255) ?_))))
    obtain ⟨⟨h12, h13⟩, h⟩ := h
    obtain ⟨Ad11, c13, hv11⟩ := Z9 (hC.getP 2 rfl) s10.2.2.toNat (show s10.2.2.toNat < a1.length by omega)
    refine aL 8 (.pointer (some (Ad11.add (s10.2.2.toNat * 8)))) rfl rfl (hM10 8 rfl) (rfl) (fun _ hB_ => by exact Yv (len := a1.length) Try.underlying59 ag49.size (by exact tr rfl hv11) rfl h12 h13) (Za 11 511) (aL 9 (.agg (List.toArray (A8.enc .u8 (a1.getD s10.2.2.toNat default)))) rfl rfl (hM10 9 rfl) (rfl) (fun _ hB_ => by exact Xw (A8.enc .u8 (a1.getD s10.2.2.toNat default)) (Yk ((hC.grow hB_).getP 2 rfl) hv11 s10.2.2.toNat (show s10.2.2.toNat < a1.length by omega)) ag49 rfl rfl) (Za 11 1023) (Zv 10 (by decide) (by decide) (by kernel_rfl) (by kernel_rfl) rfl (Zsz Zta Zs9 rfl rfl (done (Zw (Zd ?_))))))
    refine Zr rfl (fun hb12 => ?_) (fun hb12 => ?_)
    ·replace h := ift h (ct hb12)
     refine sr (Zb (v := v10) rfl (Zb (v := .int .i64 s10.2.2) rfl (Z1 0 Try.underlying95 rfl sc93.size rfl rfl (Z8 hC 1 (u0_0) rfl sc93 rfl rfl (Zb (v := .int .i64 s10.2.1) rfl ?_)))))
     obtain ⟨⟨h14, h15⟩, h⟩ := h
     obtain ⟨Ad14, c14, hv12⟩ := Z9 (hC.getP 0 rfl) s10.2.1.toNat (show s10.2.1.toNat < a0.terms.length by omega)
     refine Xe (len := a0.terms.length) Try.underlying93 ag114.size (tr rfl hv12) rfl h14 h15 (Zdf (s10.2.1.toNat * 9 + 8) Try.underlying114 rfl sc2.size rfl rfl (X5 (.int .i64 ((a0.terms.getD s10.2.1.toNat default).factor)) (Jq (o := 8) (k := 1) (Yk (hC.getP 0 rfl) hv12 s10.2.1.toNat (show s10.2.1.toNat < a0.terms.length by omega)) rfl) sc2 rfl ?_))
     obtain ⟨⟨h16, h17⟩, h⟩ := h
     obtain ⟨Ad15, c15, hv13⟩ := Zav (hC.getM 0 rfl) (Nat.lt_of_le_of_lt (Nat.zero_le _) (show s10.2.2.toNat < s10.1.length by omega))
     refine Zaw (s10.2.2.toNat * 1) Try.underlying22 sc2.size (tr rfl hv13) rfl h16 h17 rfl (Zcl (v := .int .i64 ((a0.terms.getD s10.2.1.toNat default).factor)) hC 0 [.int .i64 ((a0.terms.getD s10.2.1.toNat default).factor)] ((EI .i64).encs (s10.1.set s10.2.2.toNat ((a0.terms.getD s10.2.1.toNat default).factor))) rfl hv13 sc2.size rfl rfl rfl rfl rfl (by rw [Enc.encs_len]; exact Za3 (sz := 1) (show s10.2.2.toNat < s10.1.length by omega)) (Zef _ _ _ (show s10.2.2.toNat < s10.1.length by omega)) fun w13 hC => ?_)
     replace hC := J8 hC 0 ((s10.1.set s10.2.2.toNat ((a0.terms.getD s10.2.1.toNat default).factor)).length) ((EI .i64).encs (s10.1.set s10.2.2.toNat ((a0.terms.getD s10.2.1.toNat default).factor))) rfl (by simp) rfl
     refine dn (Zk (Zb (v := .int .i64 s10.2.1) rfl (Zq rfl rfl (Zc (v := .int .i64 (IntKind.i64.wrap (s10.2.1 + 1))) rfl (done (Zt (Zd (Zk (Zb (v := .int .i64 s10.2.2) rfl (Zq rfl rfl (Zc (v := .int .i64 (IntKind.i64.wrap (s10.2.2 + 1))) rfl ?_)))))))))))
     refine done ?_
     exact hK10 (s10.1.set s10.2.2.toNat ((a0.terms.getD s10.2.1.toNat default).factor), IntKind.i64.wrap (s10.2.1 + 1), IntKind.i64.wrap (s10.2.2 + 1)) _ _ ⟨v10, (sl ⟨rfl, rfl, rfl, rfl, rfl, trivial⟩), hC⟩ h
    ·replace h := Zi h (cf hb12)
     refine wp_skip (Zt (Zd (Zk (Zb (v := .int .i64 s10.2.2) rfl (Zq rfl rfl (Zc (v := .int .i64 (IntKind.i64.wrap (s10.2.2 + 1))) rfl (done ?_)))))))
     exact hK10 (s10.1, s10.2.1, IntKind.i64.wrap (s10.2.2 + 1)) _ _ ⟨v10, (sl ⟨rfl, rfl, rfl, rfl, rfl, trivial⟩), hC⟩ h
   ·replace h := Zi h (cf hb11)
    refine wp_exit (Zl (Zl (Yc ?_)))
    refine Zd (sr (Zb (v := v10) rfl (Zc (v := v10) rfl (dn (wp_ret ?_)))))
    refine Zo (fn := Try.f133) rfl ?_ ⟨s10.1, v10, (Option.toList (Value.ownBlock v10)), rfl, h, (Js (hC.getM 0 rfl)), (Zae hC 0 rfl), hC.below⟩ (.inl rfl)
    exact Zh rfl
  ·replace h := Zi h (cf hb10)
   refine Zn (b := false) 4 15 rfl (tr rfl (congrArg _ hb10)) (by decide) (Zn (b := false) 4 15 rfl (tr rfl (congrArg _ hb10)) (by decide) (Zn (b := false) 4 15 rfl (tr rfl (congrArg _ hb10)) (by decide) (Zn (b := false) 4 15 rfl (tr rfl (congrArg _ hb10)) (by decide) (Zn (b := false) 4 15 rfl (tr rfl (congrArg _ hb10)) (by decide) (Yb (v := .bool false) (b := false) (tr rfl (congrArg _ hb10)) rfl (dn (Yj rfl rfl ?_)))))))
   refine wp_exit (Zl (Zl (Yc ?_)))
   refine Zd (sr (Zb (v := v10) rfl (Zc (v := v10) rfl (dn (wp_ret ?_)))))
   refine Zo (fn := Try.f133) rfl ?_ ⟨s10.1, v10, (Option.toList (Value.ownBlock v10)), rfl, h, (Js (hC.getM 0 rfl)), (Zae hC 0 rfl), hC.below⟩ (.inl rfl)
   exact Zh rfl
 ·skip
  exact ⟨v11, (sl ⟨rfl, rfl, rfl, rfl, rfl, trivial⟩), hC⟩
def Zf7 (a0 : Alg) (a1 : Der) (K : List Int → Prop) : Prop :=
 Xf (fun (s10 : (List Int) × Int) nx10 => (if s10.2 < (a0.degrees.length : Int) then ((0 ≤ s10.2 ∧ s10.2 < (a0.degrees.length : Int)) ∧ (if a0.degrees.getD s10.2.toNat default ≥ a1.drop then ((0 ≤ s10.2 ∧ s10.2 < (a1.images.length : Int)) ∧ ((0 ≤ s10.2 ∧ s10.2 < (a0.degrees.length : Int)) ∧ Zc6 a0.degrees (IntKind.i64.wrap ((a0.degrees.getD s10.2.toNat default) - a1.drop)) (fun r11 => Zf6 (a1.images.getD s10.2.toNat default) r11 (fun r10 => (Xp (s10.1.length + r10.length) 8 ∧ nx10 (s10.1 ++ r10, IntKind.i64.wrap (s10.2 + 1))))))) else nx10 (s10.1, IntKind.i64.wrap (s10.2 + 1)))) else K s10.1)) ([], 0)
theorem Ztn (a0 : Alg) (a1 : Der) {u0_0 : Value} {u0_1 : Value} {u1_0 : Value} {u1_1 : Value} {fp0 : List Nat} {fp1 : List Nat} {K : List Int → Prop} (h : Zf7 a0 a1 K) (w0 : World) (q0 : TAlg.rep a0 [u0_0, u0_1] fp0 w0) (q1 : TDer.rep a1 [u1_0, u1_1] fp1 w0) :
  Calls Try.prog 100 #[.agg #[u0_0, u0_1], .agg #[u1_0, u1_1]] w0 fun e w' => ∃ (r0 : List Int) (z0_0 : Value) (fz0 : List Nat), 
   e = .returned (z0_0) ∧ K r0 ∧ (Tr.item (Tr.sl 2 ((EI .i64).tr)) r0 [z0_0] fz0).holds w' ∧ (∀ b, b ∈ fz0 → w0.heap.size ≤ b) ∧ Bel w0 w' := by
 unfold Zf7 at h
 refine Z6 (args := [.agg #[u0_0, u0_1], .agg #[u1_0, u1_1]]) Try.func100 rfl 43 Try.ntmps100 (Nat.le_of_ble_eq_true rfl) ?_
 have hC := Ctx.start (X := Nox) w0 [Ty.item TAlg a0 [u0_0, u0_1] fp0, Ty.item TDer a1 [u1_0, u1_1] fp1] (by simp only [List.mem_cons, List.not_mem_nil, or_false, forall_eq_or_imp, forall_eq]; exact ⟨q0, q1⟩)
 have hp3 := (hC.getP 0 rfl)
 replace hC := hC.derive 0 rfl (Ty.item ((EI .i64).ty.sl) a0.degrees [u0_0] fp0) (fun _ => (Yt hp3).1) (fun _ hb_ => hb_)
 replace hC := hC.derive 1 rfl (Ty.item TForm.sl a0.images [u0_1] fp0) (fun _ => (Yt hp3).2) (fun _ hb_ => hb_)
 have hp6 := (hC.getP 3 rfl)
 obtain rfl := (Zbk hp6).1
 replace hC := hC.derive 3 rfl (Ty.item TForm.sl a1.images [u1_1] fp1) (fun _ => (Zbk hp6).2) (fun _ hb_ => hb_)
 refine sr (Ye (v := .agg #[u0_0, u0_1]) hC [u0_0, u0_1] rfl rfl fun b8 w10 hB_ hC => Ye (v := .agg #[.int .i64 a1.drop, u1_1]) hC [.int .i64 a1.drop, u1_1] rfl rfl fun b10 w11 hB_ hC => Zc (v := .slice none 0 0) rfl (dn (sr (Jg (sz := 1) hC [] ((EI .i64).encs []) rfl (fun _ => Zmo  _) rfl (by decide) fun b11 w12 hB_ hC => Zc (v := .slice (some ⟨b11, 0, none⟩) 0 0) rfl (dn (wp_seq (sr (Zc (v := .int .i64 0) rfl ?_))))))))
 refine dn (wp_block ?_)
 refine Xu (S := (List Int) × Int) _ (fun s10 e_ w_ => ∃ (v10 : Value), Z4 e_ [(2, .pointer (some ⟨b8, 0, none⟩)), (3, .pointer (some ⟨b10, 0, none⟩)), (5, v10), (6, .int .i64 s10.2)] ∧ Ctx Nox w0 w_ [own 2 1 v10 s10.1.length ((EI .i64).encs s10.1), blk b10 134 [.int .i64 a1.drop, u1_1], blk b8 32 [u0_0, u0_1]] [Ty.item TForm.sl a1.images [u1_1] fp1, Ty.item TForm.sl a0.images [u0_1] fp0, Ty.item ((EI .i64).ty.sl) a0.degrees [u0_0] fp0, Ty.item TAlg a0 [u0_0, u0_1] fp0, Ty.item TDer a1 [.int .i64 a1.drop, u1_1] fp1]) ?_ (s0 := ([], 0)) ?_ h
 ·clear hC h
  rintro s10 e_ w13 nx10 K10 ⟨v10, hS_, hC⟩ h hK10
  rw [ue hS_]
  refine wp_seq (sr (Zb (v := .int .i64 s10.2) rfl (Z1 0 Try.underlying32 rfl sc22.size rfl rfl (Z8 hC 2 (u0_0) rfl sc22 rfl rfl ?_))))
  obtain ⟨Ad13, c10, hv13⟩ := Z2 (hC.getP 2 rfl)
  refine Z0 Try.underlying22 (tr rfl hv13) (Zs rfl rfl (dn ?_))
  refine Zr rfl (fun hb10 => ?_) (fun hb10 => ?_)
  ·replace h := ift h (ct hb10)
   refine wp_skip (Zd (wp_seq (wp_block (wp_seq ?_))))
   refine Ym 7 Yg [0, 1, 0, 7, 15, 0, 32, 127] [1, 3, 4, 6] [0, 2, 5] (by kernel_rfl) (by kernel_rfl) (by kernel_rfl) (fun hM12 hM13 w14 hB_ => ?_)
   replace hC := hC.grow hB_
   refine aF 0 (.pointer (some ⟨b8, 0, none⟩)) rfl rfl (hM13 0 rfl) (rfl) (fun _ => by exact Z7 0 Try.underlying32 rfl sc22.size rfl rfl) (Za 8 1) (aL 1 (u0_0) rfl rfl (hM12 1 rfl) (rfl) (fun _ hB_ => by exact Z5 (hC.grow hB_) 2 (u0_0) rfl sc22 rfl rfl) (Za 8 3) (aF 2 (.int .i64 s10.2) rfl rfl (hM13 2 rfl) (rfl) (fun _ => by exact Zg (v := .int .i64 s10.2) rfl) (Za 8 7) ?_))
   obtain ⟨⟨h10, h11⟩, h⟩ := h
   obtain ⟨Ad10, c11, hv10⟩ := Z9 (hC.getP 2 rfl) s10.2.toNat (show s10.2.toNat < a0.degrees.length by omega)
   refine aL 3 (.pointer (some (Ad10.add (s10.2.toNat * 1)))) rfl rfl (hM12 3 rfl) (rfl) (fun _ hB_ => by exact Yv (len := a0.degrees.length) Try.underlying22 sc2.size (by exact tr rfl hv10) rfl h10 h11) (Za 8 15) (aL 4 (.int .i64 (a0.degrees.getD s10.2.toNat default)) rfl rfl (hM12 4 rfl) (rfl) (fun _ hB_ => by exact Jf (.int .i64 (a0.degrees.getD s10.2.toNat default)) (Yk ((hC.grow hB_).getP 2 rfl) hv10 s10.2.toNat (show s10.2.toNat < a0.degrees.length by omega)) sc2 rfl) (Za 8 31) (aF 5 (.pointer (some ⟨b10, 0, none⟩)) rfl rfl (hM13 5 rfl) (rfl) (fun _ => by exact Z7 0 Try.underlying134 rfl sc2.size rfl rfl) (Za 8 63) (aL 6 (.int .i64 a1.drop) rfl rfl (hM12 6 rfl) (rfl) (fun _ hB_ => by exact Z5 (hC.grow hB_) 1 (.int .i64 a1.drop) rfl sc2 rfl rfl) (Za 8 127) (Zv 7 (by decide) (by decide) (by kernel_rfl) (by kernel_rfl) rfl (Zai rfl rfl (done (Zw (Zd ?_))))))))
   refine Zr rfl (fun hb11 => ?_) (fun hb11 => ?_)
   ·replace h := ift h (ct hb11)
    refine Ym 18 Yg [0, 0, 2, 0, 14, 30, 0, 64, 0, 256, 0, 1792, 3840, 0, 8192, 32512, 65472, 131070, 262143, 524287] [2, 4, 5, 7, 9, 11, 12, 14] [0, 1, 3, 6, 8, 10, 13, 15] (by kernel_rfl) (by kernel_rfl) (by kernel_rfl) (fun hM10 hM11 w15 hB_ => ?_)
    replace hC := hC.grow hB_
    refine aF 0 (v10) rfl rfl (hM11 0 rfl) (rfl) (fun _ => by exact Zg (v := v10) rfl) (Za 20 1) (aF 1 (.pointer (some ⟨b10, 1, none⟩)) rfl rfl (hM11 1 rfl) (rfl) (fun _ => by exact Z7 1 Try.underlying134 rfl sc30.size rfl rfl) (Za 20 3) (aL 2 (u1_1) rfl rfl (hM10 2 rfl) (rfl) (fun _ hB_ => by exact Z5 (hC.grow hB_) 1 (u1_1) rfl sc30 rfl rfl) (Za 20 7) (aF 3 (.int .i64 s10.2) rfl rfl (hM11 3 rfl) (rfl) (fun _ => by exact Zg (v := .int .i64 s10.2) rfl) (Za 20 15) ?_)))
    obtain ⟨⟨h12, h13⟩, h⟩ := h
    obtain ⟨Ad11, c12, hv11⟩ := Z9 (hC.getP 0 rfl) s10.2.toNat (show s10.2.toNat < a1.images.length by omega)
    refine aL 4 (.pointer (some (Ad11.add (s10.2.toNat * 1)))) rfl rfl (hM10 4 rfl) (rfl) (fun _ hB_ => by exact Yv (len := a1.images.length) Try.underlying30 ag95.size (by exact tr rfl hv11) rfl h12 h13) (Za 20 31) ?_
    obtain ⟨cs_, hl10, hc10, hr10⟩ := X9 (hC.getP 0 rfl) hv11 s10.2.toNat (show s10.2.toNat < a1.images.length by omega)
    obtain ⟨u10, rfl⟩ := List.length_eq_one_iff.1 hl10
    clear hl10
    rw [X3 _ _ (show s10.2.toNat < a1.images.length by omega)] at hr10
    have hp10 := hr10
    replace hC := hC.derive 0 rfl (Ty.item ETerm.ty.sl ((a1.images.getD s10.2.toNat default).terms) [u10] fp1) (fun _ => (Xb hp10)) (fun _ hb_ => hb_)
    refine aL 5 (.agg #[u10]) rfl rfl (hM10 5 rfl) (rfl) (fun _ hB_ => by exact Xw [u10] (J9 hB_ hc10) ag95 rfl rfl) (Za 20 63) (aF 6 (.pointer (some ⟨b8, 0, none⟩)) rfl rfl (hM11 6 rfl) (rfl) (fun _ => by exact Z7 0 Try.underlying32 rfl sc22.size rfl rfl) (Za 20 127) (aL 7 (u0_0) rfl rfl (hM10 7 rfl) (rfl) (fun _ hB_ => by exact Z5 (hC.grow hB_) 2 (u0_0) rfl sc22 rfl rfl) (Za 20 255) (aF 8 (.pointer (some ⟨b8, 0, none⟩)) rfl rfl (hM11 8 rfl) (rfl) (fun _ => by exact Z7 0 Try.underlying32 rfl sc22.size rfl rfl) (Za 20 511) (aL 9 (u0_0) rfl rfl (hM10 9 rfl) (rfl) (fun _ hB_ => by exact Z5 (hC.grow hB_) 2 (u0_0) rfl sc22 rfl rfl) (Za 20 1023) (aF 10 (.int .i64 s10.2) rfl rfl (hM11 10 rfl) (rfl) (fun _ => by exact Zg (v := .int .i64 s10.2) rfl) (Za 20 2047) ?_)))))
    obtain ⟨⟨h14, h15⟩, h⟩ := h
    obtain ⟨Ad12, c13, hv12⟩ := Z9 (hC.getP 3 rfl) s10.2.toNat (show s10.2.toNat < a0.degrees.length by omega)
    refine aL 11 (.pointer (some (Ad12.add (s10.2.toNat * 1)))) rfl rfl (hM10 11 rfl) (rfl) (fun _ hB_ => by exact Yv (len := a0.degrees.length) Try.underlying22 sc2.size (by exact tr rfl hv12) rfl h14 h15) (Za 20 4095) (aL 12 (.int .i64 (a0.degrees.getD s10.2.toNat default)) rfl rfl (hM10 12 rfl) (rfl) (fun _ hB_ => by exact Jf (.int .i64 (a0.degrees.getD s10.2.toNat default)) (Yk ((hC.grow hB_).getP 3 rfl) hv12 s10.2.toNat (show s10.2.toNat < a0.degrees.length by omega)) sc2 rfl) (Za 20 8191) (aF 13 (.pointer (some ⟨b10, 0, none⟩)) rfl rfl (hM11 13 rfl) (rfl) (fun _ => by exact Z7 0 Try.underlying134 rfl sc2.size rfl rfl) (Za 20 16383) (aL 14 (.int .i64 a1.drop) rfl rfl (hM10 14 rfl) (rfl) (fun _ hB_ => by exact Z5 (hC.grow hB_) 1 (.int .i64 a1.drop) rfl sc2 rfl rfl) (Za 20 32767) (aF 15 (.int .i64 (IntKind.i64.wrap ((a0.degrees.getD s10.2.toNat default) - a1.drop))) rfl rfl (hM11 15 rfl) (rfl) (fun _ => by exact Zb1 rfl rfl) (Za 20 65535) (aO 16 rfl ?_)))))
    refine Zf [u0_0, .int .i64 (IntKind.i64.wrap ((a0.degrees.getD s10.2.toNat default) - a1.drop))] _ Try.func92 rfl rfl rfl (Zj3 a0.degrees (IntKind.i64.wrap ((a0.degrees.getD s10.2.toNat default) - a1.drop)) h _ (hC.getP 3 rfl)) (fun ret10 w16 hR10 => ?_)
    obtain ⟨r11, u11, f10, rfl, h, hr11, hf10, hB10⟩ := hR10
    refine ⟨_, rfl, ?_⟩
    replace hC := hC.push hB10 (Tr.item (Tr.sl 49 ((EA .u8).tr)) r11 [u11] f10) hr11 hf10
    obtain ⟨ho10, hf11⟩ := Zat (hC.getM 0 rfl).1
    subst hf11
    replace hC := hC.recast (c := own 49 8 u11 r11.length ((EA .u8).encs r11)) (fun _ h_ => h_) (fun _ => ho10)
    refine done (aK (by assumption) (Za 20 131071) (aO 17 rfl ?_))
    refine Zf [.agg #[u10], u11] _ Try.func133 rfl rfl rfl (Ztm (a1.images.getD s10.2.toNat default) r11 h _ (Yl (hC.getP 0 rfl)) (Y7 (hC.getM 0 rfl))) (fun ret11 w17 hR11 => ?_)
    obtain ⟨r10, u12, f11, rfl, h, hr12, hf12, hB11⟩ := hR11
    refine ⟨_, rfl, ?_⟩
    replace hC := hC.push hB11 (Tr.item (Tr.sl 2 ((EI .i64).tr)) r10 [u12] f11) hr12 hf12
    obtain ⟨ho11, hf13⟩ := Zat (hC.getM 0 rfl).1
    subst hf13
    replace hC := hC.recast (c := own 2 1 u12 r10.length ((EI .i64).encs r10)) (fun _ h_ => h_) (fun _ => ho11)
    refine done (aK (by assumption) (Za 20 262143) (Zv 18 (by decide) (by decide) (by kernel_rfl) (by kernel_rfl) rfl ?_))
    obtain ⟨hm10, h⟩ := h
    refine Zbj hC 2 Try.underlying22 el2 rfl (by decide) (by decide) rfl (Zaq (hC.getM 0 rfl)) (fun q hq => Enc.encs_one' (E := (EI .i64)) _ q hq) rfl rfl hm10 fun v11 w18 hC => ?_
    replace hC := J8 hC 2 ((s10.1 ++ r10).length) ((EI .i64).encs (s10.1 ++ r10)) rfl (by simp) (by first | (simp [Enc.encs_append]; done) | simp [Enc.encs_append, Enc.encs])
    refine Zc (v := v11) rfl (done (Zw (Zt (Zd (Zk (Zb (v := .int .i64 s10.2) rfl (Zq rfl rfl (Zc (v := .int .i64 (IntKind.i64.wrap (s10.2 + 1))) rfl (done ?_)))))))))
    replace hC := hC.sM [2, 3, 4] (M' := [own 2 1 v11 ((s10.1 ++ r10).length) ((EI .i64).encs (s10.1 ++ r10)), blk b10 134 [.int .i64 a1.drop, u1_1], blk b8 32 [u0_0, u0_1]]) (by decide) rfl
    replace hC := hC.sP [1, 2, 3, 4, 5] (Ps' := [Ty.item TForm.sl a1.images [u1_1] fp1, Ty.item TForm.sl a0.images [u0_1] fp0, Ty.item ((EI .i64).ty.sl) a0.degrees [u0_0] fp0, Ty.item TAlg a0 [u0_0, u0_1] fp0, Ty.item TDer a1 [.int .i64 a1.drop, u1_1] fp1]) rfl
    exact hK10 (s10.1 ++ r10, IntKind.i64.wrap (s10.2 + 1)) _ _ ⟨v11, (sl ⟨rfl, rfl, rfl, rfl, trivial⟩), hC⟩ h
   ·replace h := Zi h (cf hb11)
    refine wp_skip (Zt (Zd (Zk (Zb (v := .int .i64 s10.2) rfl (Zq rfl rfl (Zc (v := .int .i64 (IntKind.i64.wrap (s10.2 + 1))) rfl (done ?_)))))))
    exact hK10 (s10.1, IntKind.i64.wrap (s10.2 + 1)) _ _ ⟨v10, (sl ⟨rfl, rfl, rfl, rfl, trivial⟩), hC⟩ h
  ·replace h := Zi h (cf hb10)
   refine wp_exit (Zl (Zl (Yc ?_)))
   refine Zd (sr (Zb (v := v10) rfl (Zc (v := v10) rfl (dn (wp_ret ?_)))))
   refine Zo (fn := Try.f100) rfl ?_ ⟨s10.1, v10, (Option.toList (Value.ownBlock v10)), rfl, h, (Js (hC.getM 0 rfl)), (Zae hC 0 rfl), hC.below⟩ (.inl rfl)
   exact Zh rfl
 ·skip
  exact ⟨.slice (some ⟨b11, 0, none⟩) 0 0, (sl ⟨rfl, rfl, rfl, rfl, trivial⟩), hC⟩
def Zf8 (a0 : Alg) (a1 : Der) (a2 : A8) (K : Vc.Form → Prop) : Prop :=
 Xf (fun (s10 : (List Term) × A8 × Int × Int) nx10 => (if s10.2.2.1 < (a0.degrees.length : Int) then ((0 ≤ s10.2.2.1 ∧ s10.2.2.1 < 8) ∧ (if a2.get s10.2.2.1.toNat > 0 then Xf (fun (s11 : A8 × Int) nx11 => (if s11.2 < s10.2.2.1 then ((0 ≤ s11.2 ∧ s11.2 < 8) ∧ nx11 (s11.1.set s11.2.toNat 0, IntKind.i64.wrap (s11.2 + 1))) else ((0 ≤ s10.2.2.1 ∧ s10.2.2.1 < 8) ∧ ((0 ≤ s10.2.2.1 ∧ s10.2.2.1 < 8) ∧ ((0 ≤ s10.2.2.1 ∧ s10.2.2.1 < 8) ∧ (if Int.tmod (IntKind.i64.wrap (s10.2.2.2 * a1.drop)) 2 ≠ 0 then ((0 ≤ s10.2.2.1 ∧ s10.2.2.1 < (a1.images.length : Int)) ∧ X2 s10.2.1 (IntKind.i64.wrap (0 - (IntKind.i64.wrap (a2.get s10.2.2.1.toNat)))) (fun r18 => Ja a0.degrees r18 (a1.images.getD s10.2.2.1.toNat default) (fun r12 => X2 (s11.1.set s10.2.2.1.toNat (IntKind.u8.wrap ((s11.1.get s10.2.2.1.toNat) - 1))) 1 (fun r13 => Ja a0.degrees r12 r13 (fun r14 => J4 (⟨s10.1⟩ : Vc.Form) r14 1 (fun r10 => ((0 ≤ s10.2.2.1 ∧ s10.2.2.1 < 8) ∧ ((0 ≤ s10.2.2.1 ∧ s10.2.2.1 < 8) ∧ ((0 ≤ s10.2.2.1 ∧ s10.2.2.1 < (a0.degrees.length : Int)) ∧ ((0 ≤ s10.2.2.1 ∧ s10.2.2.1 < 8) ∧ nx10 (r10.terms, s10.2.1.set s10.2.2.1.toNat (a2.get s10.2.2.1.toNat), IntKind.i64.wrap (s10.2.2.1 + 1), IntKind.i64.wrap (s10.2.2.2 + (IntKind.i64.wrap ((a0.degrees.getD s10.2.2.1.toNat default) * (IntKind.i64.wrap (a2.get s10.2.2.1.toNat)))))))))))))))) else ((0 ≤ s10.2.2.1 ∧ s10.2.2.1 < (a1.images.length : Int)) ∧ X2 s10.2.1 (IntKind.i64.wrap (a2.get s10.2.2.1.toNat)) (fun r19 => Ja a0.degrees r19 (a1.images.getD s10.2.2.1.toNat default) (fun r15 => X2 (s11.1.set s10.2.2.1.toNat (IntKind.u8.wrap ((s11.1.get s10.2.2.1.toNat) - 1))) 1 (fun r16 => Ja a0.degrees r15 r16 (fun r17 => J4 (⟨s10.1⟩ : Vc.Form) r17 1 (fun r11 => ((0 ≤ s10.2.2.1 ∧ s10.2.2.1 < 8) ∧ ((0 ≤ s10.2.2.1 ∧ s10.2.2.1 < 8) ∧ ((0 ≤ s10.2.2.1 ∧ s10.2.2.1 < (a0.degrees.length : Int)) ∧ ((0 ≤ s10.2.2.1 ∧ s10.2.2.1 < 8) ∧ nx10 (r11.terms, s10.2.1.set s10.2.2.1.toNat (a2.get s10.2.2.1.toNat), IntKind.i64.wrap (s10.2.2.1 + 1), IntKind.i64.wrap (s10.2.2.2 + (IntKind.i64.wrap ((a0.degrees.getD s10.2.2.1.toNat default) * (IntKind.i64.wrap (a2.get s10.2.2.1.toNat)))))))))))))))))))))) (a2, 0) else ((0 ≤ s10.2.2.1 ∧ s10.2.2.1 < 8) ∧ ((0 ≤ s10.2.2.1 ∧ s10.2.2.1 < 8) ∧ ((0 ≤ s10.2.2.1 ∧ s10.2.2.1 < (a0.degrees.length : Int)) ∧ ((0 ≤ s10.2.2.1 ∧ s10.2.2.1 < 8) ∧ nx10 (s10.1, s10.2.1.set s10.2.2.1.toNat (a2.get s10.2.2.1.toNat), IntKind.i64.wrap (s10.2.2.1 + 1), IntKind.i64.wrap (s10.2.2.2 + (IntKind.i64.wrap ((a0.degrees.getD s10.2.2.1.toNat default) * (IntKind.i64.wrap (a2.get s10.2.2.1.toNat)))))))))))) else K (⟨s10.1⟩ : Vc.Form))) ([], A8.zero, 0, 0)
theorem Zto (a0 : Alg) (a1 : Der) (a2 : A8) {u0_0 : Value} {u0_1 : Value} {u1_0 : Value} {u1_1 : Value} {fp0 : List Nat} {fp1 : List Nat} {K : Vc.Form → Prop} (h : Zf8 a0 a1 a2 K) (w0 : World) (q0 : TAlg.rep a0 [u0_0, u0_1] fp0 w0) (q1 : TDer.rep a1 [u1_0, u1_1] fp1 w0) :
  Calls Try.prog 154 #[.agg #[u0_0, u0_1], .agg #[u1_0, u1_1], .agg (List.toArray (A8.enc .u8 a2))] w0 fun e w' => ∃ (r0 : Vc.Form) (z0_0 : Value) (fz0 : List Nat), 
   e = .returned (.agg #[z0_0]) ∧ K r0 ∧ (Tr.item (Zz 114) r0 [z0_0] fz0).holds w' ∧ (∀ b, b ∈ fz0 → w0.heap.size ≤ b) ∧ Bel w0 w' := by
 unfold Zf8 at h
 refine Z6 (args := [.agg #[u0_0, u0_1], .agg #[u1_0, u1_1], .agg (List.toArray (A8.enc .u8 a2))]) Try.func154 rfl 90 Try.ntmps154 (Nat.le_of_ble_eq_true rfl) ?_
 have hC := Ctx.start (X := Nox) w0 [Ty.item TAlg a0 [u0_0, u0_1] fp0, Ty.item TDer a1 [u1_0, u1_1] fp1] (by simp only [List.mem_cons, List.not_mem_nil, or_false, forall_eq_or_imp, forall_eq]; exact ⟨q0, q1⟩)
 have hp3 := (hC.getP 0 rfl)
 replace hC := hC.derive 0 rfl (Ty.item ((EI .i64).ty.sl) a0.degrees [u0_0] fp0) (fun _ => (Yt hp3).1) (fun _ hb_ => hb_)
 replace hC := hC.derive 1 rfl (Ty.item TForm.sl a0.images [u0_1] fp0) (fun _ => (Yt hp3).2) (fun _ hb_ => hb_)
 have hp6 := (hC.getP 3 rfl)
 obtain rfl := (Zbk hp6).1
 replace hC := hC.derive 3 rfl (Ty.item TForm.sl a1.images [u1_1] fp1) (fun _ => (Zbk hp6).2) (fun _ hb_ => hb_)
 refine sr (Ye (v := .agg #[u0_0, u0_1]) hC [u0_0, u0_1] rfl rfl fun b8 w10 hB_ hC => Ye (v := .agg #[.int .i64 a1.drop, u1_1]) hC [.int .i64 a1.drop, u1_1] rfl rfl fun b11 w11 hB_ hC => Ye (v := .agg (List.toArray (A8.enc .u8 a2))) hC (A8.enc .u8 a2) rfl rfl fun b10 w12 hB_ hC => Yf hC [.slice none 0 0] z95 rfl fun b12 w13 hB_ hC => dn (sr (Jd [] rfl (Zcx   _) (Jd [] rfl (Zhe   _) (Yf hC [.slice none 0 0] z95 rfl fun b13 w14 hB_ hC => Yf hC (A8.enc .u8 A8.zero) z49 rfl fun b14 w15 hB_ hC => Zu (v := .agg #[.slice none 0 0]) hC 1 [.slice none 0 0] [.slice none 0 0] rfl ag95.size rfl rfl rfl rfl rfl (Nat.le_of_ble_eq_true rfl) rfl fun w16 hC => ?_)))))
 refine Zu (v := .agg (List.toArray (A8.enc .u8 A8.zero))) hC 0 (A8.enc .u8 A8.zero) (A8.enc .u8 A8.zero) rfl ag49.size rfl rfl rfl rfl rfl (Nat.le_of_ble_eq_true rfl) rfl fun w17 hC => Zc (v := .int .i64 0) rfl (dn (wp_seq (sr (Zc (v := .int .i64 0) rfl (dn (wp_block ?_))))))
 refine Xu (S := (List Term) × A8 × Int × Int) _ (fun s10 e_ w_ => ∃ (v10 : Value), Z4 e_ [(3, .pointer (some ⟨b8, 0, none⟩)), (4, .pointer (some ⟨b11, 0, none⟩)), (5, .pointer (some ⟨b10, 0, none⟩)), (6, .pointer (some ⟨b12, 0, none⟩)), (7, .pointer (some ⟨b13, 0, none⟩)), (8, .pointer (some ⟨b14, 0, none⟩)), (9, .int .i64 s10.2.2.2), (10, .int .i64 s10.2.2.1)] ∧ Ctx Nox w0 w_ [own 114 9 v10 s10.1.length (ETerm.encs s10.1), blk b14 49 (A8.enc .u8 s10.2.1), blk b13 95 [v10], blk b12 95 [.slice none 0 0], blk b10 49 (A8.enc .u8 a2), blk b11 134 [.int .i64 a1.drop, u1_1], blk b8 32 [u0_0, u0_1]] [Ty.item TForm.sl a1.images [u1_1] fp1, Ty.item TForm.sl a0.images [u0_1] fp0, Ty.item ((EI .i64).ty.sl) a0.degrees [u0_0] fp0, Ty.item TAlg a0 [u0_0, u0_1] fp0, Ty.item TDer a1 [.int .i64 a1.drop, u1_1] fp1]) ?_ (s0 := ([], A8.zero, 0, 0)) ?_ h
 ·clear hC h
  rintro s10 e_ w18 nx10 K10 ⟨v10, hS_, hC⟩ h hK10
  rw [ue hS_]
  refine wp_seq (sr (Zb (v := .int .i64 s10.2.2.1) rfl (Z1 0 Try.underlying32 rfl sc22.size rfl rfl (Z8 hC 6 (u0_0) rfl sc22 rfl rfl ?_))))
  obtain ⟨Ad15, c10, hv15⟩ := Z2 (hC.getP 2 rfl)
  refine Z0 Try.underlying22 (tr rfl hv15) (Zs rfl rfl (dn ?_))
  refine Zr rfl (fun hb10 => ?_) (fun hb10 => ?_)
  ·replace h := ift h (ct hb10)
   refine wp_skip (Zd (wp_seq (wp_block (wp_seq (sr (Zb (v := .int .i64 s10.2.2.1) rfl ?_))))))
   obtain ⟨⟨h10, h11⟩, h⟩ := h
   refine Y1 s10.2.2.1.toNat Try.underlying49 sc5.size rfl rfl h10 h11 (by omega) (Z8 hC 4 (.int .u8 (a2.get s10.2.2.1.toNat)) rfl sc5 rfl (A8.enc_get _ _ (show s10.2.2.1.toNat < 8 by omega)) (Jm rfl rfl (dn ?_)))
   refine Zr rfl (fun hb11 => ?_) (fun hb11 => ?_)
   ·replace h := ift h (ct hb11)
    refine sr (Ys hC 4 (A8.enc .u8 a2) rfl ag49 rfl rfl rfl (Yf hC (A8.enc .u8 A8.zero) z49 rfl fun b15 w19 hB_ hC => Zu (v := .agg (List.toArray (A8.enc .u8 a2))) hC 0 (A8.enc .u8 a2) (A8.enc .u8 a2) rfl ag49.size rfl rfl rfl rfl rfl (Nat.le_of_ble_eq_true rfl) rfl fun w20 hC => dn (wp_seq (sr (Zc (v := .int .i64 0) rfl (dn (wp_block ?_)))))))
    refine Xu (S := A8 × Int) _ (fun s11 e_ w_ => Z4 e_ [(3, .pointer (some ⟨b8, 0, none⟩)), (4, .pointer (some ⟨b11, 0, none⟩)), (5, .pointer (some ⟨b10, 0, none⟩)), (6, .pointer (some ⟨b12, 0, none⟩)), (7, .pointer (some ⟨b13, 0, none⟩)), (8, .pointer (some ⟨b14, 0, none⟩)), (9, .int .i64 s10.2.2.2), (10, .int .i64 s10.2.2.1), (11, .pointer (some ⟨b15, 0, none⟩)), (12, .int .i64 s11.2)] ∧ Ctx Nox w0 w_ [blk b15 49 (A8.enc .u8 s11.1), own 114 9 v10 s10.1.length (ETerm.encs s10.1), blk b14 49 (A8.enc .u8 s10.2.1), blk b13 95 [v10], blk b12 95 [.slice none 0 0], blk b10 49 (A8.enc .u8 a2), blk b11 134 [.int .i64 a1.drop, u1_1], blk b8 32 [u0_0, u0_1]] [Ty.item TForm.sl a1.images [u1_1] fp1, Ty.item TForm.sl a0.images [u0_1] fp0, Ty.item ((EI .i64).ty.sl) a0.degrees [u0_0] fp0, Ty.item TAlg a0 [u0_0, u0_1] fp0, Ty.item TDer a1 [.int .i64 a1.drop, u1_1] fp1]) ?_ (s0 := (a2, 0)) ?_ h
    ·clear hC h
     rintro s11 e_ w21 nx11 K11 ⟨hS_, hC⟩ h hK11
     rw [ue hS_]
     refine wp_seq (sr (Zb (v := .int .i64 s11.2) rfl (Zb (v := .int .i64 s10.2.2.1) rfl (Zs rfl rfl (dn ?_)))))
     refine Zr rfl (fun hb12 => ?_) (fun hb12 => ?_)
     ·replace h := ift h (ct hb12)
      refine wp_skip (Zd (wp_seq (wp_block (Zk (Zb (v := .int .i64 s11.2) rfl ?_)))))
      obtain ⟨⟨h12, h13⟩, h⟩ := h
      refine Y1 s11.2.toNat Try.underlying49 sc5.size rfl rfl h12 h13 (by omega) (Zu (v := .int .u8 0) hC 0 [.int .u8 0] (A8.enc .u8 (s11.1.set s11.2.toNat 0)) rfl sc5.size rfl rfl rfl rfl rfl (show s11.2.toNat < 8 by omega) (A8.enc_set _ _ _ (show s11.2.toNat < 8 by omega)) fun w22 hC => done (Zt (Zd (Zk (Zb (v := .int .i64 s11.2) rfl (Zq rfl rfl (Zc (v := .int .i64 (IntKind.i64.wrap (s11.2 + 1))) rfl (done ?_))))))))
      exact hK11 (s11.1.set s11.2.toNat 0, IntKind.i64.wrap (s11.2 + 1)) _ _ ⟨(sl ⟨rfl, rfl, rfl, rfl, rfl, rfl, rfl, rfl, rfl, rfl, trivial⟩), hC⟩ h
     ·replace h := Zi h (cf hb12)
      refine wp_exit (Zl (Zl (Yc ?_)))
      refine Zd (sr (Zb (v := .int .i64 s10.2.2.1) rfl ?_))
      obtain ⟨⟨h14, h15⟩, h⟩ := h
      refine Y1 s10.2.2.1.toNat Try.underlying49 sc5.size rfl rfl h14 h15 (by omega) (Z8 hC 0 (.int .u8 (s11.1.get s10.2.2.1.toNat)) rfl sc5 rfl (A8.enc_get _ _ (show s10.2.2.1.toNat < 8 by omega)) (J5 rfl rfl ?_))
      obtain ⟨⟨h16, h17⟩, h⟩ := h
      refine Y1 s10.2.2.1.toNat Try.underlying49 sc5.size rfl rfl h16 h17 (by omega) (Zu (v := .int .u8 (IntKind.u8.wrap ((s11.1.get s10.2.2.1.toNat) - 1))) hC 0 [.int .u8 (IntKind.u8.wrap ((s11.1.get s10.2.2.1.toNat) - 1))] (A8.enc .u8 (s11.1.set s10.2.2.1.toNat (IntKind.u8.wrap ((s11.1.get s10.2.2.1.toNat) - 1)))) rfl sc5.size rfl rfl rfl rfl rfl (show s10.2.2.1.toNat < 8 by omega) (A8.enc_set _ _ _ (show s10.2.2.1.toNat < 8 by omega)) fun w23 hC => dn (sr (Zb (v := .int .i64 s10.2.2.1) rfl ?_)))
      obtain ⟨⟨h18, h19⟩, h⟩ := h
      refine Y1 s10.2.2.1.toNat Try.underlying49 sc5.size rfl rfl h18 h19 (by omega) (Z8 hC 5 (.int .u8 (a2.get s10.2.2.1.toNat)) rfl sc5 rfl (A8.enc_get _ _ (show s10.2.2.1.toNat < 8 by omega)) (Zec Try.underlying5 Try.underlying2 rfl (Zc (v := .int .i64 (IntKind.i64.wrap (a2.get s10.2.2.1.toNat))) rfl (dn (wp_seq (sr (Zb (v := .int .i64 s10.2.2.2) rfl (Z1 0 Try.underlying134 rfl sc2.size rfl rfl (Z8 hC 6 (.int .i64 a1.drop) rfl sc2 rfl rfl (Zad rfl rfl (Jk rfl rfl (by decide) ?_)))))))))))
      refine Xj rfl rfl (dn ?_)
      refine Zr rfl (fun hb13 => ?_) (fun hb13 => ?_)
      ·replace h := ift h (ct hb13)
       refine Zk (Zb (v := .int .i64 (IntKind.i64.wrap (a2.get s10.2.2.1.toNat))) rfl (Zea rfl (Zc (v := .int .i64 (IntKind.i64.wrap (0 - (IntKind.i64.wrap (a2.get s10.2.2.1.toNat))))) rfl (dn (wp_seq ?_)))))
       refine Ym 12 Yg [0, 1, 0, 0, 12, 0, 32, 0, 224, 480, 1023, 0, 4095] [1, 2, 6, 8, 9] [0, 3, 5, 7] (by kernel_rfl) (by kernel_rfl) (by kernel_rfl) (fun hM13 hM18 w24 hB_ => ?_)
       replace hC := hC.grow hB_
       refine aF 0 (.pointer (some ⟨b8, 0, none⟩)) rfl rfl (hM18 0 rfl) (rfl) (fun _ => by exact Z7 0 Try.underlying32 rfl sc22.size rfl rfl) (Za 13 1) (aL 1 (u0_0) rfl rfl (hM13 1 rfl) (rfl) (fun _ hB_ => by exact Z5 (hC.grow hB_) 7 (u0_0) rfl sc22 rfl rfl) (Za 13 3) (aL 2 (.agg (List.toArray (A8.enc .u8 s10.2.1))) rfl rfl (hM13 2 rfl) (rfl) (fun _ hB_ => by exact Yu (hC.grow hB_) 2 (A8.enc .u8 s10.2.1) rfl ag49 rfl rfl rfl) (Za 13 7) (aF 3 (.int .i64 (IntKind.i64.wrap (0 - (IntKind.i64.wrap (a2.get s10.2.2.1.toNat))))) rfl rfl (hM18 3 rfl) (rfl) (fun _ => by exact Zg (v := .int .i64 (IntKind.i64.wrap (0 - (IntKind.i64.wrap (a2.get s10.2.2.1.toNat))))) rfl) (Za 13 15) (aF 5 (.pointer (some ⟨b11, 1, none⟩)) rfl rfl (hM18 5 rfl) (rfl) (fun _ => by exact Z7 1 Try.underlying134 rfl sc30.size rfl rfl) (Za 13 47) (aL 6 (u1_1) rfl rfl (hM13 6 rfl) (rfl) (fun _ hB_ => by exact Z5 (hC.grow hB_) 6 (u1_1) rfl sc30 rfl rfl) (Za 13 111) (aF 7 (.int .i64 s10.2.2.1) rfl rfl (hM18 7 rfl) (rfl) (fun _ => by exact Zg (v := .int .i64 s10.2.2.1) rfl) (Za 13 239) ?_))))))
       obtain ⟨⟨h20, h21⟩, h⟩ := h
       obtain ⟨Ad10, c11, hv10⟩ := Z9 (hC.getP 0 rfl) s10.2.2.1.toNat (show s10.2.2.1.toNat < a1.images.length by omega)
       refine aL 8 (.pointer (some (Ad10.add (s10.2.2.1.toNat * 1)))) rfl rfl (hM13 8 rfl) (rfl) (fun _ hB_ => by exact Yv (len := a1.images.length) Try.underlying30 ag95.size (by exact tr rfl hv10) rfl h20 h21) (Za 13 495) ?_
       obtain ⟨cs_, hl10, hc10, hr10⟩ := X9 (hC.getP 0 rfl) hv10 s10.2.2.1.toNat (show s10.2.2.1.toNat < a1.images.length by omega)
       obtain ⟨u18, rfl⟩ := List.length_eq_one_iff.1 hl10
       clear hl10
       rw [X3 _ _ (show s10.2.2.1.toNat < a1.images.length by omega)] at hr10
       have hp10 := hr10
       replace hC := hC.derive 0 rfl (Ty.item ETerm.ty.sl ((a1.images.getD s10.2.2.1.toNat default).terms) [u18] fp1) (fun _ => (Xb hp10)) (fun _ hb_ => hb_)
       refine aL 9 (.agg #[u18]) rfl rfl (hM13 9 rfl) (rfl) (fun _ hB_ => by exact Xw [u18] (J9 hB_ hc10) ag95 rfl rfl) (Za 13 1007) ?_
       refine Zbb (fun e_ w_ => ∃ (b16 : Nat), ∃ (u20 : Value), ∃ (r24 : Vc.Form), Z4 e_ [(3, .pointer (some ⟨b8, 0, none⟩)), (4, .pointer (some ⟨b11, 0, none⟩)), (5, .pointer (some ⟨b10, 0, none⟩)), (6, .pointer (some ⟨b12, 0, none⟩)), (7, .pointer (some ⟨b13, 0, none⟩)), (8, .pointer (some ⟨b14, 0, none⟩)), (9, .int .i64 s10.2.2.2), (10, .int .i64 s10.2.2.1), (11, .pointer (some ⟨b15, 0, none⟩)), (14, .pointer (some ⟨b16, 0, none⟩))] ∧ Ctx Nox w0 w_ [blk b16 95 [u20], own 114 9 u20 r24.terms.length (ETerm.encs r24.terms), blk b15 49 (A8.enc .u8 (s11.1.set s10.2.2.1.toNat (IntKind.u8.wrap ((s11.1.get s10.2.2.1.toNat) - 1)))), own 114 9 v10 s10.1.length (ETerm.encs s10.1), blk b14 49 (A8.enc .u8 s10.2.1), blk b13 95 [v10], blk b12 95 [.slice none 0 0], blk b10 49 (A8.enc .u8 a2), blk b11 134 [.int .i64 a1.drop, u1_1], blk b8 32 [u0_0, u0_1]] [Ty.item ETerm.ty.sl ((a1.images.getD s10.2.2.1.toNat default).terms) [u18] fp1, Ty.item TForm.sl a1.images [u1_1] fp1, Ty.item TForm.sl a0.images [u0_1] fp0, Ty.item ((EI .i64).ty.sl) a0.degrees [u0_0] fp0, Ty.item TAlg a0 [u0_0, u0_1] fp0, Ty.item TDer a1 [.int .i64 a1.drop, u1_1] fp1] ∧ (X2 (s11.1.set s10.2.2.1.toNat (IntKind.u8.wrap ((s11.1.get s10.2.2.1.toNat) - 1))) 1 (fun r13 => Ja a0.degrees r24 r13 (fun r14 => J4 (⟨s10.1⟩ : Vc.Form) r14 1 (fun r10 => ((0 ≤ s10.2.2.1 ∧ s10.2.2.1 < 8) ∧ ((0 ≤ s10.2.2.1 ∧ s10.2.2.1 < 8) ∧ ((0 ≤ s10.2.2.1 ∧ s10.2.2.1 < (a0.degrees.length : Int)) ∧ ((0 ≤ s10.2.2.1 ∧ s10.2.2.1 < 8) ∧ nx10 (r10.terms, s10.2.1.set s10.2.2.1.toNat (a2.get s10.2.2.1.toNat), IntKind.i64.wrap (s10.2.2.1 + 1), IntKind.i64.wrap (s10.2.2.2 + (IntKind.i64.wrap ((a0.degrees.getD s10.2.2.1.toNat default) * (IntKind.i64.wrap (a2.get s10.2.2.1.toNat))))))))))))))) ?_ ?_
       ·clear hC h
        rintro e_ w25 ⟨b16, u20, r24, hS_, hC, h⟩
        rw [ue hS_]
        refine Zd ?_
        refine Ym 7 Yg [0, 0, 2, 0, 0, 16, 62, 127, 255] [0, 2, 3, 4] [1] (by kernel_rfl) (by kernel_rfl) (by kernel_rfl) (fun hM19 hM22 w26 hB_ => ?_)
        replace hC := hC.grow hB_
        refine aL 0 (.agg #[v10]) rfl rfl (hM19 0 rfl) (rfl) (fun _ hB_ => by exact Yu (hC.grow hB_) 5 [v10] rfl ag95 rfl rfl rfl) (Za 9 1) (aF 1 (.pointer (some ⟨b8, 0, none⟩)) rfl rfl (hM22 1 rfl) (rfl) (fun _ => by exact Z7 0 Try.underlying32 rfl sc22.size rfl rfl) (Za 9 3) (aL 2 (u0_0) rfl rfl (hM19 2 rfl) (rfl) (fun _ hB_ => by exact Z5 (hC.grow hB_) 9 (u0_0) rfl sc22 rfl rfl) (Za 9 7) (aL 3 (.agg #[u20]) rfl rfl (hM19 3 rfl) (rfl) (fun _ hB_ => by exact Yu (hC.grow hB_) 0 [u20] rfl ag95 rfl rfl rfl) (Za 9 15) (aL 4 (.agg (List.toArray (A8.enc .u8 (s11.1.set s10.2.2.1.toNat (IntKind.u8.wrap ((s11.1.get s10.2.2.1.toNat) - 1)))))) rfl rfl (hM19 4 rfl) (rfl) (fun _ hB_ => by exact Yu (hC.grow hB_) 2 (A8.enc .u8 (s11.1.set s10.2.2.1.toNat (IntKind.u8.wrap ((s11.1.get s10.2.2.1.toNat) - 1)))) rfl ag49 rfl rfl rfl) (Za 9 31) (aO 5 rfl ?_)))))
        refine Zf [.agg (List.toArray (A8.enc .u8 (s11.1.set s10.2.2.1.toNat (IntKind.u8.wrap ((s11.1.get s10.2.2.1.toNat) - 1))))), .int .i64 1] _ Try.func70 rfl rfl rfl (Zaz (s11.1.set s10.2.2.1.toNat (IntKind.u8.wrap ((s11.1.get s10.2.2.1.toNat) - 1))) 1 h _) (fun ret10 w27 hR10 => ?_)
        obtain ⟨r13, u24, f10, rfl, h, hr12, hf10, hB10⟩ := hR10
        refine ⟨_, rfl, ?_⟩
        replace hC := hC.push hB10 (Tr.item (Zz 114) r13 [u24] f10) hr12 hf10
        obtain ⟨ho10, hf11⟩ := Y8 (hC.getM 0 rfl)
        subst hf11
        replace hC := hC.recast (c := own 114 9 u24 r13.terms.length (ETerm.encs r13.terms)) (fun _ h_ => h_) (fun _ => ho10)
        refine done (aK (by assumption) (Za 9 63) (aO 6 rfl ?_))
        refine Zf [u0_0, .agg #[u20], .agg #[u24]] _ Try.func153 rfl rfl rfl (Zam a0.degrees r24 r13 h _ (hC.getP 3 rfl) (Yl (Y7 (hC.getM 2 rfl))) (Yl (Y7 (hC.getM 0 rfl)))) (fun ret11 w28 hR11 => ?_)
        obtain ⟨r14, u25, f11, rfl, h, hr13, hf12, hB11⟩ := hR11
        refine ⟨_, rfl, ?_⟩
        replace hC := hC.push hB11 (Tr.item (Zz 114) r14 [u25] f11) hr13 hf12
        obtain ⟨ho11, hf13⟩ := Y8 (hC.getM 0 rfl)
        subst hf13
        replace hC := hC.recast (c := own 114 9 u25 r14.terms.length (ETerm.encs r14.terms)) (fun _ h_ => h_) (fun _ => ho11)
        refine done (aK (by assumption) (Za 9 127) (Zv 7 (by decide) (by decide) (by kernel_rfl) (by kernel_rfl) rfl ?_))
        refine Zf [.agg #[v10], .agg #[u25], .int .i64 1] _ Try.func69 rfl rfl rfl (Zc0 (⟨s10.1⟩ : Vc.Form) r14 1 h _ (Yl (Y7 (hC.getM 5 rfl))) (Yl (Y7 (hC.getM 0 rfl)))) (fun ret12 w29 hR12 => ?_)
        obtain ⟨r10, u10, f12, rfl, h, hr14, hf14, hB12⟩ := hR12
        refine ⟨_, rfl, ?_⟩
        replace hC := hC.push hB12 (Tr.item (Zz 114) r10 [u10] f12) hr14 hf14
        obtain ⟨ho12, hf15⟩ := Y8 (hC.getM 0 rfl)
        subst hf15
        replace hC := hC.recast (c := own 114 9 u10 r10.terms.length (ETerm.encs r10.terms)) (fun _ h_ => h_) (fun _ => ho12)
        refine Zu (v := .agg #[u10]) hC 8 [u10] [u10] rfl ag95.size rfl rfl rfl rfl (Y3 (Xl (hC.getM 0 rfl)) rfl) (Nat.le_of_ble_eq_true rfl) rfl fun w30 hC => done (Zw (Zd (sr (Zb (v := .int .i64 s10.2.2.1) rfl (Zb (v := .int .i64 s10.2.2.1) rfl ?_)))))
        obtain ⟨⟨h22, h23⟩, h⟩ := h
        refine Y1 s10.2.2.1.toNat Try.underlying49 sc5.size rfl rfl h22 h23 (by omega) (Z8 hC 10 (.int .u8 (a2.get s10.2.2.1.toNat)) rfl sc5 rfl (A8.enc_get _ _ (show s10.2.2.1.toNat < 8 by omega)) ?_)
        obtain ⟨⟨h24, h25⟩, h⟩ := h
        refine Y1 s10.2.2.1.toNat Try.underlying49 sc5.size rfl rfl h24 h25 (by omega) (Zu (v := .int .u8 (a2.get s10.2.2.1.toNat)) hC 7 [.int .u8 (a2.get s10.2.2.1.toNat)] (A8.enc .u8 (s10.2.1.set s10.2.2.1.toNat (a2.get s10.2.2.1.toNat))) rfl sc5.size rfl rfl rfl rfl rfl (show s10.2.2.1.toNat < 8 by omega) (A8.enc_set _ _ _ (show s10.2.2.1.toNat < 8 by omega)) fun w31 hC => dn ?_)
        refine Ym 11 Yg [0, 0, 2, 0, 14, 30, 0, 64, 192, 448, 1022, 2047, 4095] [2, 4, 5, 7, 8] [0, 1, 3, 6, 9, 10] (by kernel_rfl) (by kernel_rfl) (by kernel_rfl) (fun hM14 hM10 w32 hB_ => ?_)
        replace hC := hC.grow hB_
        refine aF 0 (.int .i64 s10.2.2.2) rfl rfl (hM10 0 rfl) (rfl) (fun _ => by exact Zg (v := .int .i64 s10.2.2.2) rfl) (Za 13 1) (aF 1 (.pointer (some ⟨b8, 0, none⟩)) rfl rfl (hM10 1 rfl) (rfl) (fun _ => by exact Z7 0 Try.underlying32 rfl sc22.size rfl rfl) (Za 13 3) (aL 2 (u0_0) rfl rfl (hM14 2 rfl) (rfl) (fun _ hB_ => by exact Z5 (hC.grow hB_) 12 (u0_0) rfl sc22 rfl rfl) (Za 13 7) (aF 3 (.int .i64 s10.2.2.1) rfl rfl (hM10 3 rfl) (rfl) (fun _ => by exact Zg (v := .int .i64 s10.2.2.1) rfl) (Za 13 15) ?_)))
        obtain ⟨⟨h26, h27⟩, h⟩ := h
        obtain ⟨Ad11, c12, hv11⟩ := Z9 (hC.getP 3 rfl) s10.2.2.1.toNat (show s10.2.2.1.toNat < a0.degrees.length by omega)
        refine aL 4 (.pointer (some (Ad11.add (s10.2.2.1.toNat * 1)))) rfl rfl (hM14 4 rfl) (rfl) (fun _ hB_ => by exact Yv (len := a0.degrees.length) Try.underlying22 sc2.size (by exact tr rfl hv11) rfl h26 h27) (Za 13 31) (aL 5 (.int .i64 (a0.degrees.getD s10.2.2.1.toNat default)) rfl rfl (hM14 5 rfl) (rfl) (fun _ hB_ => by exact Jf (.int .i64 (a0.degrees.getD s10.2.2.1.toNat default)) (Yk ((hC.grow hB_).getP 3 rfl) hv11 s10.2.2.1.toNat (show s10.2.2.1.toNat < a0.degrees.length by omega)) sc2 rfl) (Za 13 63) (aF 6 (.int .i64 s10.2.2.1) rfl rfl (hM10 6 rfl) (rfl) (fun _ => by exact Zg (v := .int .i64 s10.2.2.1) rfl) (Za 13 127) ?_))
        obtain ⟨⟨h28, h29⟩, h⟩ := h
        refine aL 7 (.pointer (some ⟨b10, s10.2.2.1.toNat, none⟩)) rfl rfl (hM14 7 rfl) (rfl) (fun _ hB_ => by exact Jy s10.2.2.1.toNat Try.underlying49 sc5.size rfl rfl h28 h29 (by omega)) (Za 13 255) (aL 8 (.int .u8 (a2.get s10.2.2.1.toNat)) rfl rfl (hM14 8 rfl) (rfl) (fun _ hB_ => by exact Z5 (hC.grow hB_) 10 (.int .u8 (a2.get s10.2.2.1.toNat)) rfl sc5 rfl (A8.enc_get _ _ (show s10.2.2.1.toNat < 8 by omega))) (Za 13 511) (aF 9 (.int .i64 (IntKind.i64.wrap (a2.get s10.2.2.1.toNat))) rfl rfl (hM10 9 rfl) (rfl) (fun _ => by exact Zeb Try.underlying5 Try.underlying2 rfl) (Za 13 1023) (aF 10 (.int .i64 (IntKind.i64.wrap ((a0.degrees.getD s10.2.2.1.toNat default) * (IntKind.i64.wrap (a2.get s10.2.2.1.toNat))))) rfl rfl (hM10 10 rfl) (rfl) (fun _ => by exact Zbh rfl rfl) (Za 13 2047) (Zv 11 (by decide) (by decide) (by kernel_rfl) (by kernel_rfl) rfl (Zq rfl rfl (Zc (v := .int .i64 (IntKind.i64.wrap (s10.2.2.2 + (IntKind.i64.wrap ((a0.degrees.getD s10.2.2.1.toNat default) * (IntKind.i64.wrap (a2.get s10.2.2.1.toNat))))))) rfl (done (Zw (Zt (Zd (Zk ?_)))))))))))
        refine Zb (v := .int .i64 s10.2.2.1) rfl (Zq rfl rfl (Zc (v := .int .i64 (IntKind.i64.wrap (s10.2.2.1 + 1))) rfl (done ?_)))
        replace hC := hC.sM [0, 7, 8, 9, 10, 11, 12] (M' := [own 114 9 u10 r10.terms.length (ETerm.encs r10.terms), blk b14 49 (A8.enc .u8 (s10.2.1.set s10.2.2.1.toNat (a2.get s10.2.2.1.toNat))), blk b13 95 [u10], blk b12 95 [.slice none 0 0], blk b10 49 (A8.enc .u8 a2), blk b11 134 [.int .i64 a1.drop, u1_1], blk b8 32 [u0_0, u0_1]]) (by decide) rfl
        replace hC := hC.sP [1, 2, 3, 4, 5] (Ps' := [Ty.item TForm.sl a1.images [u1_1] fp1, Ty.item TForm.sl a0.images [u0_1] fp0, Ty.item ((EI .i64).ty.sl) a0.degrees [u0_0] fp0, Ty.item TAlg a0 [u0_0, u0_1] fp0, Ty.item TDer a1 [.int .i64 a1.drop, u1_1] fp1]) rfl
        exact hK10 (r10.terms, s10.2.1.set s10.2.2.1.toNat (a2.get s10.2.2.1.toNat), IntKind.i64.wrap (s10.2.2.1 + 1), IntKind.i64.wrap (s10.2.2.2 + (IntKind.i64.wrap ((a0.degrees.getD s10.2.2.1.toNat default) * (IntKind.i64.wrap (a2.get s10.2.2.1.toNat)))))) _ _ ⟨u10, (sl ⟨rfl, rfl, rfl, rfl, rfl, rfl, rfl, rfl, trivial⟩), hC⟩ h
       refine Xc 4 11 rfl rfl (by kernel_rfl) ?_ ?_
       ·skip
        refine Zf [.agg (List.toArray (A8.enc .u8 s10.2.1)), .int .i64 (IntKind.i64.wrap (0 - (IntKind.i64.wrap (a2.get s10.2.2.1.toNat))))] _ Try.func70 rfl rfl rfl (Zaz s10.2.1 (IntKind.i64.wrap (0 - (IntKind.i64.wrap (a2.get s10.2.2.1.toNat)))) h _) (fun ret13 w33 hR13 => ?_)
        obtain ⟨r18, u22, f13, rfl, h, hr15, hf16, hB13⟩ := hR13
        refine ⟨_, rfl, ?_⟩
        replace hC := hC.push hB13 (Tr.item (Zz 114) r18 [u22] f13) hr15 hf16
        obtain ⟨ho13, hf17⟩ := Y8 (hC.getM 0 rfl)
        subst hf17
        replace hC := hC.recast (c := own 114 9 u22 r18.terms.length (ETerm.encs r18.terms)) (fun _ h_ => h_) (fun _ => ho13)
        refine done (aK (by assumption) (Za 13 1023) ?_)
        refine Xc 10 11 rfl rfl (by kernel_rfl) ?_ ?_
        ·skip
         refine Zf [u0_0, .agg #[u22], .agg #[u18]] _ Try.func153 rfl rfl rfl (Zam a0.degrees r18 (a1.images.getD s10.2.2.1.toNat default) h _ (hC.getP 3 rfl) (Yl (Y7 (hC.getM 0 rfl))) (Yl (hC.getP 0 rfl))) (fun ret14 w34 hR14 => ?_)
         obtain ⟨r12, u11, f14, rfl, h, hr16, hf18, hB14⟩ := hR14
         refine ⟨_, rfl, ?_⟩
         replace hC := hC.push hB14 (Tr.item (Zz 114) r12 [u11] f14) hr16 hf18
         obtain ⟨ho14, hf19⟩ := Y8 (hC.getM 0 rfl)
         subst hf19
         replace hC := hC.recast (c := own 114 9 u11 r12.terms.length (ETerm.encs r12.terms)) (fun _ h_ => h_) (fun _ => ho14)
         refine done (aK (by assumption) (Za 13 2047) (aO 11 rfl (Yf hC [.slice none 0 0] z95 rfl fun b18 w35 hB_ hC => done (aK (by assumption) (Za 13 4095) (Zv 12 (by decide) (by decide) (by kernel_rfl) (by kernel_rfl) rfl (Zu (v := .agg #[u11]) hC 0 [u11] [u11] rfl ag95.size rfl rfl rfl rfl (Y3 (Xl (hC.getM 1 rfl)) rfl) (Nat.le_of_ble_eq_true rfl) rfl fun w36 hC => done (Zw ?_)))))))
         replace hC := hC.sM [0, 1, 3, 4, 5, 6, 7, 8, 9, 10] (M' := [blk b18 95 [u11], own 114 9 u11 r12.terms.length (ETerm.encs r12.terms), blk b15 49 (A8.enc .u8 (s11.1.set s10.2.2.1.toNat (IntKind.u8.wrap ((s11.1.get s10.2.2.1.toNat) - 1)))), own 114 9 v10 s10.1.length (ETerm.encs s10.1), blk b14 49 (A8.enc .u8 s10.2.1), blk b13 95 [v10], blk b12 95 [.slice none 0 0], blk b10 49 (A8.enc .u8 a2), blk b11 134 [.int .i64 a1.drop, u1_1], blk b8 32 [u0_0, u0_1]]) (by decide) rfl
         exact ⟨rfl, _, rfl, ⟨b18, u11, r12, (sl ⟨rfl, rfl, rfl, rfl, rfl, rfl, rfl, rfl, rfl, rfl, trivial⟩), hC, h⟩⟩
        ·skip
         refine Yf hC [.slice none 0 0] z95 rfl fun b19 w37 hB_ hC => done (aK (by assumption) (Za 13 3071) (aO 10 rfl ?_))
         refine Zf [u0_0, .agg #[u22], .agg #[u18]] _ Try.func153 rfl rfl rfl (Zam a0.degrees r18 (a1.images.getD s10.2.2.1.toNat default) h _ (hC.getP 3 rfl) (Yl (Y7 (hC.getM 1 rfl))) (Yl (hC.getP 0 rfl))) (fun ret15 w38 hR15 => ?_)
         obtain ⟨r20, u12, f15, rfl, h, hr17, hf20, hB15⟩ := hR15
         refine ⟨_, rfl, ?_⟩
         replace hC := hC.push hB15 (Tr.item (Zz 114) r20 [u12] f15) hr17 hf20
         obtain ⟨ho15, hf21⟩ := Y8 (hC.getM 0 rfl)
         subst hf21
         replace hC := hC.recast (c := own 114 9 u12 r20.terms.length (ETerm.encs r20.terms)) (fun _ h_ => h_) (fun _ => ho15)
         refine done (aK (by assumption) (Za 13 4095) (Zv 12 (by decide) (by decide) (by kernel_rfl) (by kernel_rfl) rfl (Zu (v := .agg #[u12]) hC 1 [u12] [u12] rfl ag95.size rfl rfl rfl rfl (Y3 (Xl (hC.getM 0 rfl)) rfl) (Nat.le_of_ble_eq_true rfl) rfl fun w39 hC => done (Zw ?_))))
         replace hC := hC.sM [1, 0, 3, 4, 5, 6, 7, 8, 9, 10] (M' := [blk b19 95 [u12], own 114 9 u12 r20.terms.length (ETerm.encs r20.terms), blk b15 49 (A8.enc .u8 (s11.1.set s10.2.2.1.toNat (IntKind.u8.wrap ((s11.1.get s10.2.2.1.toNat) - 1)))), own 114 9 v10 s10.1.length (ETerm.encs s10.1), blk b14 49 (A8.enc .u8 s10.2.1), blk b13 95 [v10], blk b12 95 [.slice none 0 0], blk b10 49 (A8.enc .u8 a2), blk b11 134 [.int .i64 a1.drop, u1_1], blk b8 32 [u0_0, u0_1]]) (by decide) rfl
         exact ⟨rfl, _, rfl, ⟨b19, u12, r20, (sl ⟨rfl, rfl, rfl, rfl, rfl, rfl, rfl, rfl, rfl, rfl, trivial⟩), hC, h⟩⟩
       ·skip
        refine Yf hC [.slice none 0 0] z95 rfl fun b20 w40 hB_ hC => done (aK (by assumption) (Za 13 3055) (aO 4 rfl ?_))
        refine Zf [.agg (List.toArray (A8.enc .u8 s10.2.1)), .int .i64 (IntKind.i64.wrap (0 - (IntKind.i64.wrap (a2.get s10.2.2.1.toNat))))] _ Try.func70 rfl rfl rfl (Zaz s10.2.1 (IntKind.i64.wrap (0 - (IntKind.i64.wrap (a2.get s10.2.2.1.toNat)))) h _) (fun ret16 w41 hR16 => ?_)
        obtain ⟨r26, u26, f16, rfl, h, hr18, hf22, hB16⟩ := hR16
        refine ⟨_, rfl, ?_⟩
        replace hC := hC.push hB16 (Tr.item (Zz 114) r26 [u26] f16) hr18 hf22
        obtain ⟨ho16, hf23⟩ := Y8 (hC.getM 0 rfl)
        subst hf23
        replace hC := hC.recast (c := own 114 9 u26 r26.terms.length (ETerm.encs r26.terms)) (fun _ h_ => h_) (fun _ => ho16)
        refine done (aK (by assumption) (Za 13 3071) (aO 10 rfl ?_))
        refine Zf [u0_0, .agg #[u26], .agg #[u18]] _ Try.func153 rfl rfl rfl (Zam a0.degrees r26 (a1.images.getD s10.2.2.1.toNat default) h _ (hC.getP 3 rfl) (Yl (Y7 (hC.getM 0 rfl))) (Yl (hC.getP 0 rfl))) (fun ret17 w42 hR17 => ?_)
        obtain ⟨r21, u13, f17, rfl, h, hr19, hf24, hB17⟩ := hR17
        refine ⟨_, rfl, ?_⟩
        replace hC := hC.push hB17 (Tr.item (Zz 114) r21 [u13] f17) hr19 hf24
        obtain ⟨ho17, hf25⟩ := Y8 (hC.getM 0 rfl)
        subst hf25
        replace hC := hC.recast (c := own 114 9 u13 r21.terms.length (ETerm.encs r21.terms)) (fun _ h_ => h_) (fun _ => ho17)
        refine done (aK (by assumption) (Za 13 4095) (Zv 12 (by decide) (by decide) (by kernel_rfl) (by kernel_rfl) rfl (Zu (v := .agg #[u13]) hC 2 [u13] [u13] rfl ag95.size rfl rfl rfl rfl (Y3 (Xl (hC.getM 0 rfl)) rfl) (Nat.le_of_ble_eq_true rfl) rfl fun w43 hC => done (Zw ?_))))
        replace hC := hC.sM [2, 0, 3, 4, 5, 6, 7, 8, 9, 10] (M' := [blk b20 95 [u13], own 114 9 u13 r21.terms.length (ETerm.encs r21.terms), blk b15 49 (A8.enc .u8 (s11.1.set s10.2.2.1.toNat (IntKind.u8.wrap ((s11.1.get s10.2.2.1.toNat) - 1)))), own 114 9 v10 s10.1.length (ETerm.encs s10.1), blk b14 49 (A8.enc .u8 s10.2.1), blk b13 95 [v10], blk b12 95 [.slice none 0 0], blk b10 49 (A8.enc .u8 a2), blk b11 134 [.int .i64 a1.drop, u1_1], blk b8 32 [u0_0, u0_1]]) (by decide) rfl
        exact ⟨rfl, _, rfl, ⟨b20, u13, r21, (sl ⟨rfl, rfl, rfl, rfl, rfl, rfl, rfl, rfl, rfl, rfl, trivial⟩), hC, h⟩⟩
      ·replace h := Zi h (cf hb13)
       refine wp_skip (Zd (wp_seq ?_))
       refine Ym 12 Yg [0, 1, 0, 0, 12, 0, 32, 0, 224, 480, 1023, 0, 4095] [1, 2, 6, 8, 9] [0, 3, 5, 7] (by kernel_rfl) (by kernel_rfl) (by kernel_rfl) (fun hM15 hM20 w44 hB_ => ?_)
       replace hC := hC.grow hB_
       refine aF 0 (.pointer (some ⟨b8, 0, none⟩)) rfl rfl (hM20 0 rfl) (rfl) (fun _ => by exact Z7 0 Try.underlying32 rfl sc22.size rfl rfl) (Za 13 1) (aL 1 (u0_0) rfl rfl (hM15 1 rfl) (rfl) (fun _ hB_ => by exact Z5 (hC.grow hB_) 7 (u0_0) rfl sc22 rfl rfl) (Za 13 3) (aL 2 (.agg (List.toArray (A8.enc .u8 s10.2.1))) rfl rfl (hM15 2 rfl) (rfl) (fun _ hB_ => by exact Yu (hC.grow hB_) 2 (A8.enc .u8 s10.2.1) rfl ag49 rfl rfl rfl) (Za 13 7) (aF 3 (.int .i64 (IntKind.i64.wrap (a2.get s10.2.2.1.toNat))) rfl rfl (hM20 3 rfl) (rfl) (fun _ => by exact Zg (v := .int .i64 (IntKind.i64.wrap (a2.get s10.2.2.1.toNat))) rfl) (Za 13 15) (aF 5 (.pointer (some ⟨b11, 1, none⟩)) rfl rfl (hM20 5 rfl) (rfl) (fun _ => by exact Z7 1 Try.underlying134 rfl sc30.size rfl rfl) (Za 13 47) (aL 6 (u1_1) rfl rfl (hM15 6 rfl) (rfl) (fun _ hB_ => by exact Z5 (hC.grow hB_) 6 (u1_1) rfl sc30 rfl rfl) (Za 13 111) (aF 7 (.int .i64 s10.2.2.1) rfl rfl (hM20 7 rfl) (rfl) (fun _ => by exact Zg (v := .int .i64 s10.2.2.1) rfl) (Za 13 239) ?_))))))
       obtain ⟨⟨h30, h31⟩, h⟩ := h
       obtain ⟨Ad12, c13, hv12⟩ := Z9 (hC.getP 0 rfl) s10.2.2.1.toNat (show s10.2.2.1.toNat < a1.images.length by omega)
       refine aL 8 (.pointer (some (Ad12.add (s10.2.2.1.toNat * 1)))) rfl rfl (hM15 8 rfl) (rfl) (fun _ hB_ => by exact Yv (len := a1.images.length) Try.underlying30 ag95.size (by exact tr rfl hv12) rfl h30 h31) (Za 13 495) ?_
       obtain ⟨cs_, hl11, hc11, hr11⟩ := X9 (hC.getP 0 rfl) hv12 s10.2.2.1.toNat (show s10.2.2.1.toNat < a1.images.length by omega)
       obtain ⟨u19, rfl⟩ := List.length_eq_one_iff.1 hl11
       clear hl11
       rw [X3 _ _ (show s10.2.2.1.toNat < a1.images.length by omega)] at hr11
       have hp11 := hr11
       replace hC := hC.derive 0 rfl (Ty.item ETerm.ty.sl ((a1.images.getD s10.2.2.1.toNat default).terms) [u19] fp1) (fun _ => (Xb hp11)) (fun _ hb_ => hb_)
       refine aL 9 (.agg #[u19]) rfl rfl (hM15 9 rfl) (rfl) (fun _ hB_ => by exact Xw [u19] (J9 hB_ hc11) ag95 rfl rfl) (Za 13 1007) ?_
       refine Zbb (fun e_ w_ => ∃ (b17 : Nat), ∃ (u21 : Value), ∃ (r25 : Vc.Form), Z4 e_ [(3, .pointer (some ⟨b8, 0, none⟩)), (4, .pointer (some ⟨b11, 0, none⟩)), (5, .pointer (some ⟨b10, 0, none⟩)), (6, .pointer (some ⟨b12, 0, none⟩)), (7, .pointer (some ⟨b13, 0, none⟩)), (8, .pointer (some ⟨b14, 0, none⟩)), (9, .int .i64 s10.2.2.2), (10, .int .i64 s10.2.2.1), (11, .pointer (some ⟨b15, 0, none⟩)), (14, .pointer (some ⟨b17, 0, none⟩))] ∧ Ctx Nox w0 w_ [blk b17 95 [u21], own 114 9 u21 r25.terms.length (ETerm.encs r25.terms), blk b15 49 (A8.enc .u8 (s11.1.set s10.2.2.1.toNat (IntKind.u8.wrap ((s11.1.get s10.2.2.1.toNat) - 1)))), own 114 9 v10 s10.1.length (ETerm.encs s10.1), blk b14 49 (A8.enc .u8 s10.2.1), blk b13 95 [v10], blk b12 95 [.slice none 0 0], blk b10 49 (A8.enc .u8 a2), blk b11 134 [.int .i64 a1.drop, u1_1], blk b8 32 [u0_0, u0_1]] [Ty.item ETerm.ty.sl ((a1.images.getD s10.2.2.1.toNat default).terms) [u19] fp1, Ty.item TForm.sl a1.images [u1_1] fp1, Ty.item TForm.sl a0.images [u0_1] fp0, Ty.item ((EI .i64).ty.sl) a0.degrees [u0_0] fp0, Ty.item TAlg a0 [u0_0, u0_1] fp0, Ty.item TDer a1 [.int .i64 a1.drop, u1_1] fp1] ∧ (X2 (s11.1.set s10.2.2.1.toNat (IntKind.u8.wrap ((s11.1.get s10.2.2.1.toNat) - 1))) 1 (fun r16 => Ja a0.degrees r25 r16 (fun r17 => J4 (⟨s10.1⟩ : Vc.Form) r17 1 (fun r11 => ((0 ≤ s10.2.2.1 ∧ s10.2.2.1 < 8) ∧ ((0 ≤ s10.2.2.1 ∧ s10.2.2.1 < 8) ∧ ((0 ≤ s10.2.2.1 ∧ s10.2.2.1 < (a0.degrees.length : Int)) ∧ ((0 ≤ s10.2.2.1 ∧ s10.2.2.1 < 8) ∧ nx10 (r11.terms, s10.2.1.set s10.2.2.1.toNat (a2.get s10.2.2.1.toNat), IntKind.i64.wrap (s10.2.2.1 + 1), IntKind.i64.wrap (s10.2.2.2 + (IntKind.i64.wrap ((a0.degrees.getD s10.2.2.1.toNat default) * (IntKind.i64.wrap (a2.get s10.2.2.1.toNat))))))))))))))) ?_ ?_
       ·clear hC h
        rintro e_ w45 ⟨b17, u21, r25, hS_, hC, h⟩
        rw [ue hS_]
        refine Zd ?_
        refine Ym 7 Yg [0, 0, 2, 0, 0, 16, 62, 127, 255] [0, 2, 3, 4] [1] (by kernel_rfl) (by kernel_rfl) (by kernel_rfl) (fun hM21 hM23 w46 hB_ => ?_)
        replace hC := hC.grow hB_
        refine aL 0 (.agg #[v10]) rfl rfl (hM21 0 rfl) (rfl) (fun _ hB_ => by exact Yu (hC.grow hB_) 5 [v10] rfl ag95 rfl rfl rfl) (Za 9 1) (aF 1 (.pointer (some ⟨b8, 0, none⟩)) rfl rfl (hM23 1 rfl) (rfl) (fun _ => by exact Z7 0 Try.underlying32 rfl sc22.size rfl rfl) (Za 9 3) (aL 2 (u0_0) rfl rfl (hM21 2 rfl) (rfl) (fun _ hB_ => by exact Z5 (hC.grow hB_) 9 (u0_0) rfl sc22 rfl rfl) (Za 9 7) (aL 3 (.agg #[u21]) rfl rfl (hM21 3 rfl) (rfl) (fun _ hB_ => by exact Yu (hC.grow hB_) 0 [u21] rfl ag95 rfl rfl rfl) (Za 9 15) (aL 4 (.agg (List.toArray (A8.enc .u8 (s11.1.set s10.2.2.1.toNat (IntKind.u8.wrap ((s11.1.get s10.2.2.1.toNat) - 1)))))) rfl rfl (hM21 4 rfl) (rfl) (fun _ hB_ => by exact Yu (hC.grow hB_) 2 (A8.enc .u8 (s11.1.set s10.2.2.1.toNat (IntKind.u8.wrap ((s11.1.get s10.2.2.1.toNat) - 1)))) rfl ag49 rfl rfl rfl) (Za 9 31) (aO 5 rfl ?_)))))
        refine Zf [.agg (List.toArray (A8.enc .u8 (s11.1.set s10.2.2.1.toNat (IntKind.u8.wrap ((s11.1.get s10.2.2.1.toNat) - 1))))), .int .i64 1] _ Try.func70 rfl rfl rfl (Zaz (s11.1.set s10.2.2.1.toNat (IntKind.u8.wrap ((s11.1.get s10.2.2.1.toNat) - 1))) 1 h _) (fun ret18 w47 hR18 => ?_)
        obtain ⟨r16, u27, f18, rfl, h, hr20, hf26, hB18⟩ := hR18
        refine ⟨_, rfl, ?_⟩
        replace hC := hC.push hB18 (Tr.item (Zz 114) r16 [u27] f18) hr20 hf26
        obtain ⟨ho18, hf27⟩ := Y8 (hC.getM 0 rfl)
        subst hf27
        replace hC := hC.recast (c := own 114 9 u27 r16.terms.length (ETerm.encs r16.terms)) (fun _ h_ => h_) (fun _ => ho18)
        refine done (aK (by assumption) (Za 9 63) (aO 6 rfl ?_))
        refine Zf [u0_0, .agg #[u21], .agg #[u27]] _ Try.func153 rfl rfl rfl (Zam a0.degrees r25 r16 h _ (hC.getP 3 rfl) (Yl (Y7 (hC.getM 2 rfl))) (Yl (Y7 (hC.getM 0 rfl)))) (fun ret19 w48 hR19 => ?_)
        obtain ⟨r17, u28, f19, rfl, h, hr21, hf28, hB19⟩ := hR19
        refine ⟨_, rfl, ?_⟩
        replace hC := hC.push hB19 (Tr.item (Zz 114) r17 [u28] f19) hr21 hf28
        obtain ⟨ho19, hf29⟩ := Y8 (hC.getM 0 rfl)
        subst hf29
        replace hC := hC.recast (c := own 114 9 u28 r17.terms.length (ETerm.encs r17.terms)) (fun _ h_ => h_) (fun _ => ho19)
        refine done (aK (by assumption) (Za 9 127) (Zv 7 (by decide) (by decide) (by kernel_rfl) (by kernel_rfl) rfl ?_))
        refine Zf [.agg #[v10], .agg #[u28], .int .i64 1] _ Try.func69 rfl rfl rfl (Zc0 (⟨s10.1⟩ : Vc.Form) r17 1 h _ (Yl (Y7 (hC.getM 5 rfl))) (Yl (Y7 (hC.getM 0 rfl)))) (fun ret20 w49 hR20 => ?_)
        obtain ⟨r11, u14, f20, rfl, h, hr22, hf30, hB20⟩ := hR20
        refine ⟨_, rfl, ?_⟩
        replace hC := hC.push hB20 (Tr.item (Zz 114) r11 [u14] f20) hr22 hf30
        obtain ⟨ho20, hf31⟩ := Y8 (hC.getM 0 rfl)
        subst hf31
        replace hC := hC.recast (c := own 114 9 u14 r11.terms.length (ETerm.encs r11.terms)) (fun _ h_ => h_) (fun _ => ho20)
        refine Zu (v := .agg #[u14]) hC 8 [u14] [u14] rfl ag95.size rfl rfl rfl rfl (Y3 (Xl (hC.getM 0 rfl)) rfl) (Nat.le_of_ble_eq_true rfl) rfl fun w50 hC => done (Zw (Zd (sr (Zb (v := .int .i64 s10.2.2.1) rfl (Zb (v := .int .i64 s10.2.2.1) rfl ?_)))))
        obtain ⟨⟨h32, h33⟩, h⟩ := h
        refine Y1 s10.2.2.1.toNat Try.underlying49 sc5.size rfl rfl h32 h33 (by omega) (Z8 hC 10 (.int .u8 (a2.get s10.2.2.1.toNat)) rfl sc5 rfl (A8.enc_get _ _ (show s10.2.2.1.toNat < 8 by omega)) ?_)
        obtain ⟨⟨h34, h35⟩, h⟩ := h
        refine Y1 s10.2.2.1.toNat Try.underlying49 sc5.size rfl rfl h34 h35 (by omega) (Zu (v := .int .u8 (a2.get s10.2.2.1.toNat)) hC 7 [.int .u8 (a2.get s10.2.2.1.toNat)] (A8.enc .u8 (s10.2.1.set s10.2.2.1.toNat (a2.get s10.2.2.1.toNat))) rfl sc5.size rfl rfl rfl rfl rfl (show s10.2.2.1.toNat < 8 by omega) (A8.enc_set _ _ _ (show s10.2.2.1.toNat < 8 by omega)) fun w51 hC => dn ?_)
        refine Ym 11 Yg [0, 0, 2, 0, 14, 30, 0, 64, 192, 448, 1022, 2047, 4095] [2, 4, 5, 7, 8] [0, 1, 3, 6, 9, 10] (by kernel_rfl) (by kernel_rfl) (by kernel_rfl) (fun hM16 hM11 w52 hB_ => ?_)
        replace hC := hC.grow hB_
        refine aF 0 (.int .i64 s10.2.2.2) rfl rfl (hM11 0 rfl) (rfl) (fun _ => by exact Zg (v := .int .i64 s10.2.2.2) rfl) (Za 13 1) (aF 1 (.pointer (some ⟨b8, 0, none⟩)) rfl rfl (hM11 1 rfl) (rfl) (fun _ => by exact Z7 0 Try.underlying32 rfl sc22.size rfl rfl) (Za 13 3) (aL 2 (u0_0) rfl rfl (hM16 2 rfl) (rfl) (fun _ hB_ => by exact Z5 (hC.grow hB_) 12 (u0_0) rfl sc22 rfl rfl) (Za 13 7) (aF 3 (.int .i64 s10.2.2.1) rfl rfl (hM11 3 rfl) (rfl) (fun _ => by exact Zg (v := .int .i64 s10.2.2.1) rfl) (Za 13 15) ?_)))
        obtain ⟨⟨h36, h37⟩, h⟩ := h
        obtain ⟨Ad13, c14, hv13⟩ := Z9 (hC.getP 3 rfl) s10.2.2.1.toNat (show s10.2.2.1.toNat < a0.degrees.length by omega)
        refine aL 4 (.pointer (some (Ad13.add (s10.2.2.1.toNat * 1)))) rfl rfl (hM16 4 rfl) (rfl) (fun _ hB_ => by exact Yv (len := a0.degrees.length) Try.underlying22 sc2.size (by exact tr rfl hv13) rfl h36 h37) (Za 13 31) (aL 5 (.int .i64 (a0.degrees.getD s10.2.2.1.toNat default)) rfl rfl (hM16 5 rfl) (rfl) (fun _ hB_ => by exact Jf (.int .i64 (a0.degrees.getD s10.2.2.1.toNat default)) (Yk ((hC.grow hB_).getP 3 rfl) hv13 s10.2.2.1.toNat (show s10.2.2.1.toNat < a0.degrees.length by omega)) sc2 rfl) (Za 13 63) (aF 6 (.int .i64 s10.2.2.1) rfl rfl (hM11 6 rfl) (rfl) (fun _ => by exact Zg (v := .int .i64 s10.2.2.1) rfl) (Za 13 127) ?_))
        obtain ⟨⟨h38, h39⟩, h⟩ := h
        refine aL 7 (.pointer (some ⟨b10, s10.2.2.1.toNat, none⟩)) rfl rfl (hM16 7 rfl) (rfl) (fun _ hB_ => by exact Jy s10.2.2.1.toNat Try.underlying49 sc5.size rfl rfl h38 h39 (by omega)) (Za 13 255) (aL 8 (.int .u8 (a2.get s10.2.2.1.toNat)) rfl rfl (hM16 8 rfl) (rfl) (fun _ hB_ => by exact Z5 (hC.grow hB_) 10 (.int .u8 (a2.get s10.2.2.1.toNat)) rfl sc5 rfl (A8.enc_get _ _ (show s10.2.2.1.toNat < 8 by omega))) (Za 13 511) (aF 9 (.int .i64 (IntKind.i64.wrap (a2.get s10.2.2.1.toNat))) rfl rfl (hM11 9 rfl) (rfl) (fun _ => by exact Zeb Try.underlying5 Try.underlying2 rfl) (Za 13 1023) (aF 10 (.int .i64 (IntKind.i64.wrap ((a0.degrees.getD s10.2.2.1.toNat default) * (IntKind.i64.wrap (a2.get s10.2.2.1.toNat))))) rfl rfl (hM11 10 rfl) (rfl) (fun _ => by exact Zbh rfl rfl) (Za 13 2047) (Zv 11 (by decide) (by decide) (by kernel_rfl) (by kernel_rfl) rfl (Zq rfl rfl (Zc (v := .int .i64 (IntKind.i64.wrap (s10.2.2.2 + (IntKind.i64.wrap ((a0.degrees.getD s10.2.2.1.toNat default) * (IntKind.i64.wrap (a2.get s10.2.2.1.toNat))))))) rfl (done (Zw (Zt (Zd (Zk ?_)))))))))))
        refine Zb (v := .int .i64 s10.2.2.1) rfl (Zq rfl rfl (Zc (v := .int .i64 (IntKind.i64.wrap (s10.2.2.1 + 1))) rfl (done ?_)))
        replace hC := hC.sM [0, 7, 8, 9, 10, 11, 12] (M' := [own 114 9 u14 r11.terms.length (ETerm.encs r11.terms), blk b14 49 (A8.enc .u8 (s10.2.1.set s10.2.2.1.toNat (a2.get s10.2.2.1.toNat))), blk b13 95 [u14], blk b12 95 [.slice none 0 0], blk b10 49 (A8.enc .u8 a2), blk b11 134 [.int .i64 a1.drop, u1_1], blk b8 32 [u0_0, u0_1]]) (by decide) rfl
        replace hC := hC.sP [1, 2, 3, 4, 5] (Ps' := [Ty.item TForm.sl a1.images [u1_1] fp1, Ty.item TForm.sl a0.images [u0_1] fp0, Ty.item ((EI .i64).ty.sl) a0.degrees [u0_0] fp0, Ty.item TAlg a0 [u0_0, u0_1] fp0, Ty.item TDer a1 [.int .i64 a1.drop, u1_1] fp1]) rfl
        exact hK10 (r11.terms, s10.2.1.set s10.2.2.1.toNat (a2.get s10.2.2.1.toNat), IntKind.i64.wrap (s10.2.2.1 + 1), IntKind.i64.wrap (s10.2.2.2 + (IntKind.i64.wrap ((a0.degrees.getD s10.2.2.1.toNat default) * (IntKind.i64.wrap (a2.get s10.2.2.1.toNat)))))) _ _ ⟨u14, (sl ⟨rfl, rfl, rfl, rfl, rfl, rfl, rfl, rfl, trivial⟩), hC⟩ h
       refine Xc 4 11 rfl rfl (by kernel_rfl) ?_ ?_
       ·skip
        refine Zf [.agg (List.toArray (A8.enc .u8 s10.2.1)), .int .i64 (IntKind.i64.wrap (a2.get s10.2.2.1.toNat))] _ Try.func70 rfl rfl rfl (Zaz s10.2.1 (IntKind.i64.wrap (a2.get s10.2.2.1.toNat)) h _) (fun ret21 w53 hR21 => ?_)
        obtain ⟨r19, u23, f21, rfl, h, hr23, hf32, hB21⟩ := hR21
        refine ⟨_, rfl, ?_⟩
        replace hC := hC.push hB21 (Tr.item (Zz 114) r19 [u23] f21) hr23 hf32
        obtain ⟨ho21, hf33⟩ := Y8 (hC.getM 0 rfl)
        subst hf33
        replace hC := hC.recast (c := own 114 9 u23 r19.terms.length (ETerm.encs r19.terms)) (fun _ h_ => h_) (fun _ => ho21)
        refine done (aK (by assumption) (Za 13 1023) ?_)
        refine Xc 10 11 rfl rfl (by kernel_rfl) ?_ ?_
        ·skip
         refine Zf [u0_0, .agg #[u23], .agg #[u19]] _ Try.func153 rfl rfl rfl (Zam a0.degrees r19 (a1.images.getD s10.2.2.1.toNat default) h _ (hC.getP 3 rfl) (Yl (Y7 (hC.getM 0 rfl))) (Yl (hC.getP 0 rfl))) (fun ret22 w54 hR22 => ?_)
         obtain ⟨r15, u15, f22, rfl, h, hr24, hf34, hB22⟩ := hR22
         refine ⟨_, rfl, ?_⟩
         replace hC := hC.push hB22 (Tr.item (Zz 114) r15 [u15] f22) hr24 hf34
         obtain ⟨ho22, hf35⟩ := Y8 (hC.getM 0 rfl)
         subst hf35
         replace hC := hC.recast (c := own 114 9 u15 r15.terms.length (ETerm.encs r15.terms)) (fun _ h_ => h_) (fun _ => ho22)
         refine done (aK (by assumption) (Za 13 2047) (aO 11 rfl (Yf hC [.slice none 0 0] z95 rfl fun b21 w55 hB_ hC => done (aK (by assumption) (Za 13 4095) (Zv 12 (by decide) (by decide) (by kernel_rfl) (by kernel_rfl) rfl (Zu (v := .agg #[u15]) hC 0 [u15] [u15] rfl ag95.size rfl rfl rfl rfl (Y3 (Xl (hC.getM 1 rfl)) rfl) (Nat.le_of_ble_eq_true rfl) rfl fun w56 hC => done (Zw ?_)))))))
         replace hC := hC.sM [0, 1, 3, 4, 5, 6, 7, 8, 9, 10] (M' := [blk b21 95 [u15], own 114 9 u15 r15.terms.length (ETerm.encs r15.terms), blk b15 49 (A8.enc .u8 (s11.1.set s10.2.2.1.toNat (IntKind.u8.wrap ((s11.1.get s10.2.2.1.toNat) - 1)))), own 114 9 v10 s10.1.length (ETerm.encs s10.1), blk b14 49 (A8.enc .u8 s10.2.1), blk b13 95 [v10], blk b12 95 [.slice none 0 0], blk b10 49 (A8.enc .u8 a2), blk b11 134 [.int .i64 a1.drop, u1_1], blk b8 32 [u0_0, u0_1]]) (by decide) rfl
         exact ⟨rfl, _, rfl, ⟨b21, u15, r15, (sl ⟨rfl, rfl, rfl, rfl, rfl, rfl, rfl, rfl, rfl, rfl, trivial⟩), hC, h⟩⟩
        ·skip
         refine Yf hC [.slice none 0 0] z95 rfl fun b22 w57 hB_ hC => done (aK (by assumption) (Za 13 3071) (aO 10 rfl ?_))
         refine Zf [u0_0, .agg #[u23], .agg #[u19]] _ Try.func153 rfl rfl rfl (Zam a0.degrees r19 (a1.images.getD s10.2.2.1.toNat default) h _ (hC.getP 3 rfl) (Yl (Y7 (hC.getM 1 rfl))) (Yl (hC.getP 0 rfl))) (fun ret23 w58 hR23 => ?_)
         obtain ⟨r22, u16, f23, rfl, h, hr25, hf36, hB23⟩ := hR23
         refine ⟨_, rfl, ?_⟩
         replace hC := hC.push hB23 (Tr.item (Zz 114) r22 [u16] f23) hr25 hf36
         obtain ⟨ho23, hf37⟩ := Y8 (hC.getM 0 rfl)
         subst hf37
         replace hC := hC.recast (c := own 114 9 u16 r22.terms.length (ETerm.encs r22.terms)) (fun _ h_ => h_) (fun _ => ho23)
         refine done (aK (by assumption) (Za 13 4095) (Zv 12 (by decide) (by decide) (by kernel_rfl) (by kernel_rfl) rfl (Zu (v := .agg #[u16]) hC 1 [u16] [u16] rfl ag95.size rfl rfl rfl rfl (Y3 (Xl (hC.getM 0 rfl)) rfl) (Nat.le_of_ble_eq_true rfl) rfl fun w59 hC => done (Zw ?_))))
         replace hC := hC.sM [1, 0, 3, 4, 5, 6, 7, 8, 9, 10] (M' := [blk b22 95 [u16], own 114 9 u16 r22.terms.length (ETerm.encs r22.terms), blk b15 49 (A8.enc .u8 (s11.1.set s10.2.2.1.toNat (IntKind.u8.wrap ((s11.1.get s10.2.2.1.toNat) - 1)))), own 114 9 v10 s10.1.length (ETerm.encs s10.1), blk b14 49 (A8.enc .u8 s10.2.1), blk b13 95 [v10], blk b12 95 [.slice none 0 0], blk b10 49 (A8.enc .u8 a2), blk b11 134 [.int .i64 a1.drop, u1_1], blk b8 32 [u0_0, u0_1]]) (by decide) rfl
         exact ⟨rfl, _, rfl, ⟨b22, u16, r22, (sl ⟨rfl, rfl, rfl, rfl, rfl, rfl, rfl, rfl, rfl, rfl, trivial⟩), hC, h⟩⟩
       ·skip
        refine Yf hC [.slice none 0 0] z95 rfl fun b23 w60 hB_ hC => done (aK (by assumption) (Za 13 3055) (aO 4 rfl ?_))
        refine Zf [.agg (List.toArray (A8.enc .u8 s10.2.1)), .int .i64 (IntKind.i64.wrap (a2.get s10.2.2.1.toNat))] _ Try.func70 rfl rfl rfl (Zaz s10.2.1 (IntKind.i64.wrap (a2.get s10.2.2.1.toNat)) h _) (fun ret24 w61 hR24 => ?_)
        obtain ⟨r27, u29, f24, rfl, h, hr26, hf38, hB24⟩ := hR24
        refine ⟨_, rfl, ?_⟩
        replace hC := hC.push hB24 (Tr.item (Zz 114) r27 [u29] f24) hr26 hf38
        obtain ⟨ho24, hf39⟩ := Y8 (hC.getM 0 rfl)
        subst hf39
        replace hC := hC.recast (c := own 114 9 u29 r27.terms.length (ETerm.encs r27.terms)) (fun _ h_ => h_) (fun _ => ho24)
        refine done (aK (by assumption) (Za 13 3071) (aO 10 rfl ?_))
        refine Zf [u0_0, .agg #[u29], .agg #[u19]] _ Try.func153 rfl rfl rfl (Zam a0.degrees r27 (a1.images.getD s10.2.2.1.toNat default) h _ (hC.getP 3 rfl) (Yl (Y7 (hC.getM 0 rfl))) (Yl (hC.getP 0 rfl))) (fun ret25 w62 hR25 => ?_)
        obtain ⟨r23, u17, f25, rfl, h, hr27, hf40, hB25⟩ := hR25
        refine ⟨_, rfl, ?_⟩
        replace hC := hC.push hB25 (Tr.item (Zz 114) r23 [u17] f25) hr27 hf40
        obtain ⟨ho25, hf41⟩ := Y8 (hC.getM 0 rfl)
        subst hf41
        replace hC := hC.recast (c := own 114 9 u17 r23.terms.length (ETerm.encs r23.terms)) (fun _ h_ => h_) (fun _ => ho25)
        refine done (aK (by assumption) (Za 13 4095) (Zv 12 (by decide) (by decide) (by kernel_rfl) (by kernel_rfl) rfl (Zu (v := .agg #[u17]) hC 2 [u17] [u17] rfl ag95.size rfl rfl rfl rfl (Y3 (Xl (hC.getM 0 rfl)) rfl) (Nat.le_of_ble_eq_true rfl) rfl fun w63 hC => done (Zw ?_))))
        replace hC := hC.sM [2, 0, 3, 4, 5, 6, 7, 8, 9, 10] (M' := [blk b23 95 [u17], own 114 9 u17 r23.terms.length (ETerm.encs r23.terms), blk b15 49 (A8.enc .u8 (s11.1.set s10.2.2.1.toNat (IntKind.u8.wrap ((s11.1.get s10.2.2.1.toNat) - 1)))), own 114 9 v10 s10.1.length (ETerm.encs s10.1), blk b14 49 (A8.enc .u8 s10.2.1), blk b13 95 [v10], blk b12 95 [.slice none 0 0], blk b10 49 (A8.enc .u8 a2), blk b11 134 [.int .i64 a1.drop, u1_1], blk b8 32 [u0_0, u0_1]]) (by decide) rfl
        exact ⟨rfl, _, rfl, ⟨b23, u17, r23, (sl ⟨rfl, rfl, rfl, rfl, rfl, rfl, rfl, rfl, rfl, rfl, trivial⟩), hC, h⟩⟩
    ·skip
     exact ⟨(sl ⟨rfl, rfl, rfl, rfl, rfl, rfl, rfl, rfl, rfl, rfl, trivial⟩), hC⟩
   ·replace h := Zi h (cf hb11)
    refine wp_skip (Zd (sr (Zb (v := .int .i64 s10.2.2.1) rfl (Zb (v := .int .i64 s10.2.2.1) rfl ?_))))
    obtain ⟨⟨h40, h41⟩, h⟩ := h
    refine Y1 s10.2.2.1.toNat Try.underlying49 sc5.size rfl rfl h40 h41 (by omega) (Z8 hC 4 (.int .u8 (a2.get s10.2.2.1.toNat)) rfl sc5 rfl (A8.enc_get _ _ (show s10.2.2.1.toNat < 8 by omega)) ?_)
    obtain ⟨⟨h42, h43⟩, h⟩ := h
    refine Y1 s10.2.2.1.toNat Try.underlying49 sc5.size rfl rfl h42 h43 (by omega) (Zu (v := .int .u8 (a2.get s10.2.2.1.toNat)) hC 1 [.int .u8 (a2.get s10.2.2.1.toNat)] (A8.enc .u8 (s10.2.1.set s10.2.2.1.toNat (a2.get s10.2.2.1.toNat))) rfl sc5.size rfl rfl rfl rfl rfl (show s10.2.2.1.toNat < 8 by omega) (A8.enc_set _ _ _ (show s10.2.2.1.toNat < 8 by omega)) fun w64 hC => dn ?_)
    refine Ym 11 Yg [0, 0, 2, 0, 14, 30, 0, 64, 192, 448, 1022, 2047, 4095] [2, 4, 5, 7, 8] [0, 1, 3, 6, 9, 10] (by kernel_rfl) (by kernel_rfl) (by kernel_rfl) (fun hM17 hM12 w65 hB_ => ?_)
    replace hC := hC.grow hB_
    refine aF 0 (.int .i64 s10.2.2.2) rfl rfl (hM12 0 rfl) (rfl) (fun _ => by exact Zg (v := .int .i64 s10.2.2.2) rfl) (Za 13 1) (aF 1 (.pointer (some ⟨b8, 0, none⟩)) rfl rfl (hM12 1 rfl) (rfl) (fun _ => by exact Z7 0 Try.underlying32 rfl sc22.size rfl rfl) (Za 13 3) (aL 2 (u0_0) rfl rfl (hM17 2 rfl) (rfl) (fun _ hB_ => by exact Z5 (hC.grow hB_) 6 (u0_0) rfl sc22 rfl rfl) (Za 13 7) (aF 3 (.int .i64 s10.2.2.1) rfl rfl (hM12 3 rfl) (rfl) (fun _ => by exact Zg (v := .int .i64 s10.2.2.1) rfl) (Za 13 15) ?_)))
    obtain ⟨⟨h44, h45⟩, h⟩ := h
    obtain ⟨Ad14, c15, hv14⟩ := Z9 (hC.getP 2 rfl) s10.2.2.1.toNat (show s10.2.2.1.toNat < a0.degrees.length by omega)
    refine aL 4 (.pointer (some (Ad14.add (s10.2.2.1.toNat * 1)))) rfl rfl (hM17 4 rfl) (rfl) (fun _ hB_ => by exact Yv (len := a0.degrees.length) Try.underlying22 sc2.size (by exact tr rfl hv14) rfl h44 h45) (Za 13 31) (aL 5 (.int .i64 (a0.degrees.getD s10.2.2.1.toNat default)) rfl rfl (hM17 5 rfl) (rfl) (fun _ hB_ => by exact Jf (.int .i64 (a0.degrees.getD s10.2.2.1.toNat default)) (Yk ((hC.grow hB_).getP 2 rfl) hv14 s10.2.2.1.toNat (show s10.2.2.1.toNat < a0.degrees.length by omega)) sc2 rfl) (Za 13 63) (aF 6 (.int .i64 s10.2.2.1) rfl rfl (hM12 6 rfl) (rfl) (fun _ => by exact Zg (v := .int .i64 s10.2.2.1) rfl) (Za 13 127) ?_))
    obtain ⟨⟨h46, h47⟩, h⟩ := h
    refine aL 7 (.pointer (some ⟨b10, s10.2.2.1.toNat, none⟩)) rfl rfl (hM17 7 rfl) (rfl) (fun _ hB_ => by exact Jy s10.2.2.1.toNat Try.underlying49 sc5.size rfl rfl h46 h47 (by omega)) (Za 13 255) (aL 8 (.int .u8 (a2.get s10.2.2.1.toNat)) rfl rfl (hM17 8 rfl) (rfl) (fun _ hB_ => by exact Z5 (hC.grow hB_) 4 (.int .u8 (a2.get s10.2.2.1.toNat)) rfl sc5 rfl (A8.enc_get _ _ (show s10.2.2.1.toNat < 8 by omega))) (Za 13 511) (aF 9 (.int .i64 (IntKind.i64.wrap (a2.get s10.2.2.1.toNat))) rfl rfl (hM12 9 rfl) (rfl) (fun _ => by exact Zeb Try.underlying5 Try.underlying2 rfl) (Za 13 1023) (aF 10 (.int .i64 (IntKind.i64.wrap ((a0.degrees.getD s10.2.2.1.toNat default) * (IntKind.i64.wrap (a2.get s10.2.2.1.toNat))))) rfl rfl (hM12 10 rfl) (rfl) (fun _ => by exact Zbh rfl rfl) (Za 13 2047) (Zv 11 (by decide) (by decide) (by kernel_rfl) (by kernel_rfl) rfl (Zq rfl rfl (Zc (v := .int .i64 (IntKind.i64.wrap (s10.2.2.2 + (IntKind.i64.wrap ((a0.degrees.getD s10.2.2.1.toNat default) * (IntKind.i64.wrap (a2.get s10.2.2.1.toNat))))))) rfl (done (Zw (Zt (Zd (Zk ?_)))))))))))
    refine Zb (v := .int .i64 s10.2.2.1) rfl (Zq rfl rfl (Zc (v := .int .i64 (IntKind.i64.wrap (s10.2.2.1 + 1))) rfl (done ?_)))
    exact hK10 (s10.1, s10.2.1.set s10.2.2.1.toNat (a2.get s10.2.2.1.toNat), IntKind.i64.wrap (s10.2.2.1 + 1), IntKind.i64.wrap (s10.2.2.2 + (IntKind.i64.wrap ((a0.degrees.getD s10.2.2.1.toNat default) * (IntKind.i64.wrap (a2.get s10.2.2.1.toNat)))))) _ _ ⟨v10, (sl ⟨rfl, rfl, rfl, rfl, rfl, rfl, rfl, rfl, trivial⟩), hC⟩ h
  ·replace h := Zi h (cf hb10)
   refine wp_exit (Zl (Zl (Yc ?_)))
   refine Zd (sr (Ys hC 2 [v10] rfl ag95 rfl rfl rfl (Zu (v := .agg #[v10]) hC 3 [v10] [v10] rfl ag95.size rfl rfl rfl rfl (Y3 (Xl (hC.getM 0 rfl)) rfl) (Nat.le_of_ble_eq_true rfl) rfl fun w66 hC => dn (wp_ret ?_))))
   refine Zo (fn := Try.f154) rfl ?_ ⟨(⟨s10.1⟩ : Vc.Form), v10, (Option.toList (Value.ownBlock v10)), rfl, h, (Zau (Js (hC.getM 0 rfl))), (Zae hC 0 rfl), hC.below⟩ (.inl rfl)
   exact J3 hC 3 rfl ag95 rfl rfl
 ·skip
  replace hC := hC.pushNil 114 9
  exact ⟨.slice none 0 0, (sl ⟨rfl, rfl, rfl, rfl, rfl, rfl, rfl, rfl, trivial⟩), hC⟩
def Zf9 (a0 : Alg) (a1 : Der) (a2 : Vc.Form) (K : Vc.Form → Prop) : Prop :=
 Xf (fun (s10 : (List Term) × Int) nx10 => (if s10.2 < (a2.terms.length : Int) then ((0 ≤ s10.2 ∧ s10.2 < (a2.terms.length : Int)) ∧ ((0 ≤ s10.2 ∧ s10.2 < (a2.terms.length : Int)) ∧ Zf8 a0 a1 ((a2.terms.getD s10.2.toNat default).mono) (fun r11 => J4 (⟨s10.1⟩ : Vc.Form) r11 ((a2.terms.getD s10.2.toNat default).factor) (fun r10 => nx10 (r10.terms, IntKind.i64.wrap (s10.2 + 1)))))) else K (⟨s10.1⟩ : Vc.Form))) ([], 0)
theorem Ztp (a0 : Alg) (a1 : Der) (a2 : Vc.Form) {u0_0 : Value} {u0_1 : Value} {u1_0 : Value} {u1_1 : Value} {u2_0 : Value} {fp0 : List Nat} {fp1 : List Nat} {fp2 : List Nat} {K : Vc.Form → Prop} (h : Zf9 a0 a1 a2 K) (w0 : World) (q0 : TAlg.rep a0 [u0_0, u0_1] fp0 w0) (q1 : TDer.rep a1 [u1_0, u1_1] fp1 w0) (q2 : TForm.rep a2 [u2_0] fp2 w0) :
  Calls Try.prog 134 #[.agg #[u0_0, u0_1], .agg #[u1_0, u1_1], .agg #[u2_0]] w0 fun e w' => ∃ (r0 : Vc.Form) (z0_0 : Value) (fz0 : List Nat), 
   e = .returned (.agg #[z0_0]) ∧ K r0 ∧ (Tr.item (Zz 114) r0 [z0_0] fz0).holds w' ∧ (∀ b, b ∈ fz0 → w0.heap.size ≤ b) ∧ Bel w0 w' := by
 unfold Zf9 at h
 refine Z6 (args := [.agg #[u0_0, u0_1], .agg #[u1_0, u1_1], .agg #[u2_0]]) Try.func134 rfl 35 Try.ntmps134 (Nat.le_of_ble_eq_true rfl) ?_
 have hC := Ctx.start (X := Nox) w0 [Ty.item TAlg a0 [u0_0, u0_1] fp0, Ty.item TDer a1 [u1_0, u1_1] fp1, Ty.item TForm a2 [u2_0] fp2] (by simp only [List.mem_cons, List.not_mem_nil, or_false, forall_eq_or_imp, forall_eq]; exact ⟨q0, q1, q2⟩)
 have hp4 := (hC.getP 0 rfl)
 replace hC := hC.derive 0 rfl (Ty.item ((EI .i64).ty.sl) a0.degrees [u0_0] fp0) (fun _ => (Yt hp4).1) (fun _ hb_ => hb_)
 replace hC := hC.derive 1 rfl (Ty.item TForm.sl a0.images [u0_1] fp0) (fun _ => (Yt hp4).2) (fun _ hb_ => hb_)
 have hp7 := (hC.getP 3 rfl)
 obtain rfl := (Zbk hp7).1
 replace hC := hC.derive 3 rfl (Ty.item TForm.sl a1.images [u1_1] fp1) (fun _ => (Zbk hp7).2) (fun _ hb_ => hb_)
 have hp9 := (hC.getP 5 rfl)
 replace hC := hC.derive 5 rfl (Ty.item ETerm.ty.sl a2.terms [u2_0] fp2) (fun _ => (Xb hp9)) (fun _ hb_ => hb_)
 refine sr (Ye (v := .agg #[u0_0, u0_1]) hC [u0_0, u0_1] rfl rfl fun b11 w10 hB_ hC => Ye (v := .agg #[.int .i64 a1.drop, u1_1]) hC [.int .i64 a1.drop, u1_1] rfl rfl fun b12 w11 hB_ hC => Ye (v := .agg #[u2_0]) hC [u2_0] rfl rfl fun b10 w12 hB_ hC => Yf hC [.slice none 0 0] z95 rfl fun b13 w13 hB_ hC => dn (sr (Jd [] rfl (Zcx   _) (Yf hC [.slice none 0 0] z95 rfl fun b14 w14 hB_ hC => Zu (v := .agg #[.slice none 0 0]) hC 0 [.slice none 0 0] [.slice none 0 0] rfl ag95.size rfl rfl rfl rfl rfl (Nat.le_of_ble_eq_true rfl) rfl fun w15 hC => dn (wp_seq ?_)))))
 refine sr (Zc (v := .int .i64 0) rfl (dn (wp_block ?_)))
 refine Xu (S := (List Term) × Int) _ (fun s10 e_ w_ => ∃ (v10 : Value), Z4 e_ [(3, .pointer (some ⟨b11, 0, none⟩)), (4, .pointer (some ⟨b12, 0, none⟩)), (5, .pointer (some ⟨b10, 0, none⟩)), (6, .pointer (some ⟨b13, 0, none⟩)), (7, .pointer (some ⟨b14, 0, none⟩)), (8, .int .i64 s10.2)] ∧ Ctx Nox w0 w_ [own 114 9 v10 s10.1.length (ETerm.encs s10.1), blk b14 95 [v10], blk b13 95 [.slice none 0 0], blk b10 95 [u2_0], blk b12 134 [.int .i64 a1.drop, u1_1], blk b11 32 [u0_0, u0_1]] [Ty.item ETerm.ty.sl a2.terms [u2_0] fp2, Ty.item TForm.sl a1.images [u1_1] fp1, Ty.item TForm.sl a0.images [u0_1] fp0, Ty.item ((EI .i64).ty.sl) a0.degrees [u0_0] fp0, Ty.item TAlg a0 [u0_0, u0_1] fp0, Ty.item TDer a1 [.int .i64 a1.drop, u1_1] fp1, Ty.item TForm a2 [u2_0] fp2]) ?_ (s0 := ([], 0)) ?_ h
 ·clear hC h
  rintro s10 e_ w16 nx10 K10 ⟨v10, hS_, hC⟩ h hK10
  rw [ue hS_]
  refine wp_seq (sr (Zb (v := .int .i64 s10.2) rfl (Z1 0 Try.underlying95 rfl sc93.size rfl rfl (Z8 hC 3 (u2_0) rfl sc93 rfl rfl ?_))))
  obtain ⟨Ad12, c10, hv12⟩ := Z2 (hC.getP 0 rfl)
  refine Z0 Try.underlying93 (tr rfl hv12) (Zs rfl rfl (dn ?_))
  refine Zr rfl (fun hb10 => ?_) (fun hb10 => ?_)
  ·replace h := ift h (ct hb10)
   refine wp_skip (Zd (wp_seq (wp_block ?_)))
   refine Ym 16 Yg [0, 0, 0, 0, 8, 0, 56, 120, 248, 510, 0, 1024, 0, 7168, 15360, 31744, 65535, 131071] [0, 1, 2, 4, 6, 8, 11, 13, 15] [3, 5, 7, 10, 12, 14] (by kernel_rfl) (by kernel_rfl) (by kernel_rfl) (fun hM10 hM11 w17 hB_ => ?_)
   replace hC := hC.grow hB_
   refine aL 0 (.agg #[v10]) rfl rfl (hM10 0 rfl) (rfl) (fun _ hB_ => by exact Yu (hC.grow hB_) 1 [v10] rfl ag95 rfl rfl rfl) (Za 18 1) (aL 1 (.agg #[u0_0, u0_1]) rfl rfl (hM10 1 rfl) (rfl) (fun _ hB_ => by exact Yu (hC.grow hB_) 5 [u0_0, u0_1] rfl ag32 rfl rfl rfl) (Za 18 3) (aL 2 (.agg #[.int .i64 a1.drop, u1_1]) rfl rfl (hM10 2 rfl) (rfl) (fun _ hB_ => by exact Yu (hC.grow hB_) 4 [.int .i64 a1.drop, u1_1] rfl ag134 rfl rfl rfl) (Za 18 7) (aF 3 (.pointer (some ⟨b10, 0, none⟩)) rfl rfl (hM11 3 rfl) (rfl) (fun _ => by exact Z7 0 Try.underlying95 rfl sc93.size rfl rfl) (Za 18 15) (aL 4 (u2_0) rfl rfl (hM10 4 rfl) (rfl) (fun _ hB_ => by exact Z5 (hC.grow hB_) 3 (u2_0) rfl sc93 rfl rfl) (Za 18 31) (aF 5 (.int .i64 s10.2) rfl rfl (hM11 5 rfl) (rfl) (fun _ => by exact Zg (v := .int .i64 s10.2) rfl) (Za 18 63) ?_)))))
   obtain ⟨⟨h10, h11⟩, h⟩ := h
   obtain ⟨Ad10, c11, hv10⟩ := Z9 (hC.getP 0 rfl) s10.2.toNat (show s10.2.toNat < a2.terms.length by omega)
   refine aL 6 (.pointer (some (Ad10.add (s10.2.toNat * 9)))) rfl rfl (hM10 6 rfl) (rfl) (fun _ hB_ => by exact Yv (len := a2.terms.length) Try.underlying93 ag114.size (by exact tr rfl hv10) rfl h10 h11) (Za 18 127) (aF 7 (.pointer (some (Ad10.add (s10.2.toNat * 9 + 0)))) rfl rfl (hM11 7 rfl) (rfl) (fun _ => by exact Zaj (s10.2.toNat * 9 + 0) Try.underlying114 rfl ag49.size rfl rfl) (Za 18 255) (aL 8 (.agg (List.toArray (A8.enc .u8 ((a2.terms.getD s10.2.toNat default).mono)))) rfl rfl (hM10 8 rfl) (rfl) (fun _ hB_ => by exact Xw (A8.enc .u8 ((a2.terms.getD s10.2.toNat default).mono)) (Jq (o := 0) (k := 8) (Yk ((hC.grow hB_).getP 0 rfl) hv10 s10.2.toNat (show s10.2.toNat < a2.terms.length by omega)) rfl) ag49 rfl rfl) (Za 18 511) (aF 10 (.pointer (some ⟨b10, 0, none⟩)) rfl rfl (hM11 10 rfl) (rfl) (fun _ => by exact Z7 0 Try.underlying95 rfl sc93.size rfl rfl) (Za 18 1535) (aL 11 (u2_0) rfl rfl (hM10 11 rfl) (rfl) (fun _ hB_ => by exact Z5 (hC.grow hB_) 3 (u2_0) rfl sc93 rfl rfl) (Za 18 3583) (aF 12 (.int .i64 s10.2) rfl rfl (hM11 12 rfl) (rfl) (fun _ => by exact Zg (v := .int .i64 s10.2) rfl) (Za 18 7679) ?_)))))
   obtain ⟨⟨h12, h13⟩, h⟩ := h
   obtain ⟨Ad11, c12, hv11⟩ := Z9 (hC.getP 0 rfl) s10.2.toNat (show s10.2.toNat < a2.terms.length by omega)
   refine aL 13 (.pointer (some (Ad11.add (s10.2.toNat * 9)))) rfl rfl (hM10 13 rfl) (rfl) (fun _ hB_ => by exact Yv (len := a2.terms.length) Try.underlying93 ag114.size (by exact tr rfl hv11) rfl h12 h13) (Za 18 15871) (aF 14 (.pointer (some (Ad11.add (s10.2.toNat * 9 + 8)))) rfl rfl (hM11 14 rfl) (rfl) (fun _ => by exact Zaj (s10.2.toNat * 9 + 8) Try.underlying114 rfl sc2.size rfl rfl) (Za 18 32255) (aL 15 (.int .i64 ((a2.terms.getD s10.2.toNat default).factor)) rfl rfl (hM10 15 rfl) (rfl) (fun _ hB_ => by exact Jf (.int .i64 ((a2.terms.getD s10.2.toNat default).factor)) (Jq (o := 8) (k := 1) (Yk ((hC.grow hB_).getP 0 rfl) hv11 s10.2.toNat (show s10.2.toNat < a2.terms.length by omega)) rfl) sc2 rfl) (Za 18 65023) (aO 9 rfl ?_)))
   refine Zf [.agg #[u0_0, u0_1], .agg #[.int .i64 a1.drop, u1_1], .agg (List.toArray (A8.enc .u8 ((a2.terms.getD s10.2.toNat default).mono)))] _ Try.func154 rfl rfl rfl (Zto a0 a1 ((a2.terms.getD s10.2.toNat default).mono) h _ (Xr (hC.getP 3 rfl) (hC.getP 2 rfl)) (Zgu (hC.getP 1 rfl))) (fun ret10 w18 hR10 => ?_)
   obtain ⟨r11, u11, f10, rfl, h, hr10, hf10, hB10⟩ := hR10
   refine ⟨_, rfl, ?_⟩
   replace hC := hC.push hB10 (Tr.item (Zz 114) r11 [u11] f10) hr10 hf10
   obtain ⟨ho10, hf11⟩ := Y8 (hC.getM 0 rfl)
   subst hf11
   replace hC := hC.recast (c := own 114 9 u11 r11.terms.length (ETerm.encs r11.terms)) (fun _ h_ => h_) (fun _ => ho10)
   refine done (aK (by assumption) (Za 18 65535) (Zv 16 (by decide) (by decide) (by kernel_rfl) (by kernel_rfl) rfl ?_))
   refine Zf [.agg #[v10], .agg #[u11], .int .i64 ((a2.terms.getD s10.2.toNat default).factor)] _ Try.func69 rfl rfl rfl (Zc0 (⟨s10.1⟩ : Vc.Form) r11 ((a2.terms.getD s10.2.toNat default).factor) h _ (Yl (Y7 (hC.getM 1 rfl))) (Yl (Y7 (hC.getM 0 rfl)))) (fun ret11 w19 hR11 => ?_)
   obtain ⟨r10, u10, f11, rfl, h, hr11, hf12, hB11⟩ := hR11
   refine ⟨_, rfl, ?_⟩
   replace hC := hC.push hB11 (Tr.item (Zz 114) r10 [u10] f11) hr11 hf12
   obtain ⟨ho11, hf13⟩ := Y8 (hC.getM 0 rfl)
   subst hf13
   replace hC := hC.recast (c := own 114 9 u10 r10.terms.length (ETerm.encs r10.terms)) (fun _ h_ => h_) (fun _ => ho11)
   refine Zu (v := .agg #[u10]) hC 3 [u10] [u10] rfl ag95.size rfl rfl rfl rfl (Y3 (Xl (hC.getM 0 rfl)) rfl) (Nat.le_of_ble_eq_true rfl) rfl fun w20 hC => done (Zw (Zt (Zd (Zk (Zb (v := .int .i64 s10.2) rfl (Zq rfl rfl (Zc (v := .int .i64 (IntKind.i64.wrap (s10.2 + 1))) rfl (done ?_))))))))
   replace hC := hC.sM [0, 3, 4, 5, 6, 7] (M' := [own 114 9 u10 r10.terms.length (ETerm.encs r10.terms), blk b14 95 [u10], blk b13 95 [.slice none 0 0], blk b10 95 [u2_0], blk b12 134 [.int .i64 a1.drop, u1_1], blk b11 32 [u0_0, u0_1]]) (by decide) rfl
   exact hK10 (r10.terms, IntKind.i64.wrap (s10.2 + 1)) _ _ ⟨u10, (sl ⟨rfl, rfl, rfl, rfl, rfl, rfl, trivial⟩), hC⟩ h
  ·replace h := Zi h (cf hb10)
   refine wp_exit (Zl (Zl (Yc ?_)))
   refine Zd (sr (Ys hC 1 [v10] rfl ag95 rfl rfl rfl (Zu (v := .agg #[v10]) hC 2 [v10] [v10] rfl ag95.size rfl rfl rfl rfl (Y3 (Xl (hC.getM 0 rfl)) rfl) (Nat.le_of_ble_eq_true rfl) rfl fun w21 hC => dn (wp_ret ?_))))
   refine Zo (fn := Try.f134) rfl ?_ ⟨(⟨s10.1⟩ : Vc.Form), v10, (Option.toList (Value.ownBlock v10)), rfl, h, (Zau (Js (hC.getM 0 rfl))), (Zae hC 0 rfl), hC.below⟩ (.inl rfl)
   exact J3 hC 2 rfl ag95 rfl rfl
 ·skip
  replace hC := hC.pushNil 114 9
  exact ⟨.slice none 0 0, (sl ⟨rfl, rfl, rfl, rfl, rfl, rfl, trivial⟩), hC⟩
def Zga (a0 : Int) (a1 : Int) (K : Int → Prop) : Prop :=
 (if Int.tmod (IntKind.i64.wrap (a0 * a1)) 2 ≠ 0 then K 1 else K 10006)
theorem Ztq (a0 : Int) (a1 : Int)  {K : Int → Prop} (h : Zga a0 a1 K) (w0 : World)  :
  Calls Try.prog 135 #[.int .i64 a0, .int .i64 a1] w0 fun e w' => ∃ (r0 : Int), 
   e = .returned (.int .i64 r0) ∧ K r0 ∧ Bel w0 w' := by
 unfold Zga at h
 refine Z6 (args := [.int .i64 a0, .int .i64 a1]) Try.func135 rfl 10 Try.ntmps135 (Nat.le_of_ble_eq_true rfl) ?_
 have hC := Ctx.start (X := Nox) w0 [] (by simp)
 refine sr (Zc (v := .int .i64 0) rfl (dn (wp_seq (sr (Zb (v := .int .i64 a0) rfl (Zb (v := .int .i64 a1) rfl (Zad rfl rfl (Jk rfl rfl (by decide) (Xj rfl rfl (dn ?_))))))))))
 refine Zr rfl (fun hb1 => ?_) (fun hb1 => ?_)
 ·replace h := ift h (ct hb1)
  refine sr (Zc (v := .int .i64 1) rfl (dn ?_))
  refine wp_ret (Zj ?_)
  refine Zo (fn := Try.f135) rfl ?_ ⟨1, rfl, h, hC.below⟩ (.inl rfl)
  exact Zh rfl
 ·replace h := Zi h (cf hb1)
  refine wp_skip (Zd (sr (Zc (v := .int .i64 10006) rfl (dn (wp_ret ?_)))))
  refine Zo (fn := Try.f135) rfl ?_ ⟨10006, rfl, h, hC.below⟩ (.inl rfl)
  exact Zh rfl
def Zgb (a0 : Alg) (a1 : Der) (K : Der → Prop) : Prop :=
 Xf (fun (s10 : (List Vc.Form) × Int) nx10 => (if s10.2 < (a1.images.length : Int) then ((0 ≤ s10.2 ∧ s10.2 < (a1.images.length : Int)) ∧ ((0 ≤ s10.2 ∧ s10.2 < (a0.images.length : Int)) ∧ Zdo a0 (a1.images.getD s10.2.toNat default) (fun r11 => Zf9 a0 a1 (a0.images.getD s10.2.toNat default) (fun r12 => Zga a1.drop 1 (fun r13 => J4 r11 r12 r13 (fun r10 => (Xp (s10.1.length + 1) 24 ∧ nx10 (s10.1 ++ [r10], IntKind.i64.wrap (s10.2 + 1))))))))) else K (⟨IntKind.i64.wrap (a1.drop - 1), s10.1⟩ : Der))) ([], 0)
theorem Ztr (a0 : Alg) (a1 : Der) {u0_0 : Value} {u0_1 : Value} {u1_0 : Value} {u1_1 : Value} {fp0 : List Nat} {fp1 : List Nat} {K : Der → Prop} (h : Zgb a0 a1 K) (w0 : World) (q0 : TAlg.rep a0 [u0_0, u0_1] fp0 w0) (q1 : TDer.rep a1 [u1_0, u1_1] fp1 w0) :
  Calls Try.prog 101 #[.agg #[u0_0, u0_1], .agg #[u1_0, u1_1]] w0 fun e w' => ∃ (r0 : Der) (z0_0 : Value) (z0_1 : Value) (fz0 : List Nat), 
   e = .returned (.agg #[z0_0, z0_1]) ∧ K r0 ∧ (Tr.item (Jv 114 95) r0 [z0_0, z0_1] fz0).holds w' ∧ (∀ b, b ∈ fz0 → w0.heap.size ≤ b) ∧ Bel w0 w' := by
 unfold Zgb at h
 refine Z6 (args := [.agg #[u0_0, u0_1], .agg #[u1_0, u1_1]]) Try.func101 rfl 43 Try.ntmps101 (Nat.le_of_ble_eq_true rfl) ?_
 have hC := Ctx.start (X := Nox) w0 [Ty.item TAlg a0 [u0_0, u0_1] fp0, Ty.item TDer a1 [u1_0, u1_1] fp1] (by simp only [List.mem_cons, List.not_mem_nil, or_false, forall_eq_or_imp, forall_eq]; exact ⟨q0, q1⟩)
 have hp3 := (hC.getP 0 rfl)
 replace hC := hC.derive 0 rfl (Ty.item ((EI .i64).ty.sl) a0.degrees [u0_0] fp0) (fun _ => (Yt hp3).1) (fun _ hb_ => hb_)
 replace hC := hC.derive 1 rfl (Ty.item TForm.sl a0.images [u0_1] fp0) (fun _ => (Yt hp3).2) (fun _ hb_ => hb_)
 have hp6 := (hC.getP 3 rfl)
 obtain rfl := (Zbk hp6).1
 replace hC := hC.derive 3 rfl (Ty.item TForm.sl a1.images [u1_1] fp1) (fun _ => (Zbk hp6).2) (fun _ hb_ => hb_)
 refine sr (Ye (v := .agg #[u0_0, u0_1]) hC [u0_0, u0_1] rfl rfl fun b8 w10 hB_ hC => Ye (v := .agg #[.int .i64 a1.drop, u1_1]) hC [.int .i64 a1.drop, u1_1] rfl rfl fun b10 w11 hB_ hC => Yf hC [.int .i64 0, .slice none 0 0] Zj0 rfl fun b12 w12 hB_ hC => dn (sr (Z1 0 Try.underlying134 rfl sc2.size rfl rfl (Z8 hC 1 (.int .i64 a1.drop) rfl sc2 rfl rfl (J5 rfl rfl (Jd [(0, .int .i64 (IntKind.i64.wrap (a1.drop - 1)))] rfl (Ztb (IntKind.i64.wrap (a1.drop - 1))  _) (Yf hC [.int .i64 0, .slice none 0 0] Zj0 rfl fun b11 w13 hB_ hC => Zu (v := .agg #[.int .i64 (IntKind.i64.wrap (a1.drop - 1)), .slice none 0 0]) hC 0 [.int .i64 (IntKind.i64.wrap (a1.drop - 1)), .slice none 0 0] [.int .i64 (IntKind.i64.wrap (a1.drop - 1)), .slice none 0 0] rfl ag134.size rfl rfl rfl rfl rfl (Nat.le_of_ble_eq_true rfl) rfl fun w14 hC => ?_)))))))
 refine dn (wp_seq (sr (Zc (v := .int .i64 0) rfl (dn (wp_block ?_)))))
 refine Xu (S := (List Vc.Form) × Int) _ (fun s10 e_ w_ => ∃ (v10 : Value), ∃ (f10 : List Nat), Z4 e_ [(2, .pointer (some ⟨b8, 0, none⟩)), (3, .pointer (some ⟨b10, 0, none⟩)), (4, .pointer (some ⟨b12, 0, none⟩)), (5, .pointer (some ⟨b11, 0, none⟩)), (6, .int .i64 s10.2)] ∧ Ctx Nox w0 w_ [Tr.item (Tr.sl 95 (Zz 114)) s10.1 [v10] f10, blk b11 134 [.int .i64 (IntKind.i64.wrap (a1.drop - 1)), v10], blk b12 134 [.int .i64 0, .slice none 0 0], blk b10 134 [.int .i64 a1.drop, u1_1], blk b8 32 [u0_0, u0_1]] [Ty.item TForm.sl a1.images [u1_1] fp1, Ty.item TForm.sl a0.images [u0_1] fp0, Ty.item ((EI .i64).ty.sl) a0.degrees [u0_0] fp0, Ty.item TAlg a0 [u0_0, u0_1] fp0, Ty.item TDer a1 [.int .i64 a1.drop, u1_1] fp1]) ?_ (s0 := ([], 0)) ?_ h
 ·clear hC h
  rintro s10 e_ w15 nx10 K10 ⟨v10, f10, hS_, hC⟩ h hK10
  rw [ue hS_]
  refine wp_seq (sr (Zb (v := .int .i64 s10.2) rfl (Z1 1 Try.underlying134 rfl sc30.size rfl rfl (Z8 hC 3 (u1_1) rfl sc30 rfl rfl ?_))))
  obtain ⟨Ad12, c10, hv12⟩ := Z2 (hC.getP 0 rfl)
  refine Z0 Try.underlying30 (tr rfl hv12) (Zs rfl rfl (dn ?_))
  refine Zr rfl (fun hb10 => ?_) (fun hb10 => ?_)
  ·replace h := ift h (ct hb10)
   refine wp_skip (Zd (wp_seq (wp_block ?_)))
   refine Ym 22 Yg [0, 1, 0, 0, 8, 0, 56, 120, 252, 0, 0, 0, 2048, 0, 14336, 30720, 65532, 0, 131072, 524284, 1048572, 2097148, 4194303, 8388607, 16777215] [1, 2, 4, 6, 7, 9, 10, 12, 14, 15, 18] [0, 3, 5, 11, 13, 17] (by kernel_rfl) (by kernel_rfl) (by kernel_rfl) (fun hM10 hM11 w16 hB_ => ?_)
   replace hC := hC.grow hB_
   refine aF 0 (.pointer (some ⟨b11, 1, none⟩)) rfl rfl (hM11 0 rfl) (rfl) (fun _ => by exact Z7 1 Try.underlying134 rfl sc30.size rfl rfl) (Za 25 1) (aL 1 (v10) rfl rfl (hM10 1 rfl) (rfl) (fun _ hB_ => by exact Z5 (hC.grow hB_) 1 (v10) rfl sc30 rfl rfl) (Za 25 3) (aL 2 (.agg #[u0_0, u0_1]) rfl rfl (hM10 2 rfl) (rfl) (fun _ hB_ => by exact Yu (hC.grow hB_) 4 [u0_0, u0_1] rfl ag32 rfl rfl rfl) (Za 25 7) (aF 3 (.pointer (some ⟨b10, 1, none⟩)) rfl rfl (hM11 3 rfl) (rfl) (fun _ => by exact Z7 1 Try.underlying134 rfl sc30.size rfl rfl) (Za 25 15) (aL 4 (u1_1) rfl rfl (hM10 4 rfl) (rfl) (fun _ hB_ => by exact Z5 (hC.grow hB_) 3 (u1_1) rfl sc30 rfl rfl) (Za 25 31) (aF 5 (.int .i64 s10.2) rfl rfl (hM11 5 rfl) (rfl) (fun _ => by exact Zg (v := .int .i64 s10.2) rfl) (Za 25 63) ?_)))))
   obtain ⟨⟨h10, h11⟩, h⟩ := h
   obtain ⟨Ad10, c11, hv10⟩ := Z9 (hC.getP 0 rfl) s10.2.toNat (show s10.2.toNat < a1.images.length by omega)
   refine aL 6 (.pointer (some (Ad10.add (s10.2.toNat * 1)))) rfl rfl (hM10 6 rfl) (rfl) (fun _ hB_ => by exact Yv (len := a1.images.length) Try.underlying30 ag95.size (by exact tr rfl hv10) rfl h10 h11) (Za 25 127) ?_
   obtain ⟨cs_, hl10, hc10, hr10⟩ := X9 (hC.getP 0 rfl) hv10 s10.2.toNat (show s10.2.toNat < a1.images.length by omega)
   obtain ⟨u13, rfl⟩ := List.length_eq_one_iff.1 hl10
   clear hl10
   rw [X3 _ _ (show s10.2.toNat < a1.images.length by omega)] at hr10
   have hp10 := hr10
   replace hC := hC.derive 0 rfl (Ty.item ETerm.ty.sl ((a1.images.getD s10.2.toNat default).terms) [u13] fp1) (fun _ => (Xb hp10)) (fun _ hb_ => hb_)
   refine aL 7 (.agg #[u13]) rfl rfl (hM10 7 rfl) (rfl) (fun _ hB_ => by exact Xw [u13] (J9 hB_ hc10) ag95 rfl rfl) (Za 25 255) (aL 9 (.agg #[u0_0, u0_1]) rfl rfl (hM10 9 rfl) (rfl) (fun _ hB_ => by exact Yu (hC.grow hB_) 4 [u0_0, u0_1] rfl ag32 rfl rfl rfl) (Za 25 767) (aL 10 (.agg #[.int .i64 a1.drop, u1_1]) rfl rfl (hM10 10 rfl) (rfl) (fun _ hB_ => by exact Yu (hC.grow hB_) 3 [.int .i64 a1.drop, u1_1] rfl ag134 rfl rfl rfl) (Za 25 1791) (aF 11 (.pointer (some ⟨b8, 1, none⟩)) rfl rfl (hM11 11 rfl) (rfl) (fun _ => by exact Z7 1 Try.underlying32 rfl sc30.size rfl rfl) (Za 25 3839) (aL 12 (u0_1) rfl rfl (hM10 12 rfl) (rfl) (fun _ hB_ => by exact Z5 (hC.grow hB_) 4 (u0_1) rfl sc30 rfl rfl) (Za 25 7935) (aF 13 (.int .i64 s10.2) rfl rfl (hM11 13 rfl) (rfl) (fun _ => by exact Zg (v := .int .i64 s10.2) rfl) (Za 25 16127) ?_)))))
   obtain ⟨⟨h12, h13⟩, h⟩ := h
   obtain ⟨Ad11, c12, hv11⟩ := Z9 (hC.getP 2 rfl) s10.2.toNat (show s10.2.toNat < a0.images.length by omega)
   refine aL 14 (.pointer (some (Ad11.add (s10.2.toNat * 1)))) rfl rfl (hM10 14 rfl) (rfl) (fun _ hB_ => by exact Yv (len := a0.images.length) Try.underlying30 ag95.size (by exact tr rfl hv11) rfl h12 h13) (Za 25 32511) ?_
   obtain ⟨cs_, hl11, hc11, hr11⟩ := X9 (hC.getP 2 rfl) hv11 s10.2.toNat (show s10.2.toNat < a0.images.length by omega)
   obtain ⟨u14, rfl⟩ := List.length_eq_one_iff.1 hl11
   clear hl11
   rw [X3 _ _ (show s10.2.toNat < a0.images.length by omega)] at hr11
   have hp11 := hr11
   replace hC := hC.derive 2 rfl (Ty.item ETerm.ty.sl ((a0.images.getD s10.2.toNat default).terms) [u14] fp0) (fun _ => (Xb hp11)) (fun _ hb_ => hb_)
   refine aL 15 (.agg #[u14]) rfl rfl (hM10 15 rfl) (rfl) (fun _ hB_ => by exact Xw [u14] (J9 hB_ hc11) ag95 rfl rfl) (Za 25 65279) (aF 17 (.pointer (some ⟨b10, 0, none⟩)) rfl rfl (hM11 17 rfl) (rfl) (fun _ => by exact Z7 0 Try.underlying134 rfl sc2.size rfl rfl) (Za 25 196351) (aL 18 (.int .i64 a1.drop) rfl rfl (hM10 18 rfl) (rfl) (fun _ hB_ => by exact Z5 (hC.grow hB_) 3 (.int .i64 a1.drop) rfl sc2 rfl rfl) (Za 25 458495) (aO 8 rfl ?_)))
   refine Zf [.agg #[u0_0, u0_1], .agg #[u13]] _ Try.func132 rfl rfl rfl (Zl1 a0 (a1.images.getD s10.2.toNat default) h _ (Xr (hC.getP 4 rfl) (hC.getP 3 rfl)) (Yl (hC.getP 1 rfl))) (fun ret10 w17 hR10 => ?_)
   obtain ⟨r11, u11, f12, rfl, h, hr12, hf10, hB10⟩ := hR10
   refine ⟨_, rfl, ?_⟩
   replace hC := hC.push hB10 (Tr.item (Zz 114) r11 [u11] f12) hr12 hf10
   obtain ⟨ho10, hf11⟩ := Y8 (hC.getM 0 rfl)
   subst hf11
   replace hC := hC.recast (c := own 114 9 u11 r11.terms.length (ETerm.encs r11.terms)) (fun _ h_ => h_) (fun _ => ho10)
   refine done (aK (by assumption) (Za 25 458751) (aO 16 rfl ?_))
   refine Zf [.agg #[u0_0, u0_1], .agg #[.int .i64 a1.drop, u1_1], .agg #[u14]] _ Try.func134 rfl rfl rfl (Ztp a0 a1 (a0.images.getD s10.2.toNat default) h _ (Xr (hC.getP 4 rfl) (hC.getP 3 rfl)) (Zgu (hC.getP 2 rfl)) (Yl (hC.getP 0 rfl))) (fun ret11 w18 hR11 => ?_)
   obtain ⟨r12, u12, f13, rfl, h, hr13, hf12, hB11⟩ := hR11
   refine ⟨_, rfl, ?_⟩
   replace hC := hC.push hB11 (Tr.item (Zz 114) r12 [u12] f13) hr13 hf12
   obtain ⟨ho11, hf13⟩ := Y8 (hC.getM 0 rfl)
   subst hf13
   replace hC := hC.recast (c := own 114 9 u12 r12.terms.length (ETerm.encs r12.terms)) (fun _ h_ => h_) (fun _ => ho11)
   refine done (aK (by assumption) (Za 25 524287) (aO 19 rfl ?_))
   refine Zf [.int .i64 a1.drop, .int .i64 1] _ Try.func135 rfl rfl rfl (Ztq a1.drop 1 h _) (fun ret12 w19 hR12 => ?_)
   obtain ⟨r13, rfl, h, hB12⟩ := hR12
   refine ⟨_, rfl, ?_⟩
   replace hC := hC.grow hB12
   refine done (aK (by assumption) (Za 25 1048575) (aO 20 rfl ?_))
   refine Zf [.agg #[u11], .agg #[u12], .int .i64 r13] _ Try.func69 rfl rfl rfl (Zc0 r11 r12 r13 h _ (Yl (Y7 (hC.getM 1 rfl))) (Yl (Y7 (hC.getM 0 rfl)))) (fun ret13 w20 hR13 => ?_)
   obtain ⟨r10, u10, f14, rfl, h, hr14, hf14, hB13⟩ := hR13
   refine ⟨_, rfl, ?_⟩
   replace hC := hC.push hB13 (Tr.item (Zz 114) r10 [u10] f14) hr14 hf14
   obtain ⟨ho12, hf15⟩ := Y8 (hC.getM 0 rfl)
   subst hf15
   replace hC := hC.recast (c := own 114 9 u10 r10.terms.length (ETerm.encs r10.terms)) (fun _ h_ => h_) (fun _ => ho12)
   refine done (aK (by assumption) (Za 25 2097151) (aO 21 rfl (Jg (sz := 1) hC [(0, .agg #[u10])] [u10] rfl (fun _ => Ztc u10 (Zhb (hC.getM 0 rfl)) _) rfl (by decide) fun b13 w21 hB_ hC => ?_)))
   replace hC := hC.pushM0 (Yo (Zz 114) [] [] []) (Zbf _ _) rfl
   replace hC := hC.sM [2, 0, 1, 3, 4, 5, 6, 7, 8, 9] (M' := [own 114 9 u10 r10.terms.length (ETerm.encs r10.terms), Yo (Zz 114) [] [] [], own 95 1 (.slice (some ⟨b13, 0, none⟩) 1 1) 1 [u10], own 114 9 u12 r12.terms.length (ETerm.encs r12.terms), own 114 9 u11 r11.terms.length (ETerm.encs r11.terms), Tr.item (Tr.sl 95 (Zz 114)) s10.1 [v10] f10, blk b11 134 [.int .i64 (IntKind.i64.wrap (a1.drop - 1)), v10], blk b12 134 [.int .i64 0, .slice none 0 0], blk b10 134 [.int .i64 a1.drop, u1_1], blk b8 32 [u0_0, u0_1]]) (by decide) rfl
   replace hC := hC.gather (c := Yo (Zz 114) [r10] [u10] [(Option.toList (Value.ownBlock u10))]) (fun x_ hx_ => Zcw hx_) (fun h1_ h2_ hd_ => Zb7 (c := [u10]) (Zau (Js h1_)) h2_ hd_)
   replace hC := hC.sM [1, 0, 2, 3, 4, 5, 6, 7, 8] (M' := [own 95 1 (.slice (some ⟨b13, 0, none⟩) 1 1) 1 [u10], Yo (Zz 114) [r10] [u10] [(Option.toList (Value.ownBlock u10))], own 114 9 u12 r12.terms.length (ETerm.encs r12.terms), own 114 9 u11 r11.terms.length (ETerm.encs r11.terms), Tr.item (Tr.sl 95 (Zz 114)) s10.1 [v10] f10, blk b11 134 [.int .i64 (IntKind.i64.wrap (a1.drop - 1)), v10], blk b12 134 [.int .i64 0, .slice none 0 0], blk b10 134 [.int .i64 a1.drop, u1_1], blk b8 32 [u0_0, u0_1]]) (by decide) rfl
   replace hC := hC.gather (c := Tr.item (Tr.sl 95 (Zz 114)) [r10] [.slice (some ⟨b13, 0, none⟩) 1 1] ((Option.toList (Value.ownBlock (.slice (some ⟨b13, 0, none⟩) 1 1))) ++ ([(Option.toList (Value.ownBlock u10))] : List (List Nat)).flatten)) (fun x_ hx_ => List.mem_append.1 hx_) (fun h1_ h2_ hd_ => Zap h1_ h2_ hd_)
   refine done (aK (by assumption) (Za 25 4194303) (Zv 22 (by decide) (by decide) (by kernel_rfl) (by kernel_rfl) rfl ?_))
   replace hC := hC.sM [3, 0, 1, 2, 4, 5, 6, 7] (M' := [Tr.item (Tr.sl 95 (Zz 114)) s10.1 [v10] f10, Tr.item (Tr.sl 95 (Zz 114)) [r10] [.slice (some ⟨b13, 0, none⟩) 1 1] ((Option.toList (Value.ownBlock (.slice (some ⟨b13, 0, none⟩) 1 1))) ++ ([(Option.toList (Value.ownBlock u10))] : List (List Nat)).flatten), own 114 9 u12 r12.terms.length (ETerm.encs r12.terms), own 114 9 u11 r11.terms.length (ETerm.encs r11.terms), blk b11 134 [.int .i64 (IntKind.i64.wrap (a1.drop - 1)), v10], blk b12 134 [.int .i64 0, .slice none 0 0], blk b10 134 [.int .i64 a1.drop, u1_1], blk b8 32 [u0_0, u0_1]]) (by decide) rfl
   obtain ⟨hm10, h⟩ := h
   refine Zcv hC Try.underlying30 Zji rfl (by decide) (by decide) rfl rfl hm10 fun v11 f11 w22 hC => Z1 1 Try.underlying134 rfl sc30.size rfl rfl (Zu (v := v11) hC 3 [v11] [.int .i64 (IntKind.i64.wrap (a1.drop - 1)), v11] rfl sc30.size rfl rfl (Zej (Tr.trep _ (hC.getM 0 rfl).1)) rfl (Y3 (Zbc (Tr.trep _ (hC.getM 0 rfl).1)) rfl) (Nat.le_of_ble_eq_true rfl) rfl fun w23 hC => done (Zw (Zt (Zd (Zk (Zb (v := .int .i64 s10.2) rfl (Zq rfl rfl (Zc (v := .int .i64 (IntKind.i64.wrap (s10.2 + 1))) rfl (done ?_)))))))))
   replace hC := hC.sM [0, 3, 4, 5, 6] (M' := [Tr.item (Tr.sl 95 (Zz 114)) (s10.1 ++ [r10]) [v11] f11, blk b11 134 [.int .i64 (IntKind.i64.wrap (a1.drop - 1)), v11], blk b12 134 [.int .i64 0, .slice none 0 0], blk b10 134 [.int .i64 a1.drop, u1_1], blk b8 32 [u0_0, u0_1]]) (by decide) rfl
   replace hC := hC.sP [2, 3, 4, 5, 6] (Ps' := [Ty.item TForm.sl a1.images [u1_1] fp1, Ty.item TForm.sl a0.images [u0_1] fp0, Ty.item ((EI .i64).ty.sl) a0.degrees [u0_0] fp0, Ty.item TAlg a0 [u0_0, u0_1] fp0, Ty.item TDer a1 [.int .i64 a1.drop, u1_1] fp1]) rfl
   exact hK10 (s10.1 ++ [r10], IntKind.i64.wrap (s10.2 + 1)) _ _ ⟨v11, f11, (sl ⟨rfl, rfl, rfl, rfl, rfl, trivial⟩), hC⟩ h
  ·replace h := Zi h (cf hb10)
   refine wp_exit (Zl (Zl (Yc ?_)))
   refine Zd (sr (Ys hC 1 [.int .i64 (IntKind.i64.wrap (a1.drop - 1)), v10] rfl ag134 rfl rfl rfl (Zu (v := .agg #[.int .i64 (IntKind.i64.wrap (a1.drop - 1)), v10]) hC 2 [.int .i64 (IntKind.i64.wrap (a1.drop - 1)), v10] [.int .i64 (IntKind.i64.wrap (a1.drop - 1)), v10] rfl ag134.size rfl rfl rfl rfl (Y3 rfl (Y3 (Zbc (Tr.trep _ (hC.getM 0 rfl).1)) rfl)) (Nat.le_of_ble_eq_true rfl) rfl fun w24 hC => dn (wp_ret ?_))))
   refine Zo (fn := Try.f101) rfl ?_ ⟨(⟨IntKind.i64.wrap (a1.drop - 1), s10.1⟩ : Der), .int .i64 (IntKind.i64.wrap (a1.drop - 1)), v10, f10, rfl, h, (Zml (hC.getM 0 rfl)), (Zbx hC 0 rfl), hC.below⟩ (.inl rfl)
   exact J3 hC 2 rfl ag134 rfl rfl
 ·skip
  replace hC := hC.pushM0 (Tr.item (Tr.sl 95 (Zz 114)) [] [.slice none 0 0] []) (Za4 _ _ _) rfl
  exact ⟨.slice none 0 0, [], (sl ⟨rfl, rfl, rfl, rfl, rfl, trivial⟩), hC⟩
def Zgc (a0 : Alg) (a1 : Int) (K : List (List Int) → Prop) : Prop :=
 Zf5 a0 a1 (fun r10 => Yy (fun i10 (s10 : (List (List Int))) nx10 => Zgb (⟨a0.degrees, a0.images⟩ : Alg) (r10.getD i10 default) (fun r12 => Zf7 (⟨a0.degrees, a0.images⟩ : Alg) r12 (fun r11 => (Xp (s10.length + 1) 24 ∧ nx10 (s10 ++ [r11]))))) (fun (s10 : (List (List Int))) => K s10) r10.length 0 [])
theorem Zts (a0 : Alg) (a1 : Int) {u0_0 : Value} {u0_1 : Value} {fp0 : List Nat} {K : List (List Int) → Prop} (h : Zgc a0 a1 K) (w0 : World) (q0 : TAlg.rep a0 [u0_0, u0_1] fp0 w0) :
  Calls Try.prog 42 #[.agg #[u0_0, u0_1], .int .i64 a1] w0 fun e w' => ∃ (r0 : List (List Int)) (z0_0 : Value) (fz0 : List Nat), 
   e = .returned (z0_0) ∧ K r0 ∧ (Tr.item (Tr.sl 22 (Tr.sl 2 ((EI .i64).tr))) r0 [z0_0] fz0).holds w' ∧ (∀ b, b ∈ fz0 → w0.heap.size ≤ b) ∧ Bel w0 w' := by
 unfold Zgc at h
 refine Z6 (args := [.agg #[u0_0, u0_1], .int .i64 a1]) Try.func42 rfl 30 Try.ntmps42 (Nat.le_of_ble_eq_true rfl) ?_
 have hC := Ctx.start (X := Nox) w0 [Ty.item TAlg a0 [u0_0, u0_1] fp0] (by simp only [List.mem_cons, List.not_mem_nil, or_false, forall_eq_or_imp, forall_eq]; exact q0)
 have hp2 := (hC.getP 0 rfl)
 replace hC := hC.derive 0 rfl (Ty.item ((EI .i64).ty.sl) a0.degrees [u0_0] fp0) (fun _ => (Yt hp2).1) (fun _ hb_ => hb_)
 replace hC := hC.derive 1 rfl (Ty.item TForm.sl a0.images [u0_1] fp0) (fun _ => (Yt hp2).2) (fun _ hb_ => hb_)
 refine sr (Ye (v := .agg #[u0_0, u0_1]) hC [u0_0, u0_1] rfl rfl fun b5 w7 hB_ hC => Zc (v := .slice none 0 0) rfl (dn (sr (Ys hC 0 [u0_0, u0_1] rfl ag32 rfl rfl rfl (Zb (v := .int .i64 a1) rfl ?_)))))
 refine Zf [.agg #[u0_0, u0_1], .int .i64 a1] _ Try.func99 rfl rfl rfl (Ztl a0 a1 h _ (Xr (hC.getP 1 rfl) (hC.getP 0 rfl))) (fun ret8 w10 hR9 => ?_)
 obtain ⟨r10, u11, f11, rfl, h, hr11, hf10, hB10⟩ := hR9
 refine ⟨_, rfl, ?_⟩
 replace hC := hC.push hB10 (Tr.item (Tr.sl 134 (Jv 114 95)) r10 [u11] f11) hr11 hf10
 refine Jg (sz := 1) hC [] [] rfl (fun _ => Zmp _) rfl (by decide) fun b11 w11 hB_ hC => ?_
 replace hC := hC.pushM0 (Yo (Tr.sl 2 ((EI .i64).tr)) ([] : List (List Int)) [] []) (Zbf _ _) rfl
 replace hC := hC.gather (c := Tr.item (Tr.sl 22 (Tr.sl 2 ((EI .i64).tr))) [] [.slice (some ⟨b11, 0, none⟩) 0 0] ((Option.toList (Value.ownBlock (.slice (some ⟨b11, 0, none⟩) 0 0))) ++ ([] : List (List Nat)).flatten)) (fun x_ hx_ => (List.mem_append.1 hx_).symm) (fun h1_ h2_ hd_ => Zap h2_ h1_ (fun b_ hb_ hb2_ => hd_ b_ hb2_ hb_))
 refine Zc (v := u11) rfl (Zc (v := .slice (some ⟨b11, 0, none⟩) 0 0) rfl (dn (wp_seq (sr (Zc (v := .int .i64 0) rfl (dn (wp_block ?_)))))))
 have hs10 := Zbx hC 1 rfl
 replace hC := hC.thaw 1 rfl (Ty.item TDer.sl r10 [u11] f11) (fun h_ => Tr.trep _ h_.1) (fun _ hb_ => hb_)
 have hN10 : r10.length ≤ 9223372036854775807 := Xv (hC.getP 0 rfl)
 refine Y6 (S := (List (List Int))) _ _ (fun i10 s10 e_ w_ => ∃ (v10 : Value), ∃ (f10 : List Nat), Z4 e_ [(2, .pointer (some ⟨b5, 0, none⟩)), (5, u11), (6, v10), (7, .int .i64 (i10 : Int))] ∧ Ctx Nox w0 w_ [Tr.item (Tr.sl 22 (Tr.sl 2 ((EI .i64).tr))) s10 [v10] f10, blk b5 32 [u0_0, u0_1]] [Ty.item TDer.sl r10 [u11] f11, Ty.item TForm.sl a0.images [u0_1] fp0, Ty.item ((EI .i64).ty.sl) a0.degrees [u0_0] fp0, Ty.item TAlg a0 [u0_0, u0_1] fp0]) r10.length ?_ ?_ (s0 := []) ?_ h
 ·clear hC h
  rintro i10 s10 e_ w12 nx10 K10 hi10 ⟨v10, f10, hS_, hC⟩ h hK10
  rw [ue hS_]
  refine wp_seq (sr (Zb (v := .int .i64 (i10 : Int)) rfl (Zb (v := u11) rfl ?_)))
  obtain ⟨Ad11, c10, hv11⟩ := Z2 (hC.getP 0 rfl)
  refine Z0 Try.underlying130 (tr rfl hv11) (Zs rfl rfl (dn (Yq rfl (decide_eq_true (by omega)) (wp_skip (Zd (wp_seq (wp_block ?_)))))))
  refine Ym 10 Yg [0, 0, 0, 0, 0, 24, 56, 124, 254, 510, 1023, 2047] [1, 2, 5, 6] [0, 3, 4] (by kernel_rfl) (by kernel_rfl) (by kernel_rfl) (fun hM10 hM11 w13 hB_ => ?_)
  replace hC := hC.grow hB_
  refine aF 0 (v10) rfl rfl (hM11 0 rfl) (rfl) (fun _ => by exact Zg (v := v10) rfl) (Za 12 1) (aL 1 (.agg #[u0_0, u0_1]) rfl rfl (hM10 1 rfl) (rfl) (fun _ hB_ => by exact Yu (hC.grow hB_) 1 [u0_0, u0_1] rfl ag32 rfl rfl rfl) (Za 12 3) (aL 2 (.agg #[u0_0, u0_1]) rfl rfl (hM10 2 rfl) (rfl) (fun _ hB_ => by exact Yu (hC.grow hB_) 1 [u0_0, u0_1] rfl ag32 rfl rfl rfl) (Za 12 7) (aF 3 (u11) rfl rfl (hM11 3 rfl) (rfl) (fun _ => by exact Zg (v := u11) rfl) (Za 12 15) (aF 4 (.int .i64 (i10 : Int)) rfl rfl (hM11 4 rfl) (rfl) (fun _ => by exact Zg (v := .int .i64 (i10 : Int)) rfl) (Za 12 31) ?_))))
  obtain ⟨Ad10, c11, hv10⟩ := Z9 (hC.getP 0 rfl) i10 hi10
  refine aL 5 (.pointer (some (Ad10.add (i10 * 2)))) rfl rfl (hM10 5 rfl) (rfl) (fun _ hB_ => by exact Yv (len := r10.length) Try.underlying130 ag134.size (by exact tr rfl hv10) rfl (Int.natCast_nonneg _) (Int.ofNat_lt.2 hi10)) (Za 12 63) ?_
  obtain ⟨cs_, hl10, hc10, hr10⟩ := X9 (hC.getP 0 rfl) hv10 i10 hi10
  obtain ⟨u15, u13, rfl⟩ := Zk2 hl10
  clear hl10
  rw [X3 _ _ hi10] at hr10
  have hp10 := hr10
  obtain rfl := (Zbk hp10).1
  replace hC := hC.derive 0 rfl (Ty.item TForm.sl ((r10.getD i10 default).images) [u13] f11) (fun _ => (Zbk hp10).2) (fun _ hb_ => hb_)
  refine aL 6 (.agg #[.int .i64 ((r10.getD i10 default).drop), u13]) rfl rfl (hM10 6 rfl) (rfl) (fun _ hB_ => by exact Xw [.int .i64 ((r10.getD i10 default).drop), u13] (J9 hB_ hc10) ag134 rfl rfl) (Za 12 127) (aO 7 rfl ?_)
  refine Zf [.agg #[u0_0, u0_1], .agg #[.int .i64 ((r10.getD i10 default).drop), u13]] _ Try.func101 rfl rfl rfl (Ztr (⟨a0.degrees, a0.images⟩ : Alg) (r10.getD i10 default) h _ (Xr (hC.getP 3 rfl) (hC.getP 2 rfl)) (Zgu (hC.getP 0 rfl))) (fun ret10 w14 hR10 => ?_)
  obtain ⟨r12, u14, u12, f12, rfl, h, hr12, hf11, hB11⟩ := hR10
  refine ⟨_, rfl, ?_⟩
  replace hC := hC.push hB11 (Tr.item (Jv 114 95) r12 [u14, u12] f12) hr12 hf11
  obtain ⟨rfl, ho10⟩ := Zss (hC.getM 0 rfl)
  replace hC := hC.recast (c := Tr.item (Tr.sl 95 (Zz 114)) r12.images [u12] f12) (fun _ h_ => h_) (fun _ => ho10)
  refine done (aK (by assumption) (Za 12 255) (aO 8 rfl ?_))
  refine Zf [.agg #[u0_0, u0_1], .agg #[.int .i64 r12.drop, u12]] _ Try.func100 rfl rfl rfl (Ztn (⟨a0.degrees, a0.images⟩ : Alg) r12 h _ (Xr (hC.getP 3 rfl) (hC.getP 2 rfl)) (Zgu (Tr.trep _ (hC.getM 0 rfl).1))) (fun ret11 w15 hR11 => ?_)
  obtain ⟨r11, u10, f14, rfl, h, hr13, hf12, hB12⟩ := hR11
  refine ⟨_, rfl, ?_⟩
  replace hC := hC.push hB12 (Tr.item (Tr.sl 2 ((EI .i64).tr)) r11 [u10] f14) hr13 hf12
  obtain ⟨ho11, hf13⟩ := Zat (hC.getM 0 rfl).1
  subst hf13
  replace hC := hC.recast (c := own 2 1 u10 r11.length ((EI .i64).encs r11)) (fun _ h_ => h_) (fun _ => ho11)
  refine done (aK (by assumption) (Za 12 511) (aO 9 rfl (Jg (sz := 1) hC [(0, u10)] [u10] rfl (fun _ => Zmq u10 (Zhb (hC.getM 0 rfl)) _) rfl (by decide) fun b10 w16 hB_ hC => ?_)))
  replace hC := hC.pushM0 (Yo (Tr.sl 2 ((EI .i64).tr)) [] [] []) (Zbf _ _) rfl
  replace hC := hC.sM [2, 0, 1, 3, 4, 5] (M' := [own 2 1 u10 r11.length ((EI .i64).encs r11), Yo (Tr.sl 2 ((EI .i64).tr)) [] [] [], own 22 1 (.slice (some ⟨b10, 0, none⟩) 1 1) 1 [u10], Tr.item (Tr.sl 95 (Zz 114)) r12.images [u12] f12, Tr.item (Tr.sl 22 (Tr.sl 2 ((EI .i64).tr))) s10 [v10] f10, blk b5 32 [u0_0, u0_1]]) (by decide) rfl
  replace hC := hC.gather (c := Yo (Tr.sl 2 ((EI .i64).tr)) [r11] [u10] [(Option.toList (Value.ownBlock u10))]) (fun x_ hx_ => Zcw hx_) (fun h1_ h2_ hd_ => Zb7 (c := [u10]) (id (Js h1_)) h2_ hd_)
  replace hC := hC.sM [1, 0, 2, 3, 4] (M' := [own 22 1 (.slice (some ⟨b10, 0, none⟩) 1 1) 1 [u10], Yo (Tr.sl 2 ((EI .i64).tr)) [r11] [u10] [(Option.toList (Value.ownBlock u10))], Tr.item (Tr.sl 95 (Zz 114)) r12.images [u12] f12, Tr.item (Tr.sl 22 (Tr.sl 2 ((EI .i64).tr))) s10 [v10] f10, blk b5 32 [u0_0, u0_1]]) (by decide) rfl
  replace hC := hC.gather (c := Tr.item (Tr.sl 22 (Tr.sl 2 ((EI .i64).tr))) [r11] [.slice (some ⟨b10, 0, none⟩) 1 1] ((Option.toList (Value.ownBlock (.slice (some ⟨b10, 0, none⟩) 1 1))) ++ ([(Option.toList (Value.ownBlock u10))] : List (List Nat)).flatten)) (fun x_ hx_ => List.mem_append.1 hx_) (fun h1_ h2_ hd_ => Zap h1_ h2_ hd_)
  refine done (aK (by assumption) (Za 12 1023) (Zv 10 (by decide) (by decide) (by kernel_rfl) (by kernel_rfl) rfl ?_))
  replace hC := hC.sM [2, 0, 1, 3] (M' := [Tr.item (Tr.sl 22 (Tr.sl 2 ((EI .i64).tr))) s10 [v10] f10, Tr.item (Tr.sl 22 (Tr.sl 2 ((EI .i64).tr))) [r11] [.slice (some ⟨b10, 0, none⟩) 1 1] ((Option.toList (Value.ownBlock (.slice (some ⟨b10, 0, none⟩) 1 1))) ++ ([(Option.toList (Value.ownBlock u10))] : List (List Nat)).flatten), Tr.item (Tr.sl 95 (Zz 114)) r12.images [u12] f12, blk b5 32 [u0_0, u0_1]]) (by decide) rfl
  obtain ⟨hm10, h⟩ := h
  refine Zcv hC Try.underlying27 Zmr rfl (by decide) (by decide) rfl rfl hm10 fun v11 f13 w17 hC => Zc (v := v11) rfl (done (Zw (Zt (Zd (Zk (Zb (v := .int .i64 (i10 : Int)) rfl (Zq rfl rfl (Zc (v := .int .i64 (IntKind.i64.wrap ((i10 : Int) + 1))) rfl (done ?_)))))))))
  replace hC := hC.sM [0, 2] (M' := [Tr.item (Tr.sl 22 (Tr.sl 2 ((EI .i64).tr))) (s10 ++ [r11]) [v11] f13, blk b5 32 [u0_0, u0_1]]) (by decide) rfl
  replace hC := hC.sP [1, 2, 3, 4] (Ps' := [Ty.item TDer.sl r10 [u11] f11, Ty.item TForm.sl a0.images [u0_1] fp0, Ty.item ((EI .i64).ty.sl) a0.degrees [u0_0] fp0, Ty.item TAlg a0 [u0_0, u0_1] fp0]) rfl
  exact hK10 (s10 ++ [r11]) _ _ ⟨v11, f13, (sl ⟨rfl, rfl, rfl, (tr rfl (congrArg _ (Yi hi10 hN10))), trivial⟩), hC⟩ h
 ·clear hC h
  rintro s10 e_ w18 K10 ⟨v10, f10, hS_, hC⟩ h
  rw [ue hS_]
  refine wp_seq (sr (Zb (v := .int .i64 (r10.length : Int)) rfl (Zb (v := u11) rfl ?_)))
  obtain ⟨Ad12, c12, hv12⟩ := Z2 (hC.getP 0 rfl)
  refine Z0 Try.underlying130 (tr rfl hv12) (Zs rfl rfl (dn (Yj rfl (decide_eq_false (by omega)) ?_)))
  refine wp_exit (Zl (Zl (Yc ?_)))
  refine Zd (sr (Zb (v := v10) rfl (Zc (v := v10) rfl (dn (wp_ret ?_)))))
  refine Zo (fn := Try.f42) rfl ?_ ⟨s10, v10, f10, rfl, h, (hC.getM 0 rfl), (Zbx hC 0 rfl), hC.below⟩ (.inl rfl)
  exact Zh rfl
 ·skip
  exact ⟨.slice (some ⟨b11, 0, none⟩) 0 0, ((Option.toList (Value.ownBlock (.slice (some ⟨b11, 0, none⟩) 0 0))) ++ ([] : List (List Nat)).flatten), (sl ⟨rfl, rfl, rfl, rfl, trivial⟩), hC⟩
def Zd1 (a0 : Alg) (a1 : Int) (K : List (List Int) → Int → Prop) : Prop :=
 Zf4 a0 a1 1 12 0 (fun r10 => (if r10 ≠ 0 then K [] r10 else Zgc a0 a1 (fun r11 => K r11 0)))
theorem Ztt (a0 : Alg) (a1 : Int) {u0_0 : Value} {u0_1 : Value} {fp0 : List Nat} {K : List (List Int) → Int → Prop} (h : Zd1 a0 a1 K) (w0 : World) (q0 : TAlg.rep a0 [u0_0, u0_1] fp0 w0) :
  Calls Try.prog 9 #[.agg #[u0_0, u0_1], .int .i64 a1] w0 fun e w' => ∃ (r0 : List (List Int)) (z0_0 : Value) (fz0 : List Nat) (r1 : Int), 
   e = .returned (.tuple #[z0_0, .int .i64 r1]) ∧ K r0 r1 ∧ (Tr.item (Tr.sl 22 (Tr.sl 2 ((EI .i64).tr))) r0 [z0_0] fz0).holds w' ∧ (∀ b, b ∈ fz0 → w0.heap.size ≤ b) ∧ Bel w0 w' := by
 unfold Zd1 at h
 refine Z6 (args := [.agg #[u0_0, u0_1], .int .i64 a1]) Try.func9 rfl 16 Try.ntmps9 (Nat.le_of_ble_eq_true rfl) ?_
 have hC := Ctx.start (X := Nox) w0 [Ty.item TAlg a0 [u0_0, u0_1] fp0] (by simp only [List.mem_cons, List.not_mem_nil, or_false, forall_eq_or_imp, forall_eq]; exact q0)
 have hp2 := (hC.getP 0 rfl)
 replace hC := hC.derive 0 rfl (Ty.item ((EI .i64).ty.sl) a0.degrees [u0_0] fp0) (fun _ => (Yt hp2).1) (fun _ hb_ => hb_)
 replace hC := hC.derive 1 rfl (Ty.item TForm.sl a0.images [u0_1] fp0) (fun _ => (Yt hp2).2) (fun _ hb_ => hb_)
 refine sr (Ye (v := .agg #[u0_0, u0_1]) hC [u0_0, u0_1] rfl rfl fun b5 w7 hB_ hC => Zc (v := .slice none 0 0) rfl (Zc (v := .int .i64 0) rfl (dn (wp_seq (sr (Ys hC 0 [u0_0, u0_1] rfl ag32 rfl rfl rfl (Zb (v := .int .i64 a1) rfl ?_)))))))
 refine Zf [.agg #[u0_0, u0_1], .int .i64 a1, .int .i64 1, .int .i64 12, .int .i64 0] _ Try.func41 rfl rfl rfl (Ztk a0 a1 1 12 0 h _ (Xr (hC.getP 1 rfl) (hC.getP 0 rfl))) (fun ret8 w10 hR9 => ?_)
 obtain ⟨r10, rfl, h, hB10⟩ := hR9
 refine ⟨_, rfl, ?_⟩
 replace hC := hC.grow hB10
 refine Zc (v := .int .i64 r10) rfl (dn (sr (Zb (v := .int .i64 r10) rfl (Xj rfl rfl (dn ?_)))))
 refine Zr rfl (fun hb10 => ?_) (fun hb10 => ?_)
 ·replace h := ift h (ct hb10)
  refine sr (Zb (v := .int .i64 r10) rfl (Zc (v := .slice none 0 0) rfl (Zc (v := .int .i64 r10) rfl (dn ?_))))
  refine wp_ret (Zj ?_)
  refine Jn (fn := Try.f9) rfl ?_ ?_ ⟨[], .slice none 0 0, [], r10, rfl, h, (Za4 _ _ _), (fun b hb => absurd hb (by simp)), hC.below⟩ (.inl rfl)
  ·exact Zh rfl
  ·exact Zh rfl
 ·replace h := Zi h (cf hb10)
  refine wp_skip (Zd (sr (Ys hC 0 [u0_0, u0_1] rfl ag32 rfl rfl rfl (Zb (v := .int .i64 a1) rfl ?_))))
  refine Zf [.agg #[u0_0, u0_1], .int .i64 a1] _ Try.func42 rfl rfl rfl (Zts a0 a1 h _ (Xr (hC.getP 1 rfl) (hC.getP 0 rfl))) (fun ret10 w11 hR10 => ?_)
  obtain ⟨r11, u10, f10, rfl, h, hr10, hf10, hB11⟩ := hR10
  refine ⟨_, rfl, ?_⟩
  replace hC := hC.push hB11 (Tr.item (Tr.sl 22 (Tr.sl 2 ((EI .i64).tr))) r11 [u10] f10) hr10 hf10
  refine Zc (v := u10) rfl (Zc (v := .int .i64 0) rfl (dn (wp_ret ?_)))
  refine Jn (fn := Try.f9) rfl ?_ ?_ ⟨r11, u10, f10, 0, rfl, h, (hC.getM 0 rfl), (Zbx hC 0 rfl), hC.below⟩ (.inl rfl)
  ·exact Zh rfl
  ·exact Zh rfl
def f_impl_lister_from (fu_ : Nat) (a0 : List Int × Int × List A8) (a1 : Int) (a2 : A8) (a3 : Int) (K : List A8 → Prop) : Prop :=
 match fu_ with
 | 0 => False
 | fu_ + 1 => (if (a0.2.2.length : Int) > a0.2.1 then K a0.2.2 else (if a1 = (a0.1.length : Int) then (if a3 = 0 then (Xp (a0.2.2.length + 1) 64 ∧ K (a0.2.2 ++ [a2])) else K a0.2.2) else ((0 ≤ a1 ∧ a1 < (a0.1.length : Int)) ∧ ((a0.1.getD a1.toNat default) ≠ 0 ∧ (if Int.tmod (a0.1.getD a1.toNat default) 2 = 1 then Xf (fun (s10 : A8 × (List A8) × Int) nx10 => (if s10.2.2 ≥ 0 then ((0 ≤ a1 ∧ a1 < 8) ∧ f_impl_lister_from fu_ (⟨a0.1, a0.2.1, s10.2.1⟩ : List Int × Int × List A8) (IntKind.i64.wrap (a1 + 1)) (s10.1.set a1.toNat s10.2.2) (IntKind.i64.wrap (a3 - (IntKind.i64.wrap (s10.2.2 * (a0.1.getD a1.toNat default))))) (fun m10 => nx10 (s10.1.set a1.toNat s10.2.2, m10, IntKind.i64.wrap (s10.2.2 - 1)))) else K s10.2.1)) (a2, a0.2.2, (if 1 < (if 20 < IntKind.i64.wrap (Int.tdiv a3 (a0.1.getD a1.toNat default)) then 20 else IntKind.i64.wrap (Int.tdiv a3 (a0.1.getD a1.toNat default))) then 1 else (if 20 < IntKind.i64.wrap (Int.tdiv a3 (a0.1.getD a1.toNat default)) then 20 else IntKind.i64.wrap (Int.tdiv a3 (a0.1.getD a1.toNat default))))) else Xf (fun (s11 : A8 × (List A8) × Int) nx11 => (if s11.2.2 ≥ 0 then ((0 ≤ a1 ∧ a1 < 8) ∧ f_impl_lister_from fu_ (⟨a0.1, a0.2.1, s11.2.1⟩ : List Int × Int × List A8) (IntKind.i64.wrap (a1 + 1)) (s11.1.set a1.toNat s11.2.2) (IntKind.i64.wrap (a3 - (IntKind.i64.wrap (s11.2.2 * (a0.1.getD a1.toNat default))))) (fun m11 => nx11 (s11.1.set a1.toNat s11.2.2, m11, IntKind.i64.wrap (s11.2.2 - 1)))) else K s11.2.1)) (a2, a0.2.2, (if 20 < IntKind.i64.wrap (Int.tdiv a3 (a0.1.getD a1.toNat default)) then 20 else IntKind.i64.wrap (Int.tdiv a3 (a0.1.getD a1.toNat default)))))))))
theorem Ztu (fu_ : Nat) : ∀ (a0 : List Int × Int × List A8) (a1 : Int) (a2 : A8) (a3 : Int) {b0 : Nat} {u0_0 : Value} {u0_2 : Value} {fp0 : List Nat} {K : List A8 → Prop} (h : f_impl_lister_from fu_ a0 a1 a2 a3 K) (w0 : World) (q0 : (Ty.item ((EI .i64).ty.sl) a0.1 [u0_0] fp0).holds w0) (qb0 : (blk b0 175 [u0_0, .int .i64 a0.2.1, u0_2]).holds w0) (qo0 : (own 101 8 u0_2 a0.2.2.length ((EA .i64).encs a0.2.2)).holds w0) (db0 : b0 ∉ Option.toList (Value.ownBlock u0_2)) (dq0 : ∀ b, b ∈ fp0 → b ∉ b0 :: Option.toList (Value.ownBlock u0_2)),
  Calls Try.prog 127 #[.pointer (some ⟨b0, 0, none⟩), .int .i64 a1, .agg (List.toArray (A8.enc .i64 a2)), .int .i64 a3] w0 fun e w' => ∃ (m0 : List A8) (y0 : Value), 
   e = .returned (.tuple #[]) ∧ K m0 ∧ (blk b0 175 [u0_0, .int .i64 a0.2.1, y0]).holds w' ∧ (own 101 8 y0 m0.length ((EA .i64).encs m0)).holds w' ∧ (∀ b, b ∈ Option.toList (Value.ownBlock y0) → b ∈ Option.toList (Value.ownBlock u0_2) ∨ w0.heap.size ≤ b) ∧ BelO (b0 :: Option.toList (Value.ownBlock u0_2)) w0 w' := by
 induction fu_ with
 | zero =>
  intro a0 a1 a2 a3 b0 u0_0 u0_2 fp0 K h w0 q0 qb0 qo0 db0 dq0
  exact False.elim h
 | succ fu_ ih_ =>
  intro a0 a1 a2 a3 b0 u0_0 u0_2 fp0 K h w0 q0 qb0 qo0 db0 dq0
  rw [f_impl_lister_from.eq_2] at h
  refine Z6 (args := [.pointer (some ⟨b0, 0, none⟩), .int .i64 a1, .agg (List.toArray (A8.enc .i64 a2)), .int .i64 a3]) Try.func127 rfl 74 Try.ntmps127 (Nat.le_of_ble_eq_true rfl) ?_
  have hC := Ctx.startL w0 (b0 :: Option.toList (Value.ownBlock u0_2)) [blk b0 175 [u0_0, .int .i64 a0.2.1, u0_2], own 101 8 u0_2 a0.2.2.length ((EA .i64).encs a0.2.2)] [Ty.item ((EI .i64).ty.sl) a0.1 [u0_0] fp0] (by simp only [List.mem_cons, List.not_mem_nil, or_false, forall_eq_or_imp, forall_eq]; exact ⟨qb0, qo0⟩) (by simp only [List.mem_cons, List.not_mem_nil, or_false, forall_eq_or_imp, forall_eq]; exact q0) (fun it_ hi_ b_ hb_ => (List.mem_cons.1 hi_).elim (fun e_ => by subst e_; exact List.mem_cons.2 (.inl (List.mem_singleton.1 hb_))) (fun hi_ => by obtain rfl := List.mem_singleton.1 hi_; exact List.mem_cons_of_mem _ hb_)) (List.pairwise_cons.2 ⟨(fun it_ hi_ b_ hb_ hb2_ => by obtain rfl := List.mem_singleton.1 hi_; exact db0 (List.mem_singleton.1 hb_ ▸ hb2_)), List.pairwise_singleton _ _⟩) (fun it_ hi_ b_ hb_ => by obtain rfl := List.mem_singleton.1 hi_; exact dq0 b_ hb_)
  refine sr (Ye (v := .agg (List.toArray (A8.enc .i64 a2))) hC (A8.enc .i64 a2) rfl rfl fun b4 w6 hB_ hC => dn (wp_seq (wp_seq ?_)))
  refine Ym 9 Yg [0, 1, 3, 7, 15, 0, 32, 96, 224, 511] [3, 4, 8] [0, 1, 2, 5, 6, 7] (by kernel_rfl) (by kernel_rfl) (by kernel_rfl) (fun hM8 hM9 w7 hB_ => ?_)
  replace hC := hC.grow hB_
  refine aF 0 (.pointer (some ⟨b0, 0, none⟩)) rfl rfl (hM9 0 rfl) (rfl) (fun _ => by exact Zg (v := .pointer (some ⟨b0, 0, none⟩)) rfl) (Za 10 1) (aF 1 (.pointer (some ⟨b0, 0, none⟩)) rfl rfl (hM9 1 rfl) (rfl) (fun _ => by exact Jx rfl) (Za 10 3) (aF 2 (.pointer (some ⟨b0, 2, none⟩)) rfl rfl (hM9 2 rfl) (rfl) (fun _ => by exact Z7 2 Try.underlying175 rfl sc121.size rfl rfl) (Za 10 7) (aL 3 (u0_2) rfl rfl (hM8 3 rfl) (rfl) (fun _ hB_ => by exact Z5 (hC.grow hB_) 1 (u0_2) rfl sc121 rfl rfl) (Za 10 15) ?_)))
  obtain ⟨Ad10, c10, hv11⟩ := J6 (hC.getM 2 rfl)
  refine aL 4 (.int .i64 (a0.2.2.length : Int)) rfl rfl (hM8 4 rfl) (rfl) (fun _ hB_ => by exact Zck Try.underlying121 (by exact tr rfl hv11)) (Za 10 31) (aF 5 (.pointer (some ⟨b0, 0, none⟩)) rfl rfl (hM9 5 rfl) (rfl) (fun _ => by exact Zg (v := .pointer (some ⟨b0, 0, none⟩)) rfl) (Za 10 63) (aF 6 (.pointer (some ⟨b0, 0, none⟩)) rfl rfl (hM9 6 rfl) (rfl) (fun _ => by exact Jx rfl) (Za 10 127) (aF 7 (.pointer (some ⟨b0, 1, none⟩)) rfl rfl (hM9 7 rfl) (rfl) (fun _ => by exact Z7 1 Try.underlying175 rfl sc3.size rfl rfl) (Za 10 255) (aL 8 (.int .i64 a0.2.1) rfl rfl (hM8 8 rfl) (rfl) (fun _ hB_ => by exact Z5 (hC.grow hB_) 1 (.int .i64 a0.2.1) rfl sc3 rfl rfl) (Za 10 511) (Zv 9 (by decide) (by decide) (by kernel_rfl) (by kernel_rfl) rfl (Jm rfl rfl (done (Zw (Zd ?_)))))))))
  refine Zr rfl (fun hb10 => ?_) (fun hb10 => ?_)
  ·replace h := ift h (ct hb10)
   refine wp_ret (Zj ?_)
   refine Zb2 (fn := Try.f127) rfl  ⟨a0.2.2, u0_2, rfl, h, (hC.getM 1 rfl), (hC.getM 2 rfl), (fun b_ hb_ => (hC.mfp _ (List.mem_of_getElem? (i := 2) rfl) b_ hb_).elim .inr (fun q_ => (List.mem_cons.1 q_).elim (fun e_ => absurd hb_ (fun hb_ => hC.mm 1 2 rfl rfl (by decide) b_ (List.mem_singleton.2 e_) hb_)) .inl)), hC.belO⟩ (.inl rfl)
  ·replace h := Zi h (cf hb10)
   refine wp_skip (Zd (wp_seq (sr (Zb (v := .int .i64 a1) rfl (Zb (v := .pointer (some ⟨b0, 0, none⟩)) rfl (J2 rfl (Z1 0 Try.underlying175 rfl sc22.size rfl rfl (Z8 hC 1 (u0_0) rfl sc22 rfl rfl ?_))))))))
   obtain ⟨Ad11, c11, hv12⟩ := Z2 (hC.getP 0 rfl)
   refine Z0 Try.underlying22 (tr rfl hv12) (Jl rfl rfl (dn ?_))
   refine Zr rfl (fun hb11 => ?_) (fun hb11 => ?_)
   ·replace h := ift h (ct hb11)
    refine wp_seq (sr (Zb (v := .int .i64 a3) rfl (Jl rfl rfl (dn ?_))))
    refine Zr rfl (fun hb12 => ?_) (fun hb12 => ?_)
    ·replace h := ift h (ct hb12)
     refine Ym 7 Yg [0, 0, 2, 6, 14, 0, 32, 126, 255, 511, 1023] [4, 5] [0, 1, 2, 3] (by kernel_rfl) (by kernel_rfl) (by kernel_rfl) (fun hM11 hM10 w10 hB_ => ?_)
     replace hC := hC.grow hB_
     refine aF 0 (.pointer (some ⟨b0, 0, none⟩)) rfl rfl (hM10 0 rfl) (rfl) (fun _ => by exact Zg (v := .pointer (some ⟨b0, 0, none⟩)) rfl) (Za 11 1) (aF 1 (.pointer (some ⟨b0, 0, none⟩)) rfl rfl (hM10 1 rfl) (rfl) (fun _ => by exact Zg (v := .pointer (some ⟨b0, 0, none⟩)) rfl) (Za 11 3) (aF 2 (.pointer (some ⟨b0, 0, none⟩)) rfl rfl (hM10 2 rfl) (rfl) (fun _ => by exact Jx rfl) (Za 11 7) (aF 3 (.pointer (some ⟨b0, 2, none⟩)) rfl rfl (hM10 3 rfl) (rfl) (fun _ => by exact Z7 2 Try.underlying175 rfl sc121.size rfl rfl) (Za 11 15) (aL 4 (u0_2) rfl rfl (hM11 4 rfl) (rfl) (fun _ hB_ => by exact Z5 (hC.grow hB_) 1 (u0_2) rfl sc121 rfl rfl) (Za 11 31) (aL 5 (.agg (List.toArray (A8.enc .i64 a2))) rfl rfl (hM11 5 rfl) (rfl) (fun _ hB_ => by exact Yu (hC.grow hB_) 0 (A8.enc .i64 a2) rfl ag101 rfl rfl rfl) (Za 11 63) (aO 6 rfl (Jg (sz := 8) hC [(0, .agg (List.toArray (A8.enc .i64 a2)))] ((EA .i64).encs [a2]) rfl (fun _ => Zqe a2 _) rfl (by decide) fun b10 w11 hB_ hC => done (aK (by assumption) (Za 11 127) (aO 7 rfl ?_)))))))))
     obtain ⟨hm10, h⟩ := h
     refine Zbj hC 3 Try.underlying121 Zqf rfl (by decide) (by decide) rfl (Zaq (hC.getM 0 rfl)) (fun q hq => Enc.encs_one' (E := (EA .i64)) _ q hq) rfl rfl hm10 fun v12 w12 hC => ?_
     replace hC := J8 hC 3 ((a0.2.2 ++ [a2]).length) ((EA .i64).encs (a0.2.2 ++ [a2])) rfl (by simp) (by first | (simp [Enc.encs_append]; done) | simp [Enc.encs_append, Enc.encs])
     refine done (Zil (by decide) (l9 := (Za 11 255)) (by kernel_rfl) (Zv 8 (by decide) (by decide) (by kernel_rfl) (by kernel_rfl) rfl (J2 rfl (Z1 2 Try.underlying175 rfl sc121.size rfl rfl (Zu (v := v12) hC 2 [v12] [u0_0, .int .i64 a0.2.1, v12] rfl sc121.size rfl rfl (Zcm (hC.getM 3 rfl)) rfl (Y3 (Xl (hC.getM 3 rfl)) rfl) (Nat.le_of_ble_eq_true rfl) rfl fun w13 hC => done (Zw (Zd ?_)))))))
     refine wp_ret (Zj ?_)
     refine Zb2 (fn := Try.f127) rfl  ⟨a0.2.2 ++ [a2], v12, rfl, h, (hC.getM 2 rfl), (hC.getM 3 rfl), (fun b_ hb_ => (hC.mfp _ (List.mem_of_getElem? (i := 3) rfl) b_ hb_).elim .inr (fun q_ => (List.mem_cons.1 q_).elim (fun e_ => absurd hb_ (fun hb_ => hC.mm 2 3 rfl rfl (by decide) b_ (List.mem_singleton.2 e_) hb_)) .inl)), hC.belO⟩ (.inl rfl)
    ·replace h := Zi h (cf hb12)
     refine wp_skip (Zd ?_)
     refine wp_ret (Zj ?_)
     refine Zb2 (fn := Try.f127) rfl  ⟨a0.2.2, u0_2, rfl, h, (hC.getM 1 rfl), (hC.getM 2 rfl), (fun b_ hb_ => (hC.mfp _ (List.mem_of_getElem? (i := 2) rfl) b_ hb_).elim .inr (fun q_ => (List.mem_cons.1 q_).elim (fun e_ => absurd hb_ (fun hb_ => hC.mm 1 2 rfl rfl (by decide) b_ (List.mem_singleton.2 e_) hb_)) .inl)), hC.belO⟩ (.inl rfl)
   ·replace h := Zi h (cf hb11)
    refine wp_skip (Zd (sr (Zb (v := .pointer (some ⟨b0, 0, none⟩)) rfl (J2 rfl (Z1 0 Try.underlying175 rfl sc22.size rfl rfl (Z8 hC 1 (u0_0) rfl sc22 rfl rfl (Zb (v := .int .i64 a1) rfl ?_)))))))
    obtain ⟨⟨h10, h11⟩, h⟩ := h
    obtain ⟨Ad12, c12, hv10⟩ := Z9 (hC.getP 0 rfl) a1.toNat (show a1.toNat < a0.1.length by omega)
    refine Xe (len := a0.1.length) Try.underlying22 sc2.size (tr rfl hv10) rfl h10 h11 (X5 (.int .i64 (a0.1.getD a1.toNat default)) (Yk (hC.getP 0 rfl) hv10 a1.toNat (show a1.toNat < a0.1.length by omega)) sc2 rfl (Zc (v := .int .i64 (a0.1.getD a1.toNat default)) rfl (dn (sr (Zb (v := .int .i64 a3) rfl (Zb (v := .int .i64 (a0.1.getD a1.toNat default)) rfl ?_))))))
    obtain ⟨h12, h⟩ := h
    refine Zkg rfl rfl h12 (Zf2 rfl rfl (Zc (v := .int .i64 (if 20 < IntKind.i64.wrap (Int.tdiv a3 (a0.1.getD a1.toNat default)) then 20 else IntKind.i64.wrap (Int.tdiv a3 (a0.1.getD a1.toNat default)))) rfl (dn (wp_seq (sr (Zb (v := .int .i64 (a0.1.getD a1.toNat default)) rfl (Jk rfl rfl (by decide) (Jl rfl rfl (dn ?_)))))))))
    refine Zr rfl (fun hb13 => ?_) (fun hb13 => ?_)
    ·replace h := ift h (ct hb13)
     refine Zk (Zb (v := .int .i64 (if 20 < IntKind.i64.wrap (Int.tdiv a3 (a0.1.getD a1.toNat default)) then 20 else IntKind.i64.wrap (Int.tdiv a3 (a0.1.getD a1.toNat default)))) rfl (Zf2 rfl rfl (Zc (v := .int .i64 (if 1 < (if 20 < IntKind.i64.wrap (Int.tdiv a3 (a0.1.getD a1.toNat default)) then 20 else IntKind.i64.wrap (Int.tdiv a3 (a0.1.getD a1.toNat default))) then 1 else (if 20 < IntKind.i64.wrap (Int.tdiv a3 (a0.1.getD a1.toNat default)) then 20 else IntKind.i64.wrap (Int.tdiv a3 (a0.1.getD a1.toNat default))))) rfl (dn (sr (Zb (v := .int .i64 (if 1 < (if 20 < IntKind.i64.wrap (Int.tdiv a3 (a0.1.getD a1.toNat default)) then 20 else IntKind.i64.wrap (Int.tdiv a3 (a0.1.getD a1.toNat default))) then 1 else (if 20 < IntKind.i64.wrap (Int.tdiv a3 (a0.1.getD a1.toNat default)) then 20 else IntKind.i64.wrap (Int.tdiv a3 (a0.1.getD a1.toNat default))))) rfl (Zc (v := .int .i64 (if 1 < (if 20 < IntKind.i64.wrap (Int.tdiv a3 (a0.1.getD a1.toNat default)) then 20 else IntKind.i64.wrap (Int.tdiv a3 (a0.1.getD a1.toNat default))) then 1 else (if 20 < IntKind.i64.wrap (Int.tdiv a3 (a0.1.getD a1.toNat default)) then 20 else IntKind.i64.wrap (Int.tdiv a3 (a0.1.getD a1.toNat default))))) rfl (dn (wp_block ?_)))))))))
     refine Xu (S := A8 × (List A8) × Int) _ (fun s10 e_ w_ => ∃ (v10 : Value), Z4 e_ [(0, .pointer (some ⟨b0, 0, none⟩)), (1, .int .i64 a1), (3, .int .i64 a3), (6, .pointer (some ⟨b4, 0, none⟩)), (8, .int .i64 (a0.1.getD a1.toNat default)), (10, .int .i64 s10.2.2)] ∧ Ctx (fun c_ => c_ ∈ b0 :: Option.toList (Value.ownBlock u0_2)) w0 w_ [blk b4 101 (A8.enc .i64 s10.1), blk b0 175 [u0_0, .int .i64 a0.2.1, v10], own 101 8 v10 s10.2.1.length ((EA .i64).encs s10.2.1)] [Ty.item ((EI .i64).ty.sl) a0.1 [u0_0] fp0]) ?_ (s0 := (a2, a0.2.2, (if 1 < (if 20 < IntKind.i64.wrap (Int.tdiv a3 (a0.1.getD a1.toNat default)) then 20 else IntKind.i64.wrap (Int.tdiv a3 (a0.1.getD a1.toNat default))) then 1 else (if 20 < IntKind.i64.wrap (Int.tdiv a3 (a0.1.getD a1.toNat default)) then 20 else IntKind.i64.wrap (Int.tdiv a3 (a0.1.getD a1.toNat default)))))) ?_ h
     ·clear hC h
      rintro s10 e_ w14 nx10 K10 ⟨v10, hS_, hC⟩ h hK10
      rw [ue hS_]
      refine wp_seq (sr (Zb (v := .int .i64 s10.2.2) rfl (Zai rfl rfl (dn ?_))))
      refine Zr rfl (fun hb14 => ?_) (fun hb14 => ?_)
      ·replace h := ift h (ct hb14)
       refine wp_skip (Zd (wp_seq (wp_block (sr (Zb (v := .int .i64 a1) rfl (Zb (v := .int .i64 s10.2.2) rfl ?_))))))
       obtain ⟨⟨h13, h14⟩, h⟩ := h
       refine Y1 a1.toNat Try.underlying101 sc3.size rfl rfl h13 h14 (by omega) (Zu (v := .int .i64 s10.2.2) hC 0 [.int .i64 s10.2.2] (A8.enc .i64 (s10.1.set a1.toNat s10.2.2)) rfl sc3.size rfl rfl rfl rfl rfl (show a1.toNat < 8 by omega) (A8.enc_set _ _ _ (show a1.toNat < 8 by omega)) fun w15 hC => dn (Zk (Zb (v := .pointer (some ⟨b0, 0, none⟩)) rfl (Zb (v := .int .i64 a1) rfl (Zq rfl rfl (Ys hC 0 (A8.enc .i64 (s10.1.set a1.toNat s10.2.2)) rfl ag101 rfl rfl rfl (Zb (v := .int .i64 a3) rfl (Zb (v := .int .i64 s10.2.2) rfl (Zb (v := .int .i64 (a0.1.getD a1.toNat default)) rfl (Zad rfl rfl ?_))))))))))
       refine J5 rfl rfl ?_
       replace hC := hC.sM [1, 2, 0] (M' := [blk b0 175 [u0_0, .int .i64 a0.2.1, v10], own 101 8 v10 s10.2.1.length ((EA .i64).encs s10.2.1), blk b4 101 (A8.enc .i64 (s10.1.set a1.toNat s10.2.2))]) (by decide) rfl
       refine Zf [.pointer (some ⟨b0, 0, none⟩), .int .i64 (IntKind.i64.wrap (a1 + 1)), .agg (List.toArray (A8.enc .i64 (s10.1.set a1.toNat s10.2.2))), .int .i64 (IntKind.i64.wrap (a3 - (IntKind.i64.wrap (s10.2.2 * (a0.1.getD a1.toNat default)))))] _ Try.func127 rfl rfl rfl (ih_ (⟨a0.1, a0.2.1, s10.2.1⟩ : List Int × Int × List A8) (IntKind.i64.wrap (a1 + 1)) (s10.1.set a1.toNat s10.2.2) (IntKind.i64.wrap (a3 - (IntKind.i64.wrap (s10.2.2 * (a0.1.getD a1.toNat default))))) h _ (hC.getP 0 rfl) (hC.getM 0 rfl) (hC.getM 1 rfl) (fun hb_ => hC.mm 0 1 rfl rfl (by decide) _ (List.mem_singleton_self _) hb_) (fun b_ hb_ hb2_ => (List.mem_cons.1 hb2_).elim (fun e_ => hC.pd _ (List.mem_of_getElem? (i := 0) rfl) b_ hb_ _ (List.mem_of_getElem? (i := 0) rfl) (List.mem_singleton.2 e_)) (fun hb2_ => hC.pd _ (List.mem_of_getElem? (i := 0) rfl) b_ hb_ _ (List.mem_of_getElem? (i := 1) rfl) hb2_))) (fun ret10 w16 hR10 => ?_)
       obtain ⟨m10, v13, rfl, h, hm11, hm12, hm13, hB10⟩ := hR10
       refine ⟨_, rfl, ?_⟩
       replace hC := hC.turnS hB10 hm11 hm12 hm13
       refine done (Zt (Zd (Zk (Zb (v := .int .i64 s10.2.2) rfl (J5 rfl rfl (Zc (v := .int .i64 (IntKind.i64.wrap (s10.2.2 - 1))) rfl (done ?_)))))))
       replace hC := hC.sM [2, 0, 1] (M' := [blk b4 101 (A8.enc .i64 (s10.1.set a1.toNat s10.2.2)), blk b0 175 [u0_0, .int .i64 a0.2.1, v13], own 101 8 v13 m10.length ((EA .i64).encs m10)]) (by decide) rfl
       exact hK10 (s10.1.set a1.toNat s10.2.2, m10, IntKind.i64.wrap (s10.2.2 - 1)) _ _ ⟨v13, (sl ⟨rfl, rfl, rfl, rfl, rfl, rfl, trivial⟩), hC⟩ h
      ·replace h := Zi h (cf hb14)
       refine wp_exit (Zl (Zl (Yc ?_)))
       refine Zb2 (fn := Try.f127) rfl  ⟨s10.2.1, v10, rfl, h, (hC.getM 1 rfl), (hC.getM 2 rfl), (fun b_ hb_ => (hC.mfp _ (List.mem_of_getElem? (i := 2) rfl) b_ hb_).elim .inr (fun q_ => (List.mem_cons.1 q_).elim (fun e_ => absurd hb_ (fun hb_ => hC.mm 1 2 rfl rfl (by decide) b_ (List.mem_singleton.2 e_) hb_)) .inl)), hC.belO⟩ (.inr rfl)
     ·skip
      exact ⟨u0_2, (sl ⟨rfl, rfl, rfl, rfl, rfl, rfl, trivial⟩), hC⟩
    ·replace h := Zi h (cf hb13)
     refine wp_skip (Zd (sr (Zb (v := .int .i64 (if 20 < IntKind.i64.wrap (Int.tdiv a3 (a0.1.getD a1.toNat default)) then 20 else IntKind.i64.wrap (Int.tdiv a3 (a0.1.getD a1.toNat default)))) rfl (Zc (v := .int .i64 (if 20 < IntKind.i64.wrap (Int.tdiv a3 (a0.1.getD a1.toNat default)) then 20 else IntKind.i64.wrap (Int.tdiv a3 (a0.1.getD a1.toNat default)))) rfl (dn (wp_block ?_))))))
     refine Xu (S := A8 × (List A8) × Int) _ (fun s11 e_ w_ => ∃ (v11 : Value), Z4 e_ [(0, .pointer (some ⟨b0, 0, none⟩)), (1, .int .i64 a1), (3, .int .i64 a3), (6, .pointer (some ⟨b4, 0, none⟩)), (8, .int .i64 (a0.1.getD a1.toNat default)), (10, .int .i64 s11.2.2)] ∧ Ctx (fun c_ => c_ ∈ b0 :: Option.toList (Value.ownBlock u0_2)) w0 w_ [blk b4 101 (A8.enc .i64 s11.1), blk b0 175 [u0_0, .int .i64 a0.2.1, v11], own 101 8 v11 s11.2.1.length ((EA .i64).encs s11.2.1)] [Ty.item ((EI .i64).ty.sl) a0.1 [u0_0] fp0]) ?_ (s0 := (a2, a0.2.2, (if 20 < IntKind.i64.wrap (Int.tdiv a3 (a0.1.getD a1.toNat default)) then 20 else IntKind.i64.wrap (Int.tdiv a3 (a0.1.getD a1.toNat default))))) ?_ h
     ·clear hC h
      rintro s11 e_ w17 nx11 K11 ⟨v11, hS_, hC⟩ h hK11
      rw [ue hS_]
      refine wp_seq (sr (Zb (v := .int .i64 s11.2.2) rfl (Zai rfl rfl (dn ?_))))
      refine Zr rfl (fun hb15 => ?_) (fun hb15 => ?_)
      ·replace h := ift h (ct hb15)
       refine wp_skip (Zd (wp_seq (wp_block (sr (Zb (v := .int .i64 a1) rfl (Zb (v := .int .i64 s11.2.2) rfl ?_))))))
       obtain ⟨⟨h15, h16⟩, h⟩ := h
       refine Y1 a1.toNat Try.underlying101 sc3.size rfl rfl h15 h16 (by omega) (Zu (v := .int .i64 s11.2.2) hC 0 [.int .i64 s11.2.2] (A8.enc .i64 (s11.1.set a1.toNat s11.2.2)) rfl sc3.size rfl rfl rfl rfl rfl (show a1.toNat < 8 by omega) (A8.enc_set _ _ _ (show a1.toNat < 8 by omega)) fun w18 hC => dn (Zk (Zb (v := .pointer (some ⟨b0, 0, none⟩)) rfl (Zb (v := .int .i64 a1) rfl (Zq rfl rfl (Ys hC 0 (A8.enc .i64 (s11.1.set a1.toNat s11.2.2)) rfl ag101 rfl rfl rfl (Zb (v := .int .i64 a3) rfl (Zb (v := .int .i64 s11.2.2) rfl (Zb (v := .int .i64 (a0.1.getD a1.toNat default)) rfl (Zad rfl rfl ?_))))))))))
       refine J5 rfl rfl ?_
       replace hC := hC.sM [1, 2, 0] (M' := [blk b0 175 [u0_0, .int .i64 a0.2.1, v11], own 101 8 v11 s11.2.1.length ((EA .i64).encs s11.2.1), blk b4 101 (A8.enc .i64 (s11.1.set a1.toNat s11.2.2))]) (by decide) rfl
       refine Zf [.pointer (some ⟨b0, 0, none⟩), .int .i64 (IntKind.i64.wrap (a1 + 1)), .agg (List.toArray (A8.enc .i64 (s11.1.set a1.toNat s11.2.2))), .int .i64 (IntKind.i64.wrap (a3 - (IntKind.i64.wrap (s11.2.2 * (a0.1.getD a1.toNat default)))))] _ Try.func127 rfl rfl rfl (ih_ (⟨a0.1, a0.2.1, s11.2.1⟩ : List Int × Int × List A8) (IntKind.i64.wrap (a1 + 1)) (s11.1.set a1.toNat s11.2.2) (IntKind.i64.wrap (a3 - (IntKind.i64.wrap (s11.2.2 * (a0.1.getD a1.toNat default))))) h _ (hC.getP 0 rfl) (hC.getM 0 rfl) (hC.getM 1 rfl) (fun hb_ => hC.mm 0 1 rfl rfl (by decide) _ (List.mem_singleton_self _) hb_) (fun b_ hb_ hb2_ => (List.mem_cons.1 hb2_).elim (fun e_ => hC.pd _ (List.mem_of_getElem? (i := 0) rfl) b_ hb_ _ (List.mem_of_getElem? (i := 0) rfl) (List.mem_singleton.2 e_)) (fun hb2_ => hC.pd _ (List.mem_of_getElem? (i := 0) rfl) b_ hb_ _ (List.mem_of_getElem? (i := 1) rfl) hb2_))) (fun ret11 w19 hR11 => ?_)
       obtain ⟨m11, v14, rfl, h, hm14, hm15, hm16, hB11⟩ := hR11
       refine ⟨_, rfl, ?_⟩
       replace hC := hC.turnS hB11 hm14 hm15 hm16
       refine done (Zt (Zd (Zk (Zb (v := .int .i64 s11.2.2) rfl (J5 rfl rfl (Zc (v := .int .i64 (IntKind.i64.wrap (s11.2.2 - 1))) rfl (done ?_)))))))
       replace hC := hC.sM [2, 0, 1] (M' := [blk b4 101 (A8.enc .i64 (s11.1.set a1.toNat s11.2.2)), blk b0 175 [u0_0, .int .i64 a0.2.1, v14], own 101 8 v14 m11.length ((EA .i64).encs m11)]) (by decide) rfl
       exact hK11 (s11.1.set a1.toNat s11.2.2, m11, IntKind.i64.wrap (s11.2.2 - 1)) _ _ ⟨v14, (sl ⟨rfl, rfl, rfl, rfl, rfl, rfl, trivial⟩), hC⟩ h
      ·replace h := Zi h (cf hb15)
       refine wp_exit (Zl (Zl (Yc ?_)))
       refine Zb2 (fn := Try.f127) rfl  ⟨s11.2.1, v11, rfl, h, (hC.getM 1 rfl), (hC.getM 2 rfl), (fun b_ hb_ => (hC.mfp _ (List.mem_of_getElem? (i := 2) rfl) b_ hb_).elim .inr (fun q_ => (List.mem_cons.1 q_).elim (fun e_ => absurd hb_ (fun hb_ => hC.mm 1 2 rfl rfl (by decide) b_ (List.mem_singleton.2 e_) hb_)) .inl)), hC.belO⟩ (.inr rfl)
     ·skip
      exact ⟨u0_2, (sl ⟨rfl, rfl, rfl, rfl, rfl, rfl, trivial⟩), hC⟩
def Zgd (a0 : List Int) (a1 : Int) (a2 : Int) (K : List A8 → Bool → Prop) : Prop :=
 (if a1 ≥ 0 then f_impl_lister_from 9 (⟨a0, a2, []⟩ : List Int × Int × List A8) 0 A8.zero a1 (fun m10 => K m10 (decide ((m10.length : Int) ≤ a2))) else K [] (decide (0 ≤ a2)))
theorem Ztv (a0 : List Int) (a1 : Int) (a2 : Int) {u0_0 : Value} {fp0 : List Nat} {K : List A8 → Bool → Prop} (h : Zgd a0 a1 a2 K) (w0 : World) (q0 : ((EI .i64).ty.sl).rep a0 [u0_0] fp0 w0) :
  Calls Try.prog 91 #[u0_0, .int .i64 a1, .int .i64 a2] w0 fun e w' => ∃ (r0 : List A8) (z0_0 : Value) (fz0 : List Nat) (r1 : Bool), 
   e = .returned (.tuple #[z0_0, .bool r1]) ∧ K r0 r1 ∧ (Tr.item (Tr.sl 101 ((EA .i64).tr)) r0 [z0_0] fz0).holds w' ∧ (∀ b, b ∈ fz0 → w0.heap.size ≤ b) ∧ Bel w0 w' := by
 unfold Zgd at h
 refine Z6 (args := [u0_0, .int .i64 a1, .int .i64 a2]) Try.func91 rfl 30 Try.ntmps91 (Nat.le_of_ble_eq_true rfl) ?_
 have hC := Ctx.start (X := Nox) w0 [Ty.item ((EI .i64).ty.sl) a0 [u0_0] fp0] (by simp only [List.mem_cons, List.not_mem_nil, or_false, forall_eq_or_imp, forall_eq]; exact q0)
 refine sr (Zc (v := .slice none 0 0) rfl (Zc (v := .bool false) rfl (dn (sr (Zb (v := u0_0) rfl (Zb (v := .int .i64 a2) rfl (Jd [(0, u0_0), (1, .int .i64 a2)] rfl (Ztd u0_0 a2 (Zi6 (hC.getP 0 rfl)) _) (Ye (v := .agg #[u0_0, .int .i64 a2, .slice none 0 0]) hC [u0_0, .int .i64 a2, .slice none 0 0] rfl rfl fun b2 w4 hB_ hC => Zc (v := .pointer (some ⟨b2, 0, none⟩)) rfl (dn (wp_seq ?_))))))))))
 refine sr (Zb (v := .int .i64 a1) rfl (Zai rfl rfl (dn ?_)))
 refine Zr rfl (fun hb5 => ?_) (fun hb5 => ?_)
 ·replace h := ift h (ct hb5)
  refine Zk (Zb (v := .pointer (some ⟨b2, 0, none⟩)) rfl (Jd [] rfl (Ze3   _) (Zb (v := .int .i64 a1) rfl ?_)))
  replace hC := hC.pushNil 101 8
  replace hC := hC.sM [1, 0] (M' := [blk b2 175 [u0_0, .int .i64 a2, .slice none 0 0], own 101 8 (.slice none 0 0) 0 ((EA .i64).encs [])]) (by decide) rfl
  refine Zf [.pointer (some ⟨b2, 0, none⟩), .int .i64 0, .agg (List.toArray (A8.enc .i64 A8.zero)), .int .i64 a1] _ Try.func127 rfl rfl rfl (Ztu 9 (⟨a0, a2, []⟩ : List Int × Int × List A8) 0 A8.zero a1 h _ (hC.getP 0 rfl) (hC.getM 0 rfl) (hC.getM 1 rfl) (fun hb_ => hC.mm 0 1 rfl rfl (by decide) _ (List.mem_singleton_self _) hb_) (fun b_ hb_ hb2_ => (List.mem_cons.1 hb2_).elim (fun e_ => hC.pd _ (List.mem_of_getElem? (i := 0) rfl) b_ hb_ _ (List.mem_of_getElem? (i := 0) rfl) (List.mem_singleton.2 e_)) (fun hb2_ => hC.pd _ (List.mem_of_getElem? (i := 0) rfl) b_ hb_ _ (List.mem_of_getElem? (i := 1) rfl) hb2_))) (fun ret7 w9 hR8 => ?_)
  obtain ⟨m10, v10, rfl, h, hm10, hm11, hm12, hB10⟩ := hR8
  refine ⟨_, rfl, ?_⟩
  replace hC := hC.turnS hB10 hm10 hm11 hm12
  refine dn (wp_seq ?_)
  refine Ym 12 Yg [0, 1, 3, 7, 0, 16, 48, 112, 240, 0, 1008, 15, 4095] [3, 7, 8] [0, 1, 2, 4, 5, 6, 9, 10, 11] (by kernel_rfl) (by kernel_rfl) (by kernel_rfl) (fun hM12 hM10 w10 hB_ => ?_)
  replace hC := hC.grow hB_
  refine aF 0 (.pointer (some ⟨b2, 0, none⟩)) rfl rfl (hM10 0 rfl) (rfl) (fun _ => by exact Zg (v := .pointer (some ⟨b2, 0, none⟩)) rfl) (Za 13 1) (aF 1 (.pointer (some ⟨b2, 0, none⟩)) rfl rfl (hM10 1 rfl) (rfl) (fun _ => by exact Jx rfl) (Za 13 3) (aF 2 (.pointer (some ⟨b2, 2, none⟩)) rfl rfl (hM10 2 rfl) (rfl) (fun _ => by exact Z7 2 Try.underlying175 rfl sc121.size rfl rfl) (Za 13 7) (aL 3 (v10) rfl rfl (hM12 3 rfl) (rfl) (fun _ hB_ => by exact Z5 (hC.grow hB_) 0 (v10) rfl sc121 rfl rfl) (Za 13 15) (aF 4 (.pointer (some ⟨b2, 0, none⟩)) rfl rfl (hM10 4 rfl) (rfl) (fun _ => by exact Zg (v := .pointer (some ⟨b2, 0, none⟩)) rfl) (Za 13 31) (aF 5 (.pointer (some ⟨b2, 0, none⟩)) rfl rfl (hM10 5 rfl) (rfl) (fun _ => by exact Jx rfl) (Za 13 63) (aF 6 (.pointer (some ⟨b2, 2, none⟩)) rfl rfl (hM10 6 rfl) (rfl) (fun _ => by exact Z7 2 Try.underlying175 rfl sc121.size rfl rfl) (Za 13 127) (aL 7 (v10) rfl rfl (hM12 7 rfl) (rfl) (fun _ hB_ => by exact Z5 (hC.grow hB_) 0 (v10) rfl sc121 rfl rfl) (Za 13 255) ?_)))))))
  obtain ⟨Ad10, c10, hv10⟩ := J6 (hC.getM 1 rfl)
  refine aL 8 (.int .i64 (m10.length : Int)) rfl rfl (hM12 8 rfl) (rfl) (fun _ hB_ => by exact Zck Try.underlying121 (by exact tr rfl hv10)) (Za 13 511) (aF 9 (.int .i64 a2) rfl rfl (hM10 9 rfl) (rfl) (fun _ => by exact Zg (v := .int .i64 a2) rfl) (Za 13 1023) (aF 10 (.bool (decide ((m10.length : Int) ≤ a2))) rfl rfl (hM10 10 rfl) (rfl) (fun _ => by exact Zki rfl rfl) (Za 13 2047) (aF 11 (v10) rfl rfl (hM10 11 rfl) (rfl) (fun _ => by exact Zgn (v := v10) rfl) (Za 13 4095) (Zv 12 (by decide) (by decide) (by kernel_rfl) (by kernel_rfl) rfl (Zc (v := .bool (decide ((m10.length : Int) ≤ a2))) rfl (done (Zw (Zd (wp_ret ?_)))))))))
  refine Jn (fn := Try.f91) rfl ?_ ?_ ⟨m10, v10, (Option.toList (Value.ownBlock v10)), decide ((m10.length : Int) ≤ a2), rfl, h, (Js (hC.getM 1 rfl)), (Zae hC 1 rfl), hC.below⟩ (.inl rfl)
  ·exact Zh rfl
  ·exact Zh rfl
 ·replace h := Zi h (cf hb5)
  refine wp_skip (Zd (wp_seq ?_))
  refine Ym 12 Yg [0, 1, 3, 7, 0, 16, 48, 112, 240, 0, 1008, 15, 4095] [3, 7, 8] [0, 1, 2, 4, 5, 6, 9, 10, 11] (by kernel_rfl) (by kernel_rfl) (by kernel_rfl) (fun hM13 hM11 w11 hB_ => ?_)
  replace hC := hC.grow hB_
  refine aF 0 (.pointer (some ⟨b2, 0, none⟩)) rfl rfl (hM11 0 rfl) (rfl) (fun _ => by exact Zg (v := .pointer (some ⟨b2, 0, none⟩)) rfl) (Za 13 1) (aF 1 (.pointer (some ⟨b2, 0, none⟩)) rfl rfl (hM11 1 rfl) (rfl) (fun _ => by exact Jx rfl) (Za 13 3) (aF 2 (.pointer (some ⟨b2, 2, none⟩)) rfl rfl (hM11 2 rfl) (rfl) (fun _ => by exact Z7 2 Try.underlying175 rfl sc121.size rfl rfl) (Za 13 7) (aL 3 (.slice none 0 0) rfl rfl (hM13 3 rfl) (rfl) (fun _ hB_ => by exact Z5 (hC.grow hB_) 0 (.slice none 0 0) rfl sc121 rfl rfl) (Za 13 15) (aF 4 (.pointer (some ⟨b2, 0, none⟩)) rfl rfl (hM11 4 rfl) (rfl) (fun _ => by exact Zg (v := .pointer (some ⟨b2, 0, none⟩)) rfl) (Za 13 31) (aF 5 (.pointer (some ⟨b2, 0, none⟩)) rfl rfl (hM11 5 rfl) (rfl) (fun _ => by exact Jx rfl) (Za 13 63) (aF 6 (.pointer (some ⟨b2, 2, none⟩)) rfl rfl (hM11 6 rfl) (rfl) (fun _ => by exact Z7 2 Try.underlying175 rfl sc121.size rfl rfl) (Za 13 127) (aL 7 (.slice none 0 0) rfl rfl (hM13 7 rfl) (rfl) (fun _ hB_ => by exact Z5 (hC.grow hB_) 0 (.slice none 0 0) rfl sc121 rfl rfl) (Za 13 255) (aL 8 (.int .i64 0) rfl rfl (hM13 8 rfl) (rfl) (fun _ hB_ => by exact Zck Try.underlying121 rfl) (Za 13 511) (aF 9 (.int .i64 a2) rfl rfl (hM11 9 rfl) (rfl) (fun _ => by exact Zg (v := .int .i64 a2) rfl) (Za 13 1023) (aF 10 (.bool (decide (0 ≤ a2))) rfl rfl (hM11 10 rfl) (rfl) (fun _ => by exact Zki rfl rfl) (Za 13 2047) (aF 11 (.slice none 0 0) rfl rfl (hM11 11 rfl) (rfl) (fun _ => by exact Zgn (v := .slice none 0 0) rfl) (Za 13 4095) ?_)))))))))))
  refine Zv 12 (by decide) (by decide) (by kernel_rfl) (by kernel_rfl) rfl (Zc (v := .bool (decide (0 ≤ a2))) rfl (done (Zw (Zd (wp_ret ?_)))))
  refine Jn (fn := Try.f91) rfl ?_ ?_ ⟨[], .slice none 0 0, [], decide (0 ≤ a2), rfl, h, (Za4 _ _ _), (fun b hb => absurd hb (by simp)), hC.below⟩ (.inl rfl)
  ·exact Zh rfl
  ·exact Zh rfl
def Zd2 (a0 : Alg) (a1 : Int) (K : List Elem → Int → Prop) : Prop :=
 Yy (fun i10 (s11 : (List Elem)) nx10 => Zgd a0.degrees (IntKind.i64.wrap ((a0.degrees.getD i10 default) - a1)) 120 (fun r10 r11 => (if ¬ (r11 = true) then K [] 3 else (if IntKind.i64.wrap ((s11.length : Int) + (r10.length : Int)) > 120 then K [] 3 else Yy (fun i11 (s10 : (List Elem)) nx11 => (Xp (s10.length + 1) 72 ∧ nx11 (s10 ++ [(⟨(i10 : Int), r10.getD i11 default⟩ : Elem)]))) (fun (s10 : (List Elem)) => nx10 s10) r10.length 0 s11)))) (fun (s11 : (List Elem)) => K s11 0) a0.degrees.length 0 []
theorem Zmw (a0 : Alg) (a1 : Int) {b0 : Nat} {u0_0 : Value} {u0_1 : Value} {fp0 : List Nat} {K : List Elem → Int → Prop} (h : Zd2 a0 a1 K) (w0 : World) (q0 : TAlg.rep a0 [u0_0, u0_1] fp0 w0) (qb0 : (blk b0 32 [u0_0, u0_1]).holds w0) :
  Calls Try.prog 107 #[.pointer (some ⟨b0, 0, none⟩), .int .i64 a1] w0 fun e w' => ∃ (r0 : List Elem) (z0_0 : Value) (fz0 : List Nat) (r1 : Int), 
   e = .returned (.tuple #[z0_0, .int .i64 r1]) ∧ K r0 r1 ∧ (Tr.item (Tr.sl 144 EElem.tr) r0 [z0_0] fz0).holds w' ∧ (∀ b, b ∈ fz0 → w0.heap.size ≤ b) ∧ Bel w0 w' := by
 unfold Zd2 at h
 refine Z6 (args := [.pointer (some ⟨b0, 0, none⟩), .int .i64 a1]) Try.func107 rfl 60 Try.ntmps107 (Nat.le_of_ble_eq_true rfl) ?_
 have hC := Ctx.start (X := Nox) w0 [Ty.item TAlg a0 [u0_0, u0_1] fp0, blk b0 32 [u0_0, u0_1]] (by simp only [List.mem_cons, List.not_mem_nil, or_false, forall_eq_or_imp, forall_eq]; exact ⟨q0, qb0⟩)
 have hp3 := (hC.getP 0 rfl)
 replace hC := hC.derive 0 rfl (Ty.item ((EI .i64).ty.sl) a0.degrees [u0_0] fp0) (fun _ => (Yt hp3).1) (fun _ hb_ => hb_)
 replace hC := hC.derive 1 rfl (Ty.item TForm.sl a0.images [u0_1] fp0) (fun _ => (Yt hp3).2) (fun _ hb_ => hb_)
 refine sr (Zc (v := .slice none 0 0) rfl (Zc (v := .int .i64 0) rfl (dn (sr (Jg (sz := 9) hC [] (EElem.encs []) rfl (fun _ => Zte  _) rfl (by decide) fun b6 w7 hB_ hC => Zc (v := .slice (some ⟨b6, 0, none⟩) 0 0) rfl (dn (wp_seq (sr (Zb (v := .pointer (some ⟨b0, 0, none⟩)) rfl (J2 rfl ?_))))))))))
 refine Z1 0 Try.underlying32 rfl sc22.size rfl rfl (Zbl (u0_0) (hC.getP 3 rfl) sc22 rfl rfl ?_)
 obtain ⟨Ad9, c10, hv12⟩ := Z2 (hC.getP 1 rfl)
 refine Z0 Try.underlying22 (tr rfl hv12) (Zb (v := .int .i64 0) rfl (dn (wp_block ?_)))
 have hN10 : a0.degrees.length ≤ 9223372036854775807 := Xv (hC.getP 1 rfl)
 refine Y6 (S := (List Elem)) _ _ (fun i10 s11 e_ w_ => ∃ (v10 : Value), Z4 e_ [(0, .pointer (some ⟨b0, 0, none⟩)), (1, .int .i64 a1), (6, v10), (17, u0_0), (18, .int .i64 (a0.degrees.length : Int)), (19, .int .i64 (i10 : Int))] ∧ Ctx Nox w0 w_ [own 144 9 v10 s11.length (EElem.encs s11)] [Ty.item TForm.sl a0.images [u0_1] fp0, Ty.item ((EI .i64).ty.sl) a0.degrees [u0_0] fp0, Ty.item TAlg a0 [u0_0, u0_1] fp0, blk b0 32 [u0_0, u0_1]]) a0.degrees.length ?_ ?_ (s0 := []) ?_ h
 ·clear hC h
  rintro i10 s11 e_ w10 nx10 K10 hi10 ⟨v10, hS_, hC⟩ h hK10
  rw [ue hS_]
  refine sr (Zs rfl rfl (dn (wp_seq (Yq rfl (decide_eq_true (by omega)) (wp_skip (Zd (wp_seq (wp_block (sr (Zb (v := .int .i64 (i10 : Int)) rfl ?_))))))))))
  obtain ⟨Ad10, c11, hv10⟩ := Z9 (hC.getP 1 rfl) i10 hi10
  refine Xe (len := a0.degrees.length) Try.underlying22 sc2.size (tr rfl hv10) rfl (Int.natCast_nonneg _) (Int.ofNat_lt.2 hi10) (X5 (.int .i64 (a0.degrees.getD i10 default)) (Yk (hC.getP 1 rfl) hv10 i10 hi10) sc2 rfl (Zc (v := .int .i64 (i10 : Int)) rfl (Zc (v := .int .i64 (a0.degrees.getD i10 default)) rfl (dn (sr (Zb (v := .pointer (some ⟨b0, 0, none⟩)) rfl (J2 rfl (Z1 0 Try.underlying32 rfl sc22.size rfl rfl (Zbl (u0_0) (hC.getP 3 rfl) sc22 rfl rfl (Zb (v := .int .i64 (a0.degrees.getD i10 default)) rfl (Zb (v := .int .i64 a1) rfl ?_)))))))))))
  refine J5 rfl rfl ?_
  refine Zf [u0_0, .int .i64 (IntKind.i64.wrap ((a0.degrees.getD i10 default) - a1)), .int .i64 120] _ Try.func91 rfl rfl rfl (Ztv a0.degrees (IntKind.i64.wrap ((a0.degrees.getD i10 default) - a1)) 120 h _ (hC.getP 1 rfl)) (fun ret10 w11 hR10 => ?_)
  obtain ⟨r10, u10, f10, r11, rfl, h, hr10, hf10, hB10⟩ := hR10
  refine ⟨_, rfl, ?_⟩
  replace hC := hC.push hB10 (Tr.item (Tr.sl 101 ((EA .i64).tr)) r10 [u10] f10) hr10 hf10
  obtain ⟨ho10, hf11⟩ := Zat (hC.getM 0 rfl).1
  subst hf11
  replace hC := hC.recast (c := own 101 8 u10 r10.length ((EA .i64).encs r10)) (fun _ h_ => h_) (fun _ => ho10)
  refine Zb (v := .tuple #[u10, .bool r11]) rfl (Xd (v := u10) rfl rfl (Xd (v := .bool r11) rfl rfl (Zc (v := u10) rfl (Zc (v := .bool r11) rfl (dn (wp_seq (sr (Zb (v := .bool r11) rfl (X0 rfl (Zb (v := .bool (!r11)) rfl ?_))))))))))
  refine Xa (!r11) (fun hb10 => ?_) (fun hb10 => ?_)
  ·replace h := ift h (Xq (X6 hb10))
   refine Zn (b := true) 2 37 rfl (tr rfl (congrArg _ hb10)) (by decide) (Zn (b := true) 2 37 rfl (tr rfl (congrArg _ hb10)) (by decide) (Zn (b := true) 2 37 rfl (tr rfl (congrArg _ hb10)) (by decide) (Zn (b := true) 2 37 rfl (tr rfl (congrArg _ hb10)) (by decide) (Zn (b := true) 2 37 rfl (tr rfl (congrArg _ hb10)) (by decide) (Zn (b := true) 2 37 rfl (tr rfl (congrArg _ hb10)) (by decide) (Yb (v := .bool true) (b := true) (tr rfl (congrArg _ hb10)) rfl (dn (Yq rfl rfl (sr (Zc (v := .slice none 0 0) rfl (Zc (v := .int .i64 3) rfl ?_)))))))))))
   refine dn ?_
   refine wp_ret (Zj (Yd (Zj (Zj (Yd (Zj ?_))))))
   refine Jn (fn := Try.f107) rfl ?_ ?_ ⟨[], .slice none 0 0, [], 3, rfl, h, (Za4 _ _ _), (fun b hb => absurd hb (by simp)), hC.below⟩ (.inl rfl)
   ·exact Zh rfl
   ·exact Zh rfl
  ·replace h := Zi h (not_not_intro ((X7 hb10)))
   refine Zm 2 37 rfl rfl hb10 (Zb (v := v10) rfl (Zm 2 37 rfl rfl hb10 ?_))
   obtain ⟨Ad11, c12, hv13⟩ := J6 (hC.getM 1 rfl)
   refine Z0 Try.underlying140 (tr rfl hv13) (Zm 2 37 rfl rfl hb10 (Zb (v := u10) rfl (Zm 2 37 rfl rfl hb10 ?_)))
   obtain ⟨Ad12, c13, hv14⟩ := J6 (hC.getM 0 rfl)
   refine Z0 Try.underlying121 (tr rfl hv14) (Zm 2 37 rfl rfl hb10 (Zq rfl rfl (Zm 2 37 rfl rfl hb10 (Jm rfl rfl (Yb (v := .bool (decide (IntKind.i64.wrap ((s11.length : Int) + (r10.length : Int)) > 120))) (b := false) (tr rfl (congrArg _ hb10)) rfl (dn ?_))))))
   refine Zr rfl (fun hb11 => ?_) (fun hb11 => ?_)
   ·replace h := ift h (ct hb11)
    refine sr (Zc (v := .slice none 0 0) rfl (Zc (v := .int .i64 3) rfl (dn ?_)))
    refine wp_ret (Zj (Yd (Zj (Zj (Yd (Zj ?_))))))
    refine Jn (fn := Try.f107) rfl ?_ ?_ ⟨[], .slice none 0 0, [], 3, rfl, h, (Za4 _ _ _), (fun b hb => absurd hb (by simp)), hC.below⟩ (.inl rfl)
    ·exact Zh rfl
    ·exact Zh rfl
   ·replace h := Zi h (cf hb11)
    refine wp_skip (Zd (sr (Zb (v := u10) rfl ?_)))
    obtain ⟨Ad13, c14, hv15⟩ := J6 (hC.getM 0 rfl)
    refine Z0 Try.underlying121 (tr rfl hv15) (Zb (v := .int .i64 0) rfl (dn (wp_block ?_)))
    have hN11 : r10.length ≤ 9223372036854775807 := Zgt (hC.getM 0 rfl)
    refine Y6 (S := (List Elem)) _ _ (fun i11 s10 e_ w_ => ∃ (v11 : Value), Z4 e_ [(0, .pointer (some ⟨b0, 0, none⟩)), (1, .int .i64 a1), (6, v11), (7, .int .i64 (i10 : Int)), (17, u0_0), (18, .int .i64 (a0.degrees.length : Int)), (19, .int .i64 (i10 : Int)), (45, u10), (46, .int .i64 (r10.length : Int)), (47, .int .i64 (i11 : Int))] ∧ Ctx Nox w0 w_ [own 101 8 u10 r10.length ((EA .i64).encs r10), own 144 9 v11 s10.length (EElem.encs s10)] [Ty.item TForm.sl a0.images [u0_1] fp0, Ty.item ((EI .i64).ty.sl) a0.degrees [u0_0] fp0, Ty.item TAlg a0 [u0_0, u0_1] fp0, blk b0 32 [u0_0, u0_1]]) r10.length ?_ ?_ (s0 := s11) ?_ h
    ·clear hC h
     rintro i11 s10 e_ w12 nx11 K11 hi11 ⟨v11, hS_, hC⟩ h hK11
     rw [ue hS_]
     refine sr (Zs rfl rfl (dn (wp_seq (Yq rfl (decide_eq_true (by omega)) (wp_skip (Zd (wp_seq (wp_block (sr ?_)))))))))
     obtain ⟨Ad14, c15, hv11⟩ := Zav (hC.getM 0 rfl) (Nat.lt_of_le_of_lt (Nat.zero_le _) hi11)
     refine Zaw (i11 * 8) Try.underlying121 ag101.size (tr rfl hv11) rfl (Int.natCast_nonneg _) (Int.ofNat_lt.2 hi11) rfl (Zak (A8.enc .i64 (r10.getD i11 default)) (Zeh (hC.getM 0 rfl) hv11 i11 hi11) ag101 rfl rfl (Yf hC (A8.enc .i64 A8.zero) Jt rfl fun b10 w13 hB_ hC => Zu (v := .agg (List.toArray (A8.enc .i64 (r10.getD i11 default)))) hC 0 (A8.enc .i64 (r10.getD i11 default)) (A8.enc .i64 (r10.getD i11 default)) rfl ag101.size rfl rfl rfl rfl rfl (Nat.le_of_ble_eq_true rfl) rfl fun w14 hC => dn (Zk (Zb (v := v11) rfl (Zb (v := .int .i64 (i10 : Int)) rfl (Ys hC 0 (A8.enc .i64 (r10.getD i11 default)) rfl ag101 rfl rfl rfl (Jd [(0, .int .i64 (i10 : Int)), (1, .agg (List.toArray (A8.enc .i64 (r10.getD i11 default))))] rfl (Ztf (i10 : Int) (r10.getD i11 default)  _) (Jg (sz := 9) hC [(0, .agg (List.toArray (Elem.enc (⟨(i10 : Int), r10.getD i11 default⟩ : Elem))))] (EElem.encs [(⟨(i10 : Int), r10.getD i11 default⟩ : Elem)]) rfl (fun _ => Ztg (⟨(i10 : Int), r10.getD i11 default⟩ : Elem) _) rfl (by decide) fun b11 w15 hB_ hC => ?_))))))))
     obtain ⟨hm10, h⟩ := h
     refine Zbj hC 3 Try.underlying140 Zth rfl (by decide) (by decide) rfl (Zaq (hC.getM 0 rfl)) (fun q hq => Enc.encs_one' (E := EElem) _ q hq) rfl rfl hm10 fun v12 w16 hC => ?_
     replace hC := J8 hC 3 ((s10 ++ [(⟨(i10 : Int), r10.getD i11 default⟩ : Elem)]).length) (EElem.encs (s10 ++ [(⟨(i10 : Int), r10.getD i11 default⟩ : Elem)])) rfl (by simp) (by first | (simp [Enc.encs_append]; done) | simp [Enc.encs_append, Enc.encs])
     refine Zc (v := v12) rfl (done (Zt (Zd (Zk (Zq rfl rfl (Zb (v := .int .i64 (IntKind.i64.wrap ((i11 : Int) + 1))) rfl (done ?_)))))))
     replace hC := hC.sM [2, 3] (M' := [own 101 8 u10 r10.length ((EA .i64).encs r10), own 144 9 v12 ((s10 ++ [(⟨(i10 : Int), r10.getD i11 default⟩ : Elem)]).length) (EElem.encs (s10 ++ [(⟨(i10 : Int), r10.getD i11 default⟩ : Elem)]))]) (by decide) rfl
     exact hK11 (s10 ++ [(⟨(i10 : Int), r10.getD i11 default⟩ : Elem)]) _ _ ⟨v12, (sl ⟨rfl, rfl, rfl, rfl, rfl, rfl, rfl, rfl, rfl, (tr rfl (congrArg _ (Yi hi11 hN11))), trivial⟩), hC⟩ h
    ·clear hC h
     rintro s10 e_ w17 K11 ⟨v11, hS_, hC⟩ h
     rw [ue hS_]
     refine sr (Zs rfl rfl (dn (wp_seq (Yj rfl (decide_eq_false (by omega)) ?_))))
     refine wp_exit (Zl (Zl (Yc ?_)))
     refine Zt (Zd (Zk (Zq rfl rfl (Zb (v := .int .i64 (IntKind.i64.wrap ((i10 : Int) + 1))) rfl (done ?_)))))
     replace hC := hC.sM [1] (M' := [own 144 9 v11 s10.length (EElem.encs s10)]) (by decide) rfl
     exact hK10 s10 _ _ ⟨v11, (sl ⟨rfl, rfl, rfl, rfl, rfl, (tr rfl (congrArg _ (Yi hi10 hN10))), trivial⟩), hC⟩ h
    ·skip
     exact ⟨v10, (sl ⟨rfl, rfl, rfl, rfl, rfl, rfl, rfl, rfl, rfl, rfl, trivial⟩), hC⟩
 ·clear hC h
  rintro s11 e_ w18 K10 ⟨v10, hS_, hC⟩ h
  rw [ue hS_]
  refine sr (Zs rfl rfl (dn (wp_seq (Yj rfl (decide_eq_false (by omega)) ?_))))
  refine wp_exit (Zl (Zl (Yc ?_)))
  refine Zd (sr (Zb (v := v10) rfl (Zc (v := v10) rfl (Zc (v := .int .i64 0) rfl (dn (wp_ret ?_))))))
  refine Jn (fn := Try.f107) rfl ?_ ?_ ⟨s11, v10, (Option.toList (Value.ownBlock v10)), 0, rfl, h, (Js (hC.getM 0 rfl)), (Zae hC 0 rfl), hC.below⟩ (.inl rfl)
  ·exact Zh rfl
  ·exact Zh rfl
 ·skip
  exact ⟨.slice (some ⟨b6, 0, none⟩) 0 0, (sl ⟨rfl, rfl, rfl, rfl, rfl, rfl, trivial⟩), hC⟩
end Go.Proofs.Ytaagfepgbofmlaa
