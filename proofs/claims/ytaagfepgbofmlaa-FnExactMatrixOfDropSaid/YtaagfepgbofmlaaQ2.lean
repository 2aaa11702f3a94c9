import Derived.Test.YtaagfepgbofmlaaQ1
import Derived.Test.YtaagfepgbofmlaaProg
import Derived.KernelRfl
set_option linter.unusedVariables false
set_option linter.unusedSimpArgs false
set_option maxRecDepth 4000
set_option maxHeartbeats 4000000
namespace Go.Proofs.Ytaagfepgbofmlaa
open Go Go.RowKit Vc
theorem sc2 : ScaT Try.prog 2 := ⟨⟨_, Try.underlying2, rfl⟩, by kernel_rfl⟩
theorem sc5 : ScaT Try.prog 5 := ⟨⟨_, Try.underlying5, rfl⟩, by kernel_rfl⟩
theorem z95 : Jc Try.prog 95 (.agg #[.slice none 0 0]) := by unfold Jc; kernel_rfl
theorem Zcx  (w : World) : (Instr.build 95 #[]).run Try.prog w = .ok (.agg #[.slice none 0 0]) w := by kernel_rfl
theorem ag95 : AggT Try.prog 95 1 := ⟨⟨_, Try.underlying95, rfl⟩, by kernel_rfl⟩
theorem Yg : Try.prog.follows .mixedOrders = true := by kernel_rfl
theorem ag49 : AggT Try.prog 49 8 := ⟨⟨_, Try.underlying49, rfl⟩, by kernel_rfl⟩
theorem Zhd (x0 : A8) (x1 : Int) (w : World) : (Instr.build 114 #[(0, .agg (List.toArray (A8.enc .u8 x0))), (1, .int .i64 x1)]).run Try.prog w = .ok (.agg (List.toArray (Term.enc (⟨x0, x1⟩ : Term)))) w := by kernel_rfl
theorem Ze1 (x0 : Term) (w : World) : (Instr.buildSlice 93 1 #[(0, .agg (List.toArray (Term.enc x0)))]).run Try.prog w = .ok (.slice (some ⟨w.heap.size, 0, none⟩) 1 1) (w.alloc (.cells (List.toArray (ETerm.encs [x0])) 114)) := by kernel_rfl
theorem Zqd (x0 : Value) (hx0 : Zb8 x0) (w : World) : (Instr.build 95 #[(0, x0)]).run Try.prog w = .ok (.agg #[x0]) w := by obtain ⟨_, _, _, rfl⟩ := hx0; kernel_rfl
theorem sc93 : ScaT Try.prog 93 := ⟨⟨_, Try.underlying93, rfl⟩, by kernel_rfl⟩
theorem ag114 : AggT Try.prog 114 9 := ⟨⟨_, Try.underlying114, rfl⟩, by kernel_rfl⟩
theorem Ze2 : Jz Try.prog 114 (.agg (List.toArray (Term.enc (⟨A8.zero, 0⟩ : Term)))) 9 16 := by unfold Jz; kernel_rfl
theorem z49 : Jc Try.prog 49 (.agg (List.toArray (A8.enc .u8 A8.zero))) := by unfold Jc; kernel_rfl
theorem Zhe  (w : World) : (Instr.build 49 #[]).run Try.prog w = .ok (.agg (List.toArray (A8.enc .u8 A8.zero))) w := by kernel_rfl
theorem Zdn : Jc Try.prog 114 (.agg (List.toArray (Term.enc (⟨A8.zero, 0⟩ : Term)))) := by unfold Jc; kernel_rfl
theorem sc22 : ScaT Try.prog 22 := ⟨⟨_, Try.underlying22, rfl⟩, by kernel_rfl⟩
theorem sc30 : ScaT Try.prog 30 := ⟨⟨_, Try.underlying30, rfl⟩, by kernel_rfl⟩
theorem ag32 : AggT Try.prog 32 2 := ⟨⟨_, Try.underlying32, rfl⟩, by kernel_rfl⟩
theorem Jt : Jc Try.prog 101 (.agg (List.toArray (A8.enc .i64 A8.zero))) := by unfold Jc; kernel_rfl
theorem Ze3  (w : World) : (Instr.build 101 #[]).run Try.prog w = .ok (.agg (List.toArray (A8.enc .i64 A8.zero))) w := by kernel_rfl
theorem ag101 : AggT Try.prog 101 8 := ⟨⟨_, Try.underlying101, rfl⟩, by kernel_rfl⟩
theorem sc3 : ScaT Try.prog 3 := ⟨⟨_, Try.underlying3, rfl⟩, by kernel_rfl⟩
theorem Yx : KeyT Try.prog 101 (kvA .i64) := Zk7 Try.underlying101 Try.underlying3 sc3
theorem z2 : Jc Try.prog 2 (.int .i64 0) := by unfold Jc; kernel_rfl
theorem Zqe (x0 : A8) (w : World) : (Instr.buildSlice 121 1 #[(0, .agg (List.toArray (A8.enc .i64 x0)))]).run Try.prog w = .ok (.slice (some ⟨w.heap.size, 0, none⟩) 1 1) (w.alloc (.cells (List.toArray ((EA .i64).encs [x0])) 101)) := by kernel_rfl
theorem Zqf : Jz Try.prog 101 (.agg (List.toArray (A8.enc .i64 A8.zero))) 8 64 := by unfold Jz; kernel_rfl
theorem Zja : Jc Try.prog 205 (.agg (List.toArray (List.replicate 8 (Value.map none)))) := by unfold Jc; kernel_rfl
theorem Zqg (w : World) : (Instr.build 205 #[]).run Try.prog w = .ok (.agg (List.toArray (List.replicate 8 (Value.map none)))) w := by kernel_rfl
theorem ag205 : AggT Try.prog 205 8 := ⟨⟨_, Try.underlying205, rfl⟩, by kernel_rfl⟩
theorem sc99 : ScaT Try.prog 99 := ⟨⟨_, Try.underlying99, rfl⟩, by kernel_rfl⟩
theorem el2 : Jz Try.prog 2 (.int .i64 0) 1 8 := by unfold Jz; kernel_rfl
theorem ag48 : AggT Try.prog 48 8 := ⟨⟨_, Try.underlying48, rfl⟩, by kernel_rfl⟩
theorem ag204 : AggT Try.prog 204 9 := ⟨⟨_, Try.underlying204, rfl⟩, by kernel_rfl⟩
theorem sc126 : ScaT Try.prog 126 := ⟨⟨_, Try.underlying126, rfl⟩, by kernel_rfl⟩
def Zcy (a0 : Int) (a1 : Int) (a2 : Int) (K : Bool → Prop) : Prop :=
 (if a0 ≥ a1 then K (decide (a0 ≤ a2)) else K false)
theorem Zjb (a0 : Int) (a1 : Int) (a2 : Int)  {K : Bool → Prop} (h : Zcy a0 a1 a2 K) (w0 : World)  :
  Calls Try.prog 60 #[.int .i64 a0, .int .i64 a1, .int .i64 a2] w0 fun e w' => ∃ (r0 : Bool), 
   e = .returned (.bool r0) ∧ K r0 ∧ Bel w0 w' := by
 unfold Zcy at h
 refine Z6 (args := [.int .i64 a0, .int .i64 a1, .int .i64 a2]) Try.func60 rfl 15 Try.ntmps60 (Nat.le_of_ble_eq_true rfl) ?_
 have hC := Ctx.start (X := Nox) w0 [] (by simp)
 refine sr (Zc (v := .bool false) rfl (dn (sr (Zb (v := .int .i64 a0) rfl (Zb (v := .int .i64 a1) rfl (Zai rfl rfl (Zb (v := .bool (decide (a0 ≥ a1))) rfl ?_)))))))
 refine Xa (decide (a0 ≥ a1)) (fun hb1 => ?_) (fun hb1 => ?_)
 ·replace h := ift h (ct hb1)
  refine Zm 3 10 rfl rfl hb1 (Zb (v := .int .i64 a0) rfl (Zm 3 10 rfl rfl hb1 (Zb (v := .int .i64 a2) rfl (Zm 3 10 rfl rfl hb1 (Zbi rfl rfl (Yb (v := .bool (decide (a0 ≤ a2))) (b := true) (tr rfl (congrArg _ hb1)) rfl (Zc (v := .bool (decide (a0 ≤ a2))) rfl (dn (wp_ret ?_)))))))))
  refine Zo (fn := Try.f60) rfl ?_ ⟨decide (a0 ≤ a2), rfl, h, hC.below⟩ (.inl rfl)
  exact Zh rfl
 ·replace h := Zi h (cf hb1)
  refine Zn (b := false) 3 10 rfl (tr rfl (congrArg _ hb1)) (by decide) (Zn (b := false) 3 10 rfl (tr rfl (congrArg _ hb1)) (by decide) (Zn (b := false) 3 10 rfl (tr rfl (congrArg _ hb1)) (by decide) (Yb (v := .bool false) (b := false) (tr rfl (congrArg _ hb1)) rfl (Zc (v := .bool false) rfl (dn (wp_ret ?_))))))
  refine Zo (fn := Try.f60) rfl ?_ ⟨false, rfl, h, hC.below⟩ (.inl rfl)
  exact Zh rfl
def Ze4 (a0 : List Int) (K : Bool → Prop) : Prop :=
 Yy (fun i10 (s10 : Unit) nx10 => Zcy (a0.getD i10 default) 1 12 (fun r10 => (if ¬ (r10 = true) then K false else nx10 ()))) (fun (s10 : Unit) => K (decide ((a0.length : Int) ≤ 8))) a0.length 0 ()
theorem Zqh (a0 : List Int) {u0_0 : Value} {fp0 : List Nat} {K : Bool → Prop} (h : Ze4 a0 K) (w0 : World) (q0 : ((EI .i64).ty.sl).rep a0 [u0_0] fp0 w0) :
  Calls Try.prog 81 #[u0_0] w0 fun e w' => ∃ (r0 : Bool), 
   e = .returned (.bool r0) ∧ K r0 ∧ Bel w0 w' := by
 unfold Ze4 at h
 refine Z6 (args := [u0_0]) Try.func81 rfl 19 Try.ntmps81 (Nat.le_of_ble_eq_true rfl) ?_
 have hC := Ctx.start (X := Nox) w0 [Ty.item ((EI .i64).ty.sl) a0 [u0_0] fp0] (by simp only [List.mem_cons, List.not_mem_nil, or_false, forall_eq_or_imp, forall_eq]; exact q0)
 refine sr (Zc (v := .bool false) rfl (dn (wp_seq (sr (Zc (v := .int .i64 0) rfl (dn (wp_block ?_)))))))
 have hN10 : a0.length ≤ 9223372036854775807 := Xv (hC.getP 0 rfl)
 refine Y6 (S := Unit) _ _ (fun i10 s10 e_ w_ => Z4 e_ [(0, u0_0), (3, .int .i64 (i10 : Int))] ∧ Ctx Nox w0 w_ [] [Ty.item ((EI .i64).ty.sl) a0 [u0_0] fp0]) a0.length ?_ ?_ (s0 := ()) ?_ h
 ·clear hC h
  rintro i10 s10 e_ w10 nx10 K10 hi10 ⟨hS_, hC⟩ h hK10
  rw [ue hS_]
  refine wp_seq (sr (Zb (v := .int .i64 (i10 : Int)) rfl (Zb (v := u0_0) rfl ?_)))
  obtain ⟨Ad10, c10, hv11⟩ := Z2 (hC.getP 0 rfl)
  refine Z0 Try.underlying22 (tr rfl hv11) (Zs rfl rfl (dn (Yq rfl (decide_eq_true (by omega)) (wp_skip (Zd (wp_seq (wp_block (sr (Zb (v := u0_0) rfl (Zb (v := .int .i64 (i10 : Int)) rfl ?_))))))))))
  obtain ⟨Ad11, c11, hv10⟩ := Z9 (hC.getP 0 rfl) i10 hi10
  refine Xe (len := a0.length) Try.underlying22 sc2.size (tr rfl hv10) rfl (Int.natCast_nonneg _) (Int.ofNat_lt.2 hi10) (X5 (.int .i64 (a0.getD i10 default)) (Yk (hC.getP 0 rfl) hv10 i10 hi10) sc2 rfl ?_)
  refine Zf [.int .i64 (a0.getD i10 default), .int .i64 1, .int .i64 12] _ Try.func60 rfl rfl rfl (Zjb (a0.getD i10 default) 1 12 h _) (fun ret10 w11 hR10 => ?_)
  obtain ⟨r10, rfl, h, hB10⟩ := hR10
  refine ⟨_, rfl, ?_⟩
  replace hC := hC.grow hB10
  refine X0 rfl (dn ?_)
  refine Zr rfl (fun hb10 => ?_) (fun hb10 => ?_)
  ·replace h := ift h (Xq (X6 hb10))
   refine sr (Zc (v := .bool false) rfl (dn ?_))
   refine wp_ret (Yd (Zj (Zj (Yd (Zj ?_)))))
   refine Zo (fn := Try.f81) rfl ?_ ⟨false, rfl, h, hC.below⟩ (.inl rfl)
   exact Zh rfl
  ·replace h := Zi h (not_not_intro ((X7 hb10)))
   refine wp_skip (Zt (Zd (Zk (Zb (v := .int .i64 (i10 : Int)) rfl (Zq rfl rfl (Zc (v := .int .i64 (IntKind.i64.wrap ((i10 : Int) + 1))) rfl (done ?_)))))))
   exact hK10 () _ _ ⟨(sl ⟨rfl, (tr rfl (congrArg _ (Yi hi10 hN10))), trivial⟩), hC⟩ h
 ·clear hC h
  rintro s10 e_ w12 K10 ⟨hS_, hC⟩ h
  rw [ue hS_]
  refine wp_seq (sr (Zb (v := .int .i64 (a0.length : Int)) rfl (Zb (v := u0_0) rfl ?_)))
  obtain ⟨Ad12, c12, hv12⟩ := Z2 (hC.getP 0 rfl)
  refine Z0 Try.underlying22 (tr rfl hv12) (Zs rfl rfl (dn (Yj rfl (decide_eq_false (by omega)) ?_)))
  refine wp_exit (Zl (Zl (Yc ?_)))
  refine Zd (sr (Zb (v := u0_0) rfl ?_))
  obtain ⟨Ad13, c13, hv13⟩ := Z2 (hC.getP 0 rfl)
  refine Z0 Try.underlying22 (tr rfl hv13) (Zbi rfl rfl (Zc (v := .bool (decide ((a0.length : Int) ≤ 8))) rfl (dn (wp_ret ?_))))
  refine Zo (fn := Try.f81) rfl ?_ ⟨decide ((a0.length : Int) ≤ 8), rfl, h, hC.below⟩ (.inl rfl)
  exact Zh rfl
 ·skip
  exact ⟨(sl ⟨rfl, rfl, trivial⟩), hC⟩
def Ze5 (a0 : List Int) (a1 : A8) (K : Bool → Prop) : Prop :=
 Yy (fun i10 (s10 : Unit) nx10 => (if (i10 : Int) ≥ (a0.length : Int) then (if a1.get i10 ≠ 0 then K false else nx10 ()) else (if a1.get i10 > 20 then K false else ((0 ≤ (i10 : Int) ∧ (i10 : Int) < (a0.length : Int)) ∧ (if Int.tmod (a0.getD i10 default) 2 ≠ 0 then (if a1.get i10 > 1 then K false else nx10 ()) else nx10 ()))))) (fun (s10 : Unit) => K true) 8 0 ()
theorem Zqi (a0 : List Int) (a1 : A8) {u0_0 : Value} {fp0 : List Nat} {K : Bool → Prop} (h : Ze5 a0 a1 K) (w0 : World) (q0 : ((EI .i64).ty.sl).rep a0 [u0_0] fp0 w0) :
  Calls Try.prog 82 #[u0_0, .agg (List.toArray (A8.enc .u8 a1))] w0 fun e w' => ∃ (r0 : Bool), 
   e = .returned (.bool r0) ∧ K r0 ∧ Bel w0 w' := by
 unfold Ze5 at h
 refine Z6 (args := [u0_0, .agg (List.toArray (A8.enc .u8 a1))]) Try.func82 rfl 38 Try.ntmps82 (Nat.le_of_ble_eq_true rfl) ?_
 have hC := Ctx.start (X := Nox) w0 [Ty.item ((EI .i64).ty.sl) a0 [u0_0] fp0] (by simp only [List.mem_cons, List.not_mem_nil, or_false, forall_eq_or_imp, forall_eq]; exact q0)
 refine sr (Ye (v := .agg (List.toArray (A8.enc .u8 a1))) hC (A8.enc .u8 a1) rfl rfl fun b2 w4 hB_ hC => Zc (v := .bool false) rfl (dn (wp_seq (sr (Zc (v := .int .i64 0) rfl (dn (wp_block ?_)))))))
 refine Y6 (S := Unit) _ _ (fun i10 s10 e_ w_ => Z4 e_ [(0, u0_0), (3, .pointer (some ⟨b2, 0, none⟩)), (5, .int .i64 (i10 : Int))] ∧ Ctx Nox w0 w_ [blk b2 49 (A8.enc .u8 a1)] [Ty.item ((EI .i64).ty.sl) a0 [u0_0] fp0]) 8 ?_ ?_ (s0 := ()) ?_ h
 ·clear hC h
  rintro i10 s10 e_ w10 nx10 K10 hi10 ⟨hS_, hC⟩ h hK10
  rw [ue hS_]
  refine wp_seq (sr (Zb (v := .int .i64 (i10 : Int)) rfl (Zs rfl rfl (dn (Yq rfl (decide_eq_true (by omega)) (wp_skip (Zd (wp_seq (wp_block (wp_block (sr ?_)))))))))))
  refine Zb (v := .int .i64 (i10 : Int)) rfl (Zb (v := u0_0) rfl ?_)
  obtain ⟨Ad10, c10, hv11⟩ := Z2 (hC.getP 0 rfl)
  refine Z0 Try.underlying22 (tr rfl hv11) (Zai rfl rfl (Zc (v := .bool (decide ((i10 : Int) ≥ (a0.length : Int)))) rfl (dn ?_)))
  refine Zr rfl (fun hb12 => ?_) (fun hb12 => ?_)
  ·replace h := ift h (ct hb12)
   refine sr (Zb (v := .int .i64 (i10 : Int)) rfl (Y1 i10 Try.underlying49 sc5.size rfl rfl (Int.natCast_nonneg _) (by omega) (by omega) (Z8 hC 0 (.int .u8 (a1.get i10)) rfl sc5 rfl (A8.enc_get _ _ hi10) (Xj rfl rfl (dn ?_)))))
   refine Zr rfl (fun hb13 => ?_) (fun hb13 => ?_)
   ·replace h := ift h (ct hb13)
    refine sr (Zc (v := .bool false) rfl (dn ?_))
    refine wp_ret (Yd (Yd (Zj (Zj (Yd (Zj ?_))))))
    refine Zo (fn := Try.f82) rfl ?_ ⟨false, rfl, h, hC.below⟩ (.inl rfl)
    exact Zh rfl
   ·replace h := Zi h (cf hb13)
    refine wp_skip (Zt (Zt (Zd (Zk (Zb (v := .int .i64 (i10 : Int)) rfl (Zq rfl rfl (Zc (v := .int .i64 (IntKind.i64.wrap ((i10 : Int) + 1))) rfl (done ?_))))))))
    exact hK10 () _ _ ⟨(sl ⟨rfl, rfl, (tr rfl (congrArg _ (Yi hi10 (by decide)))), trivial⟩), hC⟩ h
  ·replace h := Zi h (cf hb12)
   refine sr (Zb (v := .int .i64 (i10 : Int)) rfl (Y1 i10 Try.underlying49 sc5.size rfl rfl (Int.natCast_nonneg _) (by omega) (by omega) (Z8 hC 0 (.int .u8 (a1.get i10)) rfl sc5 rfl (A8.enc_get _ _ hi10) (Jm rfl rfl (Zb (v := .bool (decide (a1.get i10 > 20))) rfl ?_)))))
   refine Xa (decide (a1.get i10 > 20)) (fun hb10 => ?_) (fun hb10 => ?_)
   ·replace h := ift h (ct hb10)
    refine Zn (b := true) 4 24 rfl (tr rfl (congrArg _ hb10)) (by decide) (Zn (b := true) 4 24 rfl (tr rfl (congrArg _ hb10)) (by decide) (Zn (b := true) 4 24 rfl (tr rfl (congrArg _ hb10)) (by decide) (Zn (b := true) 4 24 rfl (tr rfl (congrArg _ hb10)) (by decide) (Zn (b := true) 4 24 rfl (tr rfl (congrArg _ hb10)) (by decide) (Zn (b := true) 4 24 rfl (tr rfl (congrArg _ hb10)) (by decide) (Zn (b := true) 4 24 rfl (tr rfl (congrArg _ hb10)) (by decide) (J1 11 31 rfl rfl (J1 11 31 rfl rfl (J1 11 31 rfl rfl (J1 11 31 rfl rfl (Zn (b := true) 4 24 rfl (tr rfl (congrArg _ hb10)) (by decide) ?_)))))))))))
    refine Yb (v := .bool true) (b := true) (tr rfl (congrArg _ hb10)) rfl (Zc (v := .bool true) rfl (dn (Yq rfl rfl (sr (Zc (v := .bool false) rfl (dn ?_))))))
    refine wp_ret (Yd (Yd (Zj (Zj (Yd (Zj ?_))))))
    refine Zo (fn := Try.f82) rfl ?_ ⟨false, rfl, h, hC.below⟩ (.inl rfl)
    exact Zh rfl
   ·replace h := Zi h (cf hb10)
    refine Zm 4 24 rfl rfl hb10 (Zb (v := u0_0) rfl (Zm 4 24 rfl rfl hb10 (Zb (v := .int .i64 (i10 : Int)) rfl (Zm 4 24 rfl rfl hb10 ?_))))
    obtain ⟨⟨h10, h11⟩, h⟩ := h
    obtain ⟨Ad11, c11, hv10⟩ := Z9 (hC.getP 0 rfl) i10 (show i10 < a0.length by omega)
    refine Xe (len := a0.length) Try.underlying22 sc2.size (tr rfl hv10) rfl h10 h11 (Zm 4 24 rfl rfl hb10 (X5 (.int .i64 (a0.getD i10 default)) (Yk (hC.getP 0 rfl) hv10 i10 (show i10 < a0.length by omega)) sc2 rfl (Zm 4 24 rfl rfl hb10 (Jk rfl rfl (by decide) (Zm 4 24 rfl rfl hb10 (Xj rfl rfl (Zm 4 24 rfl rfl hb10 (Zb (v := .bool (decide (Int.tmod (a0.getD i10 default) 2 ≠ 0))) rfl ?_))))))))
    refine Xa (decide (Int.tmod (a0.getD i10 default) 2 ≠ 0)) (fun hb11 => ?_) (fun hb11 => ?_)
    ·replace h := ift h (ct hb11)
     refine Zm 11 31 rfl rfl hb11 (Zb (v := .int .i64 (i10 : Int)) rfl (Zm 11 31 rfl rfl hb11 (Y1 i10 Try.underlying49 sc5.size rfl rfl (Int.natCast_nonneg _) (by omega) (by omega) (Zm 11 31 rfl rfl hb11 (Z8 hC 0 (.int .u8 (a1.get i10)) rfl sc5 rfl (A8.enc_get _ _ hi10) (Zm 11 31 rfl rfl hb11 (Jm rfl rfl (Zm 4 24 rfl rfl hb10 (Yb (v := .bool (decide (a1.get i10 > 1))) (b := true) (tr rfl (congrArg _ hb11)) rfl (Yb (v := .bool (decide (a1.get i10 > 1))) (b := false) (tr rfl (congrArg _ hb10)) rfl (Zc (v := .bool (decide (a1.get i10 > 1))) rfl ?_)))))))))))
     refine dn ?_
     refine Zr rfl (fun hb14 => ?_) (fun hb14 => ?_)
     ·replace h := ift h (ct hb14)
      refine sr (Zc (v := .bool false) rfl (dn ?_))
      refine wp_ret (Yd (Yd (Zj (Zj (Yd (Zj ?_))))))
      refine Zo (fn := Try.f82) rfl ?_ ⟨false, rfl, h, hC.below⟩ (.inl rfl)
      exact Zh rfl
     ·replace h := Zi h (cf hb14)
      refine wp_skip (Zt (Zt (Zd (Zk (Zb (v := .int .i64 (i10 : Int)) rfl (Zq rfl rfl (Zc (v := .int .i64 (IntKind.i64.wrap ((i10 : Int) + 1))) rfl (done ?_))))))))
      exact hK10 () _ _ ⟨(sl ⟨rfl, rfl, (tr rfl (congrArg _ (Yi hi10 (by decide)))), trivial⟩), hC⟩ h
    ·replace h := Zi h (cf hb11)
     refine Zn (b := false) 11 31 rfl (tr rfl (congrArg _ hb11)) (by decide) (Zn (b := false) 11 31 rfl (tr rfl (congrArg _ hb11)) (by decide) (Zn (b := false) 11 31 rfl (tr rfl (congrArg _ hb11)) (by decide) (Zn (b := false) 11 31 rfl (tr rfl (congrArg _ hb11)) (by decide) (Zm 4 24 rfl rfl hb10 (Yb (v := .bool false) (b := false) (tr rfl (congrArg _ hb11)) rfl (Yb (v := .bool false) (b := false) (tr rfl (congrArg _ hb10)) rfl (Zc (v := .bool false) rfl (dn (Yj rfl rfl (wp_skip (Zt ?_)))))))))))
     refine Zt (Zd (Zk (Zb (v := .int .i64 (i10 : Int)) rfl (Zq rfl rfl (Zc (v := .int .i64 (IntKind.i64.wrap ((i10 : Int) + 1))) rfl (done ?_))))))
     exact hK10 () _ _ ⟨(sl ⟨rfl, rfl, (tr rfl (congrArg _ (Yi hi10 (by decide)))), trivial⟩), hC⟩ h
 ·clear hC h
  rintro s10 e_ w11 K10 ⟨hS_, hC⟩ h
  rw [ue hS_]
  refine wp_seq (sr (Zb (v := .int .i64 8) rfl (Zs rfl rfl (dn (Yj rfl (decide_eq_false (by omega)) ?_)))))
  refine wp_exit (Zl (Zl (Yc ?_)))
  refine Zd (sr (Zc (v := .bool true) rfl (dn (wp_ret ?_))))
  refine Zo (fn := Try.f82) rfl ?_ ⟨true, rfl, h, hC.below⟩ (.inl rfl)
  exact Zh rfl
 ·skip
  exact ⟨(sl ⟨rfl, rfl, rfl, trivial⟩), hC⟩
def Ju (a0 : Int) (K : Int → Prop) : Prop :=
 K (Int.tmod (IntKind.i64.wrap ((Int.tmod a0 10007) + 10007)) 10007)
theorem Zb9 (a0 : Int)  {K : Int → Prop} (h : Ju a0 K) (w0 : World)  :
  Calls Try.prog 122 #[.int .i64 a0] w0 fun e w' => ∃ (r0 : Int), 
   e = .returned (.int .i64 r0) ∧ K r0 ∧ Bel w0 w' := by
 unfold Ju at h
 refine Z6 (args := [.int .i64 a0]) Try.func122 rfl 7 Try.ntmps122 (Nat.le_of_ble_eq_true rfl) ?_
 have hC := Ctx.start (X := Nox) w0 [] (by simp)
 refine sr (Zc (v := .int .i64 0) rfl (dn (sr (Zb (v := .int .i64 a0) rfl (Jk rfl rfl (by decide) (Zq rfl rfl (Jk rfl rfl (by decide) (Zc (v := .int .i64 (Int.tmod (IntKind.i64.wrap ((Int.tmod a0 10007) + 10007)) 10007)) rfl (dn (wp_ret ?_))))))))))
 refine Zo (fn := Try.f122) rfl ?_ ⟨Int.tmod (IntKind.i64.wrap ((Int.tmod a0 10007) + 10007)) 10007, rfl, h, hC.below⟩ (.inl rfl)
 exact Zh rfl
def X2 (a0 : A8) (a1 : Int) (K : Vc.Form → Prop) : Prop :=
 Ju a1 (fun r11 => (if r11 = 0 then K (⟨[]⟩ : Vc.Form) else Ju a1 (fun r10 => K (⟨[(⟨a0, r10⟩ : Term)]⟩ : Vc.Form))))
theorem Zaz (a0 : A8) (a1 : Int)  {K : Vc.Form → Prop} (h : X2 a0 a1 K) (w0 : World)  :
  Calls Try.prog 70 #[.agg (List.toArray (A8.enc .u8 a0)), .int .i64 a1] w0 fun e w' => ∃ (r0 : Vc.Form) (z0_0 : Value) (fz0 : List Nat), 
   e = .returned (.agg #[z0_0]) ∧ K r0 ∧ (Tr.item (Zz 114) r0 [z0_0] fz0).holds w' ∧ (∀ b, b ∈ fz0 → w0.heap.size ≤ b) ∧ Bel w0 w' := by
 unfold X2 at h
 refine Z6 (args := [.agg (List.toArray (A8.enc .u8 a0)), .int .i64 a1]) Try.func70 rfl 15 Try.ntmps70 (Nat.le_of_ble_eq_true rfl) ?_
 have hC := Ctx.start (X := Nox) w0 [] (by simp)
 refine sr (Ye (v := .agg (List.toArray (A8.enc .u8 a0))) hC (A8.enc .u8 a0) rfl rfl fun b1 w3 hB_ hC => Yf hC [.slice none 0 0] z95 rfl fun b4 w6 hB_ hC => dn (wp_seq (sr (Zb (v := .int .i64 a1) rfl ?_))))
 refine Zf [.int .i64 a1] _ Try.func122 rfl rfl rfl (Zb9 a1 h _) (fun ret7 w9 hR8 => ?_)
 obtain ⟨r11, rfl, h, hB10⟩ := hR8
 refine ⟨_, rfl, ?_⟩
 replace hC := hC.grow hB10
 refine Jl rfl rfl (dn ?_)
 refine Zr rfl (fun hb10 => ?_) (fun hb10 => ?_)
 ·replace h := ift h (ct hb10)
  refine sr (Jd [] rfl (Zcx   _) (Zu (v := .agg #[.slice none 0 0]) hC 0 [.slice none 0 0] [.slice none 0 0] rfl ag95.size rfl rfl rfl rfl rfl (Nat.le_of_ble_eq_true rfl) rfl fun w10 hC => dn ?_))
  refine wp_ret (Zj ?_)
  refine Zo (fn := Try.f70) rfl ?_ ⟨(⟨[]⟩ : Vc.Form), .slice none 0 0, [], rfl, h, (Zau (Za4 _ _ _)), (fun b hb => absurd hb (by simp)), hC.below⟩ (.inl rfl)
  exact J3 hC 0 rfl ag95 rfl rfl
 ·replace h := Zi h (cf hb10)
  refine wp_skip (Zd (wp_seq ?_))
  refine Ym 3 Yg [0, 0, 2, 7, 15, 31, 63] [0] [1] (by kernel_rfl) (by kernel_rfl) (by kernel_rfl) (fun hM10 hM11 w11 hB_ => ?_)
  replace hC := hC.grow hB_
  refine aL 0 (.agg (List.toArray (A8.enc .u8 a0))) rfl rfl (hM10 0 rfl) (rfl) (fun _ hB_ => by exact Yu (hC.grow hB_) 1 (A8.enc .u8 a0) rfl ag49 rfl rfl rfl) (Za 7 1) (aF 1 (.int .i64 a1) rfl rfl (hM11 1 rfl) (rfl) (fun _ => by exact Zg (v := .int .i64 a1) rfl) (Za 7 3) (aO 2 rfl ?_))
  refine Zf [.int .i64 a1] _ Try.func122 rfl rfl rfl (Zb9 a1 h _) (fun ret10 w12 hR10 => ?_)
  obtain ⟨r10, rfl, h, hB11⟩ := hR10
  refine ⟨_, rfl, ?_⟩
  replace hC := hC.grow hB11
  refine done (aK (by assumption) (Za 7 7) (Zv 3 (by decide) (by decide) (by kernel_rfl) (by kernel_rfl) rfl (Jd [(0, .agg (List.toArray (A8.enc .u8 a0))), (1, .int .i64 r10)] rfl (Zhd a0 r10  _) (Jg (sz := 9) hC [(0, .agg (List.toArray (Term.enc (⟨a0, r10⟩ : Term))))] (ETerm.encs [(⟨a0, r10⟩ : Term)]) rfl (fun _ => Ze1 (⟨a0, r10⟩ : Term) _) rfl (by decide) fun b10 w13 hB_ hC => Jd [(0, .slice (some ⟨b10, 0, none⟩) 1 1)] rfl (Zqd (.slice (some ⟨b10, 0, none⟩) 1 1) (Zhb (hC.getM 0 rfl)) _) (Zu (v := .agg #[.slice (some ⟨b10, 0, none⟩) 1 1]) hC 1 [.slice (some ⟨b10, 0, none⟩) 1 1] [.slice (some ⟨b10, 0, none⟩) 1 1] rfl ag95.size rfl rfl rfl rfl (Y3 (Xl (hC.getM 0 rfl)) rfl) (Nat.le_of_ble_eq_true rfl) rfl fun w14 hC => done (Zw (Zd (wp_ret ?_))))))))
  refine Zo (fn := Try.f70) rfl ?_ ⟨(⟨[(⟨a0, r10⟩ : Term)]⟩ : Vc.Form), .slice (some ⟨b10, 0, none⟩) 1 1, (Option.toList (Value.ownBlock (.slice (some ⟨b10, 0, none⟩) 1 1))), rfl, h, (Zau (Js (hC.getM 0 rfl))), (Zae hC 0 rfl), hC.below⟩ (.inl rfl)
  exact J3 hC 1 rfl ag95 rfl rfl
def Zcz (a0 : A8) (a1 : A8) (K : Bool → Prop) : Prop :=
 Yy (fun i10 (s10 : Unit) nx10 => (if a0.get i10 ≠ a1.get i10 then K (decide (a0.get i10 > a1.get i10)) else nx10 ())) (fun (s10 : Unit) => K false) 8 0 ()
theorem Zjc (a0 : A8) (a1 : A8)  {K : Bool → Prop} (h : Zcz a0 a1 K) (w0 : World)  :
  Calls Try.prog 121 #[.agg (List.toArray (A8.enc .u8 a0)), .agg (List.toArray (A8.enc .u8 a1))] w0 fun e w' => ∃ (r0 : Bool), 
   e = .returned (.bool r0) ∧ K r0 ∧ Bel w0 w' := by
 unfold Zcz at h
 refine Z6 (args := [.agg (List.toArray (A8.enc .u8 a0)), .agg (List.toArray (A8.enc .u8 a1))]) Try.func121 rfl 24 Try.ntmps121 (Nat.le_of_ble_eq_true rfl) ?_
 have hC := Ctx.start (X := Nox) w0 [] (by simp)
 refine sr (Ye (v := .agg (List.toArray (A8.enc .u8 a0))) hC (A8.enc .u8 a0) rfl rfl fun b1 w3 hB_ hC => Ye (v := .agg (List.toArray (A8.enc .u8 a1))) hC (A8.enc .u8 a1) rfl rfl fun b4 w6 hB_ hC => Zc (v := .bool false) rfl (dn (wp_seq (sr (Zc (v := .int .i64 0) rfl (dn (wp_block ?_)))))))
 refine Y6 (S := Unit) _ _ (fun i10 s10 e_ w_ => Z4 e_ [(2, .pointer (some ⟨b1, 0, none⟩)), (3, .pointer (some ⟨b4, 0, none⟩)), (5, .int .i64 (i10 : Int))] ∧ Ctx Nox w0 w_ [blk b4 49 (A8.enc .u8 a1), blk b1 49 (A8.enc .u8 a0)] []) 8 ?_ ?_ (s0 := ()) ?_ h
 ·clear hC h
  rintro i10 s10 e_ w10 nx10 K10 hi10 ⟨hS_, hC⟩ h hK10
  rw [ue hS_]
  refine wp_seq (sr (Zb (v := .int .i64 (i10 : Int)) rfl (Zs rfl rfl (dn (Yq rfl (decide_eq_true (by omega)) (wp_skip (Zd (wp_seq (wp_block (wp_seq ?_))))))))))
  refine Ym 6 Yg [0, 1, 3, 0, 8, 24, 63] [1, 2, 4, 5] [0, 3] (by kernel_rfl) (by kernel_rfl) (by kernel_rfl) (fun hM10 hM12 w11 hB_ => ?_)
  replace hC := hC.grow hB_
  refine aF 0 (.int .i64 (i10 : Int)) rfl rfl (hM12 0 rfl) (rfl) (fun _ => by exact Zg (v := .int .i64 (i10 : Int)) rfl) (Za 7 1) (aL 1 (.pointer (some ⟨b1, i10, none⟩)) rfl rfl (hM10 1 rfl) (rfl) (fun _ hB_ => by exact Jy i10 Try.underlying49 sc5.size rfl rfl (Int.natCast_nonneg _) (by omega) (by omega)) (Za 7 3) (aL 2 (.int .u8 (a0.get i10)) rfl rfl (hM10 2 rfl) (rfl) (fun _ hB_ => by exact Z5 (hC.grow hB_) 1 (.int .u8 (a0.get i10)) rfl sc5 rfl (A8.enc_get _ _ hi10)) (Za 7 7) (aF 3 (.int .i64 (i10 : Int)) rfl rfl (hM12 3 rfl) (rfl) (fun _ => by exact Zg (v := .int .i64 (i10 : Int)) rfl) (Za 7 15) (aL 4 (.pointer (some ⟨b4, i10, none⟩)) rfl rfl (hM10 4 rfl) (rfl) (fun _ hB_ => by exact Jy i10 Try.underlying49 sc5.size rfl rfl (Int.natCast_nonneg _) (by omega) (by omega)) (Za 7 31) (aL 5 (.int .u8 (a1.get i10)) rfl rfl (hM10 5 rfl) (rfl) (fun _ hB_ => by exact Z5 (hC.grow hB_) 0 (.int .u8 (a1.get i10)) rfl sc5 rfl (A8.enc_get _ _ hi10)) (Za 7 63) (Zv 6 (by decide) (by decide) (by kernel_rfl) (by kernel_rfl) rfl (Xj rfl rfl (done (Zw (Zd ?_))))))))))
  refine Zr rfl (fun hb10 => ?_) (fun hb10 => ?_)
  ·replace h := ift h (ct hb10)
   refine wp_seq ?_
   refine Ym 6 Yg [0, 1, 3, 0, 8, 24, 63, 127] [1, 2, 4, 5] [0, 3] (by kernel_rfl) (by kernel_rfl) (by kernel_rfl) (fun hM11 hM13 w12 hB_ => ?_)
   replace hC := hC.grow hB_
   refine aF 0 (.int .i64 (i10 : Int)) rfl rfl (hM13 0 rfl) (rfl) (fun _ => by exact Zg (v := .int .i64 (i10 : Int)) rfl) (Za 8 1) (aL 1 (.pointer (some ⟨b1, i10, none⟩)) rfl rfl (hM11 1 rfl) (rfl) (fun _ hB_ => by exact Jy i10 Try.underlying49 sc5.size rfl rfl (Int.natCast_nonneg _) (by omega) (by omega)) (Za 8 3) (aL 2 (.int .u8 (a0.get i10)) rfl rfl (hM11 2 rfl) (rfl) (fun _ hB_ => by exact Z5 (hC.grow hB_) 1 (.int .u8 (a0.get i10)) rfl sc5 rfl (A8.enc_get _ _ hi10)) (Za 8 7) (aF 3 (.int .i64 (i10 : Int)) rfl rfl (hM13 3 rfl) (rfl) (fun _ => by exact Zg (v := .int .i64 (i10 : Int)) rfl) (Za 8 15) (aL 4 (.pointer (some ⟨b4, i10, none⟩)) rfl rfl (hM11 4 rfl) (rfl) (fun _ hB_ => by exact Jy i10 Try.underlying49 sc5.size rfl rfl (Int.natCast_nonneg _) (by omega) (by omega)) (Za 8 31) (aL 5 (.int .u8 (a1.get i10)) rfl rfl (hM11 5 rfl) (rfl) (fun _ hB_ => by exact Z5 (hC.grow hB_) 0 (.int .u8 (a1.get i10)) rfl sc5 rfl (A8.enc_get _ _ hi10)) (Za 8 63) (Zv 6 (by decide) (by decide) (by kernel_rfl) (by kernel_rfl) rfl (Jm rfl rfl (Zc (v := .bool (decide (a0.get i10 > a1.get i10))) rfl (done (Zw (Zd ?_)))))))))))
   refine wp_ret (Yd (Zj (Zj (Yd (Zj ?_)))))
   refine Zo (fn := Try.f121) rfl ?_ ⟨decide (a0.get i10 > a1.get i10), rfl, h, hC.below⟩ (.inl rfl)
   exact Zh rfl
  ·replace h := Zi h (cf hb10)
   refine wp_skip (Zt (Zd (Zk (Zb (v := .int .i64 (i10 : Int)) rfl (Zq rfl rfl (Zc (v := .int .i64 (IntKind.i64.wrap ((i10 : Int) + 1))) rfl (done ?_)))))))
   exact hK10 () _ _ ⟨(sl ⟨rfl, rfl, (tr rfl (congrArg _ (Yi hi10 (by decide)))), trivial⟩), hC⟩ h
 ·clear hC h
  rintro s10 e_ w13 K10 ⟨hS_, hC⟩ h
  rw [ue hS_]
  refine wp_seq (sr (Zb (v := .int .i64 8) rfl (Zs rfl rfl (dn (Yj rfl (decide_eq_false (by omega)) ?_)))))
  refine wp_exit (Zl (Zl (Yc ?_)))
  refine Zd (sr (Zc (v := .bool false) rfl (dn (wp_ret ?_))))
  refine Zo (fn := Try.f121) rfl ?_ ⟨false, rfl, h, hC.below⟩ (.inl rfl)
  exact Zh rfl
 ·skip
  exact ⟨(sl ⟨rfl, rfl, rfl, trivial⟩), hC⟩
def J4 (a0 : Vc.Form) (a1 : Vc.Form) (a2 : Int) (K : Vc.Form → Prop) : Prop :=
 Xf (fun (s10 : (List Term) × Int × Int) nx10 => joinP (fun (jn11 : Bool → Prop) => (if s10.2.1 < (a0.terms.length : Int) then jn11 true else jn11 (decide (s10.2.2 < (a1.terms.length : Int))))) (fun (x10 : Bool) => (if x10 = true then joinP (fun (jn10 : Bool → Prop) => (if s10.2.2 = (a1.terms.length : Int) then jn10 true else (if s10.2.1 < (a0.terms.length : Int) then ((0 ≤ s10.2.1 ∧ s10.2.1 < (a0.terms.length : Int)) ∧ ((0 ≤ s10.2.2 ∧ s10.2.2 < (a1.terms.length : Int)) ∧ Zcz ((a0.terms.getD s10.2.1.toNat default).mono) ((a1.terms.getD s10.2.2.toNat default).mono) (fun r12 => jn10 r12))) else jn10 false))) (fun (x11 : Bool) => (if x11 = true then ((0 ≤ s10.2.1 ∧ s10.2.1 < (a0.terms.length : Int)) ∧ (Xp (s10.1.length + 1) 16 ∧ nx10 (s10.1 ++ [a0.terms.getD s10.2.1.toNat default], IntKind.i64.wrap (s10.2.1 + 1), s10.2.2))) else joinP (fun (jn12 : Bool → Prop) => (if s10.2.1 = (a0.terms.length : Int) then jn12 true else ((0 ≤ s10.2.2 ∧ s10.2.2 < (a1.terms.length : Int)) ∧ ((0 ≤ s10.2.1 ∧ s10.2.1 < (a0.terms.length : Int)) ∧ Zcz ((a1.terms.getD s10.2.2.toNat default).mono) ((a0.terms.getD s10.2.1.toNat default).mono) (fun r13 => jn12 r13))))) (fun (x12 : Bool) => (if x12 = true then ((0 ≤ s10.2.2 ∧ s10.2.2 < (a1.terms.length : Int)) ∧ Ju (IntKind.i64.wrap (a2 * ((a1.terms.getD s10.2.2.toNat default).factor))) (fun r10 => (if r10 ≠ 0 then ((0 ≤ s10.2.2 ∧ s10.2.2 < (a1.terms.length : Int)) ∧ (Xp (s10.1.length + 1) 16 ∧ nx10 (s10.1 ++ [(⟨(a1.terms.getD s10.2.2.toNat default).mono, r10⟩ : Term)], s10.2.1, IntKind.i64.wrap (s10.2.2 + 1)))) else nx10 (s10.1, s10.2.1, IntKind.i64.wrap (s10.2.2 + 1))))) else ((0 ≤ s10.2.1 ∧ s10.2.1 < (a0.terms.length : Int)) ∧ ((0 ≤ s10.2.2 ∧ s10.2.2 < (a1.terms.length : Int)) ∧ Ju (IntKind.i64.wrap (a2 * ((a1.terms.getD s10.2.2.toNat default).factor))) (fun r14 => Ju (IntKind.i64.wrap (((a0.terms.getD s10.2.1.toNat default).factor) + r14)) (fun r11 => (if r11 ≠ 0 then ((0 ≤ s10.2.1 ∧ s10.2.1 < (a0.terms.length : Int)) ∧ (Xp (s10.1.length + 1) 16 ∧ nx10 (s10.1 ++ [(⟨(a0.terms.getD s10.2.1.toNat default).mono, r11⟩ : Term)], IntKind.i64.wrap (s10.2.1 + 1), IntKind.i64.wrap (s10.2.2 + 1)))) else nx10 (s10.1, IntKind.i64.wrap (s10.2.1 + 1), IntKind.i64.wrap (s10.2.2 + 1))))))))))) else K (⟨s10.1⟩ : Vc.Form)))) ([], 0, 0)
theorem Zc0 (a0 : Vc.Form) (a1 : Vc.Form) (a2 : Int) {u0_0 : Value} {u1_0 : Value} {fp0 : List Nat} {fp1 : List Nat} {K : Vc.Form → Prop} (h : J4 a0 a1 a2 K) (w0 : World) (q0 : TForm.rep a0 [u0_0] fp0 w0) (q1 : TForm.rep a1 [u1_0] fp1 w0) :
  Calls Try.prog 69 #[.agg #[u0_0], .agg #[u1_0], .int .i64 a2] w0 fun e w' => ∃ (r0 : Vc.Form) (z0_0 : Value) (fz0 : List Nat), 
   e = .returned (.agg #[z0_0]) ∧ K r0 ∧ (Tr.item (Zz 114) r0 [z0_0] fz0).holds w' ∧ (∀ b, b ∈ fz0 → w0.heap.size ≤ b) ∧ Bel w0 w' := by
 unfold J4 at h
 refine Z6 (args := [.agg #[u0_0], .agg #[u1_0], .int .i64 a2]) Try.func69 rfl 149 Try.ntmps69 (Nat.le_of_ble_eq_true rfl) ?_
 have hC := Ctx.start (X := Nox) w0 [Ty.item TForm a0 [u0_0] fp0, Ty.item TForm a1 [u1_0] fp1] (by simp only [List.mem_cons, List.not_mem_nil, or_false, forall_eq_or_imp, forall_eq]; exact ⟨q0, q1⟩)
 have hp3 := (hC.getP 0 rfl)
 replace hC := hC.derive 0 rfl (Ty.item ETerm.ty.sl a0.terms [u0_0] fp0) (fun _ => (Xb hp3)) (fun _ hb_ => hb_)
 have hp5 := (hC.getP 2 rfl)
 replace hC := hC.derive 2 rfl (Ty.item ETerm.ty.sl a1.terms [u1_0] fp1) (fun _ => (Xb hp5)) (fun _ hb_ => hb_)
 refine sr (Ye (v := .agg #[u0_0]) hC [u0_0] rfl rfl fun b7 w9 hB_ hC => Ye (v := .agg #[u1_0]) hC [u1_0] rfl rfl fun b10 w10 hB_ hC => Yf hC [.slice none 0 0] z95 rfl fun b12 w11 hB_ hC => dn (sr (Jd [] rfl (Zcx   _) (Yf hC [.slice none 0 0] z95 rfl fun b11 w12 hB_ hC => Zu (v := .agg #[.slice none 0 0]) hC 0 [.slice none 0 0] [.slice none 0 0] rfl ag95.size rfl rfl rfl rfl rfl (Nat.le_of_ble_eq_true rfl) rfl fun w13 hC => dn (sr (Zc (v := .int .i64 0) rfl ?_))))))
 refine Zc (v := .int .i64 0) rfl (dn (wp_seq (wp_block ?_)))
 refine Xu (S := (List Term) × Int × Int) _ (fun s10 e_ w_ => ∃ (v10 : Value), Z4 e_ [(2, .int .i64 a2), (3, .pointer (some ⟨b7, 0, none⟩)), (4, .pointer (some ⟨b10, 0, none⟩)), (6, .pointer (some ⟨b12, 0, none⟩)), (7, .pointer (some ⟨b11, 0, none⟩)), (8, .int .i64 s10.2.1), (9, .int .i64 s10.2.2)] ∧ Ctx Nox w0 w_ [own 114 9 v10 s10.1.length (ETerm.encs s10.1), blk b11 95 [v10], blk b12 95 [.slice none 0 0], blk b10 95 [u1_0], blk b7 95 [u0_0]] [Ty.item ETerm.ty.sl a1.terms [u1_0] fp1, Ty.item ETerm.ty.sl a0.terms [u0_0] fp0, Ty.item TForm a0 [u0_0] fp0, Ty.item TForm a1 [u1_0] fp1]) ?_ (s0 := ([], 0, 0)) ?_ h
 ·clear hC h
  rintro s10 e_ w14 nx10 K10 ⟨v10, hS_, hC⟩ h hK10
  rw [ue hS_]
  refine wp_seq (wp_seq ?_)
  obtain ⟨jn11, hj10, h⟩ := Zih h
  refine Zin (fun e_ w_ => ∃ (x10 : Bool), Z4 e_ [(2, .int .i64 a2), (3, .pointer (some ⟨b7, 0, none⟩)), (4, .pointer (some ⟨b10, 0, none⟩)), (6, .pointer (some ⟨b12, 0, none⟩)), (7, .pointer (some ⟨b11, 0, none⟩)), (8, .int .i64 s10.2.1), (9, .int .i64 s10.2.2), (24, .bool x10)] ∧ Ctx Nox w0 w_ [own 114 9 v10 s10.1.length (ETerm.encs s10.1), blk b11 95 [v10], blk b12 95 [.slice none 0 0], blk b10 95 [u1_0], blk b7 95 [u0_0]] [Ty.item ETerm.ty.sl a1.terms [u1_0] fp1, Ty.item ETerm.ty.sl a0.terms [u0_0] fp0, Ty.item TForm a0 [u0_0] fp0, Ty.item TForm a1 [u1_0] fp1] ∧ jn11 x10) ?_ ?_
  ·skip
   refine Zk (Zb (v := .int .i64 s10.2.1) rfl (Z1 0 Try.underlying95 rfl sc93.size rfl rfl (Z8 hC 4 (u0_0) rfl sc93 rfl rfl ?_)))
   obtain ⟨Ad19, c10, hv20⟩ := Z2 (hC.getP 1 rfl)
   refine Z0 Try.underlying93 (tr rfl hv20) (Zs rfl rfl (Zb (v := .bool (decide (s10.2.1 < (a0.terms.length : Int)))) rfl ?_))
   refine Xa (decide (s10.2.1 < (a0.terms.length : Int))) (fun hb13 => ?_) (fun hb13 => ?_)
   ·replace h := ift h (ct hb13)
    refine Zn (b := true) 5 18 rfl (tr rfl (congrArg _ hb13)) (by decide) (Zn (b := true) 5 18 rfl (tr rfl (congrArg _ hb13)) (by decide) (Zn (b := true) 5 18 rfl (tr rfl (congrArg _ hb13)) (by decide) (Zn (b := true) 5 18 rfl (tr rfl (congrArg _ hb13)) (by decide) (Zn (b := true) 5 18 rfl (tr rfl (congrArg _ hb13)) (by decide) (Yb (v := .bool true) (b := true) (tr rfl (congrArg _ hb13)) rfl (done ?_))))))
    exact ⟨rfl, _, rfl, true, (sl ⟨rfl, rfl, rfl, rfl, rfl, rfl, rfl, rfl, trivial⟩), hC, h⟩
   ·replace h := Zi h (cf hb13)
    refine Zm 5 18 rfl rfl hb13 (Zb (v := .int .i64 s10.2.2) rfl (Zm 5 18 rfl rfl hb13 (Z1 0 Try.underlying95 rfl sc93.size rfl rfl (Zm 5 18 rfl rfl hb13 (Z8 hC 3 (u1_0) rfl sc93 rfl rfl (Zm 5 18 rfl rfl hb13 ?_))))))
    obtain ⟨Ad20, c11, hv21⟩ := Z2 (hC.getP 0 rfl)
    refine Z0 Try.underlying93 (tr rfl hv21) (Zm 5 18 rfl rfl hb13 (Zs rfl rfl (Yb (v := .bool (decide (s10.2.2 < (a1.terms.length : Int)))) (b := false) (tr rfl (congrArg _ hb13)) rfl (done ?_))))
    exact ⟨rfl, _, rfl, decide (s10.2.2 < (a1.terms.length : Int)), (sl ⟨rfl, rfl, rfl, rfl, rfl, rfl, rfl, rfl, trivial⟩), hC, h⟩
  ·clear hC h
   rintro e_ w15 ⟨x10, hS_, hC, h⟩
   replace h := hj10 _ h
   rw [ue hS_]
   refine Zd ?_
   refine Zr rfl (fun hb14 => ?_) (fun hb14 => ?_)
   ·replace h := ift h (hb14)
    refine wp_skip (Zd (wp_block (wp_block (wp_seq ?_))))
    obtain ⟨jn10, hj11, h⟩ := Zih h
    refine Zin (fun e_ w_ => ∃ (x11 : Bool), Z4 e_ [(2, .int .i64 a2), (3, .pointer (some ⟨b7, 0, none⟩)), (4, .pointer (some ⟨b10, 0, none⟩)), (6, .pointer (some ⟨b12, 0, none⟩)), (7, .pointer (some ⟨b11, 0, none⟩)), (8, .int .i64 s10.2.1), (9, .int .i64 s10.2.2), (61, .bool x11)] ∧ Ctx Nox w0 w_ [own 114 9 v10 s10.1.length (ETerm.encs s10.1), blk b11 95 [v10], blk b12 95 [.slice none 0 0], blk b10 95 [u1_0], blk b7 95 [u0_0]] [Ty.item ETerm.ty.sl a1.terms [u1_0] fp1, Ty.item ETerm.ty.sl a0.terms [u0_0] fp0, Ty.item TForm a0 [u0_0] fp0, Ty.item TForm a1 [u1_0] fp1] ∧ jn10 x11) ?_ ?_
    ·skip
     refine Ym 24 Yg [0, 0, 2, 6, 15, 31, 63, 63, 191, 447, 1023, 2047, 4095, 8191, 4095, 32767, 65535, 131071, 4095, 266239, 4095, 1839103, 3936255, 8130559, 16777215, 33554431, 67108863, 134217727] [2, 3, 8, 9, 13, 15, 17, 19, 21, 23] [0, 1, 4, 5, 6, 7, 8, 9, 10, 11, 12, 13, 14, 15, 16, 17, 18, 19, 20, 21, 22, 23] (by kernel_rfl) (by kernel_rfl) (by kernel_rfl) (fun hM12 hM10 w16 hB_ => ?_)
     replace hC := hC.grow hB_
     refine aF 0 (.int .i64 s10.2.2) rfl rfl (hM10 0 rfl) (rfl) (fun _ => by exact Zg (v := .int .i64 s10.2.2) rfl) (Za 28 1) (aF 1 (.pointer (some ⟨b10, 0, none⟩)) rfl rfl (hM10 1 rfl) (rfl) (fun _ => by exact Z7 0 Try.underlying95 rfl sc93.size rfl rfl) (Za 28 3) (aL 2 (u1_0) rfl rfl (hM12 2 rfl) (rfl) (fun _ hB_ => by exact Z5 (hC.grow hB_) 3 (u1_0) rfl sc93 rfl rfl) (Za 28 7) ?_))
     obtain ⟨Ad21, c12, hv22⟩ := Z2 (hC.getP 0 rfl)
     refine aL 3 (.int .i64 (a1.terms.length : Int)) rfl rfl (hM12 3 rfl) (rfl) (fun _ hB_ => by exact Zck Try.underlying93 (by exact tr rfl hv22)) (Za 28 15) (aF 4 (.bool (decide (s10.2.2 = (a1.terms.length : Int)))) rfl rfl (hM10 4 rfl) (rfl) (fun _ => by exact Zkh rfl rfl) (Za 28 31) (aF 5 (.bool (decide (s10.2.2 = (a1.terms.length : Int)))) rfl rfl (hM10 5 rfl) (rfl) (fun _ => by exact Zg (v := .bool (decide (s10.2.2 = (a1.terms.length : Int)))) rfl) (Za 28 63) ?_))
     refine Xa (decide (s10.2.2 = (a1.terms.length : Int))) (fun hb12 => ?_) (fun hb12 => ?_)
     ·replace h := ift h (ct hb12)
      refine Zp Z3 6 undef rfl rfl (by kernel_rfl) (hM10 6 rfl) (fun w_ => .inr ⟨Yh (b := true) 5 67 rfl (tr rfl (congrArg _ hb12)) (by decide), rfl⟩) (l9 := (Za 28 127)) (by kernel_rfl) (Zp Z3 7 undef rfl rfl (by kernel_rfl) (hM10 7 rfl) (fun w_ => .inr ⟨Yh (b := true) 5 67 rfl (tr rfl (congrArg _ hb12)) (by decide), rfl⟩) (l9 := (Za 28 255)) (by kernel_rfl) (Zp Z3 8 undef rfl rfl (by kernel_rfl) (hM10 8 rfl) (fun w_ => .inr ⟨Yh (b := true) 5 67 rfl (tr rfl (congrArg _ hb12)) (by decide), rfl⟩) (l9 := (Za 28 511)) (by kernel_rfl) (Zp Z3 9 undef rfl rfl (by kernel_rfl) (hM10 9 rfl) (fun w_ => .inr ⟨Yh (b := true) 5 67 rfl (tr rfl (congrArg _ hb12)) (by decide), rfl⟩) (l9 := (Za 28 1023)) (by kernel_rfl) (Zp Z3 10 undef rfl rfl (by kernel_rfl) (hM10 10 rfl) (fun w_ => .inr ⟨Yh (b := true) 5 67 rfl (tr rfl (congrArg _ hb12)) (by decide), rfl⟩) (l9 := (Za 28 2047)) (by kernel_rfl) (Zp Z3 11 undef rfl rfl (by kernel_rfl) (hM10 11 rfl) (fun w_ => .inr ⟨Yh (b := true) 5 67 rfl (tr rfl (congrArg _ hb12)) (by decide), rfl⟩) (l9 := (Za 28 4095)) (by kernel_rfl) (Zp Z3 12 undef rfl rfl (by kernel_rfl) (hM10 12 rfl) (fun w_ => .inr ⟨Xx 11 73 rfl rfl, rfl⟩) (l9 := (Za 28 8191)) (by kernel_rfl) (Zp Z3 13 undef rfl rfl (by kernel_rfl) (hM10 13 rfl) (fun w_ => .inr ⟨Xx 11 73 rfl rfl, rfl⟩) (l9 := (Za 28 16383)) (by kernel_rfl) (Zp Z3 14 undef rfl rfl (by kernel_rfl) (hM10 14 rfl) (fun w_ => .inr ⟨Xx 11 73 rfl rfl, rfl⟩) (l9 := (Za 28 32767)) (by kernel_rfl) ?_))))))))
      refine Zp Z3 15 undef rfl rfl (by kernel_rfl) (hM10 15 rfl) (fun w_ => .inr ⟨Xx 11 73 rfl rfl, rfl⟩) (l9 := (Za 28 65535)) (by kernel_rfl) (Zp Z3 16 undef rfl rfl (by kernel_rfl) (hM10 16 rfl) (fun w_ => .inr ⟨Xx 11 73 rfl rfl, rfl⟩) (l9 := (Za 28 131071)) (by kernel_rfl) (Zp Z3 17 undef rfl rfl (by kernel_rfl) (hM10 17 rfl) (fun w_ => .inr ⟨Xx 11 73 rfl rfl, rfl⟩) (l9 := (Za 28 262143)) (by kernel_rfl) (Zp Z3 18 undef rfl rfl (by kernel_rfl) (hM10 18 rfl) (fun w_ => .inr ⟨Xx 11 73 rfl rfl, rfl⟩) (l9 := (Za 28 524287)) (by kernel_rfl) (Zp Z3 19 undef rfl rfl (by kernel_rfl) (hM10 19 rfl) (fun w_ => .inr ⟨Xx 11 73 rfl rfl, rfl⟩) (l9 := (Za 28 1048575)) (by kernel_rfl) (Zp Z3 20 undef rfl rfl (by kernel_rfl) (hM10 20 rfl) (fun w_ => .inr ⟨Xx 11 73 rfl rfl, rfl⟩) (l9 := (Za 28 2097151)) (by kernel_rfl) (Zp Z3 21 undef rfl rfl (by kernel_rfl) (hM10 21 rfl) (fun w_ => .inr ⟨Xx 11 73 rfl rfl, rfl⟩) (l9 := (Za 28 4194303)) (by kernel_rfl) (Zp Z3 22 undef rfl rfl (by kernel_rfl) (hM10 22 rfl) (fun w_ => .inr ⟨Xx 11 73 rfl rfl, rfl⟩) (l9 := (Za 28 8388607)) (by kernel_rfl) (Zp Z3 23 undef rfl rfl (by kernel_rfl) (hM10 23 rfl) (fun w_ => .inr ⟨Xx 11 73 rfl rfl, rfl⟩) (l9 := (Za 28 16777215)) (by kernel_rfl) (Zv 24 (by decide) (by decide) (by kernel_rfl) (by kernel_rfl) rfl (J1 11 73 rfl rfl (Zn (b := true) 5 67 rfl (tr rfl (congrArg _ hb12)) (by decide) ?_)))))))))))
      refine Yb (v := .bool true) (b := true) (tr rfl (congrArg _ hb12)) rfl (Zc (v := .bool true) rfl (done (Zw ?_)))
      exact ⟨rfl, _, rfl, true, (sl ⟨rfl, rfl, rfl, rfl, rfl, rfl, rfl, rfl, trivial⟩), hC, h⟩
     ·replace h := Zi h (cf hb12)
      refine aF 6 (.int .i64 s10.2.1) rfl rfl (hM10 6 rfl) (Yn 5 67 rfl rfl hb12) (fun _ => by exact Zg (v := .int .i64 s10.2.1) rfl) (Za 28 127) (aF 7 (.pointer (some ⟨b7, 0, none⟩)) rfl rfl (hM10 7 rfl) (Yn 5 67 rfl rfl hb12) (fun _ => by exact Z7 0 Try.underlying95 rfl sc93.size rfl rfl) (Za 28 255) (aL 8 (u0_0) rfl rfl (hM12 8 rfl) (Yn 5 67 rfl rfl hb12) (fun _ hB_ => by exact Z5 (hC.grow hB_) 4 (u0_0) rfl sc93 rfl rfl) (Za 28 511) ?_))
      obtain ⟨Ad22, c13, hv23⟩ := Z2 (hC.getP 1 rfl)
      refine aL 9 (.int .i64 (a0.terms.length : Int)) rfl rfl (hM12 9 rfl) (Yn 5 67 rfl rfl hb12) (fun _ hB_ => by exact Zck Try.underlying93 (by exact tr rfl hv23)) (Za 28 1023) (aF 10 (.bool (decide (s10.2.1 < (a0.terms.length : Int)))) rfl rfl (hM10 10 rfl) (Yn 5 67 rfl rfl hb12) (fun _ => by exact Znu rfl rfl) (Za 28 2047) (aF 11 (.bool (decide (s10.2.1 < (a0.terms.length : Int)))) rfl rfl (hM10 11 rfl) (Yn 5 67 rfl rfl hb12) (fun _ => by exact Zg (v := .bool (decide (s10.2.1 < (a0.terms.length : Int)))) rfl) (Za 28 4095) ?_))
      refine Xa (decide (s10.2.1 < (a0.terms.length : Int))) (fun hb10 => ?_) (fun hb10 => ?_)
      ·replace h := ift h (ct hb10)
       refine aF 12 (.pointer (some ⟨b7, 0, none⟩)) rfl rfl (hM10 12 rfl) (Yn 11 73 rfl rfl hb10) (fun _ => by exact Z7 0 Try.underlying95 rfl sc93.size rfl rfl) (Za 28 8191) (aL 13 (u0_0) rfl rfl (hM12 13 rfl) (Yn 11 73 rfl rfl hb10) (fun _ hB_ => by exact Z5 (hC.grow hB_) 4 (u0_0) rfl sc93 rfl rfl) (Za 28 16383) (aF 14 (.int .i64 s10.2.1) rfl rfl (hM10 14 rfl) (Yn 11 73 rfl rfl hb10) (fun _ => by exact Zg (v := .int .i64 s10.2.1) rfl) (Za 28 32767) ?_))
       obtain ⟨⟨h10, h11⟩, h⟩ := h
       obtain ⟨Ad10, c14, hv10⟩ := Z9 (hC.getP 1 rfl) s10.2.1.toNat (show s10.2.1.toNat < a0.terms.length by omega)
       refine aL 15 (.pointer (some (Ad10.add (s10.2.1.toNat * 9)))) rfl rfl (hM12 15 rfl) (Yn 11 73 rfl rfl hb10) (fun _ hB_ => by exact Yv (len := a0.terms.length) Try.underlying93 ag114.size (by exact tr rfl hv10) rfl h10 h11) (Za 28 65535) (aF 16 (.pointer (some (Ad10.add (s10.2.1.toNat * 9 + 0)))) rfl rfl (hM10 16 rfl) (Yn 11 73 rfl rfl hb10) (fun _ => by exact Zaj (s10.2.1.toNat * 9 + 0) Try.underlying114 rfl ag49.size rfl rfl) (Za 28 131071) (aL 17 (.agg (List.toArray (A8.enc .u8 ((a0.terms.getD s10.2.1.toNat default).mono)))) rfl rfl (hM12 17 rfl) (Yn 11 73 rfl rfl hb10) (fun _ hB_ => by exact Xw (A8.enc .u8 ((a0.terms.getD s10.2.1.toNat default).mono)) (Jq (o := 0) (k := 8) (Yk ((hC.grow hB_).getP 1 rfl) hv10 s10.2.1.toNat (show s10.2.1.toNat < a0.terms.length by omega)) rfl) ag49 rfl rfl) (Za 28 262143) (aF 18 (.pointer (some ⟨b10, 0, none⟩)) rfl rfl (hM10 18 rfl) (Yn 11 73 rfl rfl hb10) (fun _ => by exact Z7 0 Try.underlying95 rfl sc93.size rfl rfl) (Za 28 524287) (aL 19 (u1_0) rfl rfl (hM12 19 rfl) (Yn 11 73 rfl rfl hb10) (fun _ hB_ => by exact Z5 (hC.grow hB_) 3 (u1_0) rfl sc93 rfl rfl) (Za 28 1048575) (aF 20 (.int .i64 s10.2.2) rfl rfl (hM10 20 rfl) (Yn 11 73 rfl rfl hb10) (fun _ => by exact Zg (v := .int .i64 s10.2.2) rfl) (Za 28 2097151) ?_)))))
       obtain ⟨⟨h12, h13⟩, h⟩ := h
       obtain ⟨Ad11, c15, hv11⟩ := Z9 (hC.getP 0 rfl) s10.2.2.toNat (show s10.2.2.toNat < a1.terms.length by omega)
       refine aL 21 (.pointer (some (Ad11.add (s10.2.2.toNat * 9)))) rfl rfl (hM12 21 rfl) (Yn 11 73 rfl rfl hb10) (fun _ hB_ => by exact Yv (len := a1.terms.length) Try.underlying93 ag114.size (by exact tr rfl hv11) rfl h12 h13) (Za 28 4194303) (aF 22 (.pointer (some (Ad11.add (s10.2.2.toNat * 9 + 0)))) rfl rfl (hM10 22 rfl) (Yn 11 73 rfl rfl hb10) (fun _ => by exact Zaj (s10.2.2.toNat * 9 + 0) Try.underlying114 rfl ag49.size rfl rfl) (Za 28 8388607) (aL 23 (.agg (List.toArray (A8.enc .u8 ((a1.terms.getD s10.2.2.toNat default).mono)))) rfl rfl (hM12 23 rfl) (Yn 11 73 rfl rfl hb10) (fun _ hB_ => by exact Xw (A8.enc .u8 ((a1.terms.getD s10.2.2.toNat default).mono)) (Jq (o := 0) (k := 8) (Yk ((hC.grow hB_).getP 0 rfl) hv11 s10.2.2.toNat (show s10.2.2.toNat < a1.terms.length by omega)) rfl) ag49 rfl rfl) (Za 28 16777215) (Zv 24 (by decide) (by decide) (by kernel_rfl) (by kernel_rfl) rfl (Zm 11 73 rfl rfl hb10 ?_))))
       refine Zf [.agg (List.toArray (A8.enc .u8 ((a0.terms.getD s10.2.1.toNat default).mono))), .agg (List.toArray (A8.enc .u8 ((a1.terms.getD s10.2.2.toNat default).mono)))] _ Try.func121 rfl rfl rfl (Zjc ((a0.terms.getD s10.2.1.toNat default).mono) ((a1.terms.getD s10.2.2.toNat default).mono) h _) (fun ret10 w17 hR10 => ?_)
       obtain ⟨r12, rfl, h, hB10⟩ := hR10
       refine ⟨_, rfl, ?_⟩
       replace hC := hC.grow hB10
       refine Zm 5 67 rfl rfl hb12 (Yb (v := .bool r12) (b := true) (tr rfl (congrArg _ hb10)) rfl (Yb (v := .bool r12) (b := false) (tr rfl (congrArg _ hb12)) rfl (Zc (v := .bool r12) rfl (done (Zw ?_)))))
       exact ⟨rfl, _, rfl, r12, (sl ⟨rfl, rfl, rfl, rfl, rfl, rfl, rfl, rfl, trivial⟩), hC, h⟩
      ·replace h := Zi h (cf hb10)
       refine Zp Z3 12 undef rfl rfl (by kernel_rfl) (hM10 12 rfl) (fun w_ => .inr ⟨Yh (b := false) 11 73 rfl (tr rfl (congrArg _ hb10)) (by decide), rfl⟩) (l9 := (Za 28 8191)) (by kernel_rfl) (Zp Z3 13 undef rfl rfl (by kernel_rfl) (hM10 13 rfl) (fun w_ => .inr ⟨Yh (b := false) 11 73 rfl (tr rfl (congrArg _ hb10)) (by decide), rfl⟩) (l9 := (Za 28 16383)) (by kernel_rfl) (Zp Z3 14 undef rfl rfl (by kernel_rfl) (hM10 14 rfl) (fun w_ => .inr ⟨Yh (b := false) 11 73 rfl (tr rfl (congrArg _ hb10)) (by decide), rfl⟩) (l9 := (Za 28 32767)) (by kernel_rfl) (Zp Z3 15 undef rfl rfl (by kernel_rfl) (hM10 15 rfl) (fun w_ => .inr ⟨Yh (b := false) 11 73 rfl (tr rfl (congrArg _ hb10)) (by decide), rfl⟩) (l9 := (Za 28 65535)) (by kernel_rfl) (Zp Z3 16 undef rfl rfl (by kernel_rfl) (hM10 16 rfl) (fun w_ => .inr ⟨Yh (b := false) 11 73 rfl (tr rfl (congrArg _ hb10)) (by decide), rfl⟩) (l9 := (Za 28 131071)) (by kernel_rfl) (Zp Z3 17 undef rfl rfl (by kernel_rfl) (hM10 17 rfl) (fun w_ => .inr ⟨Yh (b := false) 11 73 rfl (tr rfl (congrArg _ hb10)) (by decide), rfl⟩) (l9 := (Za 28 262143)) (by kernel_rfl) (Zp Z3 18 undef rfl rfl (by kernel_rfl) (hM10 18 rfl) (fun w_ => .inr ⟨Yh (b := false) 11 73 rfl (tr rfl (congrArg _ hb10)) (by decide), rfl⟩) (l9 := (Za 28 524287)) (by kernel_rfl) (Zp Z3 19 undef rfl rfl (by kernel_rfl) (hM10 19 rfl) (fun w_ => .inr ⟨Yh (b := false) 11 73 rfl (tr rfl (congrArg _ hb10)) (by decide), rfl⟩) (l9 := (Za 28 1048575)) (by kernel_rfl) ?_)))))))
       refine Zp Z3 20 undef rfl rfl (by kernel_rfl) (hM10 20 rfl) (fun w_ => .inr ⟨Yh (b := false) 11 73 rfl (tr rfl (congrArg _ hb10)) (by decide), rfl⟩) (l9 := (Za 28 2097151)) (by kernel_rfl) (Zp Z3 21 undef rfl rfl (by kernel_rfl) (hM10 21 rfl) (fun w_ => .inr ⟨Yh (b := false) 11 73 rfl (tr rfl (congrArg _ hb10)) (by decide), rfl⟩) (l9 := (Za 28 4194303)) (by kernel_rfl) (Zp Z3 22 undef rfl rfl (by kernel_rfl) (hM10 22 rfl) (fun w_ => .inr ⟨Yh (b := false) 11 73 rfl (tr rfl (congrArg _ hb10)) (by decide), rfl⟩) (l9 := (Za 28 8388607)) (by kernel_rfl) (Zp Z3 23 undef rfl rfl (by kernel_rfl) (hM10 23 rfl) (fun w_ => .inr ⟨Yh (b := false) 11 73 rfl (tr rfl (congrArg _ hb10)) (by decide), rfl⟩) (l9 := (Za 28 16777215)) (by kernel_rfl) (Zv 24 (by decide) (by decide) (by kernel_rfl) (by kernel_rfl) rfl (Zn (b := false) 11 73 rfl (tr rfl (congrArg _ hb10)) (by decide) (Zm 5 67 rfl rfl hb12 (Yb (v := .bool false) (b := false) (tr rfl (congrArg _ hb10)) rfl (Yb (v := .bool false) (b := false) (tr rfl (congrArg _ hb12)) rfl (Zc (v := .bool false) rfl (done (Zw ?_)))))))))))
       exact ⟨rfl, _, rfl, false, (sl ⟨rfl, rfl, rfl, rfl, rfl, rfl, rfl, rfl, trivial⟩), hC, h⟩
    ·clear hC h
     rintro e_ w18 ⟨x11, hS_, hC, h⟩
     replace h := hj11 _ h
     rw [ue hS_]
     refine Zd ?_
     refine Zr rfl (fun hb15 => ?_) (fun hb15 => ?_)
     ·replace h := ift h (hb15)
      refine wp_seq ?_
      refine Ym 8 Yg [0, 1, 0, 4, 0, 28, 60, 124, 255, 511, 1023] [1, 3, 5, 6] [0, 2, 4] (by kernel_rfl) (by kernel_rfl) (by kernel_rfl) (fun hM20 hM21 w19 hB_ => ?_)
      replace hC := hC.grow hB_
      refine aF 0 (.pointer (some ⟨b11, 0, none⟩)) rfl rfl (hM21 0 rfl) (rfl) (fun _ => by exact Z7 0 Try.underlying95 rfl sc93.size rfl rfl) (Za 11 1) (aL 1 (v10) rfl rfl (hM20 1 rfl) (rfl) (fun _ hB_ => by exact Z5 (hC.grow hB_) 1 (v10) rfl sc93 rfl rfl) (Za 11 3) (aF 2 (.pointer (some ⟨b7, 0, none⟩)) rfl rfl (hM21 2 rfl) (rfl) (fun _ => by exact Z7 0 Try.underlying95 rfl sc93.size rfl rfl) (Za 11 7) (aL 3 (u0_0) rfl rfl (hM20 3 rfl) (rfl) (fun _ hB_ => by exact Z5 (hC.grow hB_) 4 (u0_0) rfl sc93 rfl rfl) (Za 11 15) (aF 4 (.int .i64 s10.2.1) rfl rfl (hM21 4 rfl) (rfl) (fun _ => by exact Zg (v := .int .i64 s10.2.1) rfl) (Za 11 31) ?_))))
      obtain ⟨⟨h14, h15⟩, h⟩ := h
      obtain ⟨Ad18, c16, hv12⟩ := Z9 (hC.getP 1 rfl) s10.2.1.toNat (show s10.2.1.toNat < a0.terms.length by omega)
      refine aL 5 (.pointer (some (Ad18.add (s10.2.1.toNat * 9)))) rfl rfl (hM20 5 rfl) (rfl) (fun _ hB_ => by exact Yv (len := a0.terms.length) Try.underlying93 ag114.size (by exact tr rfl hv12) rfl h14 h15) (Za 11 63) (aL 6 (.agg (List.toArray (Term.enc (a0.terms.getD s10.2.1.toNat default)))) rfl rfl (hM20 6 rfl) (rfl) (fun _ hB_ => by exact Xw (Term.enc (a0.terms.getD s10.2.1.toNat default)) (Yk ((hC.grow hB_).getP 1 rfl) hv12 s10.2.1.toNat (show s10.2.1.toNat < a0.terms.length by omega)) ag114 rfl rfl) (Za 11 127) (aO 7 rfl (Jg (sz := 9) hC [(0, .agg (List.toArray (Term.enc (a0.terms.getD s10.2.1.toNat default))))] (ETerm.encs [a0.terms.getD s10.2.1.toNat default]) rfl (fun _ => Ze1 (a0.terms.getD s10.2.1.toNat default) _) rfl (by decide) fun b13 w20 hB_ hC => done (aK (by assumption) (Za 11 255) (Zv 8 (by decide) (by decide) (by kernel_rfl) (by kernel_rfl) rfl ?_)))))
      obtain ⟨hm10, h⟩ := h
      refine Zbj hC 1 Try.underlying93 Ze2 rfl (by decide) (by decide) rfl (Zaq (hC.getM 0 rfl)) (fun q hq => Enc.encs_one' (E := ETerm) _ q hq) rfl rfl hm10 fun v11 w21 hC => ?_
      replace hC := J8 hC 1 ((s10.1 ++ [a0.terms.getD s10.2.1.toNat default]).length) (ETerm.encs (s10.1 ++ [a0.terms.getD s10.2.1.toNat default])) rfl (by simp) (by first | (simp [Enc.encs_append]; done) | simp [Enc.encs_append, Enc.encs])
      refine Z1 0 Try.underlying95 rfl sc93.size rfl rfl (Zu (v := v11) hC 2 [v11] [v11] rfl sc93.size rfl rfl (Zcm (hC.getM 1 rfl)) rfl (Y3 (Xl (hC.getM 1 rfl)) rfl) (Nat.le_of_ble_eq_true rfl) rfl fun w22 hC => done (Zw (Zd (Zk (Zb (v := .int .i64 s10.2.1) rfl (Zq rfl rfl (Zc (v := .int .i64 (IntKind.i64.wrap (s10.2.1 + 1))) rfl (done (Zt (Zt ?_))))))))))
      replace hC := hC.sM [1, 2, 3, 4, 5] (M' := [own 114 9 v11 ((s10.1 ++ [a0.terms.getD s10.2.1.toNat default]).length) (ETerm.encs (s10.1 ++ [a0.terms.getD s10.2.1.toNat default])), blk b11 95 [v11], blk b12 95 [.slice none 0 0], blk b10 95 [u1_0], blk b7 95 [u0_0]]) (by decide) rfl
      exact hK10 (s10.1 ++ [a0.terms.getD s10.2.1.toNat default], IntKind.i64.wrap (s10.2.1 + 1), s10.2.2) _ _ ⟨v11, (sl ⟨rfl, rfl, rfl, rfl, rfl, rfl, rfl, trivial⟩), hC⟩ h
     ·replace h := Zi h (Xq hb15)
      refine wp_seq ?_
      obtain ⟨jn12, hj12, h⟩ := Zih h
      refine Zin (fun e_ w_ => ∃ (x12 : Bool), Z4 e_ [(2, .int .i64 a2), (3, .pointer (some ⟨b7, 0, none⟩)), (4, .pointer (some ⟨b10, 0, none⟩)), (6, .pointer (some ⟨b12, 0, none⟩)), (7, .pointer (some ⟨b11, 0, none⟩)), (8, .int .i64 s10.2.1), (9, .int .i64 s10.2.2), (101, .bool x12)] ∧ Ctx Nox w0 w_ [own 114 9 v10 s10.1.length (ETerm.encs s10.1), blk b11 95 [v10], blk b12 95 [.slice none 0 0], blk b10 95 [u1_0], blk b7 95 [u0_0]] [Ty.item ETerm.ty.sl a1.terms [u1_0] fp1, Ty.item ETerm.ty.sl a0.terms [u0_0] fp0, Ty.item TForm a0 [u0_0] fp0, Ty.item TForm a1 [u1_0] fp1] ∧ jn12 x12) ?_ ?_
      ·skip
       refine Ym 18 Yg [0, 0, 2, 6, 15, 31, 63, 127, 63, 511, 1023, 2047, 63, 4159, 63, 28735, 61503, 127039, 262143, 524287, 1048575] [2, 3, 7, 9, 11, 13, 15, 17] [0, 1, 4, 5, 6, 7, 8, 9, 10, 11, 12, 13, 14, 15, 16, 17] (by kernel_rfl) (by kernel_rfl) (by kernel_rfl) (fun hM13 hM11 w23 hB_ => ?_)
       replace hC := hC.grow hB_
       refine aF 0 (.int .i64 s10.2.1) rfl rfl (hM11 0 rfl) (rfl) (fun _ => by exact Zg (v := .int .i64 s10.2.1) rfl) (Za 21 1) (aF 1 (.pointer (some ⟨b7, 0, none⟩)) rfl rfl (hM11 1 rfl) (rfl) (fun _ => by exact Z7 0 Try.underlying95 rfl sc93.size rfl rfl) (Za 21 3) (aL 2 (u0_0) rfl rfl (hM13 2 rfl) (rfl) (fun _ hB_ => by exact Z5 (hC.grow hB_) 4 (u0_0) rfl sc93 rfl rfl) (Za 21 7) ?_))
       obtain ⟨Ad23, c17, hv24⟩ := Z2 (hC.getP 1 rfl)
       refine aL 3 (.int .i64 (a0.terms.length : Int)) rfl rfl (hM13 3 rfl) (rfl) (fun _ hB_ => by exact Zck Try.underlying93 (by exact tr rfl hv24)) (Za 21 15) (aF 4 (.bool (decide (s10.2.1 = (a0.terms.length : Int)))) rfl rfl (hM11 4 rfl) (rfl) (fun _ => by exact Zkh rfl rfl) (Za 21 31) (aF 5 (.bool (decide (s10.2.1 = (a0.terms.length : Int)))) rfl rfl (hM11 5 rfl) (rfl) (fun _ => by exact Zg (v := .bool (decide (s10.2.1 = (a0.terms.length : Int)))) rfl) (Za 21 63) ?_))
       refine Xa (decide (s10.2.1 = (a0.terms.length : Int))) (fun hb11 => ?_) (fun hb11 => ?_)
       ·replace h := ift h (ct hb11)
        refine Zp Z3 6 undef rfl rfl (by kernel_rfl) (hM11 6 rfl) (fun w_ => .inr ⟨Yh (b := true) 5 107 rfl (tr rfl (congrArg _ hb11)) (by decide), rfl⟩) (l9 := (Za 21 127)) (by kernel_rfl) (Zp Z3 7 undef rfl rfl (by kernel_rfl) (hM11 7 rfl) (fun w_ => .inr ⟨Yh (b := true) 5 107 rfl (tr rfl (congrArg _ hb11)) (by decide), rfl⟩) (l9 := (Za 21 255)) (by kernel_rfl) (Zp Z3 8 undef rfl rfl (by kernel_rfl) (hM11 8 rfl) (fun w_ => .inr ⟨Yh (b := true) 5 107 rfl (tr rfl (congrArg _ hb11)) (by decide), rfl⟩) (l9 := (Za 21 511)) (by kernel_rfl) (Zp Z3 9 undef rfl rfl (by kernel_rfl) (hM11 9 rfl) (fun w_ => .inr ⟨Yh (b := true) 5 107 rfl (tr rfl (congrArg _ hb11)) (by decide), rfl⟩) (l9 := (Za 21 1023)) (by kernel_rfl) (Zp Z3 10 undef rfl rfl (by kernel_rfl) (hM11 10 rfl) (fun w_ => .inr ⟨Yh (b := true) 5 107 rfl (tr rfl (congrArg _ hb11)) (by decide), rfl⟩) (l9 := (Za 21 2047)) (by kernel_rfl) (Zp Z3 11 undef rfl rfl (by kernel_rfl) (hM11 11 rfl) (fun w_ => .inr ⟨Yh (b := true) 5 107 rfl (tr rfl (congrArg _ hb11)) (by decide), rfl⟩) (l9 := (Za 21 4095)) (by kernel_rfl) (Zp Z3 12 undef rfl rfl (by kernel_rfl) (hM11 12 rfl) (fun w_ => .inr ⟨Yh (b := true) 5 107 rfl (tr rfl (congrArg _ hb11)) (by decide), rfl⟩) (l9 := (Za 21 8191)) (by kernel_rfl) (Zp Z3 13 undef rfl rfl (by kernel_rfl) (hM11 13 rfl) (fun w_ => .inr ⟨Yh (b := true) 5 107 rfl (tr rfl (congrArg _ hb11)) (by decide), rfl⟩) (l9 := (Za 21 16383)) (by kernel_rfl) ?_)))))))
        refine Zp Z3 14 undef rfl rfl (by kernel_rfl) (hM11 14 rfl) (fun w_ => .inr ⟨Yh (b := true) 5 107 rfl (tr rfl (congrArg _ hb11)) (by decide), rfl⟩) (l9 := (Za 21 32767)) (by kernel_rfl) (Zp Z3 15 undef rfl rfl (by kernel_rfl) (hM11 15 rfl) (fun w_ => .inr ⟨Yh (b := true) 5 107 rfl (tr rfl (congrArg _ hb11)) (by decide), rfl⟩) (l9 := (Za 21 65535)) (by kernel_rfl) (Zp Z3 16 undef rfl rfl (by kernel_rfl) (hM11 16 rfl) (fun w_ => .inr ⟨Yh (b := true) 5 107 rfl (tr rfl (congrArg _ hb11)) (by decide), rfl⟩) (l9 := (Za 21 131071)) (by kernel_rfl) (Zp Z3 17 undef rfl rfl (by kernel_rfl) (hM11 17 rfl) (fun w_ => .inr ⟨Yh (b := true) 5 107 rfl (tr rfl (congrArg _ hb11)) (by decide), rfl⟩) (l9 := (Za 21 262143)) (by kernel_rfl) (Zv 18 (by decide) (by decide) (by kernel_rfl) (by kernel_rfl) rfl (Zn (b := true) 5 107 rfl (tr rfl (congrArg _ hb11)) (by decide) (Yb (v := .bool true) (b := true) (tr rfl (congrArg _ hb11)) rfl (Zc (v := .bool true) rfl (done (Zw ?_)))))))))
        exact ⟨rfl, _, rfl, true, (sl ⟨rfl, rfl, rfl, rfl, rfl, rfl, rfl, rfl, trivial⟩), hC, h⟩
       ·replace h := Zi h (cf hb11)
        refine aF 6 (.pointer (some ⟨b10, 0, none⟩)) rfl rfl (hM11 6 rfl) (Yn 5 107 rfl rfl hb11) (fun _ => by exact Z7 0 Try.underlying95 rfl sc93.size rfl rfl) (Za 21 127) (aL 7 (u1_0) rfl rfl (hM13 7 rfl) (Yn 5 107 rfl rfl hb11) (fun _ hB_ => by exact Z5 (hC.grow hB_) 3 (u1_0) rfl sc93 rfl rfl) (Za 21 255) (aF 8 (.int .i64 s10.2.2) rfl rfl (hM11 8 rfl) (Yn 5 107 rfl rfl hb11) (fun _ => by exact Zg (v := .int .i64 s10.2.2) rfl) (Za 21 511) ?_))
        obtain ⟨⟨h16, h17⟩, h⟩ := h
        obtain ⟨Ad12, c18, hv13⟩ := Z9 (hC.getP 0 rfl) s10.2.2.toNat (show s10.2.2.toNat < a1.terms.length by omega)
        refine aL 9 (.pointer (some (Ad12.add (s10.2.2.toNat * 9)))) rfl rfl (hM13 9 rfl) (Yn 5 107 rfl rfl hb11) (fun _ hB_ => by exact Yv (len := a1.terms.length) Try.underlying93 ag114.size (by exact tr rfl hv13) rfl h16 h17) (Za 21 1023) (aF 10 (.pointer (some (Ad12.add (s10.2.2.toNat * 9 + 0)))) rfl rfl (hM11 10 rfl) (Yn 5 107 rfl rfl hb11) (fun _ => by exact Zaj (s10.2.2.toNat * 9 + 0) Try.underlying114 rfl ag49.size rfl rfl) (Za 21 2047) (aL 11 (.agg (List.toArray (A8.enc .u8 ((a1.terms.getD s10.2.2.toNat default).mono)))) rfl rfl (hM13 11 rfl) (Yn 5 107 rfl rfl hb11) (fun _ hB_ => by exact Xw (A8.enc .u8 ((a1.terms.getD s10.2.2.toNat default).mono)) (Jq (o := 0) (k := 8) (Yk ((hC.grow hB_).getP 0 rfl) hv13 s10.2.2.toNat (show s10.2.2.toNat < a1.terms.length by omega)) rfl) ag49 rfl rfl) (Za 21 4095) (aF 12 (.pointer (some ⟨b7, 0, none⟩)) rfl rfl (hM11 12 rfl) (Yn 5 107 rfl rfl hb11) (fun _ => by exact Z7 0 Try.underlying95 rfl sc93.size rfl rfl) (Za 21 8191) (aL 13 (u0_0) rfl rfl (hM13 13 rfl) (Yn 5 107 rfl rfl hb11) (fun _ hB_ => by exact Z5 (hC.grow hB_) 4 (u0_0) rfl sc93 rfl rfl) (Za 21 16383) (aF 14 (.int .i64 s10.2.1) rfl rfl (hM11 14 rfl) (Yn 5 107 rfl rfl hb11) (fun _ => by exact Zg (v := .int .i64 s10.2.1) rfl) (Za 21 32767) ?_)))))
        obtain ⟨⟨h18, h19⟩, h⟩ := h
        obtain ⟨Ad13, c19, hv14⟩ := Z9 (hC.getP 1 rfl) s10.2.1.toNat (show s10.2.1.toNat < a0.terms.length by omega)
        refine aL 15 (.pointer (some (Ad13.add (s10.2.1.toNat * 9)))) rfl rfl (hM13 15 rfl) (Yn 5 107 rfl rfl hb11) (fun _ hB_ => by exact Yv (len := a0.terms.length) Try.underlying93 ag114.size (by exact tr rfl hv14) rfl h18 h19) (Za 21 65535) (aF 16 (.pointer (some (Ad13.add (s10.2.1.toNat * 9 + 0)))) rfl rfl (hM11 16 rfl) (Yn 5 107 rfl rfl hb11) (fun _ => by exact Zaj (s10.2.1.toNat * 9 + 0) Try.underlying114 rfl ag49.size rfl rfl) (Za 21 131071) (aL 17 (.agg (List.toArray (A8.enc .u8 ((a0.terms.getD s10.2.1.toNat default).mono)))) rfl rfl (hM13 17 rfl) (Yn 5 107 rfl rfl hb11) (fun _ hB_ => by exact Xw (A8.enc .u8 ((a0.terms.getD s10.2.1.toNat default).mono)) (Jq (o := 0) (k := 8) (Yk ((hC.grow hB_).getP 1 rfl) hv14 s10.2.1.toNat (show s10.2.1.toNat < a0.terms.length by omega)) rfl) ag49 rfl rfl) (Za 21 262143) (Zv 18 (by decide) (by decide) (by kernel_rfl) (by kernel_rfl) rfl (Zm 5 107 rfl rfl hb11 ?_))))
        refine Zf [.agg (List.toArray (A8.enc .u8 ((a1.terms.getD s10.2.2.toNat default).mono))), .agg (List.toArray (A8.enc .u8 ((a0.terms.getD s10.2.1.toNat default).mono)))] _ Try.func121 rfl rfl rfl (Zjc ((a1.terms.getD s10.2.2.toNat default).mono) ((a0.terms.getD s10.2.1.toNat default).mono) h _) (fun ret11 w24 hR11 => ?_)
        obtain ⟨r13, rfl, h, hB11⟩ := hR11
        refine ⟨_, rfl, ?_⟩
        replace hC := hC.grow hB11
        refine Yb (v := .bool r13) (b := false) (tr rfl (congrArg _ hb11)) rfl (Zc (v := .bool r13) rfl (done (Zw ?_)))
        exact ⟨rfl, _, rfl, r13, (sl ⟨rfl, rfl, rfl, rfl, rfl, rfl, rfl, rfl, trivial⟩), hC, h⟩
      ·clear hC h
       rintro e_ w25 ⟨x12, hS_, hC, h⟩
       replace h := hj12 _ h
       rw [ue hS_]
       refine Zd ?_
       refine Zr rfl (fun hb16 => ?_) (fun hb16 => ?_)
       ·replace h := ift h (hb16)
        refine wp_seq (sr (Zb (v := .int .i64 a2) rfl (Z1 0 Try.underlying95 rfl sc93.size rfl rfl (Z8 hC 3 (u1_0) rfl sc93 rfl rfl (Zb (v := .int .i64 s10.2.2) rfl ?_)))))
        obtain ⟨⟨h20, h21⟩, h⟩ := h
        obtain ⟨Ad24, c20, hv15⟩ := Z9 (hC.getP 0 rfl) s10.2.2.toNat (show s10.2.2.toNat < a1.terms.length by omega)
        refine Xe (len := a1.terms.length) Try.underlying93 ag114.size (tr rfl hv15) rfl h20 h21 (Zdf (s10.2.2.toNat * 9 + 8) Try.underlying114 rfl sc2.size rfl rfl (X5 (.int .i64 ((a1.terms.getD s10.2.2.toNat default).factor)) (Jq (o := 8) (k := 1) (Yk (hC.getP 0 rfl) hv15 s10.2.2.toNat (show s10.2.2.toNat < a1.terms.length by omega)) rfl) sc2 rfl (Zad rfl rfl ?_)))
        refine Zf [.int .i64 (IntKind.i64.wrap (a2 * ((a1.terms.getD s10.2.2.toNat default).factor)))] _ Try.func122 rfl rfl rfl (Zb9 (IntKind.i64.wrap (a2 * ((a1.terms.getD s10.2.2.toNat default).factor))) h _) (fun ret12 w26 hR12 => ?_)
        obtain ⟨r10, rfl, h, hB12⟩ := hR12
        refine ⟨_, rfl, ?_⟩
        replace hC := hC.grow hB12
        refine Zc (v := .int .i64 r10) rfl (dn (sr (Zb (v := .int .i64 r10) rfl (Xj rfl rfl (dn ?_)))))
        refine Zr rfl (fun hb17 => ?_) (fun hb17 => ?_)
        ·replace h := ift h (ct hb17)
         refine Ym 11 Yg [0, 1, 0, 4, 0, 28, 60, 124, 0, 508, 1020, 2047, 4095, 8191] [1, 3, 5, 7, 9] [0, 2, 4, 6, 8] (by kernel_rfl) (by kernel_rfl) (by kernel_rfl) (fun hM16 hM17 w27 hB_ => ?_)
         replace hC := hC.grow hB_
         refine aF 0 (.pointer (some ⟨b11, 0, none⟩)) rfl rfl (hM17 0 rfl) (rfl) (fun _ => by exact Z7 0 Try.underlying95 rfl sc93.size rfl rfl) (Za 14 1) (aL 1 (v10) rfl rfl (hM16 1 rfl) (rfl) (fun _ hB_ => by exact Z5 (hC.grow hB_) 1 (v10) rfl sc93 rfl rfl) (Za 14 3) (aF 2 (.pointer (some ⟨b10, 0, none⟩)) rfl rfl (hM17 2 rfl) (rfl) (fun _ => by exact Z7 0 Try.underlying95 rfl sc93.size rfl rfl) (Za 14 7) (aL 3 (u1_0) rfl rfl (hM16 3 rfl) (rfl) (fun _ hB_ => by exact Z5 (hC.grow hB_) 3 (u1_0) rfl sc93 rfl rfl) (Za 14 15) (aF 4 (.int .i64 s10.2.2) rfl rfl (hM17 4 rfl) (rfl) (fun _ => by exact Zg (v := .int .i64 s10.2.2) rfl) (Za 14 31) ?_))))
         obtain ⟨⟨h22, h23⟩, h⟩ := h
         obtain ⟨Ad14, c21, hv16⟩ := Z9 (hC.getP 0 rfl) s10.2.2.toNat (show s10.2.2.toNat < a1.terms.length by omega)
         refine aL 5 (.pointer (some (Ad14.add (s10.2.2.toNat * 9)))) rfl rfl (hM16 5 rfl) (rfl) (fun _ hB_ => by exact Yv (len := a1.terms.length) Try.underlying93 ag114.size (by exact tr rfl hv16) rfl h22 h23) (Za 14 63) (aF 6 (.pointer (some (Ad14.add (s10.2.2.toNat * 9 + 0)))) rfl rfl (hM17 6 rfl) (rfl) (fun _ => by exact Zaj (s10.2.2.toNat * 9 + 0) Try.underlying114 rfl ag49.size rfl rfl) (Za 14 127) (aL 7 (.agg (List.toArray (A8.enc .u8 ((a1.terms.getD s10.2.2.toNat default).mono)))) rfl rfl (hM16 7 rfl) (rfl) (fun _ hB_ => by exact Xw (A8.enc .u8 ((a1.terms.getD s10.2.2.toNat default).mono)) (Jq (o := 0) (k := 8) (Yk ((hC.grow hB_).getP 0 rfl) hv16 s10.2.2.toNat (show s10.2.2.toNat < a1.terms.length by omega)) rfl) ag49 rfl rfl) (Za 14 255) (aF 8 (.int .i64 r10) rfl rfl (hM17 8 rfl) (rfl) (fun _ => by exact Zg (v := .int .i64 r10) rfl) (Za 14 511) (aL 9 (.agg (List.toArray (Term.enc (⟨(a1.terms.getD s10.2.2.toNat default).mono, r10⟩ : Term)))) rfl rfl (hM16 9 rfl) (rfl) (fun _ hB_ => by exact Zig [(0, .agg (List.toArray (A8.enc .u8 ((a1.terms.getD s10.2.2.toNat default).mono)))), (1, .int .i64 r10)] rfl (Zhd ((a1.terms.getD s10.2.2.toNat default).mono) r10  _)) (Za 14 1023) (aO 10 rfl (Jg (sz := 9) hC [(0, .agg (List.toArray (Term.enc (⟨(a1.terms.getD s10.2.2.toNat default).mono, r10⟩ : Term))))] (ETerm.encs [(⟨(a1.terms.getD s10.2.2.toNat default).mono, r10⟩ : Term)]) rfl (fun _ => Ze1 (⟨(a1.terms.getD s10.2.2.toNat default).mono, r10⟩ : Term) _) rfl (by decide) fun b14 w28 hB_ hC => ?_))))))
         refine done (aK (by assumption) (Za 14 2047) (Zv 11 (by decide) (by decide) (by kernel_rfl) (by kernel_rfl) rfl ?_))
         obtain ⟨hm11, h⟩ := h
         refine Zbj hC 1 Try.underlying93 Ze2 rfl (by decide) (by decide) rfl (Zaq (hC.getM 0 rfl)) (fun q hq => Enc.encs_one' (E := ETerm) _ q hq) rfl rfl hm11 fun v12 w29 hC => ?_
         replace hC := J8 hC 1 ((s10.1 ++ [(⟨(a1.terms.getD s10.2.2.toNat default).mono, r10⟩ : Term)]).length) (ETerm.encs (s10.1 ++ [(⟨(a1.terms.getD s10.2.2.toNat default).mono, r10⟩ : Term)])) rfl (by simp) (by first | (simp [Enc.encs_append]; done) | simp [Enc.encs_append, Enc.encs])
         refine Z1 0 Try.underlying95 rfl sc93.size rfl rfl (Zu (v := v12) hC 2 [v12] [v12] rfl sc93.size rfl rfl (Zcm (hC.getM 1 rfl)) rfl (Y3 (Xl (hC.getM 1 rfl)) rfl) (Nat.le_of_ble_eq_true rfl) rfl fun w30 hC => done (Zw (Zd (Zk (Zb (v := .int .i64 s10.2.2) rfl (Zq rfl rfl (Zc (v := .int .i64 (IntKind.i64.wrap (s10.2.2 + 1))) rfl (done (Zt (Zt ?_))))))))))
         replace hC := hC.sM [1, 2, 3, 4, 5] (M' := [own 114 9 v12 ((s10.1 ++ [(⟨(a1.terms.getD s10.2.2.toNat default).mono, r10⟩ : Term)]).length) (ETerm.encs (s10.1 ++ [(⟨(a1.terms.getD s10.2.2.toNat default).mono, r10⟩ : Term)])), blk b11 95 [v12], blk b12 95 [.slice none 0 0], blk b10 95 [u1_0], blk b7 95 [u0_0]]) (by decide) rfl
         exact hK10 (s10.1 ++ [(⟨(a1.terms.getD s10.2.2.toNat default).mono, r10⟩ : Term)], s10.2.1, IntKind.i64.wrap (s10.2.2 + 1)) _ _ ⟨v12, (sl ⟨rfl, rfl, rfl, rfl, rfl, rfl, rfl, trivial⟩), hC⟩ h
        ·replace h := Zi h (cf hb17)
         refine wp_skip (Zd (Zk (Zb (v := .int .i64 s10.2.2) rfl (Zq rfl rfl (Zc (v := .int .i64 (IntKind.i64.wrap (s10.2.2 + 1))) rfl (done (Zt (Zt ?_))))))))
         exact hK10 (s10.1, s10.2.1, IntKind.i64.wrap (s10.2.2 + 1)) _ _ ⟨v10, (sl ⟨rfl, rfl, rfl, rfl, rfl, rfl, rfl, trivial⟩), hC⟩ h
       ·replace h := Zi h (Xq hb16)
        refine wp_seq (wp_seq ?_)
        refine Ym 15 Yg [0, 1, 0, 7, 15, 31, 0, 0, 128, 0, 896, 1920, 3968, 8128, 16320, 32767, 65535, 131071] [1, 3, 5, 8, 10, 12] [0, 2, 4, 6, 7, 9, 11, 13] (by kernel_rfl) (by kernel_rfl) (by kernel_rfl) (fun hM15 hM14 w31 hB_ => ?_)
        replace hC := hC.grow hB_
        refine aF 0 (.pointer (some ⟨b7, 0, none⟩)) rfl rfl (hM14 0 rfl) (rfl) (fun _ => by exact Z7 0 Try.underlying95 rfl sc93.size rfl rfl) (Za 18 1) (aL 1 (u0_0) rfl rfl (hM15 1 rfl) (rfl) (fun _ hB_ => by exact Z5 (hC.grow hB_) 4 (u0_0) rfl sc93 rfl rfl) (Za 18 3) (aF 2 (.int .i64 s10.2.1) rfl rfl (hM14 2 rfl) (rfl) (fun _ => by exact Zg (v := .int .i64 s10.2.1) rfl) (Za 18 7) ?_))
        obtain ⟨⟨h24, h25⟩, h⟩ := h
        obtain ⟨Ad15, c22, hv17⟩ := Z9 (hC.getP 1 rfl) s10.2.1.toNat (show s10.2.1.toNat < a0.terms.length by omega)
        refine aL 3 (.pointer (some (Ad15.add (s10.2.1.toNat * 9)))) rfl rfl (hM15 3 rfl) (rfl) (fun _ hB_ => by exact Yv (len := a0.terms.length) Try.underlying93 ag114.size (by exact tr rfl hv17) rfl h24 h25) (Za 18 15) (aF 4 (.pointer (some (Ad15.add (s10.2.1.toNat * 9 + 8)))) rfl rfl (hM14 4 rfl) (rfl) (fun _ => by exact Zaj (s10.2.1.toNat * 9 + 8) Try.underlying114 rfl sc2.size rfl rfl) (Za 18 31) (aL 5 (.int .i64 ((a0.terms.getD s10.2.1.toNat default).factor)) rfl rfl (hM15 5 rfl) (rfl) (fun _ hB_ => by exact Jf (.int .i64 ((a0.terms.getD s10.2.1.toNat default).factor)) (Jq (o := 8) (k := 1) (Yk ((hC.grow hB_).getP 1 rfl) hv17 s10.2.1.toNat (show s10.2.1.toNat < a0.terms.length by omega)) rfl) sc2 rfl) (Za 18 63) (aF 6 (.int .i64 a2) rfl rfl (hM14 6 rfl) (rfl) (fun _ => by exact Zg (v := .int .i64 a2) rfl) (Za 18 127) (aF 7 (.pointer (some ⟨b10, 0, none⟩)) rfl rfl (hM14 7 rfl) (rfl) (fun _ => by exact Z7 0 Try.underlying95 rfl sc93.size rfl rfl) (Za 18 255) (aL 8 (u1_0) rfl rfl (hM15 8 rfl) (rfl) (fun _ hB_ => by exact Z5 (hC.grow hB_) 3 (u1_0) rfl sc93 rfl rfl) (Za 18 511) (aF 9 (.int .i64 s10.2.2) rfl rfl (hM14 9 rfl) (rfl) (fun _ => by exact Zg (v := .int .i64 s10.2.2) rfl) (Za 18 1023) ?_))))))
        obtain ⟨⟨h26, h27⟩, h⟩ := h
        obtain ⟨Ad16, c23, hv18⟩ := Z9 (hC.getP 0 rfl) s10.2.2.toNat (show s10.2.2.toNat < a1.terms.length by omega)
        refine aL 10 (.pointer (some (Ad16.add (s10.2.2.toNat * 9)))) rfl rfl (hM15 10 rfl) (rfl) (fun _ hB_ => by exact Yv (len := a1.terms.length) Try.underlying93 ag114.size (by exact tr rfl hv18) rfl h26 h27) (Za 18 2047) (aF 11 (.pointer (some (Ad16.add (s10.2.2.toNat * 9 + 8)))) rfl rfl (hM14 11 rfl) (rfl) (fun _ => by exact Zaj (s10.2.2.toNat * 9 + 8) Try.underlying114 rfl sc2.size rfl rfl) (Za 18 4095) (aL 12 (.int .i64 ((a1.terms.getD s10.2.2.toNat default).factor)) rfl rfl (hM15 12 rfl) (rfl) (fun _ hB_ => by exact Jf (.int .i64 ((a1.terms.getD s10.2.2.toNat default).factor)) (Jq (o := 8) (k := 1) (Yk ((hC.grow hB_).getP 0 rfl) hv18 s10.2.2.toNat (show s10.2.2.toNat < a1.terms.length by omega)) rfl) sc2 rfl) (Za 18 8191) (aF 13 (.int .i64 (IntKind.i64.wrap (a2 * ((a1.terms.getD s10.2.2.toNat default).factor)))) rfl rfl (hM14 13 rfl) (rfl) (fun _ => by exact Zbh rfl rfl) (Za 18 16383) (aO 14 rfl ?_))))
        refine Zf [.int .i64 (IntKind.i64.wrap (a2 * ((a1.terms.getD s10.2.2.toNat default).factor)))] _ Try.func122 rfl rfl rfl (Zb9 (IntKind.i64.wrap (a2 * ((a1.terms.getD s10.2.2.toNat default).factor))) h _) (fun ret13 w32 hR13 => ?_)
        obtain ⟨r14, rfl, h, hB13⟩ := hR13
        refine ⟨_, rfl, ?_⟩
        replace hC := hC.grow hB13
        refine done (aK (by assumption) (Za 18 32767) (Zv 15 (by decide) (by decide) (by kernel_rfl) (by kernel_rfl) rfl (Zq rfl rfl ?_)))
        refine Zf [.int .i64 (IntKind.i64.wrap (((a0.terms.getD s10.2.1.toNat default).factor) + r14))] _ Try.func122 rfl rfl rfl (Zb9 (IntKind.i64.wrap (((a0.terms.getD s10.2.1.toNat default).factor) + r14)) h _) (fun ret14 w33 hR14 => ?_)
        obtain ⟨r11, rfl, h, hB14⟩ := hR14
        refine ⟨_, rfl, ?_⟩
        replace hC := hC.grow hB14
        refine Zc (v := .int .i64 r11) rfl (done (Zw (Zd (sr (Zb (v := .int .i64 r11) rfl (Xj rfl rfl (dn ?_)))))))
        refine Zr rfl (fun hb18 => ?_) (fun hb18 => ?_)
        ·replace h := ift h (ct hb18)
         refine Ym 11 Yg [0, 1, 0, 4, 0, 28, 60, 124, 0, 508, 1020, 2047, 4095, 8191] [1, 3, 5, 7, 9] [0, 2, 4, 6, 8] (by kernel_rfl) (by kernel_rfl) (by kernel_rfl) (fun hM18 hM19 w34 hB_ => ?_)
         replace hC := hC.grow hB_
         refine aF 0 (.pointer (some ⟨b11, 0, none⟩)) rfl rfl (hM19 0 rfl) (rfl) (fun _ => by exact Z7 0 Try.underlying95 rfl sc93.size rfl rfl) (Za 14 1) (aL 1 (v10) rfl rfl (hM18 1 rfl) (rfl) (fun _ hB_ => by exact Z5 (hC.grow hB_) 1 (v10) rfl sc93 rfl rfl) (Za 14 3) (aF 2 (.pointer (some ⟨b7, 0, none⟩)) rfl rfl (hM19 2 rfl) (rfl) (fun _ => by exact Z7 0 Try.underlying95 rfl sc93.size rfl rfl) (Za 14 7) (aL 3 (u0_0) rfl rfl (hM18 3 rfl) (rfl) (fun _ hB_ => by exact Z5 (hC.grow hB_) 4 (u0_0) rfl sc93 rfl rfl) (Za 14 15) (aF 4 (.int .i64 s10.2.1) rfl rfl (hM19 4 rfl) (rfl) (fun _ => by exact Zg (v := .int .i64 s10.2.1) rfl) (Za 14 31) ?_))))
         obtain ⟨⟨h28, h29⟩, h⟩ := h
         obtain ⟨Ad17, c24, hv19⟩ := Z9 (hC.getP 1 rfl) s10.2.1.toNat (show s10.2.1.toNat < a0.terms.length by omega)
         refine aL 5 (.pointer (some (Ad17.add (s10.2.1.toNat * 9)))) rfl rfl (hM18 5 rfl) (rfl) (fun _ hB_ => by exact Yv (len := a0.terms.length) Try.underlying93 ag114.size (by exact tr rfl hv19) rfl h28 h29) (Za 14 63) (aF 6 (.pointer (some (Ad17.add (s10.2.1.toNat * 9 + 0)))) rfl rfl (hM19 6 rfl) (rfl) (fun _ => by exact Zaj (s10.2.1.toNat * 9 + 0) Try.underlying114 rfl ag49.size rfl rfl) (Za 14 127) (aL 7 (.agg (List.toArray (A8.enc .u8 ((a0.terms.getD s10.2.1.toNat default).mono)))) rfl rfl (hM18 7 rfl) (rfl) (fun _ hB_ => by exact Xw (A8.enc .u8 ((a0.terms.getD s10.2.1.toNat default).mono)) (Jq (o := 0) (k := 8) (Yk ((hC.grow hB_).getP 1 rfl) hv19 s10.2.1.toNat (show s10.2.1.toNat < a0.terms.length by omega)) rfl) ag49 rfl rfl) (Za 14 255) (aF 8 (.int .i64 r11) rfl rfl (hM19 8 rfl) (rfl) (fun _ => by exact Zg (v := .int .i64 r11) rfl) (Za 14 511) (aL 9 (.agg (List.toArray (Term.enc (⟨(a0.terms.getD s10.2.1.toNat default).mono, r11⟩ : Term)))) rfl rfl (hM18 9 rfl) (rfl) (fun _ hB_ => by exact Zig [(0, .agg (List.toArray (A8.enc .u8 ((a0.terms.getD s10.2.1.toNat default).mono)))), (1, .int .i64 r11)] rfl (Zhd ((a0.terms.getD s10.2.1.toNat default).mono) r11  _)) (Za 14 1023) (aO 10 rfl (Jg (sz := 9) hC [(0, .agg (List.toArray (Term.enc (⟨(a0.terms.getD s10.2.1.toNat default).mono, r11⟩ : Term))))] (ETerm.encs [(⟨(a0.terms.getD s10.2.1.toNat default).mono, r11⟩ : Term)]) rfl (fun _ => Ze1 (⟨(a0.terms.getD s10.2.1.toNat default).mono, r11⟩ : Term) _) rfl (by decide) fun b15 w35 hB_ hC => ?_))))))
         refine done (aK (by assumption) (Za 14 2047) (Zv 11 (by decide) (by decide) (by kernel_rfl) (by kernel_rfl) rfl ?_))
         obtain ⟨hm12, h⟩ := h
         refine Zbj hC 1 Try.underlying93 Ze2 rfl (by decide) (by decide) rfl (Zaq (hC.getM 0 rfl)) (fun q hq => Enc.encs_one' (E := ETerm) _ q hq) rfl rfl hm12 fun v13 w36 hC => ?_
         replace hC := J8 hC 1 ((s10.1 ++ [(⟨(a0.terms.getD s10.2.1.toNat default).mono, r11⟩ : Term)]).length) (ETerm.encs (s10.1 ++ [(⟨(a0.terms.getD s10.2.1.toNat default).mono, r11⟩ : Term)])) rfl (by simp) (by first | (simp [Enc.encs_append]; done) | simp [Enc.encs_append, Enc.encs])
         refine Z1 0 Try.underlying95 rfl sc93.size rfl rfl (Zu (v := v13) hC 2 [v13] [v13] rfl sc93.size rfl rfl (Zcm (hC.getM 1 rfl)) rfl (Y3 (Xl (hC.getM 1 rfl)) rfl) (Nat.le_of_ble_eq_true rfl) rfl fun w37 hC => done (Zw (Zd (sr (Zb (v := .int .i64 s10.2.1) rfl (Zq rfl rfl (Zc (v := .int .i64 (IntKind.i64.wrap (s10.2.1 + 1))) rfl (dn (Zk (Zb (v := .int .i64 s10.2.2) rfl ?_))))))))))
         refine Zq rfl rfl (Zc (v := .int .i64 (IntKind.i64.wrap (s10.2.2 + 1))) rfl (done (Zt (Zt ?_))))
         replace hC := hC.sM [1, 2, 3, 4, 5] (M' := [own 114 9 v13 ((s10.1 ++ [(⟨(a0.terms.getD s10.2.1.toNat default).mono, r11⟩ : Term)]).length) (ETerm.encs (s10.1 ++ [(⟨(a0.terms.getD s10.2.1.toNat default).mono, r11⟩ : Term)])), blk b11 95 [v13], blk b12 95 [.slice none 0 0], blk b10 95 [u1_0], blk b7 95 [u0_0]]) (by decide) rfl
         exact hK10 (s10.1 ++ [(⟨(a0.terms.getD s10.2.1.toNat default).mono, r11⟩ : Term)], IntKind.i64.wrap (s10.2.1 + 1), IntKind.i64.wrap (s10.2.2 + 1)) _ _ ⟨v13, (sl ⟨rfl, rfl, rfl, rfl, rfl, rfl, rfl, trivial⟩), hC⟩ h
        ·replace h := Zi h (cf hb18)
         refine wp_skip (Zd (sr (Zb (v := .int .i64 s10.2.1) rfl (Zq rfl rfl (Zc (v := .int .i64 (IntKind.i64.wrap (s10.2.1 + 1))) rfl (dn (Zk (Zb (v := .int .i64 s10.2.2) rfl (Zq rfl rfl (Zc (v := .int .i64 (IntKind.i64.wrap (s10.2.2 + 1))) rfl (done ?_)))))))))))
         refine Zt (Zt ?_)
         exact hK10 (s10.1, IntKind.i64.wrap (s10.2.1 + 1), IntKind.i64.wrap (s10.2.2 + 1)) _ _ ⟨v10, (sl ⟨rfl, rfl, rfl, rfl, rfl, rfl, rfl, trivial⟩), hC⟩ h
   ·replace h := Zi h (Xq hb14)
    refine wp_exit (Zl (Zl (Yc ?_)))
    refine Zd (sr (Ys hC 1 [v10] rfl ag95 rfl rfl rfl (Zu (v := .agg #[v10]) hC 2 [v10] [v10] rfl ag95.size rfl rfl rfl rfl (Y3 (Xl (hC.getM 0 rfl)) rfl) (Nat.le_of_ble_eq_true rfl) rfl fun w38 hC => dn (wp_ret ?_))))
    refine Zo (fn := Try.f69) rfl ?_ ⟨(⟨s10.1⟩ : Vc.Form), v10, (Option.toList (Value.ownBlock v10)), rfl, h, (Zau (Js (hC.getM 0 rfl))), (Zae hC 0 rfl), hC.below⟩ (.inl rfl)
    exact J3 hC 2 rfl ag95 rfl rfl
 ·skip
  replace hC := hC.pushNil 114 9
  exact ⟨.slice none 0 0, (sl ⟨rfl, rfl, rfl, rfl, rfl, rfl, rfl, trivial⟩), hC⟩
def Ze6 (a0 : List Int) (a1 : A8) (a2 : A8) (K : A8 → Int → Prop) : Prop :=
 Yy (fun i10 (s11 : A8 × Int) nx10 => ((0 ≤ (i10 : Int) ∧ (i10 : Int) < 8) ∧ ((0 ≤ (i10 : Int) ∧ (i10 : Int) < 8) ∧ ((0 ≤ (i10 : Int) ∧ (i10 : Int) < 8) ∧ (if Int.tmod (a0.getD i10 default) 2 = 0 then nx10 (s11.1.set i10 (IntKind.u8.wrap ((a1.get i10) + (a2.get i10))), s11.2) else ((0 ≤ (i10 : Int) ∧ (i10 : Int) < 8) ∧ (if (s11.1.set i10 (IntKind.u8.wrap ((a1.get i10) + (a2.get i10)))).get i10 > 1 then K A8.zero 0 else Xf (fun (s10 : Int × Int) nx11 => (if s10.1 < (a0.length : Int) then ((0 ≤ (i10 : Int) ∧ (i10 : Int) < 8) ∧ (if a2.get i10 = 1 then ((0 ≤ s10.1 ∧ s10.1 < (a0.length : Int)) ∧ (if Int.tmod (a0.getD s10.1.toNat default) 2 ≠ 0 then ((0 ≤ s10.1 ∧ s10.1 < 8) ∧ (if a1.get s10.1.toNat = 1 then nx11 (IntKind.i64.wrap (s10.1 + 1), IntKind.i64.wrap (0 - s10.2)) else nx11 (IntKind.i64.wrap (s10.1 + 1), s10.2))) else nx11 (IntKind.i64.wrap (s10.1 + 1), s10.2))) else nx10 (s11.1.set i10 (IntKind.u8.wrap ((a1.get i10) + (a2.get i10))), s10.2))) else nx10 (s11.1.set i10 (IntKind.u8.wrap ((a1.get i10) + (a2.get i10))), s10.2))) (IntKind.i64.wrap ((i10 : Int) + 1), s11.2)))))))) (fun (s11 : A8 × Int) => K s11.1 s11.2) a0.length 0 (A8.zero, 1)
theorem Zl0 (a0 : List Int) (a1 : A8) (a2 : A8) {u0_0 : Value} {fp0 : List Nat} {K : A8 → Int → Prop} (h : Ze6 a0 a1 a2 K) (w0 : World) (q0 : ((EI .i64).ty.sl).rep a0 [u0_0] fp0 w0) :
  Calls Try.prog 83 #[u0_0, .agg (List.toArray (A8.enc .u8 a1)), .agg (List.toArray (A8.enc .u8 a2))] w0 fun e w' => ∃ (r0 : A8) (r1 : Int), 
   e = .returned (.tuple #[.agg (List.toArray (A8.enc .u8 r0)), .int .i64 r1]) ∧ K r0 r1 ∧ Bel w0 w' := by
 unfold Ze6 at h
 refine Z6 (args := [u0_0, .agg (List.toArray (A8.enc .u8 a1)), .agg (List.toArray (A8.enc .u8 a2))]) Try.func83 rfl 69 Try.ntmps83 (Nat.le_of_ble_eq_true rfl) ?_
 have hC := Ctx.start (X := Nox) w0 [Ty.item ((EI .i64).ty.sl) a0 [u0_0] fp0] (by simp only [List.mem_cons, List.not_mem_nil, or_false, forall_eq_or_imp, forall_eq]; exact q0)
 refine sr (Ye (v := .agg (List.toArray (A8.enc .u8 a1))) hC (A8.enc .u8 a1) rfl rfl fun b2 w4 hB_ hC => Ye (v := .agg (List.toArray (A8.enc .u8 a2))) hC (A8.enc .u8 a2) rfl rfl fun b5 w7 hB_ hC => Yf hC (A8.enc .u8 A8.zero) z49 rfl fun b8 w10 hB_ hC => Zc (v := .int .i64 0) rfl (dn (sr (Jd [] rfl (Zhe   _) (Yf hC (A8.enc .u8 A8.zero) z49 rfl fun b10 w11 hB_ hC => Zu (v := .agg (List.toArray (A8.enc .u8 A8.zero))) hC 0 (A8.enc .u8 A8.zero) (A8.enc .u8 A8.zero) rfl ag49.size rfl rfl rfl rfl rfl (Nat.le_of_ble_eq_true rfl) rfl fun w12 hC => Zc (v := .int .i64 1) rfl (dn ?_))))))
 refine wp_seq (sr (Zc (v := .int .i64 0) rfl (dn (wp_block ?_))))
 have hN10 : a0.length ≤ 9223372036854775807 := Xv (hC.getP 0 rfl)
 refine Y6 (S := A8 × Int) _ _ (fun i10 s11 e_ w_ => Z4 e_ [(0, u0_0), (4, .pointer (some ⟨b2, 0, none⟩)), (5, .pointer (some ⟨b5, 0, none⟩)), (6, .pointer (some ⟨b8, 0, none⟩)), (8, .pointer (some ⟨b10, 0, none⟩)), (9, .int .i64 s11.2), (10, .int .i64 (i10 : Int))] ∧ Ctx Nox w0 w_ [blk b10 49 (A8.enc .u8 s11.1), blk b8 49 (A8.enc .u8 A8.zero), blk b5 49 (A8.enc .u8 a2), blk b2 49 (A8.enc .u8 a1)] [Ty.item ((EI .i64).ty.sl) a0 [u0_0] fp0]) a0.length ?_ ?_ (s0 := (A8.zero, 1)) ?_ h
 ·clear hC h
  rintro i10 s11 e_ w13 nx10 K10 hi10 ⟨hS_, hC⟩ h hK10
  rw [ue hS_]
  refine wp_seq (sr (Zb (v := .int .i64 (i10 : Int)) rfl (Zb (v := u0_0) rfl ?_)))
  obtain ⟨Ad10, c10, hv12⟩ := Z2 (hC.getP 0 rfl)
  refine Z0 Try.underlying22 (tr rfl hv12) (Zs rfl rfl (dn (Yq rfl (decide_eq_true (by omega)) (wp_skip (Zd (wp_seq (wp_block (wp_seq ?_))))))))
  refine Ym 8 Yg [0, 0, 2, 6, 0, 16, 48, 126, 255, 511] [2, 3, 5, 6] [0, 1, 4, 7] (by kernel_rfl) (by kernel_rfl) (by kernel_rfl) (fun hM10 hM11 w14 hB_ => ?_)
  replace hC := hC.grow hB_
  refine aF 0 (.int .i64 (i10 : Int)) rfl rfl (hM11 0 rfl) (rfl) (fun _ => by exact Zg (v := .int .i64 (i10 : Int)) rfl) (Za 10 1) (aF 1 (.int .i64 (i10 : Int)) rfl rfl (hM11 1 rfl) (rfl) (fun _ => by exact Zg (v := .int .i64 (i10 : Int)) rfl) (Za 10 3) ?_)
  obtain ⟨⟨h10, h11⟩, h⟩ := h
  refine aL 2 (.pointer (some ⟨b2, i10, none⟩)) rfl rfl (hM10 2 rfl) (rfl) (fun _ hB_ => by exact Jy i10 Try.underlying49 sc5.size rfl rfl h10 h11 (by omega)) (Za 10 7) (aL 3 (.int .u8 (a1.get i10)) rfl rfl (hM10 3 rfl) (rfl) (fun _ hB_ => by exact Z5 (hC.grow hB_) 3 (.int .u8 (a1.get i10)) rfl sc5 rfl (A8.enc_get _ _ (show i10 < 8 by omega))) (Za 10 15) (aF 4 (.int .i64 (i10 : Int)) rfl rfl (hM11 4 rfl) (rfl) (fun _ => by exact Zg (v := .int .i64 (i10 : Int)) rfl) (Za 10 31) ?_))
  obtain ⟨⟨h12, h13⟩, h⟩ := h
  refine aL 5 (.pointer (some ⟨b5, i10, none⟩)) rfl rfl (hM10 5 rfl) (rfl) (fun _ hB_ => by exact Jy i10 Try.underlying49 sc5.size rfl rfl h12 h13 (by omega)) (Za 10 63) (aL 6 (.int .u8 (a2.get i10)) rfl rfl (hM10 6 rfl) (rfl) (fun _ hB_ => by exact Z5 (hC.grow hB_) 2 (.int .u8 (a2.get i10)) rfl sc5 rfl (A8.enc_get _ _ (show i10 < 8 by omega))) (Za 10 127) (aF 7 (.int .u8 (IntKind.u8.wrap ((a1.get i10) + (a2.get i10)))) rfl rfl (hM11 7 rfl) (rfl) (fun _ => by exact Zgo rfl rfl) (Za 10 255) (Zv 8 (by decide) (by decide) (by kernel_rfl) (by kernel_rfl) rfl ?_)))
  obtain ⟨⟨h14, h15⟩, h⟩ := h
  refine Y1 i10 Try.underlying49 sc5.size rfl rfl h14 h15 (by omega) (Zu (v := .int .u8 (IntKind.u8.wrap ((a1.get i10) + (a2.get i10)))) hC 0 [.int .u8 (IntKind.u8.wrap ((a1.get i10) + (a2.get i10)))] (A8.enc .u8 (s11.1.set i10 (IntKind.u8.wrap ((a1.get i10) + (a2.get i10))))) rfl sc5.size rfl rfl rfl rfl rfl (show i10 < 8 by omega) (A8.enc_set _ _ _ (show i10 < 8 by omega)) fun w15 hC => done (Zw (Zd (wp_seq (sr (Zb (v := u0_0) rfl (Zb (v := .int .i64 (i10 : Int)) rfl ?_)))))))
  obtain ⟨Ad11, c11, hv10⟩ := Z9 (hC.getP 0 rfl) i10 hi10
  refine Xe (len := a0.length) Try.underlying22 sc2.size (tr rfl hv10) rfl (Int.natCast_nonneg _) (Int.ofNat_lt.2 hi10) (X5 (.int .i64 (a0.getD i10 default)) (Yk (hC.getP 0 rfl) hv10 i10 hi10) sc2 rfl (Jk rfl rfl (by decide) (Jl rfl rfl (dn ?_))))
  refine Zr rfl (fun hb12 => ?_) (fun hb12 => ?_)
  ·replace h := ift h (ct hb12)
   refine wp_exit (Zl (Yc ?_))
   refine Zd (Zk (Zb (v := .int .i64 (i10 : Int)) rfl (Zq rfl rfl (Zc (v := .int .i64 (IntKind.i64.wrap ((i10 : Int) + 1))) rfl (done ?_)))))
   exact hK10 (s11.1.set i10 (IntKind.u8.wrap ((a1.get i10) + (a2.get i10))), s11.2) _ _ ⟨(sl ⟨rfl, rfl, rfl, rfl, rfl, rfl, (tr rfl (congrArg _ (Yi hi10 hN10))), trivial⟩), hC⟩ h
  ·replace h := Zi h (cf hb12)
   refine wp_skip (Zd (wp_seq (sr (Zb (v := .int .i64 (i10 : Int)) rfl ?_))))
   obtain ⟨⟨h16, h17⟩, h⟩ := h
   refine Y1 i10 Try.underlying49 sc5.size rfl rfl h16 h17 (by omega) (Z8 hC 0 (.int .u8 ((s11.1.set i10 (IntKind.u8.wrap ((a1.get i10) + (a2.get i10)))).get i10)) rfl sc5 rfl (A8.enc_get _ _ (show i10 < 8 by omega)) (Jm rfl rfl (dn ?_)))
   refine Zr rfl (fun hb13 => ?_) (fun hb13 => ?_)
   ·replace h := ift h (ct hb13)
    refine sr (Jd [] rfl (Zhe   _) (Zu (v := .agg (List.toArray (A8.enc .u8 A8.zero))) hC 1 (A8.enc .u8 A8.zero) (A8.enc .u8 A8.zero) rfl ag49.size rfl rfl rfl rfl rfl (Nat.le_of_ble_eq_true rfl) rfl fun w16 hC => Zc (v := .int .i64 0) rfl (dn ?_)))
    refine wp_ret (Zj (Yd (Zj (Zj (Yd (Zj ?_))))))
    refine Jn (fn := Try.f83) rfl ?_ ?_ ⟨A8.zero, 0, rfl, h, hC.below⟩ (.inl rfl)
    ·exact J3 hC 1 rfl ag49 rfl rfl
    ·exact Zh rfl
   ·replace h := Zi h (cf hb13)
    refine wp_skip (Zd (sr (Zb (v := .int .i64 (i10 : Int)) rfl (Zq rfl rfl (Zc (v := .int .i64 (IntKind.i64.wrap ((i10 : Int) + 1))) rfl (dn (wp_block ?_)))))))
    refine Xu (S := Int × Int) _ (fun s10 e_ w_ => Z4 e_ [(0, u0_0), (4, .pointer (some ⟨b2, 0, none⟩)), (5, .pointer (some ⟨b5, 0, none⟩)), (6, .pointer (some ⟨b8, 0, none⟩)), (8, .pointer (some ⟨b10, 0, none⟩)), (9, .int .i64 s10.2), (10, .int .i64 (i10 : Int)), (11, .int .i64 s10.1)] ∧ Ctx Nox w0 w_ [blk b10 49 (A8.enc .u8 (s11.1.set i10 (IntKind.u8.wrap ((a1.get i10) + (a2.get i10))))), blk b8 49 (A8.enc .u8 A8.zero), blk b5 49 (A8.enc .u8 a2), blk b2 49 (A8.enc .u8 a1)] [Ty.item ((EI .i64).ty.sl) a0 [u0_0] fp0]) ?_ (s0 := (IntKind.i64.wrap ((i10 : Int) + 1), s11.2)) ?_ h
    ·clear hC h
     rintro s10 e_ w17 nx11 K11 ⟨hS_, hC⟩ h hK11
     rw [ue hS_]
     refine wp_seq (sr (Zb (v := .int .i64 s10.1) rfl (Zb (v := u0_0) rfl ?_)))
     obtain ⟨Ad12, c12, hv13⟩ := Z2 (hC.getP 0 rfl)
     refine Z0 Try.underlying22 (tr rfl hv13) (Zs rfl rfl (Zb (v := .bool (decide (s10.1 < (a0.length : Int)))) rfl ?_))
     refine Xa (decide (s10.1 < (a0.length : Int))) (fun hb10 => ?_) (fun hb10 => ?_)
     ·replace h := ift h (ct hb10)
      refine Zm 4 45 rfl rfl hb10 (Zb (v := .int .i64 (i10 : Int)) rfl (Zm 4 45 rfl rfl hb10 ?_))
      obtain ⟨⟨h18, h19⟩, h⟩ := h
      refine Y1 i10 Try.underlying49 sc5.size rfl rfl h18 h19 (by omega) (Zm 4 45 rfl rfl hb10 (Z8 hC 2 (.int .u8 (a2.get i10)) rfl sc5 rfl (A8.enc_get _ _ (show i10 < 8 by omega)) (Zm 4 45 rfl rfl hb10 (Jl rfl rfl (Yb (v := .bool (decide (a2.get i10 = 1))) (b := true) (tr rfl (congrArg _ hb10)) rfl (dn ?_))))))
      refine Zr rfl (fun hb14 => ?_) (fun hb14 => ?_)
      ·replace h := ift h (ct hb14)
       refine wp_skip (Zd (wp_seq (wp_block (sr (Zb (v := u0_0) rfl (Zb (v := .int .i64 s10.1) rfl ?_))))))
       obtain ⟨⟨h20, h21⟩, h⟩ := h
       obtain ⟨Ad13, c13, hv11⟩ := Z9 (hC.getP 0 rfl) s10.1.toNat (show s10.1.toNat < a0.length by omega)
       refine Xe (len := a0.length) Try.underlying22 sc2.size (tr rfl hv11) rfl h20 h21 (X5 (.int .i64 (a0.getD s10.1.toNat default)) (Yk (hC.getP 0 rfl) hv11 s10.1.toNat (show s10.1.toNat < a0.length by omega)) sc2 rfl (Jk rfl rfl (by decide) (Xj rfl rfl (Zb (v := .bool (decide (Int.tmod (a0.getD s10.1.toNat default) 2 ≠ 0))) rfl ?_))))
       refine Xa (decide (Int.tmod (a0.getD s10.1.toNat default) 2 ≠ 0)) (fun hb11 => ?_) (fun hb11 => ?_)
       ·replace h := ift h (ct hb11)
        refine Zm 6 59 rfl rfl hb11 (Zb (v := .int .i64 s10.1) rfl (Zm 6 59 rfl rfl hb11 ?_))
        obtain ⟨⟨h22, h23⟩, h⟩ := h
        refine Y1 s10.1.toNat Try.underlying49 sc5.size rfl rfl h22 h23 (by omega) (Zm 6 59 rfl rfl hb11 (Z8 hC 3 (.int .u8 (a1.get s10.1.toNat)) rfl sc5 rfl (A8.enc_get _ _ (show s10.1.toNat < 8 by omega)) (Zm 6 59 rfl rfl hb11 (Jl rfl rfl (Yb (v := .bool (decide (a1.get s10.1.toNat = 1))) (b := true) (tr rfl (congrArg _ hb11)) rfl (dn ?_))))))
        refine Zr rfl (fun hb15 => ?_) (fun hb15 => ?_)
        ·replace h := ift h (ct hb15)
         refine Zk (Zb (v := .int .i64 s10.2) rfl (Zea rfl (Zc (v := .int .i64 (IntKind.i64.wrap (0 - s10.2))) rfl (done (Zt (Zd (Zk (Zb (v := .int .i64 s10.1) rfl (Zq rfl rfl (Zc (v := .int .i64 (IntKind.i64.wrap (s10.1 + 1))) rfl (done ?_)))))))))))
         exact hK11 (IntKind.i64.wrap (s10.1 + 1), IntKind.i64.wrap (0 - s10.2)) _ _ ⟨(sl ⟨rfl, rfl, rfl, rfl, rfl, rfl, rfl, rfl, trivial⟩), hC⟩ h
        ·replace h := Zi h (cf hb15)
         refine wp_skip (Zt (Zd (Zk (Zb (v := .int .i64 s10.1) rfl (Zq rfl rfl (Zc (v := .int .i64 (IntKind.i64.wrap (s10.1 + 1))) rfl (done ?_)))))))
         exact hK11 (IntKind.i64.wrap (s10.1 + 1), s10.2) _ _ ⟨(sl ⟨rfl, rfl, rfl, rfl, rfl, rfl, rfl, rfl, trivial⟩), hC⟩ h
       ·replace h := Zi h (cf hb11)
        refine Zn (b := false) 6 59 rfl (tr rfl (congrArg _ hb11)) (by decide) (Zn (b := false) 6 59 rfl (tr rfl (congrArg _ hb11)) (by decide) (Zn (b := false) 6 59 rfl (tr rfl (congrArg _ hb11)) (by decide) (Zn (b := false) 6 59 rfl (tr rfl (congrArg _ hb11)) (by decide) (Yb (v := .bool false) (b := false) (tr rfl (congrArg _ hb11)) rfl (dn (Yj rfl rfl (wp_skip (Zt (Zd (Zk (Zb (v := .int .i64 s10.1) rfl ?_)))))))))))
        refine Zq rfl rfl (Zc (v := .int .i64 (IntKind.i64.wrap (s10.1 + 1))) rfl (done ?_))
        exact hK11 (IntKind.i64.wrap (s10.1 + 1), s10.2) _ _ ⟨(sl ⟨rfl, rfl, rfl, rfl, rfl, rfl, rfl, rfl, trivial⟩), hC⟩ h
      ·replace h := Zi h (cf hb14)
       refine wp_exit (Zl (Zl (Yc ?_)))
       refine Zt (Zd (Zk (Zb (v := .int .i64 (i10 : Int)) rfl (Zq rfl rfl (Zc (v := .int .i64 (IntKind.i64.wrap ((i10 : Int) + 1))) rfl (done ?_))))))
       exact hK10 (s11.1.set i10 (IntKind.u8.wrap ((a1.get i10) + (a2.get i10))), s10.2) _ _ ⟨(sl ⟨rfl, rfl, rfl, rfl, rfl, rfl, (tr rfl (congrArg _ (Yi hi10 hN10))), trivial⟩), hC⟩ h
     ·replace h := Zi h (cf hb10)
      refine Zn (b := false) 4 45 rfl (tr rfl (congrArg _ hb10)) (by decide) (Zn (b := false) 4 45 rfl (tr rfl (congrArg _ hb10)) (by decide) (Zn (b := false) 4 45 rfl (tr rfl (congrArg _ hb10)) (by decide) (Zn (b := false) 4 45 rfl (tr rfl (congrArg _ hb10)) (by decide) (Yb (v := .bool false) (b := false) (tr rfl (congrArg _ hb10)) rfl (dn (Yj rfl rfl ?_))))))
      refine wp_exit (Zl (Zl (Yc ?_)))
      refine Zt (Zd (Zk (Zb (v := .int .i64 (i10 : Int)) rfl (Zq rfl rfl (Zc (v := .int .i64 (IntKind.i64.wrap ((i10 : Int) + 1))) rfl (done ?_))))))
      exact hK10 (s11.1.set i10 (IntKind.u8.wrap ((a1.get i10) + (a2.get i10))), s10.2) _ _ ⟨(sl ⟨rfl, rfl, rfl, rfl, rfl, rfl, (tr rfl (congrArg _ (Yi hi10 hN10))), trivial⟩), hC⟩ h
    ·skip
     exact ⟨(sl ⟨rfl, rfl, rfl, rfl, rfl, rfl, rfl, rfl, trivial⟩), hC⟩
 ·clear hC h
  rintro s11 e_ w18 K10 ⟨hS_, hC⟩ h
  rw [ue hS_]
  refine wp_seq (sr (Zb (v := .int .i64 (a0.length : Int)) rfl (Zb (v := u0_0) rfl ?_)))
  obtain ⟨Ad14, c14, hv14⟩ := Z2 (hC.getP 0 rfl)
  refine Z0 Try.underlying22 (tr rfl hv14) (Zs rfl rfl (dn (Yj rfl (decide_eq_false (by omega)) ?_)))
  refine wp_exit (Zl (Zl (Yc ?_)))
  refine Zd (sr (Ys hC 0 (A8.enc .u8 s11.1) rfl ag49 rfl rfl rfl (Zb (v := .int .i64 s11.2) rfl (Zu (v := .agg (List.toArray (A8.enc .u8 s11.1))) hC 1 (A8.enc .u8 s11.1) (A8.enc .u8 s11.1) rfl ag49.size rfl rfl rfl rfl rfl (Nat.le_of_ble_eq_true rfl) rfl fun w19 hC => Zc (v := .int .i64 s11.2) rfl (dn (wp_ret ?_))))))
  refine Jn (fn := Try.f83) rfl ?_ ?_ ⟨s11.1, s11.2, rfl, h, hC.below⟩ (.inl rfl)
  ·exact J3 hC 1 rfl ag49 rfl rfl
  ·exact Zh rfl
 ·skip
  exact ⟨(sl ⟨rfl, rfl, rfl, rfl, rfl, rfl, rfl, trivial⟩), hC⟩
def Ze7 (a0 : List Int) (a1 : Term) (a2 : Vc.Form) (K : Vc.Form → Prop) : Prop :=
 Xf (fun (s10 : (List Term) × Int) nx10 => (if s10.2 < (a2.terms.length : Int) then ((0 ≤ s10.2 ∧ s10.2 < (a2.terms.length : Int)) ∧ Ze6 a0 a1.mono ((a2.terms.getD s10.2.toNat default).mono) (fun r13 r14 => (if r14 ≠ 0 then ((0 ≤ s10.2 ∧ s10.2 < (a2.terms.length : Int)) ∧ Ju (IntKind.i64.wrap ((IntKind.i64.wrap (r14 * a1.factor)) * ((a2.terms.getD s10.2.toNat default).factor))) (fun r11 => (Xp (s10.1.length + 1) 16 ∧ nx10 (s10.1 ++ [(⟨r13, r11⟩ : Term)], IntKind.i64.wrap (s10.2 + 1))))) else nx10 (s10.1, IntKind.i64.wrap (s10.2 + 1))))) else K (⟨s10.1⟩ : Vc.Form))) ([], 0)
theorem Zqj (a0 : List Int) (a1 : Term) (a2 : Vc.Form) {u0_0 : Value} {u2_0 : Value} {fp0 : List Nat} {fp2 : List Nat} {K : Vc.Form → Prop} (h : Ze7 a0 a1 a2 K) (w0 : World) (q0 : ((EI .i64).ty.sl).rep a0 [u0_0] fp0 w0) (q2 : TForm.rep a2 [u2_0] fp2 w0) :
  Calls Try.prog 170 #[u0_0, .agg (List.toArray (Term.enc a1)), .agg #[u2_0]] w0 fun e w' => ∃ (r0 : Vc.Form) (z0_0 : Value) (fz0 : List Nat), 
   e = .returned (.agg #[z0_0]) ∧ K r0 ∧ (Tr.item (Zz 114) r0 [z0_0] fz0).holds w' ∧ (∀ b, b ∈ fz0 → w0.heap.size ≤ b) ∧ Bel w0 w' := by
 unfold Ze7 at h
 refine Z6 (args := [u0_0, .agg (List.toArray (Term.enc a1)), .agg #[u2_0]]) Try.func170 rfl 54 Try.ntmps170 (Nat.le_of_ble_eq_true rfl) ?_
 have hC := Ctx.start (X := Nox) w0 [Ty.item ((EI .i64).ty.sl) a0 [u0_0] fp0, Ty.item TForm a2 [u2_0] fp2] (by simp only [List.mem_cons, List.not_mem_nil, or_false, forall_eq_or_imp, forall_eq]; exact ⟨q0, q2⟩)
 have hp3 := (hC.getP 1 rfl)
 replace hC := hC.derive 1 rfl (Ty.item ETerm.ty.sl a2.terms [u2_0] fp2) (fun _ => (Xb hp3)) (fun _ hb_ => hb_)
 refine sr (Ye (v := .agg (List.toArray (Term.enc a1))) hC (Term.enc a1) rfl rfl fun b5 w7 hB_ hC => Ye (v := .agg #[u2_0]) hC [u2_0] rfl rfl fun b8 w10 hB_ hC => Yf hC [.slice none 0 0] z95 rfl fun b11 w11 hB_ hC => dn (sr (Jd [] rfl (Zcx   _) (Yf hC [.slice none 0 0] z95 rfl fun b10 w12 hB_ hC => Zu (v := .agg #[.slice none 0 0]) hC 0 [.slice none 0 0] [.slice none 0 0] rfl ag95.size rfl rfl rfl rfl rfl (Nat.le_of_ble_eq_true rfl) rfl fun w13 hC => dn (wp_seq (sr ?_))))))
 refine Zc (v := .int .i64 0) rfl (dn (wp_block ?_))
 refine Xu (S := (List Term) × Int) _ (fun s10 e_ w_ => ∃ (v10 : Value), Z4 e_ [(0, u0_0), (4, .pointer (some ⟨b5, 0, none⟩)), (5, .pointer (some ⟨b8, 0, none⟩)), (6, .pointer (some ⟨b11, 0, none⟩)), (7, .pointer (some ⟨b10, 0, none⟩)), (8, .int .i64 s10.2)] ∧ Ctx Nox w0 w_ [own 114 9 v10 s10.1.length (ETerm.encs s10.1), blk b10 95 [v10], blk b11 95 [.slice none 0 0], blk b8 95 [u2_0], blk b5 114 (Term.enc a1)] [Ty.item ETerm.ty.sl a2.terms [u2_0] fp2, Ty.item ((EI .i64).ty.sl) a0 [u0_0] fp0, Ty.item TForm a2 [u2_0] fp2]) ?_ (s0 := ([], 0)) ?_ h
 ·clear hC h
  rintro s10 e_ w14 nx10 K10 ⟨v10, hS_, hC⟩ h hK10
  rw [ue hS_]
  refine wp_seq (sr (Zb (v := .int .i64 s10.2) rfl (Z1 0 Try.underlying95 rfl sc93.size rfl rfl (Z8 hC 3 (u2_0) rfl sc93 rfl rfl ?_))))
  obtain ⟨Ad12, c10, hv12⟩ := Z2 (hC.getP 0 rfl)
  refine Z0 Try.underlying93 (tr rfl hv12) (Zs rfl rfl (dn ?_))
  refine Zr rfl (fun hb10 => ?_) (fun hb10 => ?_)
  ·replace h := ift h (ct hb10)
   refine wp_skip (Zd (wp_seq (wp_block (wp_seq ?_))))
   refine Ym 14 Yg [0, 0, 2, 0, 8, 0, 56, 120, 248, 511, 1023, 2047, 2047, 0, 12287, 32767] [2, 4, 6, 8] [0, 1, 3, 5, 7, 10, 11, 12] (by kernel_rfl) (by kernel_rfl) (by kernel_rfl) (fun hM13 hM10 w15 hB_ => ?_)
   replace hC := hC.grow hB_
   refine aF 0 (u0_0) rfl rfl (hM10 0 rfl) (rfl) (fun _ => by exact Zg (v := u0_0) rfl) (Za 16 1) (aF 1 (.pointer (some ⟨b5, 0, none⟩)) rfl rfl (hM10 1 rfl) (rfl) (fun _ => by exact Z7 0 Try.underlying114 rfl ag49.size rfl rfl) (Za 16 3) (aL 2 (.agg (List.toArray (A8.enc .u8 a1.mono))) rfl rfl (hM13 2 rfl) (rfl) (fun _ hB_ => by exact Yu (hC.grow hB_) 4 (A8.enc .u8 a1.mono) rfl ag49 rfl rfl rfl) (Za 16 7) (aF 3 (.pointer (some ⟨b8, 0, none⟩)) rfl rfl (hM10 3 rfl) (rfl) (fun _ => by exact Z7 0 Try.underlying95 rfl sc93.size rfl rfl) (Za 16 15) (aL 4 (u2_0) rfl rfl (hM13 4 rfl) (rfl) (fun _ hB_ => by exact Z5 (hC.grow hB_) 3 (u2_0) rfl sc93 rfl rfl) (Za 16 31) (aF 5 (.int .i64 s10.2) rfl rfl (hM10 5 rfl) (rfl) (fun _ => by exact Zg (v := .int .i64 s10.2) rfl) (Za 16 63) ?_)))))
   obtain ⟨⟨h10, h11⟩, h⟩ := h
   obtain ⟨Ad10, c11, hv10⟩ := Z9 (hC.getP 0 rfl) s10.2.toNat (show s10.2.toNat < a2.terms.length by omega)
   refine aL 6 (.pointer (some (Ad10.add (s10.2.toNat * 9)))) rfl rfl (hM13 6 rfl) (rfl) (fun _ hB_ => by exact Yv (len := a2.terms.length) Try.underlying93 ag114.size (by exact tr rfl hv10) rfl h10 h11) (Za 16 127) (aF 7 (.pointer (some (Ad10.add (s10.2.toNat * 9 + 0)))) rfl rfl (hM10 7 rfl) (rfl) (fun _ => by exact Zaj (s10.2.toNat * 9 + 0) Try.underlying114 rfl ag49.size rfl rfl) (Za 16 255) (aL 8 (.agg (List.toArray (A8.enc .u8 ((a2.terms.getD s10.2.toNat default).mono)))) rfl rfl (hM13 8 rfl) (rfl) (fun _ hB_ => by exact Xw (A8.enc .u8 ((a2.terms.getD s10.2.toNat default).mono)) (Jq (o := 0) (k := 8) (Yk ((hC.grow hB_).getP 0 rfl) hv10 s10.2.toNat (show s10.2.toNat < a2.terms.length by omega)) rfl) ag49 rfl rfl) (Za 16 511) ?_))
   refine Zbb (fun e_ w_ => ∃ (b12 : Nat), ∃ (r10 : A8), ∃ (r12 : Int), Z4 e_ [(0, u0_0), (4, .pointer (some ⟨b5, 0, none⟩)), (5, .pointer (some ⟨b8, 0, none⟩)), (6, .pointer (some ⟨b11, 0, none⟩)), (7, .pointer (some ⟨b10, 0, none⟩)), (8, .int .i64 s10.2), (9, .pointer (some ⟨b12, 0, none⟩)), (10, .int .i64 r12)] ∧ Ctx Nox w0 w_ [blk b12 49 (A8.enc .u8 r10), own 114 9 v10 s10.1.length (ETerm.encs s10.1), blk b10 95 [v10], blk b11 95 [.slice none 0 0], blk b8 95 [u2_0], blk b5 114 (Term.enc a1)] [Ty.item ETerm.ty.sl a2.terms [u2_0] fp2, Ty.item ((EI .i64).ty.sl) a0 [u0_0] fp0, Ty.item TForm a2 [u2_0] fp2] ∧ (if r12 ≠ 0 then ((0 ≤ s10.2 ∧ s10.2 < (a2.terms.length : Int)) ∧ Ju (IntKind.i64.wrap ((IntKind.i64.wrap (r12 * a1.factor)) * ((a2.terms.getD s10.2.toNat default).factor))) (fun r11 => (Xp (s10.1.length + 1) 16 ∧ nx10 (s10.1 ++ [(⟨r10, r11⟩ : Term)], IntKind.i64.wrap (s10.2 + 1))))) else nx10 (s10.1, IntKind.i64.wrap (s10.2 + 1)))) ?_ ?_
   ·clear hC h
    rintro e_ w16 ⟨b12, r10, r12, hS_, hC, h⟩
    rw [ue hS_]
    refine Zd (sr (Zb (v := .int .i64 r12) rfl (Xj rfl rfl (dn ?_))))
    refine Zr rfl (fun hb11 => ?_) (fun hb11 => ?_)
    ·replace h := ift h (ct hb11)
     refine Ym 17 Yg [0, 1, 0, 0, 0, 16, 56, 0, 128, 0, 896, 1920, 3968, 8184, 16376, 32764, 65532, 131071, 262143, 524287] [1, 2, 5, 8, 10, 12, 15] [0, 3, 4, 6, 7, 9, 11, 13] (by kernel_rfl) (by kernel_rfl) (by kernel_rfl) (fun hM12 hM11 w17 hB_ => ?_)
     replace hC := hC.grow hB_
     refine aF 0 (.pointer (some ⟨b10, 0, none⟩)) rfl rfl (hM11 0 rfl) (rfl) (fun _ => by exact Z7 0 Try.underlying95 rfl sc93.size rfl rfl) (Za 20 1) (aL 1 (v10) rfl rfl (hM12 1 rfl) (rfl) (fun _ hB_ => by exact Z5 (hC.grow hB_) 2 (v10) rfl sc93 rfl rfl) (Za 20 3) (aL 2 (.agg (List.toArray (A8.enc .u8 r10))) rfl rfl (hM12 2 rfl) (rfl) (fun _ hB_ => by exact Yu (hC.grow hB_) 0 (A8.enc .u8 r10) rfl ag49 rfl rfl rfl) (Za 20 7) (aF 3 (.int .i64 r12) rfl rfl (hM11 3 rfl) (rfl) (fun _ => by exact Zg (v := .int .i64 r12) rfl) (Za 20 15) (aF 4 (.pointer (some ⟨b5, 8, none⟩)) rfl rfl (hM11 4 rfl) (rfl) (fun _ => by exact Z7 8 Try.underlying114 rfl sc2.size rfl rfl) (Za 20 31) (aL 5 (.int .i64 a1.factor) rfl rfl (hM12 5 rfl) (rfl) (fun _ hB_ => by exact Z5 (hC.grow hB_) 5 (.int .i64 a1.factor) rfl sc2 rfl rfl) (Za 20 63) (aF 6 (.int .i64 (IntKind.i64.wrap (r12 * a1.factor))) rfl rfl (hM11 6 rfl) (rfl) (fun _ => by exact Zbh rfl rfl) (Za 20 127) (aF 7 (.pointer (some ⟨b8, 0, none⟩)) rfl rfl (hM11 7 rfl) (rfl) (fun _ => by exact Z7 0 Try.underlying95 rfl sc93.size rfl rfl) (Za 20 255) (aL 8 (u2_0) rfl rfl (hM12 8 rfl) (rfl) (fun _ hB_ => by exact Z5 (hC.grow hB_) 4 (u2_0) rfl sc93 rfl rfl) (Za 20 511) (aF 9 (.int .i64 s10.2) rfl rfl (hM11 9 rfl) (rfl) (fun _ => by exact Zg (v := .int .i64 s10.2) rfl) (Za 20 1023) ?_)))))))))
     obtain ⟨⟨h12, h13⟩, h⟩ := h
     obtain ⟨Ad11, c12, hv11⟩ := Z9 (hC.getP 0 rfl) s10.2.toNat (show s10.2.toNat < a2.terms.length by omega)
     refine aL 10 (.pointer (some (Ad11.add (s10.2.toNat * 9)))) rfl rfl (hM12 10 rfl) (rfl) (fun _ hB_ => by exact Yv (len := a2.terms.length) Try.underlying93 ag114.size (by exact tr rfl hv11) rfl h12 h13) (Za 20 2047) (aF 11 (.pointer (some (Ad11.add (s10.2.toNat * 9 + 8)))) rfl rfl (hM11 11 rfl) (rfl) (fun _ => by exact Zaj (s10.2.toNat * 9 + 8) Try.underlying114 rfl sc2.size rfl rfl) (Za 20 4095) (aL 12 (.int .i64 ((a2.terms.getD s10.2.toNat default).factor)) rfl rfl (hM12 12 rfl) (rfl) (fun _ hB_ => by exact Jf (.int .i64 ((a2.terms.getD s10.2.toNat default).factor)) (Jq (o := 8) (k := 1) (Yk ((hC.grow hB_).getP 0 rfl) hv11 s10.2.toNat (show s10.2.toNat < a2.terms.length by omega)) rfl) sc2 rfl) (Za 20 8191) (aF 13 (.int .i64 (IntKind.i64.wrap ((IntKind.i64.wrap (r12 * a1.factor)) * ((a2.terms.getD s10.2.toNat default).factor)))) rfl rfl (hM11 13 rfl) (rfl) (fun _ => by exact Zbh rfl rfl) (Za 20 16383) (aO 14 rfl ?_))))
     refine Zf [.int .i64 (IntKind.i64.wrap ((IntKind.i64.wrap (r12 * a1.factor)) * ((a2.terms.getD s10.2.toNat default).factor)))] _ Try.func122 rfl rfl rfl (Zb9 (IntKind.i64.wrap ((IntKind.i64.wrap (r12 * a1.factor)) * ((a2.terms.getD s10.2.toNat default).factor))) h _) (fun ret10 w18 hR10 => ?_)
     obtain ⟨r11, rfl, h, hB10⟩ := hR10
     refine ⟨_, rfl, ?_⟩
     replace hC := hC.grow hB10
     refine done (aK (by assumption) (Za 20 32767) (aL 15 (.agg (List.toArray (Term.enc (⟨r10, r11⟩ : Term)))) rfl rfl (hM12 15 rfl) (rfl) (fun _ hB_ => by exact Zig [(0, .agg (List.toArray (A8.enc .u8 r10))), (1, .int .i64 r11)] rfl (Zhd r10 r11  _)) (Za 20 65535) (aO 16 rfl (Jg (sz := 9) hC [(0, .agg (List.toArray (Term.enc (⟨r10, r11⟩ : Term))))] (ETerm.encs [(⟨r10, r11⟩ : Term)]) rfl (fun _ => Ze1 (⟨r10, r11⟩ : Term) _) rfl (by decide) fun b15 w19 hB_ hC => done (aK (by assumption) (Za 20 131071) (Zv 17 (by decide) (by decide) (by kernel_rfl) (by kernel_rfl) rfl ?_))))))
     obtain ⟨hm10, h⟩ := h
     refine Zbj hC 2 Try.underlying93 Ze2 rfl (by decide) (by decide) rfl (Zaq (hC.getM 0 rfl)) (fun q hq => Enc.encs_one' (E := ETerm) _ q hq) rfl rfl hm10 fun v11 w20 hC => ?_
     replace hC := J8 hC 2 ((s10.1 ++ [(⟨r10, r11⟩ : Term)]).length) (ETerm.encs (s10.1 ++ [(⟨r10, r11⟩ : Term)])) rfl (by simp) (by first | (simp [Enc.encs_append]; done) | simp [Enc.encs_append, Enc.encs])
     refine Z1 0 Try.underlying95 rfl sc93.size rfl rfl (Zu (v := v11) hC 3 [v11] [v11] rfl sc93.size rfl rfl (Zcm (hC.getM 2 rfl)) rfl (Y3 (Xl (hC.getM 2 rfl)) rfl) (Nat.le_of_ble_eq_true rfl) rfl fun w21 hC => done (Zw (Zt (Zd (Zk (Zb (v := .int .i64 s10.2) rfl (Zq rfl rfl (Zc (v := .int .i64 (IntKind.i64.wrap (s10.2 + 1))) rfl (done ?_)))))))))
     replace hC := hC.sM [2, 3, 4, 5, 6] (M' := [own 114 9 v11 ((s10.1 ++ [(⟨r10, r11⟩ : Term)]).length) (ETerm.encs (s10.1 ++ [(⟨r10, r11⟩ : Term)])), blk b10 95 [v11], blk b11 95 [.slice none 0 0], blk b8 95 [u2_0], blk b5 114 (Term.enc a1)]) (by decide) rfl
     exact hK10 (s10.1 ++ [(⟨r10, r11⟩ : Term)], IntKind.i64.wrap (s10.2 + 1)) _ _ ⟨v11, (sl ⟨rfl, rfl, rfl, rfl, rfl, rfl, trivial⟩), hC⟩ h
    ·replace h := Zi h (cf hb11)
     refine wp_skip (Zt (Zd (Zk (Zb (v := .int .i64 s10.2) rfl (Zq rfl rfl (Zc (v := .int .i64 (IntKind.i64.wrap (s10.2 + 1))) rfl (done ?_)))))))
     replace hC := hC.sM [1, 2, 3, 4, 5] (M' := [own 114 9 v10 s10.1.length (ETerm.encs s10.1), blk b10 95 [v10], blk b11 95 [.slice none 0 0], blk b8 95 [u2_0], blk b5 114 (Term.enc a1)]) (by decide) rfl
     exact hK10 (s10.1, IntKind.i64.wrap (s10.2 + 1)) _ _ ⟨v10, (sl ⟨rfl, rfl, rfl, rfl, rfl, rfl, trivial⟩), hC⟩ h
   refine Xc 9 13 rfl rfl (by kernel_rfl) ?_ ?_
   ·skip
    refine Zf [u0_0, .agg (List.toArray (A8.enc .u8 a1.mono)), .agg (List.toArray (A8.enc .u8 ((a2.terms.getD s10.2.toNat default).mono)))] _ Try.func83 rfl rfl rfl (Zl0 a0 a1.mono ((a2.terms.getD s10.2.toNat default).mono) h _ (hC.getP 1 rfl)) (fun ret11 w22 hR11 => ?_)
    obtain ⟨r13, r14, rfl, h, hB11⟩ := hR11
    refine ⟨_, rfl, ?_⟩
    replace hC := hC.grow hB11
    refine done (aK (by assumption) (Za 16 1023) (aF 10 (.tuple #[.agg (List.toArray (A8.enc .u8 r13)), .int .i64 r14]) rfl rfl (hM10 10 rfl) (rfl) (fun _ => by exact Zg (v := .tuple #[.agg (List.toArray (A8.enc .u8 r13)), .int .i64 r14]) rfl) (Za 16 2047) (aF 11 (.agg (List.toArray (A8.enc .u8 r13))) rfl rfl (hM10 11 rfl) (rfl) (fun _ => by exact Zde (v := .agg (List.toArray (A8.enc .u8 r13))) rfl rfl) (Za 16 4095) (aF 12 (.int .i64 r14) rfl rfl (hM10 12 rfl) (rfl) (fun _ => by exact Zde (v := .int .i64 r14) rfl rfl) (Za 16 8191) (aO 13 rfl (Yf hC (A8.enc .u8 A8.zero) z49 rfl fun b13 w23 hB_ hC => done (aK (by assumption) (Za 16 16383) (aO 14 rfl (Zu (v := .agg (List.toArray (A8.enc .u8 r13))) hC 0 (A8.enc .u8 r13) (A8.enc .u8 r13) rfl ag49.size rfl rfl rfl rfl rfl (Nat.le_of_ble_eq_true rfl) rfl fun w24 hC => done ?_)))))))))
    refine Zil (by decide) (l9 := (Za 16 32767)) (by kernel_rfl) (Zv 15 (by decide) (by decide) (by kernel_rfl) (by kernel_rfl) rfl (Zc (v := .int .i64 r14) rfl (done (Zw ?_))))
    exact ⟨rfl, _, rfl, ⟨b13, r13, r14, (sl ⟨rfl, rfl, rfl, rfl, rfl, rfl, rfl, rfl, trivial⟩), hC, h⟩⟩
   ·skip
    refine Yf hC (A8.enc .u8 A8.zero) z49 rfl fun b14 w25 hB_ hC => done (aK (by assumption) (Za 16 8703) (aO 9 rfl ?_))
    refine Zf [u0_0, .agg (List.toArray (A8.enc .u8 a1.mono)), .agg (List.toArray (A8.enc .u8 ((a2.terms.getD s10.2.toNat default).mono)))] _ Try.func83 rfl rfl rfl (Zl0 a0 a1.mono ((a2.terms.getD s10.2.toNat default).mono) h _ (hC.getP 1 rfl)) (fun ret12 w26 hR12 => ?_)
    obtain ⟨r15, r16, rfl, h, hB12⟩ := hR12
    refine ⟨_, rfl, ?_⟩
    replace hC := hC.grow hB12
    refine done (aK (by assumption) (Za 16 9215) (aF 10 (.tuple #[.agg (List.toArray (A8.enc .u8 r15)), .int .i64 r16]) rfl rfl (hM10 10 rfl) (rfl) (fun _ => by exact Zg (v := .tuple #[.agg (List.toArray (A8.enc .u8 r15)), .int .i64 r16]) rfl) (Za 16 10239) (aF 11 (.agg (List.toArray (A8.enc .u8 r15))) rfl rfl (hM10 11 rfl) (rfl) (fun _ => by exact Zde (v := .agg (List.toArray (A8.enc .u8 r15))) rfl rfl) (Za 16 12287) (aF 12 (.int .i64 r16) rfl rfl (hM10 12 rfl) (rfl) (fun _ => by exact Zde (v := .int .i64 r16) rfl rfl) (Za 16 16383) (aO 14 rfl (Zu (v := .agg (List.toArray (A8.enc .u8 r15))) hC 0 (A8.enc .u8 r15) (A8.enc .u8 r15) rfl ag49.size rfl rfl rfl rfl rfl (Nat.le_of_ble_eq_true rfl) rfl fun w27 hC => done (Zil (by decide) (l9 := (Za 16 32767)) (by kernel_rfl) (Zv 15 (by decide) (by decide) (by kernel_rfl) (by kernel_rfl) rfl (Zc (v := .int .i64 r16) rfl (done ?_))))))))))
    refine Zw ?_
    exact ⟨rfl, _, rfl, ⟨b14, r15, r16, (sl ⟨rfl, rfl, rfl, rfl, rfl, rfl, rfl, rfl, trivial⟩), hC, h⟩⟩
  ·replace h := Zi h (cf hb10)
   refine wp_exit (Zl (Zl (Yc ?_)))
   refine Zd (sr (Ys hC 1 [v10] rfl ag95 rfl rfl rfl (Zu (v := .agg #[v10]) hC 2 [v10] [v10] rfl ag95.size rfl rfl rfl rfl (Y3 (Xl (hC.getM 0 rfl)) rfl) (Nat.le_of_ble_eq_true rfl) rfl fun w28 hC => dn (wp_ret ?_))))
   refine Zo (fn := Try.f170) rfl ?_ ⟨(⟨s10.1⟩ : Vc.Form), v10, (Option.toList (Value.ownBlock v10)), rfl, h, (Zau (Js (hC.getM 0 rfl))), (Zae hC 0 rfl), hC.below⟩ (.inl rfl)
   exact J3 hC 2 rfl ag95 rfl rfl
 ·skip
  replace hC := hC.pushNil 114 9
  exact ⟨.slice none 0 0, (sl ⟨rfl, rfl, rfl, rfl, rfl, rfl, trivial⟩), hC⟩
def Ja (a0 : List Int) (a1 : Vc.Form) (a2 : Vc.Form) (K : Vc.Form → Prop) : Prop :=
 Xf (fun (s10 : (List Term) × Int) nx10 => (if s10.2 < (a1.terms.length : Int) then ((0 ≤ s10.2 ∧ s10.2 < (a1.terms.length : Int)) ∧ Ze7 a0 (a1.terms.getD s10.2.toNat default) a2 (fun r11 => J4 (⟨s10.1⟩ : Vc.Form) r11 1 (fun r10 => nx10 (r10.terms, IntKind.i64.wrap (s10.2 + 1))))) else K (⟨s10.1⟩ : Vc.Form))) ([], 0)
theorem Zam (a0 : List Int) (a1 : Vc.Form) (a2 : Vc.Form) {u0_0 : Value} {u1_0 : Value} {u2_0 : Value} {fp0 : List Nat} {fp1 : List Nat} {fp2 : List Nat} {K : Vc.Form → Prop} (h : Ja a0 a1 a2 K) (w0 : World) (q0 : ((EI .i64).ty.sl).rep a0 [u0_0] fp0 w0) (q1 : TForm.rep a1 [u1_0] fp1 w0) (q2 : TForm.rep a2 [u2_0] fp2 w0) :
  Calls Try.prog 153 #[u0_0, .agg #[u1_0], .agg #[u2_0]] w0 fun e w' => ∃ (r0 : Vc.Form) (z0_0 : Value) (fz0 : List Nat), 
   e = .returned (.agg #[z0_0]) ∧ K r0 ∧ (Tr.item (Zz 114) r0 [z0_0] fz0).holds w' ∧ (∀ b, b ∈ fz0 → w0.heap.size ≤ b) ∧ Bel w0 w' := by
 unfold Ja at h
 refine Z6 (args := [u0_0, .agg #[u1_0], .agg #[u2_0]]) Try.func153 rfl 28 Try.ntmps153 (Nat.le_of_ble_eq_true rfl) ?_
 have hC := Ctx.start (X := Nox) w0 [Ty.item ((EI .i64).ty.sl) a0 [u0_0] fp0, Ty.item TForm a1 [u1_0] fp1, Ty.item TForm a2 [u2_0] fp2] (by simp only [List.mem_cons, List.not_mem_nil, or_false, forall_eq_or_imp, forall_eq]; exact ⟨q0, q1, q2⟩)
 have hp4 := (hC.getP 1 rfl)
 replace hC := hC.derive 1 rfl (Ty.item ETerm.ty.sl a1.terms [u1_0] fp1) (fun _ => (Xb hp4)) (fun _ hb_ => hb_)
 have hp6 := (hC.getP 3 rfl)
 replace hC := hC.derive 3 rfl (Ty.item ETerm.ty.sl a2.terms [u2_0] fp2) (fun _ => (Xb hp6)) (fun _ hb_ => hb_)
 refine sr (Ye (v := .agg #[u1_0]) hC [u1_0] rfl rfl fun b8 w10 hB_ hC => Ye (v := .agg #[u2_0]) hC [u2_0] rfl rfl fun b10 w11 hB_ hC => Yf hC [.slice none 0 0] z95 rfl fun b11 w12 hB_ hC => dn (sr (Jd [] rfl (Zcx   _) (Yf hC [.slice none 0 0] z95 rfl fun b12 w13 hB_ hC => Zu (v := .agg #[.slice none 0 0]) hC 0 [.slice none 0 0] [.slice none 0 0] rfl ag95.size rfl rfl rfl rfl rfl (Nat.le_of_ble_eq_true rfl) rfl fun w14 hC => dn (wp_seq (sr ?_))))))
 refine Zc (v := .int .i64 0) rfl (dn (wp_block ?_))
 refine Xu (S := (List Term) × Int) _ (fun s10 e_ w_ => ∃ (v10 : Value), Z4 e_ [(0, u0_0), (4, .pointer (some ⟨b8, 0, none⟩)), (5, .pointer (some ⟨b10, 0, none⟩)), (6, .pointer (some ⟨b11, 0, none⟩)), (7, .pointer (some ⟨b12, 0, none⟩)), (8, .int .i64 s10.2)] ∧ Ctx Nox w0 w_ [own 114 9 v10 s10.1.length (ETerm.encs s10.1), blk b12 95 [v10], blk b11 95 [.slice none 0 0], blk b10 95 [u2_0], blk b8 95 [u1_0]] [Ty.item ETerm.ty.sl a2.terms [u2_0] fp2, Ty.item ETerm.ty.sl a1.terms [u1_0] fp1, Ty.item ((EI .i64).ty.sl) a0 [u0_0] fp0, Ty.item TForm a1 [u1_0] fp1, Ty.item TForm a2 [u2_0] fp2]) ?_ (s0 := ([], 0)) ?_ h
 ·clear hC h
  rintro s10 e_ w15 nx10 K10 ⟨v10, hS_, hC⟩ h hK10
  rw [ue hS_]
  refine wp_seq (sr (Zb (v := .int .i64 s10.2) rfl (Z1 0 Try.underlying95 rfl sc93.size rfl rfl (Z8 hC 4 (u1_0) rfl sc93 rfl rfl ?_))))
  obtain ⟨Ad11, c10, hv11⟩ := Z2 (hC.getP 1 rfl)
  refine Z0 Try.underlying93 (tr rfl hv11) (Zs rfl rfl (dn ?_))
  refine Zr rfl (fun hb10 => ?_) (fun hb10 => ?_)
  ·replace h := ift h (ct hb10)
   refine wp_skip (Zd (wp_seq (wp_block ?_)))
   refine Ym 9 Yg [0, 0, 0, 4, 0, 28, 60, 0, 254, 511, 1023] [0, 3, 5, 6, 7] [1, 2, 4] (by kernel_rfl) (by kernel_rfl) (by kernel_rfl) (fun hM10 hM11 w16 hB_ => ?_)
   replace hC := hC.grow hB_
   refine aL 0 (.agg #[v10]) rfl rfl (hM10 0 rfl) (rfl) (fun _ hB_ => by exact Yu (hC.grow hB_) 1 [v10] rfl ag95 rfl rfl rfl) (Za 11 1) (aF 1 (u0_0) rfl rfl (hM11 1 rfl) (rfl) (fun _ => by exact Zg (v := u0_0) rfl) (Za 11 3) (aF 2 (.pointer (some ⟨b8, 0, none⟩)) rfl rfl (hM11 2 rfl) (rfl) (fun _ => by exact Z7 0 Try.underlying95 rfl sc93.size rfl rfl) (Za 11 7) (aL 3 (u1_0) rfl rfl (hM10 3 rfl) (rfl) (fun _ hB_ => by exact Z5 (hC.grow hB_) 4 (u1_0) rfl sc93 rfl rfl) (Za 11 15) (aF 4 (.int .i64 s10.2) rfl rfl (hM11 4 rfl) (rfl) (fun _ => by exact Zg (v := .int .i64 s10.2) rfl) (Za 11 31) ?_))))
   obtain ⟨⟨h10, h11⟩, h⟩ := h
   obtain ⟨Ad10, c11, hv10⟩ := Z9 (hC.getP 1 rfl) s10.2.toNat (show s10.2.toNat < a1.terms.length by omega)
   refine aL 5 (.pointer (some (Ad10.add (s10.2.toNat * 9)))) rfl rfl (hM10 5 rfl) (rfl) (fun _ hB_ => by exact Yv (len := a1.terms.length) Try.underlying93 ag114.size (by exact tr rfl hv10) rfl h10 h11) (Za 11 63) (aL 6 (.agg (List.toArray (Term.enc (a1.terms.getD s10.2.toNat default)))) rfl rfl (hM10 6 rfl) (rfl) (fun _ hB_ => by exact Xw (Term.enc (a1.terms.getD s10.2.toNat default)) (Yk ((hC.grow hB_).getP 1 rfl) hv10 s10.2.toNat (show s10.2.toNat < a1.terms.length by omega)) ag114 rfl rfl) (Za 11 127) (aL 7 (.agg #[u2_0]) rfl rfl (hM10 7 rfl) (rfl) (fun _ hB_ => by exact Yu (hC.grow hB_) 3 [u2_0] rfl ag95 rfl rfl rfl) (Za 11 255) (aO 8 rfl ?_)))
   refine Zf [u0_0, .agg (List.toArray (Term.enc (a1.terms.getD s10.2.toNat default))), .agg #[u2_0]] _ Try.func170 rfl rfl rfl (Zqj a0 (a1.terms.getD s10.2.toNat default) a2 h _ (hC.getP 2 rfl) (Yl (hC.getP 0 rfl))) (fun ret10 w17 hR10 => ?_)
   obtain ⟨r11, u11, f10, rfl, h, hr10, hf10, hB10⟩ := hR10
   refine ⟨_, rfl, ?_⟩
   replace hC := hC.push hB10 (Tr.item (Zz 114) r11 [u11] f10) hr10 hf10
   obtain ⟨ho10, hf11⟩ := Y8 (hC.getM 0 rfl)
   subst hf11
   replace hC := hC.recast (c := own 114 9 u11 r11.terms.length (ETerm.encs r11.terms)) (fun _ h_ => h_) (fun _ => ho10)
   refine done (aK (by assumption) (Za 11 511) (Zv 9 (by decide) (by decide) (by kernel_rfl) (by kernel_rfl) rfl ?_))
   refine Zf [.agg #[v10], .agg #[u11], .int .i64 1] _ Try.func69 rfl rfl rfl (Zc0 (⟨s10.1⟩ : Vc.Form) r11 1 h _ (Yl (Y7 (hC.getM 1 rfl))) (Yl (Y7 (hC.getM 0 rfl)))) (fun ret11 w18 hR11 => ?_)
   obtain ⟨r10, u10, f11, rfl, h, hr11, hf12, hB11⟩ := hR11
   refine ⟨_, rfl, ?_⟩
   replace hC := hC.push hB11 (Tr.item (Zz 114) r10 [u10] f11) hr11 hf12
   obtain ⟨ho11, hf13⟩ := Y8 (hC.getM 0 rfl)
   subst hf13
   replace hC := hC.recast (c := own 114 9 u10 r10.terms.length (ETerm.encs r10.terms)) (fun _ h_ => h_) (fun _ => ho11)
   refine Zu (v := .agg #[u10]) hC 3 [u10] [u10] rfl ag95.size rfl rfl rfl rfl (Y3 (Xl (hC.getM 0 rfl)) rfl) (Nat.le_of_ble_eq_true rfl) rfl fun w19 hC => done (Zw (Zt (Zd (Zk (Zb (v := .int .i64 s10.2) rfl (Zq rfl rfl (Zc (v := .int .i64 (IntKind.i64.wrap (s10.2 + 1))) rfl (done ?_))))))))
   replace hC := hC.sM [0, 3, 4, 5, 6] (M' := [own 114 9 u10 r10.terms.length (ETerm.encs r10.terms), blk b12 95 [u10], blk b11 95 [.slice none 0 0], blk b10 95 [u2_0], blk b8 95 [u1_0]]) (by decide) rfl
   exact hK10 (r10.terms, IntKind.i64.wrap (s10.2 + 1)) _ _ ⟨u10, (sl ⟨rfl, rfl, rfl, rfl, rfl, rfl, trivial⟩), hC⟩ h
  ·replace h := Zi h (cf hb10)
   refine wp_exit (Zl (Zl (Yc ?_)))
   refine Zd (sr (Ys hC 1 [v10] rfl ag95 rfl rfl rfl (Zu (v := .agg #[v10]) hC 2 [v10] [v10] rfl ag95.size rfl rfl rfl rfl (Y3 (Xl (hC.getM 0 rfl)) rfl) (Nat.le_of_ble_eq_true rfl) rfl fun w20 hC => dn (wp_ret ?_))))
   refine Zo (fn := Try.f153) rfl ?_ ⟨(⟨s10.1⟩ : Vc.Form), v10, (Option.toList (Value.ownBlock v10)), rfl, h, (Zau (Js (hC.getM 0 rfl))), (Zae hC 0 rfl), hC.below⟩ (.inl rfl)
   exact J3 hC 2 rfl ag95 rfl rfl
 ·skip
  replace hC := hC.pushNil 114 9
  exact ⟨.slice none 0 0, (sl ⟨rfl, rfl, rfl, rfl, rfl, rfl, trivial⟩), hC⟩
def Ze8 (a0 : List Int) (a1 : Vc.Form) (K : Bool → Prop) : Prop :=
 Xf (fun (s10 : Int) nx10 => (if s10 < (a1.terms.length : Int) then ((0 ≤ s10 ∧ s10 < (a1.terms.length : Int)) ∧ Ze5 a0 ((a1.terms.getD s10.toNat default).mono) (fun r11 => (if ¬ (r11 = true) then K false else Zcy ((a1.terms.getD s10.toNat default).factor) 1 10006 (fun r10 => (if ¬ (r10 = true) then K false else (if s10 > 0 then ((0 ≤ IntKind.i64.wrap (s10 - 1) ∧ IntKind.i64.wrap (s10 - 1) < (a1.terms.length : Int)) ∧ Zcz ((a1.terms.getD ((IntKind.i64.wrap (s10 - 1)).toNat) default).mono) ((a1.terms.getD s10.toNat default).mono) (fun r12 => (if ¬ (r12 = true) then K false else nx10 (IntKind.i64.wrap (s10 + 1))))) else nx10 (IntKind.i64.wrap (s10 + 1)))))))) else K (decide ((a1.terms.length : Int) ≤ 400)))) 0
theorem Zqk (a0 : List Int) (a1 : Vc.Form) {u0_0 : Value} {u1_0 : Value} {fp0 : List Nat} {fp1 : List Nat} {K : Bool → Prop} (h : Ze8 a0 a1 K) (w0 : World) (q0 : ((EI .i64).ty.sl).rep a0 [u0_0] fp0 w0) (q1 : TForm.rep a1 [u1_0] fp1 w0) :
  Calls Try.prog 130 #[u0_0, .agg #[u1_0]] w0 fun e w' => ∃ (r0 : Bool), 
   e = .returned (.bool r0) ∧ K r0 ∧ Bel w0 w' := by
 unfold Ze8 at h
 refine Z6 (args := [u0_0, .agg #[u1_0]]) Try.func130 rfl 51 Try.ntmps130 (Nat.le_of_ble_eq_true rfl) ?_
 have hC := Ctx.start (X := Nox) w0 [Ty.item ((EI .i64).ty.sl) a0 [u0_0] fp0, Ty.item TForm a1 [u1_0] fp1] (by simp only [List.mem_cons, List.not_mem_nil, or_false, forall_eq_or_imp, forall_eq]; exact ⟨q0, q1⟩)
 have hp3 := (hC.getP 1 rfl)
 replace hC := hC.derive 1 rfl (Ty.item ETerm.ty.sl a1.terms [u1_0] fp1) (fun _ => (Xb hp3)) (fun _ hb_ => hb_)
 refine sr (Ye (v := .agg #[u1_0]) hC [u1_0] rfl rfl fun b5 w7 hB_ hC => Zc (v := .bool false) rfl (dn (wp_seq (sr (Zc (v := .int .i64 0) rfl (dn (wp_block ?_)))))))
 refine Xu (S := Int) _ (fun s10 e_ w_ => Z4 e_ [(0, u0_0), (3, .pointer (some ⟨b5, 0, none⟩)), (5, .int .i64 s10)] ∧ Ctx Nox w0 w_ [blk b5 95 [u1_0]] [Ty.item ETerm.ty.sl a1.terms [u1_0] fp1, Ty.item ((EI .i64).ty.sl) a0 [u0_0] fp0, Ty.item TForm a1 [u1_0] fp1]) ?_ (s0 := 0) ?_ h
 ·clear hC h
  rintro s10 e_ w10 nx10 K10 ⟨hS_, hC⟩ h hK10
  rw [ue hS_]
  refine wp_seq (sr (Zb (v := .int .i64 s10) rfl (Z1 0 Try.underlying95 rfl sc93.size rfl rfl (Z8 hC 0 (u1_0) rfl sc93 rfl rfl ?_))))
  obtain ⟨Ad11, c10, hv12⟩ := Z2 (hC.getP 0 rfl)
  refine Z0 Try.underlying93 (tr rfl hv12) (Zs rfl rfl (dn ?_))
  refine Zr rfl (fun hb13 => ?_) (fun hb13 => ?_)
  ·replace h := ift h (ct hb13)
   refine wp_skip (Zd (wp_seq (wp_block (sr (Z1 0 Try.underlying95 rfl sc93.size rfl rfl (Z8 hC 0 (u1_0) rfl sc93 rfl rfl (Zb (v := .int .i64 s10) rfl ?_)))))))
   obtain ⟨⟨h10, h11⟩, h⟩ := h
   obtain ⟨Ad12, c11, hv10⟩ := Z9 (hC.getP 0 rfl) s10.toNat (show s10.toNat < a1.terms.length by omega)
   refine Xe (len := a1.terms.length) Try.underlying93 ag114.size (tr rfl hv10) rfl h10 h11 (Zak (Term.enc (a1.terms.getD s10.toNat default)) (Yk (hC.getP 0 rfl) hv10 s10.toNat (show s10.toNat < a1.terms.length by omega)) ag114 rfl rfl (Yf hC (Term.enc (⟨A8.zero, 0⟩ : Term)) Zdn rfl fun b10 w11 hB_ hC => Zu (v := .agg (List.toArray (Term.enc (a1.terms.getD s10.toNat default)))) hC 0 (Term.enc (a1.terms.getD s10.toNat default)) (Term.enc (a1.terms.getD s10.toNat default)) rfl ag114.size rfl rfl rfl rfl rfl (Nat.le_of_ble_eq_true rfl) rfl fun w12 hC => dn (wp_seq ?_)))
   refine Ym 24 Yg [0, 0, 2, 7, 15, 31, 63, 127, 255, 511, 1023, 2047, 4095, 8191, 16383, 32767, 65535, 32767, 163839, 524287, 1048575, 2097151, 32767, 4227071, 16777215, 33554431, 67108863, 134217727] [2, 7, 16, 19, 21, 23] [0, 1, 4, 5, 6, 7, 8, 9, 10, 11, 12, 13, 14, 15, 16, 17, 18, 19, 20, 21, 22, 23] (by kernel_rfl) (by kernel_rfl) (by kernel_rfl) (fun hM11 hM10 w13 hB_ => ?_)
   replace hC := hC.grow hB_
   refine aF 0 (u0_0) rfl rfl (hM10 0 rfl) (rfl) (fun _ => by exact Zg (v := u0_0) rfl) (Za 28 1) (aF 1 (.pointer (some ⟨b10, 0, none⟩)) rfl rfl (hM10 1 rfl) (rfl) (fun _ => by exact Z7 0 Try.underlying114 rfl ag49.size rfl rfl) (Za 28 3) (aL 2 (.agg (List.toArray (A8.enc .u8 ((a1.terms.getD s10.toNat default).mono)))) rfl rfl (hM11 2 rfl) (rfl) (fun _ hB_ => by exact Yu (hC.grow hB_) 0 (A8.enc .u8 ((a1.terms.getD s10.toNat default).mono)) rfl ag49 rfl rfl rfl) (Za 28 7) (aO 3 rfl ?_)))
   refine Zf [u0_0, .agg (List.toArray (A8.enc .u8 ((a1.terms.getD s10.toNat default).mono)))] _ Try.func82 rfl rfl rfl (Zqi a0 ((a1.terms.getD s10.toNat default).mono) h _ (hC.getP 1 rfl)) (fun ret10 w14 hR10 => ?_)
   obtain ⟨r11, rfl, h, hB10⟩ := hR10
   refine ⟨_, rfl, ?_⟩
   replace hC := hC.grow hB10
   refine done (aK (by assumption) (Za 28 15) (aF 4 (.bool (!r11)) rfl rfl (hM10 4 rfl) (rfl) (fun _ => by exact Zie rfl) (Za 28 31) (aF 5 (.bool (!r11)) rfl rfl (hM10 5 rfl) (rfl) (fun _ => by exact Zg (v := .bool (!r11)) rfl) (Za 28 63) ?_)))
   refine Xa (!r11) (fun hb12 => ?_) (fun hb12 => ?_)
   ·replace h := ift h (Xq (X6 hb12))
    refine Zp Z3 6 undef rfl rfl (by kernel_rfl) (hM10 6 rfl) (fun w_ => .inr ⟨Yh (b := true) 5 24 rfl (tr rfl (congrArg _ hb12)) (by decide), rfl⟩) (l9 := (Za 28 127)) (by kernel_rfl) (Zp Z3 7 undef rfl rfl (by kernel_rfl) (hM10 7 rfl) (fun w_ => .inr ⟨Yh (b := true) 5 24 rfl (tr rfl (congrArg _ hb12)) (by decide), rfl⟩) (l9 := (Za 28 255)) (by kernel_rfl) (Zp Z3 8 undef rfl rfl (by kernel_rfl) (hM10 8 rfl) (fun w_ => .inr ⟨Yh (b := true) 5 24 rfl (tr rfl (congrArg _ hb12)) (by decide), rfl⟩) (l9 := (Za 28 511)) (by kernel_rfl) (Zp Z3 9 undef rfl rfl (by kernel_rfl) (hM10 9 rfl) (fun w_ => .inr ⟨Yh (b := true) 5 24 rfl (tr rfl (congrArg _ hb12)) (by decide), rfl⟩) (l9 := (Za 28 1023)) (by kernel_rfl) (aF 10 (.bool true) rfl rfl (hM10 10 rfl) (rfl) (fun _ => by exact Zkf (v := .bool true) (b := true) (by exact tr rfl (congrArg _ hb12)) rfl) (Za 28 2047) (aF 11 (.bool true) rfl rfl (hM10 11 rfl) (rfl) (fun _ => by exact Zg (v := .bool true) rfl) (Za 28 4095) (Zp Z3 12 undef rfl rfl (by kernel_rfl) (hM10 12 rfl) (fun w_ => .inr ⟨Yh (b := true) 11 30 rfl (tr rfl (congrArg _ rfl)) (by decide), rfl⟩) (l9 := (Za 28 8191)) (by kernel_rfl) (Zp Z3 13 undef rfl rfl (by kernel_rfl) (hM10 13 rfl) (fun w_ => .inr ⟨Yh (b := true) 11 30 rfl (tr rfl (congrArg _ rfl)) (by decide), rfl⟩) (l9 := (Za 28 16383)) (by kernel_rfl) (Zp Z3 14 undef rfl rfl (by kernel_rfl) (hM10 14 rfl) (fun w_ => .inr ⟨Yh (b := true) 11 30 rfl (tr rfl (congrArg _ rfl)) (by decide), rfl⟩) (l9 := (Za 28 32767)) (by kernel_rfl) ?_))))))))
    refine Zp Z3 15 undef rfl rfl (by kernel_rfl) (hM10 15 rfl) (fun w_ => .inr ⟨Xx 14 33 rfl rfl, rfl⟩) (l9 := (Za 28 65535)) (by kernel_rfl) (Zp Z3 16 undef rfl rfl (by kernel_rfl) (hM10 16 rfl) (fun w_ => .inr ⟨Xx 14 33 rfl rfl, rfl⟩) (l9 := (Za 28 131071)) (by kernel_rfl) (Zp Z3 17 undef rfl rfl (by kernel_rfl) (hM10 17 rfl) (fun w_ => .inr ⟨Xx 14 33 rfl rfl, rfl⟩) (l9 := (Za 28 262143)) (by kernel_rfl) (Zp Z3 18 undef rfl rfl (by kernel_rfl) (hM10 18 rfl) (fun w_ => .inr ⟨Xx 14 33 rfl rfl, rfl⟩) (l9 := (Za 28 524287)) (by kernel_rfl) (Zp Z3 19 undef rfl rfl (by kernel_rfl) (hM10 19 rfl) (fun w_ => .inr ⟨Xx 14 33 rfl rfl, rfl⟩) (l9 := (Za 28 1048575)) (by kernel_rfl) (Zp Z3 20 undef rfl rfl (by kernel_rfl) (hM10 20 rfl) (fun w_ => .inr ⟨Xx 14 33 rfl rfl, rfl⟩) (l9 := (Za 28 2097151)) (by kernel_rfl) (Zp Z3 21 undef rfl rfl (by kernel_rfl) (hM10 21 rfl) (fun w_ => .inr ⟨Xx 14 33 rfl rfl, rfl⟩) (l9 := (Za 28 4194303)) (by kernel_rfl) (Zp Z3 22 undef rfl rfl (by kernel_rfl) (hM10 22 rfl) (fun w_ => .inr ⟨Xx 14 33 rfl rfl, rfl⟩) (l9 := (Za 28 8388607)) (by kernel_rfl) (Zp Z3 23 undef rfl rfl (by kernel_rfl) (hM10 23 rfl) (fun w_ => .inr ⟨Xx 14 33 rfl rfl, rfl⟩) (l9 := (Za 28 16777215)) (by kernel_rfl) (Zv 24 (by decide) (by decide) (by kernel_rfl) (by kernel_rfl) rfl (J1 14 33 rfl rfl (J1 14 33 rfl rfl ?_)))))))))))
    refine Zn (b := true) 11 30 rfl (tr rfl (congrArg _ rfl)) (by decide) (Yb (v := .bool true) (b := true) rfl rfl (done (Zw (Zd (Yq rfl rfl (sr (Zc (v := .bool false) rfl (dn ?_))))))))
    refine wp_ret (Yd (Zj (Zj (Yd (Zj ?_)))))
    refine Zo (fn := Try.f130) rfl ?_ ⟨false, rfl, h, hC.below⟩ (.inl rfl)
    exact Zh rfl
   ·replace h := Zi h (not_not_intro ((X7 hb12)))
    refine aF 6 (.pointer (some ⟨b10, 8, none⟩)) rfl rfl (hM10 6 rfl) (Yn 5 24 rfl rfl hb12) (fun _ => by exact Z7 8 Try.underlying114 rfl sc2.size rfl rfl) (Za 28 127) (aL 7 (.int .i64 ((a1.terms.getD s10.toNat default).factor)) rfl rfl (hM11 7 rfl) (Yn 5 24 rfl rfl hb12) (fun _ hB_ => by exact Z5 (hC.grow hB_) 0 (.int .i64 ((a1.terms.getD s10.toNat default).factor)) rfl sc2 rfl rfl) (Za 28 255) (aO 8 rfl (Zm 5 24 rfl rfl hb12 ?_)))
    refine Zf [.int .i64 ((a1.terms.getD s10.toNat default).factor), .int .i64 1, .int .i64 10006] _ Try.func60 rfl rfl rfl (Zjb ((a1.terms.getD s10.toNat default).factor) 1 10006 h _) (fun ret11 w15 hR11 => ?_)
    obtain ⟨r10, rfl, h, hB11⟩ := hR11
    refine ⟨_, rfl, ?_⟩
    replace hC := hC.grow hB11
    refine done (aK (by assumption) (Za 28 511) (aF 9 (.bool (!r10)) rfl rfl (hM10 9 rfl) (Yn 5 24 rfl rfl hb12) (fun _ => by exact Zie rfl) (Za 28 1023) (aF 10 (.bool (!r10)) rfl rfl (hM10 10 rfl) (rfl) (fun _ => by exact Zkf (v := .bool (!r10)) (b := false) (by exact tr rfl (congrArg _ hb12)) rfl) (Za 28 2047) (aF 11 (.bool (!r10)) rfl rfl (hM10 11 rfl) (rfl) (fun _ => by exact Zg (v := .bool (!r10)) rfl) (Za 28 4095) ?_))))
    refine Xa (!r10) (fun hb11 => ?_) (fun hb11 => ?_)
    ·replace h := ift h (Xq (X6 hb11))
     refine Zp Z3 12 undef rfl rfl (by kernel_rfl) (hM10 12 rfl) (fun w_ => .inr ⟨Yh (b := true) 11 30 rfl (tr rfl (congrArg _ hb11)) (by decide), rfl⟩) (l9 := (Za 28 8191)) (by kernel_rfl) (Zp Z3 13 undef rfl rfl (by kernel_rfl) (hM10 13 rfl) (fun w_ => .inr ⟨Yh (b := true) 11 30 rfl (tr rfl (congrArg _ hb11)) (by decide), rfl⟩) (l9 := (Za 28 16383)) (by kernel_rfl) (Zp Z3 14 undef rfl rfl (by kernel_rfl) (hM10 14 rfl) (fun w_ => .inr ⟨Yh (b := true) 11 30 rfl (tr rfl (congrArg _ hb11)) (by decide), rfl⟩) (l9 := (Za 28 32767)) (by kernel_rfl) (Zp Z3 15 undef rfl rfl (by kernel_rfl) (hM10 15 rfl) (fun w_ => .inr ⟨Xx 14 33 rfl rfl, rfl⟩) (l9 := (Za 28 65535)) (by kernel_rfl) (Zp Z3 16 undef rfl rfl (by kernel_rfl) (hM10 16 rfl) (fun w_ => .inr ⟨Xx 14 33 rfl rfl, rfl⟩) (l9 := (Za 28 131071)) (by kernel_rfl) (Zp Z3 17 undef rfl rfl (by kernel_rfl) (hM10 17 rfl) (fun w_ => .inr ⟨Xx 14 33 rfl rfl, rfl⟩) (l9 := (Za 28 262143)) (by kernel_rfl) (Zp Z3 18 undef rfl rfl (by kernel_rfl) (hM10 18 rfl) (fun w_ => .inr ⟨Xx 14 33 rfl rfl, rfl⟩) (l9 := (Za 28 524287)) (by kernel_rfl) (Zp Z3 19 undef rfl rfl (by kernel_rfl) (hM10 19 rfl) (fun w_ => .inr ⟨Xx 14 33 rfl rfl, rfl⟩) (l9 := (Za 28 1048575)) (by kernel_rfl) (Zp Z3 20 undef rfl rfl (by kernel_rfl) (hM10 20 rfl) (fun w_ => .inr ⟨Xx 14 33 rfl rfl, rfl⟩) (l9 := (Za 28 2097151)) (by kernel_rfl) ?_))))))))
     refine Zp Z3 21 undef rfl rfl (by kernel_rfl) (hM10 21 rfl) (fun w_ => .inr ⟨Xx 14 33 rfl rfl, rfl⟩) (l9 := (Za 28 4194303)) (by kernel_rfl) (Zp Z3 22 undef rfl rfl (by kernel_rfl) (hM10 22 rfl) (fun w_ => .inr ⟨Xx 14 33 rfl rfl, rfl⟩) (l9 := (Za 28 8388607)) (by kernel_rfl) (Zp Z3 23 undef rfl rfl (by kernel_rfl) (hM10 23 rfl) (fun w_ => .inr ⟨Xx 14 33 rfl rfl, rfl⟩) (l9 := (Za 28 16777215)) (by kernel_rfl) (Zv 24 (by decide) (by decide) (by kernel_rfl) (by kernel_rfl) rfl (J1 14 33 rfl rfl (J1 14 33 rfl rfl (Zn (b := true) 11 30 rfl (tr rfl (congrArg _ hb11)) (by decide) (Yb (v := .bool true) (b := true) (tr rfl (congrArg _ hb11)) rfl (done (Zw (Zd (Yq rfl rfl ?_)))))))))))
     refine sr (Zc (v := .bool false) rfl (dn ?_))
     refine wp_ret (Yd (Zj (Zj (Yd (Zj ?_)))))
     refine Zo (fn := Try.f130) rfl ?_ ⟨false, rfl, h, hC.below⟩ (.inl rfl)
     exact Zh rfl
    ·replace h := Zi h (not_not_intro ((X7 hb11)))
     refine aF 12 (.int .i64 s10) rfl rfl (hM10 12 rfl) (Yn 11 30 rfl rfl hb11) (fun _ => by exact Zg (v := .int .i64 s10) rfl) (Za 28 8191) (aF 13 (.bool (decide (s10 > 0))) rfl rfl (hM10 13 rfl) (Yn 11 30 rfl rfl hb11) (fun _ => by exact Zkj rfl rfl) (Za 28 16383) (aF 14 (.bool (decide (s10 > 0))) rfl rfl (hM10 14 rfl) (Yn 11 30 rfl rfl hb11) (fun _ => by exact Zg (v := .bool (decide (s10 > 0))) rfl) (Za 28 32767) ?_))
     refine Xa (decide (s10 > 0)) (fun hb10 => ?_) (fun hb10 => ?_)
     ·replace h := ift h (ct hb10)
      refine aF 15 (.pointer (some ⟨b5, 0, none⟩)) rfl rfl (hM10 15 rfl) (Yn 14 33 rfl rfl hb10) (fun _ => by exact Z7 0 Try.underlying95 rfl sc93.size rfl rfl) (Za 28 65535) (aL 16 (u1_0) rfl rfl (hM11 16 rfl) (Yn 14 33 rfl rfl hb10) (fun _ hB_ => by exact Z5 (hC.grow hB_) 1 (u1_0) rfl sc93 rfl rfl) (Za 28 131071) (aF 17 (.int .i64 s10) rfl rfl (hM10 17 rfl) (Yn 14 33 rfl rfl hb10) (fun _ => by exact Zg (v := .int .i64 s10) rfl) (Za 28 262143) (aF 18 (.int .i64 (IntKind.i64.wrap (s10 - 1))) rfl rfl (hM10 18 rfl) (Yn 14 33 rfl rfl hb10) (fun _ => by exact Zb1 rfl rfl) (Za 28 524287) ?_)))
      obtain ⟨⟨h12, h13⟩, h⟩ := h
      obtain ⟨Ad10, c12, hv11⟩ := Z9 (hC.getP 0 rfl) ((IntKind.i64.wrap (s10 - 1)).toNat) (show (IntKind.i64.wrap (s10 - 1)).toNat < a1.terms.length by omega)
      refine aL 19 (.pointer (some (Ad10.add ((IntKind.i64.wrap (s10 - 1)).toNat * 9)))) rfl rfl (hM11 19 rfl) (Yn 14 33 rfl rfl hb10) (fun _ hB_ => by exact Yv (len := a1.terms.length) Try.underlying93 ag114.size (by exact tr rfl hv11) rfl h12 h13) (Za 28 1048575) (aF 20 (.pointer (some (Ad10.add ((IntKind.i64.wrap (s10 - 1)).toNat * 9 + 0)))) rfl rfl (hM10 20 rfl) (Yn 14 33 rfl rfl hb10) (fun _ => by exact Zaj ((IntKind.i64.wrap (s10 - 1)).toNat * 9 + 0) Try.underlying114 rfl ag49.size rfl rfl) (Za 28 2097151) (aL 21 (.agg (List.toArray (A8.enc .u8 ((a1.terms.getD ((IntKind.i64.wrap (s10 - 1)).toNat) default).mono)))) rfl rfl (hM11 21 rfl) (Yn 14 33 rfl rfl hb10) (fun _ hB_ => by exact Xw (A8.enc .u8 ((a1.terms.getD ((IntKind.i64.wrap (s10 - 1)).toNat) default).mono)) (Jq (o := 0) (k := 8) (Yk ((hC.grow hB_).getP 0 rfl) hv11 ((IntKind.i64.wrap (s10 - 1)).toNat) (show (IntKind.i64.wrap (s10 - 1)).toNat < a1.terms.length by omega)) rfl) ag49 rfl rfl) (Za 28 4194303) (aF 22 (.pointer (some ⟨b10, 0, none⟩)) rfl rfl (hM10 22 rfl) (Yn 14 33 rfl rfl hb10) (fun _ => by exact Z7 0 Try.underlying114 rfl ag49.size rfl rfl) (Za 28 8388607) (aL 23 (.agg (List.toArray (A8.enc .u8 ((a1.terms.getD s10.toNat default).mono)))) rfl rfl (hM11 23 rfl) (Yn 14 33 rfl rfl hb10) (fun _ hB_ => by exact Yu (hC.grow hB_) 0 (A8.enc .u8 ((a1.terms.getD s10.toNat default).mono)) rfl ag49 rfl rfl rfl) (Za 28 16777215) ?_))))
      refine Zv 24 (by decide) (by decide) (by kernel_rfl) (by kernel_rfl) rfl (Zm 14 33 rfl rfl hb10 ?_)
      refine Zf [.agg (List.toArray (A8.enc .u8 ((a1.terms.getD ((IntKind.i64.wrap (s10 - 1)).toNat) default).mono))), .agg (List.toArray (A8.enc .u8 ((a1.terms.getD s10.toNat default).mono)))] _ Try.func121 rfl rfl rfl (Zjc ((a1.terms.getD ((IntKind.i64.wrap (s10 - 1)).toNat) default).mono) ((a1.terms.getD s10.toNat default).mono) h _) (fun ret12 w16 hR12 => ?_)
      obtain ⟨r12, rfl, h, hB12⟩ := hR12
      refine ⟨_, rfl, ?_⟩
      replace hC := hC.grow hB12
      refine Zm 14 33 rfl rfl hb10 (X0 rfl (Zm 11 30 rfl rfl hb11 (Yb (v := .bool (!r12)) (b := true) (tr rfl (congrArg _ hb10)) rfl (Yb (v := .bool (!r12)) (b := false) (tr rfl (congrArg _ hb11)) rfl (done (Zw (Zd ?_)))))))
      refine Zr rfl (fun hb14 => ?_) (fun hb14 => ?_)
      ·replace h := ift h (Xq (X6 hb14))
       refine sr (Zc (v := .bool false) rfl (dn ?_))
       refine wp_ret (Yd (Zj (Zj (Yd (Zj ?_)))))
       refine Zo (fn := Try.f130) rfl ?_ ⟨false, rfl, h, hC.below⟩ (.inl rfl)
       exact Zh rfl
      ·replace h := Zi h (not_not_intro ((X7 hb14)))
       refine wp_skip (Zt (Zd (Zk (Zb (v := .int .i64 s10) rfl (Zq rfl rfl (Zc (v := .int .i64 (IntKind.i64.wrap (s10 + 1))) rfl (done ?_)))))))
       replace hC := hC.sM [1] (M' := [blk b5 95 [u1_0]]) (by decide) rfl
       exact hK10 (IntKind.i64.wrap (s10 + 1)) _ _ ⟨(sl ⟨rfl, rfl, rfl, trivial⟩), hC⟩ h
     ·replace h := Zi h (cf hb10)
      refine Zp Z3 15 undef rfl rfl (by kernel_rfl) (hM10 15 rfl) (fun w_ => .inr ⟨Yh (b := false) 14 33 rfl (tr rfl (congrArg _ hb10)) (by decide), rfl⟩) (l9 := (Za 28 65535)) (by kernel_rfl) (Zp Z3 16 undef rfl rfl (by kernel_rfl) (hM10 16 rfl) (fun w_ => .inr ⟨Yh (b := false) 14 33 rfl (tr rfl (congrArg _ hb10)) (by decide), rfl⟩) (l9 := (Za 28 131071)) (by kernel_rfl) (Zp Z3 17 undef rfl rfl (by kernel_rfl) (hM10 17 rfl) (fun w_ => .inr ⟨Yh (b := false) 14 33 rfl (tr rfl (congrArg _ hb10)) (by decide), rfl⟩) (l9 := (Za 28 262143)) (by kernel_rfl) (Zp Z3 18 undef rfl rfl (by kernel_rfl) (hM10 18 rfl) (fun w_ => .inr ⟨Yh (b := false) 14 33 rfl (tr rfl (congrArg _ hb10)) (by decide), rfl⟩) (l9 := (Za 28 524287)) (by kernel_rfl) (Zp Z3 19 undef rfl rfl (by kernel_rfl) (hM10 19 rfl) (fun w_ => .inr ⟨Yh (b := false) 14 33 rfl (tr rfl (congrArg _ hb10)) (by decide), rfl⟩) (l9 := (Za 28 1048575)) (by kernel_rfl) (Zp Z3 20 undef rfl rfl (by kernel_rfl) (hM10 20 rfl) (fun w_ => .inr ⟨Yh (b := false) 14 33 rfl (tr rfl (congrArg _ hb10)) (by decide), rfl⟩) (l9 := (Za 28 2097151)) (by kernel_rfl) (Zp Z3 21 undef rfl rfl (by kernel_rfl) (hM10 21 rfl) (fun w_ => .inr ⟨Yh (b := false) 14 33 rfl (tr rfl (congrArg _ hb10)) (by decide), rfl⟩) (l9 := (Za 28 4194303)) (by kernel_rfl) (Zp Z3 22 undef rfl rfl (by kernel_rfl) (hM10 22 rfl) (fun w_ => .inr ⟨Yh (b := false) 14 33 rfl (tr rfl (congrArg _ hb10)) (by decide), rfl⟩) (l9 := (Za 28 8388607)) (by kernel_rfl) ?_)))))))
      refine Zp Z3 23 undef rfl rfl (by kernel_rfl) (hM10 23 rfl) (fun w_ => .inr ⟨Yh (b := false) 14 33 rfl (tr rfl (congrArg _ hb10)) (by decide), rfl⟩) (l9 := (Za 28 16777215)) (by kernel_rfl) (Zv 24 (by decide) (by decide) (by kernel_rfl) (by kernel_rfl) rfl (Zn (b := false) 14 33 rfl (tr rfl (congrArg _ hb10)) (by decide) (Zn (b := false) 14 33 rfl (tr rfl (congrArg _ hb10)) (by decide) (Zm 11 30 rfl rfl hb11 (Yb (v := .bool false) (b := false) (tr rfl (congrArg _ hb10)) rfl (Yb (v := .bool false) (b := false) (tr rfl (congrArg _ hb11)) rfl (done (Zw (Zd (Yj rfl rfl (wp_skip ?_)))))))))))
      refine Zt (Zd (Zk (Zb (v := .int .i64 s10) rfl (Zq rfl rfl (Zc (v := .int .i64 (IntKind.i64.wrap (s10 + 1))) rfl (done ?_))))))
      replace hC := hC.sM [1] (M' := [blk b5 95 [u1_0]]) (by decide) rfl
      exact hK10 (IntKind.i64.wrap (s10 + 1)) _ _ ⟨(sl ⟨rfl, rfl, rfl, trivial⟩), hC⟩ h
  ·replace h := Zi h (cf hb13)
   refine wp_exit (Zl (Zl (Yc ?_)))
   refine Zd (sr (Z1 0 Try.underlying95 rfl sc93.size rfl rfl (Z8 hC 0 (u1_0) rfl sc93 rfl rfl ?_)))
   obtain ⟨Ad13, c13, hv13⟩ := Z2 (hC.getP 0 rfl)
   refine Z0 Try.underlying93 (tr rfl hv13) (Zbi rfl rfl (Zc (v := .bool (decide ((a1.terms.length : Int) ≤ 400))) rfl (dn (wp_ret ?_))))
   refine Zo (fn := Try.f130) rfl ?_ ⟨decide ((a1.terms.length : Int) ≤ 400), rfl, h, hC.below⟩ (.inl rfl)
   exact Zh rfl
 ·skip
  exact ⟨(sl ⟨rfl, rfl, rfl, trivial⟩), hC⟩
def Zca (a0 : List Int) (a1 : A8) (K : Int → Prop) : Prop :=
 Yy (fun i10 (s10 : Int) nx10 => ((0 ≤ (i10 : Int) ∧ (i10 : Int) < 8) ∧ nx10 (IntKind.i64.wrap (s10 + (IntKind.i64.wrap ((a0.getD i10 default) * (IntKind.i64.wrap (a1.get i10)))))))) (fun (s10 : Int) => K s10) a0.length 0 0
theorem Zjd (a0 : List Int) (a1 : A8) {u0_0 : Value} {fp0 : List Nat} {K : Int → Prop} (h : Zca a0 a1 K) (w0 : World) (q0 : ((EI .i64).ty.sl).rep a0 [u0_0] fp0 w0) :
  Calls Try.prog 152 #[u0_0, .agg (List.toArray (A8.enc .u8 a1))] w0 fun e w' => ∃ (r0 : Int), 
   e = .returned (.int .i64 r0) ∧ K r0 ∧ Bel w0 w' := by
 unfold Zca at h
 refine Z6 (args := [u0_0, .agg (List.toArray (A8.enc .u8 a1))]) Try.func152 rfl 25 Try.ntmps152 (Nat.le_of_ble_eq_true rfl) ?_
 have hC := Ctx.start (X := Nox) w0 [Ty.item ((EI .i64).ty.sl) a0 [u0_0] fp0] (by simp only [List.mem_cons, List.not_mem_nil, or_false, forall_eq_or_imp, forall_eq]; exact q0)
 refine sr (Ye (v := .agg (List.toArray (A8.enc .u8 a1))) hC (A8.enc .u8 a1) rfl rfl fun b2 w4 hB_ hC => Zc (v := .int .i64 0) rfl (dn (sr (Zc (v := .int .i64 0) rfl (dn (wp_seq (sr (Zc (v := .int .i64 0) rfl (dn (wp_block ?_))))))))))
 have hN10 : a0.length ≤ 9223372036854775807 := Xv (hC.getP 0 rfl)
 refine Y6 (S := Int) _ _ (fun i10 s10 e_ w_ => Z4 e_ [(0, u0_0), (3, .pointer (some ⟨b2, 0, none⟩)), (5, .int .i64 s10), (6, .int .i64 (i10 : Int))] ∧ Ctx Nox w0 w_ [blk b2 49 (A8.enc .u8 a1)] [Ty.item ((EI .i64).ty.sl) a0 [u0_0] fp0]) a0.length ?_ ?_ (s0 := 0) ?_ h
 ·clear hC h
  rintro i10 s10 e_ w10 nx10 K10 hi10 ⟨hS_, hC⟩ h hK10
  rw [ue hS_]
  refine wp_seq (sr (Zb (v := .int .i64 (i10 : Int)) rfl (Zb (v := u0_0) rfl ?_)))
  obtain ⟨Ad11, c10, hv11⟩ := Z2 (hC.getP 0 rfl)
  refine Z0 Try.underlying22 (tr rfl hv11) (Zs rfl rfl (dn (Yq rfl (decide_eq_true (by omega)) (wp_skip (Zd (wp_seq (wp_block ?_)))))))
  refine Ym 10 Yg [0, 0, 0, 6, 14, 0, 32, 96, 224, 510, 1023, 2047] [3, 4, 6, 7] [0, 1, 2, 5, 8, 9] (by kernel_rfl) (by kernel_rfl) (by kernel_rfl) (fun hM11 hM10 w11 hB_ => ?_)
  replace hC := hC.grow hB_
  refine aF 0 (.int .i64 s10) rfl rfl (hM10 0 rfl) (rfl) (fun _ => by exact Zg (v := .int .i64 s10) rfl) (Za 12 1) (aF 1 (u0_0) rfl rfl (hM10 1 rfl) (rfl) (fun _ => by exact Zg (v := u0_0) rfl) (Za 12 3) (aF 2 (.int .i64 (i10 : Int)) rfl rfl (hM10 2 rfl) (rfl) (fun _ => by exact Zg (v := .int .i64 (i10 : Int)) rfl) (Za 12 7) ?_))
  obtain ⟨Ad10, c11, hv10⟩ := Z9 (hC.getP 0 rfl) i10 hi10
  refine aL 3 (.pointer (some (Ad10.add (i10 * 1)))) rfl rfl (hM11 3 rfl) (rfl) (fun _ hB_ => by exact Yv (len := a0.length) Try.underlying22 sc2.size (by exact tr rfl hv10) rfl (Int.natCast_nonneg _) (Int.ofNat_lt.2 hi10)) (Za 12 15) (aL 4 (.int .i64 (a0.getD i10 default)) rfl rfl (hM11 4 rfl) (rfl) (fun _ hB_ => by exact Jf (.int .i64 (a0.getD i10 default)) (Yk ((hC.grow hB_).getP 0 rfl) hv10 i10 hi10) sc2 rfl) (Za 12 31) (aF 5 (.int .i64 (i10 : Int)) rfl rfl (hM10 5 rfl) (rfl) (fun _ => by exact Zg (v := .int .i64 (i10 : Int)) rfl) (Za 12 63) ?_))
  obtain ⟨⟨h10, h11⟩, h⟩ := h
  refine aL 6 (.pointer (some ⟨b2, i10, none⟩)) rfl rfl (hM11 6 rfl) (rfl) (fun _ hB_ => by exact Jy i10 Try.underlying49 sc5.size rfl rfl h10 h11 (by omega)) (Za 12 127) (aL 7 (.int .u8 (a1.get i10)) rfl rfl (hM11 7 rfl) (rfl) (fun _ hB_ => by exact Z5 (hC.grow hB_) 0 (.int .u8 (a1.get i10)) rfl sc5 rfl (A8.enc_get _ _ (show i10 < 8 by omega))) (Za 12 255) (aF 8 (.int .i64 (IntKind.i64.wrap (a1.get i10))) rfl rfl (hM10 8 rfl) (rfl) (fun _ => by exact Zeb Try.underlying5 Try.underlying2 rfl) (Za 12 511) (aF 9 (.int .i64 (IntKind.i64.wrap ((a0.getD i10 default) * (IntKind.i64.wrap (a1.get i10))))) rfl rfl (hM10 9 rfl) (rfl) (fun _ => by exact Zbh rfl rfl) (Za 12 1023) (Zv 10 (by decide) (by decide) (by kernel_rfl) (by kernel_rfl) rfl (Zq rfl rfl (Zc (v := .int .i64 (IntKind.i64.wrap (s10 + (IntKind.i64.wrap ((a0.getD i10 default) * (IntKind.i64.wrap (a1.get i10))))))) rfl (done (Zw (Zt (Zd (Zk ?_)))))))))))
  refine Zb (v := .int .i64 (i10 : Int)) rfl (Zq rfl rfl (Zc (v := .int .i64 (IntKind.i64.wrap ((i10 : Int) + 1))) rfl (done ?_)))
  exact hK10 (IntKind.i64.wrap (s10 + (IntKind.i64.wrap ((a0.getD i10 default) * (IntKind.i64.wrap (a1.get i10)))))) _ _ ⟨(sl ⟨rfl, rfl, rfl, (tr rfl (congrArg _ (Yi hi10 hN10))), trivial⟩), hC⟩ h
 ·clear hC h
  rintro s10 e_ w12 K10 ⟨hS_, hC⟩ h
  rw [ue hS_]
  refine wp_seq (sr (Zb (v := .int .i64 (a0.length : Int)) rfl (Zb (v := u0_0) rfl ?_)))
  obtain ⟨Ad12, c12, hv12⟩ := Z2 (hC.getP 0 rfl)
  refine Z0 Try.underlying22 (tr rfl hv12) (Zs rfl rfl (dn (Yj rfl (decide_eq_false (by omega)) ?_)))
  refine wp_exit (Zl (Zl (Yc ?_)))
  refine Zd (sr (Zb (v := .int .i64 s10) rfl (Zc (v := .int .i64 s10) rfl (dn (wp_ret ?_)))))
  refine Zo (fn := Try.f152) rfl ?_ ⟨s10, rfl, h, hC.below⟩ (.inl rfl)
  exact Zh rfl
 ·skip
  exact ⟨(sl ⟨rfl, rfl, rfl, rfl, trivial⟩), hC⟩
def Ze9 (a0 : List Int) (a1 : Vc.Form) (K : Int → Bool → Prop) : Prop :=
 (if (a1.terms.length : Int) = 0 then K (-1) true else ((0 ≤ (0 : Int) ∧ (0 : Int) < (a1.terms.length : Int)) ∧ Zca a0 ((a1.terms.getD 0 default).mono) (fun r10 => Xf (fun (s10 : Int) nx10 => (if s10 < (a1.terms.length : Int) then ((0 ≤ s10 ∧ s10 < (a1.terms.length : Int)) ∧ Zca a0 ((a1.terms.getD s10.toNat default).mono) (fun r11 => (if r11 ≠ r10 then K 0 false else nx10 (IntKind.i64.wrap (s10 + 1))))) else K r10 true)) 1)))
theorem Zql (a0 : List Int) (a1 : Vc.Form) {u0_0 : Value} {u1_0 : Value} {fp0 : List Nat} {fp1 : List Nat} {K : Int → Bool → Prop} (h : Ze9 a0 a1 K) (w0 : World) (q0 : ((EI .i64).ty.sl).rep a0 [u0_0] fp0 w0) (q1 : TForm.rep a1 [u1_0] fp1 w0) :
  Calls Try.prog 131 #[u0_0, .agg #[u1_0]] w0 fun e w' => ∃ (r0 : Int) (r1 : Bool), 
   e = .returned (.tuple #[.int .i64 r0, .bool r1]) ∧ K r0 r1 ∧ Bel w0 w' := by
 unfold Ze9 at h
 refine Z6 (args := [u0_0, .agg #[u1_0]]) Try.func131 rfl 37 Try.ntmps131 (Nat.le_of_ble_eq_true rfl) ?_
 have hC := Ctx.start (X := Nox) w0 [Ty.item ((EI .i64).ty.sl) a0 [u0_0] fp0, Ty.item TForm a1 [u1_0] fp1] (by simp only [List.mem_cons, List.not_mem_nil, or_false, forall_eq_or_imp, forall_eq]; exact ⟨q0, q1⟩)
 have hp3 := (hC.getP 1 rfl)
 replace hC := hC.derive 1 rfl (Ty.item ETerm.ty.sl a1.terms [u1_0] fp1) (fun _ => (Xb hp3)) (fun _ hb_ => hb_)
 refine sr (Ye (v := .agg #[u1_0]) hC [u1_0] rfl rfl fun b5 w7 hB_ hC => Zc (v := .int .i64 0) rfl (Zc (v := .bool false) rfl (dn (wp_seq (sr (Z1 0 Try.underlying95 rfl sc93.size rfl rfl (Z8 hC 0 (u1_0) rfl sc93 rfl rfl ?_)))))))
 obtain ⟨Ad8, c9, hv12⟩ := Z2 (hC.getP 0 rfl)
 refine Z0 Try.underlying93 (tr rfl hv12) (Jl rfl rfl (dn ?_))
 refine Zr rfl (fun hb10 => ?_) (fun hb10 => ?_)
 ·replace h := ift h (ct hb10)
  refine sr (Zc (v := .int .i64 (-1)) rfl (Zc (v := .bool true) rfl (dn ?_)))
  refine wp_ret (Zj ?_)
  refine Jn (fn := Try.f131) rfl ?_ ?_ ⟨(-1), true, rfl, h, hC.below⟩ (.inl rfl)
  ·exact Zh rfl
  ·exact Zh rfl
 ·replace h := Zi h (cf hb10)
  refine wp_skip (Zd (sr (Zb (v := u0_0) rfl (Z1 0 Try.underlying95 rfl sc93.size rfl rfl (Z8 hC 0 (u1_0) rfl sc93 rfl rfl ?_)))))
  obtain ⟨⟨h10, h11⟩, h⟩ := h
  obtain ⟨Ad10, c10, hv10⟩ := Z9 (hC.getP 0 rfl) 0 (show 0 < a1.terms.length by omega)
  refine Xe (len := a1.terms.length) Try.underlying93 ag114.size (tr rfl hv10) rfl h10 h11 (Zdf (0 * 9 + 0) Try.underlying114 rfl ag49.size rfl rfl (Zak (A8.enc .u8 ((a1.terms.getD 0 default).mono)) (Jq (o := 0) (k := 8) (Yk (hC.getP 0 rfl) hv10 0 (show 0 < a1.terms.length by omega)) rfl) ag49 rfl rfl ?_))
  refine Zf [u0_0, .agg (List.toArray (A8.enc .u8 ((a1.terms.getD 0 default).mono)))] _ Try.func152 rfl rfl rfl (Zjd a0 ((a1.terms.getD 0 default).mono) h _ (hC.getP 1 rfl)) (fun ret10 w10 hR10 => ?_)
  obtain ⟨r10, rfl, h, hB10⟩ := hR10
  refine ⟨_, rfl, ?_⟩
  replace hC := hC.grow hB10
  refine Zc (v := .int .i64 r10) rfl (dn (wp_seq (sr (Zc (v := .int .i64 1) rfl (dn (wp_block ?_))))))
  refine Xu (S := Int) _ (fun s10 e_ w_ => Z4 e_ [(0, u0_0), (3, .pointer (some ⟨b5, 0, none⟩)), (6, .int .i64 r10), (7, .int .i64 s10)] ∧ Ctx Nox w0 w_ [blk b5 95 [u1_0]] [Ty.item ETerm.ty.sl a1.terms [u1_0] fp1, Ty.item ((EI .i64).ty.sl) a0 [u0_0] fp0, Ty.item TForm a1 [u1_0] fp1]) ?_ (s0 := 1) ?_ h
  ·clear hC h
   rintro s10 e_ w11 nx10 K10 ⟨hS_, hC⟩ h hK10
   rw [ue hS_]
   refine wp_seq (sr (Zb (v := .int .i64 s10) rfl (Z1 0 Try.underlying95 rfl sc93.size rfl rfl (Z8 hC 0 (u1_0) rfl sc93 rfl rfl ?_))))
   obtain ⟨Ad11, c11, hv13⟩ := Z2 (hC.getP 0 rfl)
   refine Z0 Try.underlying93 (tr rfl hv13) (Zs rfl rfl (dn ?_))
   refine Zr rfl (fun hb11 => ?_) (fun hb11 => ?_)
   ·replace h := ift h (ct hb11)
    refine wp_skip (Zd (wp_seq (wp_block (sr (Zb (v := u0_0) rfl (Z1 0 Try.underlying95 rfl sc93.size rfl rfl (Z8 hC 0 (u1_0) rfl sc93 rfl rfl (Zb (v := .int .i64 s10) rfl ?_))))))))
    obtain ⟨⟨h12, h13⟩, h⟩ := h
    obtain ⟨Ad12, c12, hv11⟩ := Z9 (hC.getP 0 rfl) s10.toNat (show s10.toNat < a1.terms.length by omega)
    refine Xe (len := a1.terms.length) Try.underlying93 ag114.size (tr rfl hv11) rfl h12 h13 (Zdf (s10.toNat * 9 + 0) Try.underlying114 rfl ag49.size rfl rfl (Zak (A8.enc .u8 ((a1.terms.getD s10.toNat default).mono)) (Jq (o := 0) (k := 8) (Yk (hC.getP 0 rfl) hv11 s10.toNat (show s10.toNat < a1.terms.length by omega)) rfl) ag49 rfl rfl ?_))
    refine Zf [u0_0, .agg (List.toArray (A8.enc .u8 ((a1.terms.getD s10.toNat default).mono)))] _ Try.func152 rfl rfl rfl (Zjd a0 ((a1.terms.getD s10.toNat default).mono) h _ (hC.getP 1 rfl)) (fun ret11 w12 hR11 => ?_)
    obtain ⟨r11, rfl, h, hB11⟩ := hR11
    refine ⟨_, rfl, ?_⟩
    replace hC := hC.grow hB11
    refine Zb (v := .int .i64 r10) rfl (Xj rfl rfl (dn ?_))
    refine Zr rfl (fun hb12 => ?_) (fun hb12 => ?_)
    ·replace h := ift h (ct hb12)
     refine sr (Zc (v := .int .i64 0) rfl (Zc (v := .bool false) rfl (dn ?_)))
     refine wp_ret (Yd (Zj (Zj (Yd (Zj ?_)))))
     refine Jn (fn := Try.f131) rfl ?_ ?_ ⟨0, false, rfl, h, hC.below⟩ (.inl rfl)
     ·exact Zh rfl
     ·exact Zh rfl
    ·replace h := Zi h (cf hb12)
     refine wp_skip (Zt (Zd (Zk (Zb (v := .int .i64 s10) rfl (Zq rfl rfl (Zc (v := .int .i64 (IntKind.i64.wrap (s10 + 1))) rfl (done ?_)))))))
     exact hK10 (IntKind.i64.wrap (s10 + 1)) _ _ ⟨(sl ⟨rfl, rfl, rfl, rfl, trivial⟩), hC⟩ h
   ·replace h := Zi h (cf hb11)
    refine wp_exit (Zl (Zl (Yc ?_)))
    refine Zd (sr (Zb (v := .int .i64 r10) rfl (Zc (v := .int .i64 r10) rfl (Zc (v := .bool true) rfl (dn (wp_ret ?_))))))
    refine Jn (fn := Try.f131) rfl ?_ ?_ ⟨r10, true, rfl, h, hC.below⟩ (.inl rfl)
    ·exact Zh rfl
    ·exact Zh rfl
  ·skip
   exact ⟨(sl ⟨rfl, rfl, rfl, rfl, trivial⟩), hC⟩
def Zdo (a0 : Alg) (a1 : Vc.Form) (K : Vc.Form → Prop) : Prop :=
 Xf (fun (s11 : (List Term) × Int) nx12 => (if s11.2 < (a1.terms.length : Int) then ((0 ≤ s11.2 ∧ s11.2 < (a1.terms.length : Int)) ∧ Xf (fun (s10 : (List Term) × Int) nx11 => (if s10.2 < (a0.degrees.length : Int) then ((0 ≤ s10.2 ∧ s10.2 < 8) ∧ (if ((a1.terms.getD s11.2.toNat default).mono).get s10.2.toNat = 0 then nx11 (s10.1, IntKind.i64.wrap (s10.2 + 1)) else Yy (fun i10 (s12 : A8 × A8) nx10 => (if (i10 : Int) ≥ s10.2 then (if (i10 : Int) ≤ s10.2 then nx10 (s12.1.set i10 0, s12.2.set i10 0) else nx10 (s12.1.set i10 0, s12.2)) else (if (i10 : Int) ≤ s10.2 then nx10 (s12.1, s12.2.set i10 0) else nx10 (s12.1, s12.2)))) (fun (s12 : A8 × A8) => ((0 ≤ s10.2 ∧ s10.2 < 8) ∧ ((0 ≤ s10.2 ∧ s10.2 < 8) ∧ ((0 ≤ s11.2 ∧ s11.2 < (a1.terms.length : Int)) ∧ ((0 ≤ s10.2 ∧ s10.2 < 8) ∧ Zca a0.degrees s12.1 (fun r28 => (if Int.tmod r28 2 ≠ 0 then ((0 ≤ s10.2 ∧ s10.2 < (a0.images.length : Int)) ∧ X2 (s12.1.set s10.2.toNat (IntKind.u8.wrap ((((a1.terms.getD s11.2.toNat default).mono).get s10.2.toNat) - 1))) 1 (fun r18 => Ja a0.degrees r18 (a0.images.getD s10.2.toNat default) (fun r12 => X2 s12.2 1 (fun r13 => Ja a0.degrees r12 r13 (fun r14 => Ju (IntKind.i64.wrap (0 - (IntKind.i64.wrap (((a1.terms.getD s11.2.toNat default).factor) * (IntKind.i64.wrap (((a1.terms.getD s11.2.toNat default).mono).get s10.2.toNat)))))) (fun r20 => J4 (⟨s10.1⟩ : Vc.Form) r14 r20 (fun r10 => nx11 (r10.terms, IntKind.i64.wrap (s10.2 + 1))))))))) else ((0 ≤ s10.2 ∧ s10.2 < (a0.images.length : Int)) ∧ X2 (s12.1.set s10.2.toNat (IntKind.u8.wrap ((((a1.terms.getD s11.2.toNat default).mono).get s10.2.toNat) - 1))) 1 (fun r19 => Ja a0.degrees r19 (a0.images.getD s10.2.toNat default) (fun r15 => X2 s12.2 1 (fun r16 => Ja a0.degrees r15 r16 (fun r17 => Ju (IntKind.i64.wrap (((a1.terms.getD s11.2.toNat default).factor) * (IntKind.i64.wrap (((a1.terms.getD s11.2.toNat default).mono).get s10.2.toNat)))) (fun r21 => J4 (⟨s10.1⟩ : Vc.Form) r17 r21 (fun r11 => nx11 (r11.terms, IntKind.i64.wrap (s10.2 + 1)))))))))))))))) 8 0 ((a1.terms.getD s11.2.toNat default).mono, (a1.terms.getD s11.2.toNat default).mono))) else nx12 (s10.1, IntKind.i64.wrap (s11.2 + 1)))) (s11.1, 0)) else K (⟨s11.1⟩ : Vc.Form))) ([], 0)
theorem Zl1 (a0 : Alg) (a1 : Vc.Form) {u0_0 : Value} {u0_1 : Value} {u1_0 : Value} {fp0 : List Nat} {fp1 : List Nat} {K : Vc.Form → Prop} (h : Zdo a0 a1 K) (w0 : World) (q0 : TAlg.rep a0 [u0_0, u0_1] fp0 w0) (q1 : TForm.rep a1 [u1_0] fp1 w0) :
  Calls Try.prog 132 #[.agg #[u0_0, u0_1], .agg #[u1_0]] w0 fun e w' => ∃ (r0 : Vc.Form) (z0_0 : Value) (fz0 : List Nat), 
   e = .returned (.agg #[z0_0]) ∧ K r0 ∧ (Tr.item (Zz 114) r0 [z0_0] fz0).holds w' ∧ (∀ b, b ∈ fz0 → w0.heap.size ≤ b) ∧ Bel w0 w' := by
 unfold Zdo at h
 refine Z6 (args := [.agg #[u0_0, u0_1], .agg #[u1_0]]) Try.func132 rfl 103 Try.ntmps132 (Nat.le_of_ble_eq_true rfl) ?_
 have hC := Ctx.start (X := Nox) w0 [Ty.item TAlg a0 [u0_0, u0_1] fp0, Ty.item TForm a1 [u1_0] fp1] (by simp only [List.mem_cons, List.not_mem_nil, or_false, forall_eq_or_imp, forall_eq]; exact ⟨q0, q1⟩)
 have hp3 := (hC.getP 0 rfl)
 replace hC := hC.derive 0 rfl (Ty.item ((EI .i64).ty.sl) a0.degrees [u0_0] fp0) (fun _ => (Yt hp3).1) (fun _ hb_ => hb_)
 replace hC := hC.derive 1 rfl (Ty.item TForm.sl a0.images [u0_1] fp0) (fun _ => (Yt hp3).2) (fun _ hb_ => hb_)
 have hp6 := (hC.getP 3 rfl)
 replace hC := hC.derive 3 rfl (Ty.item ETerm.ty.sl a1.terms [u1_0] fp1) (fun _ => (Xb hp6)) (fun _ hb_ => hb_)
 refine sr (Ye (v := .agg #[u0_0, u0_1]) hC [u0_0, u0_1] rfl rfl fun b8 w11 hB_ hC => Ye (v := .agg #[u1_0]) hC [u1_0] rfl rfl fun b10 w12 hB_ hC => Yf hC [.slice none 0 0] z95 rfl fun b11 w13 hB_ hC => dn (sr (Jd [] rfl (Zcx   _) (Yf hC [.slice none 0 0] z95 rfl fun b12 w14 hB_ hC => Zu (v := .agg #[.slice none 0 0]) hC 0 [.slice none 0 0] [.slice none 0 0] rfl ag95.size rfl rfl rfl rfl rfl (Nat.le_of_ble_eq_true rfl) rfl fun w15 hC => dn (wp_seq (sr ?_))))))
 refine Zc (v := .int .i64 0) rfl (dn (wp_block ?_))
 refine Xu (S := (List Term) × Int) _ (fun s11 e_ w_ => ∃ (v11 : Value), Z4 e_ [(2, .pointer (some ⟨b8, 0, none⟩)), (3, .pointer (some ⟨b10, 0, none⟩)), (4, .pointer (some ⟨b11, 0, none⟩)), (5, .pointer (some ⟨b12, 0, none⟩)), (6, .int .i64 s11.2)] ∧ Ctx Nox w0 w_ [own 114 9 v11 s11.1.length (ETerm.encs s11.1), blk b12 95 [v11], blk b11 95 [.slice none 0 0], blk b10 95 [u1_0], blk b8 32 [u0_0, u0_1]] [Ty.item ETerm.ty.sl a1.terms [u1_0] fp1, Ty.item TForm.sl a0.images [u0_1] fp0, Ty.item ((EI .i64).ty.sl) a0.degrees [u0_0] fp0, Ty.item TAlg a0 [u0_0, u0_1] fp0, Ty.item TForm a1 [u1_0] fp1]) ?_ (s0 := ([], 0)) ?_ h
 ·clear hC h
  rintro s11 e_ w16 nx12 K11 ⟨v11, hS_, hC⟩ h hK12
  rw [ue hS_]
  refine wp_seq (sr (Zb (v := .int .i64 s11.2) rfl (Z1 0 Try.underlying95 rfl sc93.size rfl rfl (Z8 hC 3 (u1_0) rfl sc93 rfl rfl ?_))))
  obtain ⟨Ad13, c10, hv14⟩ := Z2 (hC.getP 0 rfl)
  refine Z0 Try.underlying93 (tr rfl hv14) (Zs rfl rfl (dn ?_))
  refine Zr rfl (fun hb10 => ?_) (fun hb10 => ?_)
  ·replace h := ift h (ct hb10)
   refine wp_skip (Zd (wp_seq (wp_block (sr (Z1 0 Try.underlying95 rfl sc93.size rfl rfl (Z8 hC 3 (u1_0) rfl sc93 rfl rfl (Zb (v := .int .i64 s11.2) rfl ?_)))))))
   obtain ⟨⟨h10, h11⟩, h⟩ := h
   obtain ⟨Ad14, c11, hv10⟩ := Z9 (hC.getP 0 rfl) s11.2.toNat (show s11.2.toNat < a1.terms.length by omega)
   refine Xe (len := a1.terms.length) Try.underlying93 ag114.size (tr rfl hv10) rfl h10 h11 (Zdf (s11.2.toNat * 9 + 0) Try.underlying114 rfl ag49.size rfl rfl (Zak (A8.enc .u8 ((a1.terms.getD s11.2.toNat default).mono)) (Jq (o := 0) (k := 8) (Yk (hC.getP 0 rfl) hv10 s11.2.toNat (show s11.2.toNat < a1.terms.length by omega)) rfl) ag49 rfl rfl (Yf hC (A8.enc .u8 A8.zero) z49 rfl fun b13 w17 hB_ hC => Zu (v := .agg (List.toArray (A8.enc .u8 ((a1.terms.getD s11.2.toNat default).mono)))) hC 0 (A8.enc .u8 ((a1.terms.getD s11.2.toNat default).mono)) (A8.enc .u8 ((a1.terms.getD s11.2.toNat default).mono)) rfl ag49.size rfl rfl rfl rfl rfl (Nat.le_of_ble_eq_true rfl) rfl fun w18 hC => dn (sr (Zc (v := .int .i64 0) rfl (dn (wp_block ?_)))))))
   refine Xu (S := (List Term) × Int) _ (fun s10 e_ w_ => ∃ (v10 : Value), Z4 e_ [(2, .pointer (some ⟨b8, 0, none⟩)), (3, .pointer (some ⟨b10, 0, none⟩)), (4, .pointer (some ⟨b11, 0, none⟩)), (5, .pointer (some ⟨b12, 0, none⟩)), (6, .int .i64 s11.2), (7, .pointer (some ⟨b13, 0, none⟩)), (8, .int .i64 s10.2)] ∧ Ctx Nox w0 w_ [own 114 9 v10 s10.1.length (ETerm.encs s10.1), blk b13 49 (A8.enc .u8 ((a1.terms.getD s11.2.toNat default).mono)), blk b12 95 [v10], blk b11 95 [.slice none 0 0], blk b10 95 [u1_0], blk b8 32 [u0_0, u0_1]] [Ty.item ETerm.ty.sl a1.terms [u1_0] fp1, Ty.item TForm.sl a0.images [u0_1] fp0, Ty.item ((EI .i64).ty.sl) a0.degrees [u0_0] fp0, Ty.item TAlg a0 [u0_0, u0_1] fp0, Ty.item TForm a1 [u1_0] fp1]) ?_ (s0 := (s11.1, 0)) ?_ h
   ·clear hC h
    rintro s10 e_ w19 nx11 K12 ⟨v10, hS_, hC⟩ h hK11
    rw [ue hS_]
    refine wp_seq (sr (Zb (v := .int .i64 s10.2) rfl (Z1 0 Try.underlying32 rfl sc22.size rfl rfl (Z8 hC 5 (u0_0) rfl sc22 rfl rfl ?_))))
    obtain ⟨Ad15, c12, hv15⟩ := Z2 (hC.getP 2 rfl)
    refine Z0 Try.underlying22 (tr rfl hv15) (Zs rfl rfl (dn ?_))
    refine Zr rfl (fun hb11 => ?_) (fun hb11 => ?_)
    ·replace h := ift h (ct hb11)
     refine wp_skip (Zd (wp_seq (wp_block (wp_seq (sr (Zb (v := .int .i64 s10.2) rfl ?_))))))
     obtain ⟨⟨h12, h13⟩, h⟩ := h
     refine Y1 s10.2.toNat Try.underlying49 sc5.size rfl rfl h12 h13 (by omega) (Z8 hC 1 (.int .u8 (((a1.terms.getD s11.2.toNat default).mono).get s10.2.toNat)) rfl sc5 rfl (A8.enc_get _ _ (show s10.2.toNat < 8 by omega)) (Jl rfl rfl (dn ?_)))
     refine Zr rfl (fun hb12 => ?_) (fun hb12 => ?_)
     ·replace h := ift h (ct hb12)
      refine wp_exit (Zl (Yc ?_))
      refine Zd (Zk (Zb (v := .int .i64 s10.2) rfl (Zq rfl rfl (Zc (v := .int .i64 (IntKind.i64.wrap (s10.2 + 1))) rfl (done ?_)))))
      exact hK11 (s10.1, IntKind.i64.wrap (s10.2 + 1)) _ _ ⟨v10, (sl ⟨rfl, rfl, rfl, rfl, rfl, rfl, rfl, trivial⟩), hC⟩ h
     ·replace h := Zi h (cf hb12)
      refine wp_skip (Zd (wp_seq ?_))
      refine Zdk 5 Yg [0, 0, 0, 0, 13, 31] [0, 1] [] (by kernel_rfl) (by kernel_rfl) (by kernel_rfl) (fun hM18 hM21 w10 hB_ => ?_)
      replace hC := hC.grow hB_
      have hN_ : w10.heap.size ≤ w10.heap.size := Nat.le_refl _
      refine Jo (Ya _) 0 (.agg (List.toArray (A8.enc .u8 ((a1.terms.getD s11.2.toNat default).mono)))) rfl rfl (by kernel_rfl) (hM18 0 rfl) (fun w_ hB_ => .inl ⟨rfl, by exact Yu (hC.grow (J7 hB_)) 1 (A8.enc .u8 ((a1.terms.getD s11.2.toNat default).mono)) rfl ag49 rfl rfl rfl⟩) (l9 := (Za 6 1)) (by kernel_rfl) (Jo (Ya _) 1 (.agg (List.toArray (A8.enc .u8 ((a1.terms.getD s11.2.toNat default).mono)))) rfl rfl (by kernel_rfl) (hM18 1 rfl) (fun w_ hB_ => .inl ⟨rfl, by exact Yu (hC.grow (J7 hB_)) 1 (A8.enc .u8 ((a1.terms.getD s11.2.toNat default).mono)) rfl ag49 rfl rfl rfl⟩) (l9 := (Za 6 3)) (by kernel_rfl) ?_)
      refine Zbb (fun e_ w_ => ∃ (b14 : Nat), ∃ (b15 : Nat), Z4 e_ [(2, .pointer (some ⟨b8, 0, none⟩)), (3, .pointer (some ⟨b10, 0, none⟩)), (4, .pointer (some ⟨b11, 0, none⟩)), (5, .pointer (some ⟨b12, 0, none⟩)), (6, .int .i64 s11.2), (7, .pointer (some ⟨b13, 0, none⟩)), (8, .int .i64 s10.2), (9, .pointer (some ⟨b15, 0, none⟩)), (10, .pointer (some ⟨b14, 0, none⟩))] ∧ Ctx Nox w0 w_ [blk b14 49 (A8.enc .u8 ((a1.terms.getD s11.2.toNat default).mono)), blk b15 49 (A8.enc .u8 ((a1.terms.getD s11.2.toNat default).mono)), own 114 9 v10 s10.1.length (ETerm.encs s10.1), blk b13 49 (A8.enc .u8 ((a1.terms.getD s11.2.toNat default).mono)), blk b12 95 [v10], blk b11 95 [.slice none 0 0], blk b10 95 [u1_0], blk b8 32 [u0_0, u0_1]] [Ty.item ETerm.ty.sl a1.terms [u1_0] fp1, Ty.item TForm.sl a0.images [u0_1] fp0, Ty.item ((EI .i64).ty.sl) a0.degrees [u0_0] fp0, Ty.item TAlg a0 [u0_0, u0_1] fp0, Ty.item TForm a1 [u1_0] fp1] ∧ (Yy (fun i10 (s12 : A8 × A8) nx10 => (if (i10 : Int) ≥ s10.2 then (if (i10 : Int) ≤ s10.2 then nx10 (s12.1.set i10 0, s12.2.set i10 0) else nx10 (s12.1.set i10 0, s12.2)) else (if (i10 : Int) ≤ s10.2 then nx10 (s12.1, s12.2.set i10 0) else nx10 (s12.1, s12.2)))) (fun (s12 : A8 × A8) => ((0 ≤ s10.2 ∧ s10.2 < 8) ∧ ((0 ≤ s10.2 ∧ s10.2 < 8) ∧ ((0 ≤ s11.2 ∧ s11.2 < (a1.terms.length : Int)) ∧ ((0 ≤ s10.2 ∧ s10.2 < 8) ∧ Zca a0.degrees s12.1 (fun r28 => (if Int.tmod r28 2 ≠ 0 then ((0 ≤ s10.2 ∧ s10.2 < (a0.images.length : Int)) ∧ X2 (s12.1.set s10.2.toNat (IntKind.u8.wrap ((((a1.terms.getD s11.2.toNat default).mono).get s10.2.toNat) - 1))) 1 (fun r18 => Ja a0.degrees r18 (a0.images.getD s10.2.toNat default) (fun r12 => X2 s12.2 1 (fun r13 => Ja a0.degrees r12 r13 (fun r14 => Ju (IntKind.i64.wrap (0 - (IntKind.i64.wrap (((a1.terms.getD s11.2.toNat default).factor) * (IntKind.i64.wrap (((a1.terms.getD s11.2.toNat default).mono).get s10.2.toNat)))))) (fun r20 => J4 (⟨s10.1⟩ : Vc.Form) r14 r20 (fun r10 => nx11 (r10.terms, IntKind.i64.wrap (s10.2 + 1))))))))) else ((0 ≤ s10.2 ∧ s10.2 < (a0.images.length : Int)) ∧ X2 (s12.1.set s10.2.toNat (IntKind.u8.wrap ((((a1.terms.getD s11.2.toNat default).mono).get s10.2.toNat) - 1))) 1 (fun r19 => Ja a0.degrees r19 (a0.images.getD s10.2.toNat default) (fun r15 => X2 s12.2 1 (fun r16 => Ja a0.degrees r15 r16 (fun r17 => Ju (IntKind.i64.wrap (((a1.terms.getD s11.2.toNat default).factor) * (IntKind.i64.wrap (((a1.terms.getD s11.2.toNat default).mono).get s10.2.toNat)))) (fun r21 => J4 (⟨s10.1⟩ : Vc.Form) r17 r21 (fun r11 => nx11 (r11.terms, IntKind.i64.wrap (s10.2 + 1)))))))))))))))) 8 0 ((a1.terms.getD s11.2.toNat default).mono, (a1.terms.getD s11.2.toNat default).mono))) ?_ ?_
      ·clear hC h
       rintro e_ w20 ⟨b14, b15, hS_, hC, h⟩
       rw [ue hS_]
       refine Zd (wp_seq (sr (Zc (v := .int .i64 0) rfl (dn (wp_block ?_)))))
       refine Y6 (S := A8 × A8) _ _ (fun i10 s12 e_ w_ => Z4 e_ [(2, .pointer (some ⟨b8, 0, none⟩)), (3, .pointer (some ⟨b10, 0, none⟩)), (4, .pointer (some ⟨b11, 0, none⟩)), (5, .pointer (some ⟨b12, 0, none⟩)), (6, .int .i64 s11.2), (7, .pointer (some ⟨b13, 0, none⟩)), (8, .int .i64 s10.2), (9, .pointer (some ⟨b15, 0, none⟩)), (10, .pointer (some ⟨b14, 0, none⟩)), (11, .int .i64 (i10 : Int))] ∧ Ctx Nox w0 w_ [blk b14 49 (A8.enc .u8 s12.2), blk b15 49 (A8.enc .u8 s12.1), own 114 9 v10 s10.1.length (ETerm.encs s10.1), blk b13 49 (A8.enc .u8 ((a1.terms.getD s11.2.toNat default).mono)), blk b12 95 [v10], blk b11 95 [.slice none 0 0], blk b10 95 [u1_0], blk b8 32 [u0_0, u0_1]] [Ty.item ETerm.ty.sl a1.terms [u1_0] fp1, Ty.item TForm.sl a0.images [u0_1] fp0, Ty.item ((EI .i64).ty.sl) a0.degrees [u0_0] fp0, Ty.item TAlg a0 [u0_0, u0_1] fp0, Ty.item TForm a1 [u1_0] fp1]) 8 ?_ ?_ (s0 := ((a1.terms.getD s11.2.toNat default).mono, (a1.terms.getD s11.2.toNat default).mono)) ?_ h
       ·clear hC h
        rintro i10 s12 e_ w21 nx10 K10 hi10 ⟨hS_, hC⟩ h hK10
        rw [ue hS_]
        refine wp_seq (sr (Zb (v := .int .i64 (i10 : Int)) rfl (Zs rfl rfl (dn (Yq rfl (decide_eq_true (by omega)) (wp_skip (Zd (wp_seq (wp_block (wp_seq (sr ?_)))))))))))
        refine Zb (v := .int .i64 (i10 : Int)) rfl (Zb (v := .int .i64 s10.2) rfl (Zai rfl rfl (dn ?_)))
        refine Zr rfl (fun hb13 => ?_) (fun hb13 => ?_)
        ·replace h := ift h (ct hb13)
         refine Zk (Zb (v := .int .i64 (i10 : Int)) rfl (Y1 i10 Try.underlying49 sc5.size rfl rfl (Int.natCast_nonneg _) (by omega) (by omega) (Zu (v := .int .u8 0) hC 1 [.int .u8 0] (A8.enc .u8 (s12.1.set i10 0)) rfl sc5.size rfl rfl rfl rfl rfl hi10 (A8.enc_set _ _ _ hi10) fun w22 hC => dn (sr (Zb (v := .int .i64 (i10 : Int)) rfl (Zb (v := .int .i64 s10.2) rfl (Zbi rfl rfl (dn ?_))))))))
         refine Zr rfl (fun hb14 => ?_) (fun hb14 => ?_)
         ·replace h := ift h (ct hb14)
          refine Zk (Zb (v := .int .i64 (i10 : Int)) rfl (Y1 i10 Try.underlying49 sc5.size rfl rfl (Int.natCast_nonneg _) (by omega) (by omega) (Zu (v := .int .u8 0) hC 0 [.int .u8 0] (A8.enc .u8 (s12.2.set i10 0)) rfl sc5.size rfl rfl rfl rfl rfl hi10 (A8.enc_set _ _ _ hi10) fun w23 hC => done (Zt (Zd (Zk (Zb (v := .int .i64 (i10 : Int)) rfl (Zq rfl rfl (Zc (v := .int .i64 (IntKind.i64.wrap ((i10 : Int) + 1))) rfl (done ?_))))))))))
          exact hK10 (s12.1.set i10 0, s12.2.set i10 0) _ _ ⟨(sl ⟨rfl, rfl, rfl, rfl, rfl, rfl, rfl, rfl, rfl, (tr rfl (congrArg _ (Yi hi10 (by decide)))), trivial⟩), hC⟩ h
         ·replace h := Zi h (cf hb14)
          refine wp_skip (Zt (Zd (Zk (Zb (v := .int .i64 (i10 : Int)) rfl (Zq rfl rfl (Zc (v := .int .i64 (IntKind.i64.wrap ((i10 : Int) + 1))) rfl (done ?_)))))))
          exact hK10 (s12.1.set i10 0, s12.2) _ _ ⟨(sl ⟨rfl, rfl, rfl, rfl, rfl, rfl, rfl, rfl, rfl, (tr rfl (congrArg _ (Yi hi10 (by decide)))), trivial⟩), hC⟩ h
        ·replace h := Zi h (cf hb13)
         refine wp_skip (Zd (sr (Zb (v := .int .i64 (i10 : Int)) rfl (Zb (v := .int .i64 s10.2) rfl (Zbi rfl rfl (dn ?_))))))
         refine Zr rfl (fun hb15 => ?_) (fun hb15 => ?_)
         ·replace h := ift h (ct hb15)
          refine Zk (Zb (v := .int .i64 (i10 : Int)) rfl (Y1 i10 Try.underlying49 sc5.size rfl rfl (Int.natCast_nonneg _) (by omega) (by omega) (Zu (v := .int .u8 0) hC 0 [.int .u8 0] (A8.enc .u8 (s12.2.set i10 0)) rfl sc5.size rfl rfl rfl rfl rfl hi10 (A8.enc_set _ _ _ hi10) fun w24 hC => done (Zt (Zd (Zk (Zb (v := .int .i64 (i10 : Int)) rfl (Zq rfl rfl (Zc (v := .int .i64 (IntKind.i64.wrap ((i10 : Int) + 1))) rfl (done ?_))))))))))
          exact hK10 (s12.1, s12.2.set i10 0) _ _ ⟨(sl ⟨rfl, rfl, rfl, rfl, rfl, rfl, rfl, rfl, rfl, (tr rfl (congrArg _ (Yi hi10 (by decide)))), trivial⟩), hC⟩ h
         ·replace h := Zi h (cf hb15)
          refine wp_skip (Zt (Zd (Zk (Zb (v := .int .i64 (i10 : Int)) rfl (Zq rfl rfl (Zc (v := .int .i64 (IntKind.i64.wrap ((i10 : Int) + 1))) rfl (done ?_)))))))
          exact hK10 (s12.1, s12.2) _ _ ⟨(sl ⟨rfl, rfl, rfl, rfl, rfl, rfl, rfl, rfl, rfl, (tr rfl (congrArg _ (Yi hi10 (by decide)))), trivial⟩), hC⟩ h
       ·clear hC h
        rintro s12 e_ w25 K10 ⟨hS_, hC⟩ h
        rw [ue hS_]
        refine wp_seq (sr (Zb (v := .int .i64 8) rfl (Zs rfl rfl (dn (Yj rfl (decide_eq_false (by omega)) ?_)))))
        refine wp_exit (Zl (Zl (Yc ?_)))
        refine Zd (sr (Ys hC 1 (A8.enc .u8 s12.1) rfl ag49 rfl rfl rfl (Yf hC (A8.enc .u8 A8.zero) z49 rfl fun b28 w26 hB_ hC => Zu (v := .agg (List.toArray (A8.enc .u8 s12.1))) hC 0 (A8.enc .u8 s12.1) (A8.enc .u8 s12.1) rfl ag49.size rfl rfl rfl rfl rfl (Nat.le_of_ble_eq_true rfl) rfl fun w27 hC => dn (sr (Zb (v := .int .i64 s10.2) rfl (Zb (v := .int .i64 s10.2) rfl ?_))))))
        obtain ⟨⟨h14, h15⟩, h⟩ := h
        refine Y1 s10.2.toNat Try.underlying49 sc5.size rfl rfl h14 h15 (by omega) (Z8 hC 4 (.int .u8 (((a1.terms.getD s11.2.toNat default).mono).get s10.2.toNat)) rfl sc5 rfl (A8.enc_get _ _ (show s10.2.toNat < 8 by omega)) (J5 rfl rfl ?_))
        obtain ⟨⟨h16, h17⟩, h⟩ := h
        refine Y1 s10.2.toNat Try.underlying49 sc5.size rfl rfl h16 h17 (by omega) (Zu (v := .int .u8 (IntKind.u8.wrap ((((a1.terms.getD s11.2.toNat default).mono).get s10.2.toNat) - 1))) hC 0 [.int .u8 (IntKind.u8.wrap ((((a1.terms.getD s11.2.toNat default).mono).get s10.2.toNat) - 1))] (A8.enc .u8 (s12.1.set s10.2.toNat (IntKind.u8.wrap ((((a1.terms.getD s11.2.toNat default).mono).get s10.2.toNat) - 1)))) rfl sc5.size rfl rfl rfl rfl rfl (show s10.2.toNat < 8 by omega) (A8.enc_set _ _ _ (show s10.2.toNat < 8 by omega)) fun w28 hC => dn (wp_seq ?_))
        refine Ym 10 Yg [0, 1, 0, 7, 15, 31, 0, 64, 192, 448, 1023, 2047] [1, 3, 5, 7, 8] [0, 2, 4, 6, 9] (by kernel_rfl) (by kernel_rfl) (by kernel_rfl) (fun hM10 hM11 w29 hB_ => ?_)
        replace hC := hC.grow hB_
        refine aF 0 (.pointer (some ⟨b10, 0, none⟩)) rfl rfl (hM11 0 rfl) (rfl) (fun _ => by exact Z7 0 Try.underlying95 rfl sc93.size rfl rfl) (Za 12 1) (aL 1 (u1_0) rfl rfl (hM10 1 rfl) (rfl) (fun _ hB_ => by exact Z5 (hC.grow hB_) 7 (u1_0) rfl sc93 rfl rfl) (Za 12 3) (aF 2 (.int .i64 s11.2) rfl rfl (hM11 2 rfl) (rfl) (fun _ => by exact Zg (v := .int .i64 s11.2) rfl) (Za 12 7) ?_))
        obtain ⟨⟨h18, h19⟩, h⟩ := h
        obtain ⟨Ad10, c13, hv11⟩ := Z9 (hC.getP 0 rfl) s11.2.toNat (show s11.2.toNat < a1.terms.length by omega)
        refine aL 3 (.pointer (some (Ad10.add (s11.2.toNat * 9)))) rfl rfl (hM10 3 rfl) (rfl) (fun _ hB_ => by exact Yv (len := a1.terms.length) Try.underlying93 ag114.size (by exact tr rfl hv11) rfl h18 h19) (Za 12 15) (aF 4 (.pointer (some (Ad10.add (s11.2.toNat * 9 + 8)))) rfl rfl (hM11 4 rfl) (rfl) (fun _ => by exact Zaj (s11.2.toNat * 9 + 8) Try.underlying114 rfl sc2.size rfl rfl) (Za 12 31) (aL 5 (.int .i64 ((a1.terms.getD s11.2.toNat default).factor)) rfl rfl (hM10 5 rfl) (rfl) (fun _ hB_ => by exact Jf (.int .i64 ((a1.terms.getD s11.2.toNat default).factor)) (Jq (o := 8) (k := 1) (Yk ((hC.grow hB_).getP 0 rfl) hv11 s11.2.toNat (show s11.2.toNat < a1.terms.length by omega)) rfl) sc2 rfl) (Za 12 63) (aF 6 (.int .i64 s10.2) rfl rfl (hM11 6 rfl) (rfl) (fun _ => by exact Zg (v := .int .i64 s10.2) rfl) (Za 12 127) ?_)))
        obtain ⟨⟨h20, h21⟩, h⟩ := h
        refine aL 7 (.pointer (some ⟨b13, s10.2.toNat, none⟩)) rfl rfl (hM10 7 rfl) (rfl) (fun _ hB_ => by exact Jy s10.2.toNat Try.underlying49 sc5.size rfl rfl h20 h21 (by omega)) (Za 12 255) (aL 8 (.int .u8 (((a1.terms.getD s11.2.toNat default).mono).get s10.2.toNat)) rfl rfl (hM10 8 rfl) (rfl) (fun _ hB_ => by exact Z5 (hC.grow hB_) 4 (.int .u8 (((a1.terms.getD s11.2.toNat default).mono).get s10.2.toNat)) rfl sc5 rfl (A8.enc_get _ _ (show s10.2.toNat < 8 by omega))) (Za 12 511) (aF 9 (.int .i64 (IntKind.i64.wrap (((a1.terms.getD s11.2.toNat default).mono).get s10.2.toNat))) rfl rfl (hM11 9 rfl) (rfl) (fun _ => by exact Zeb Try.underlying5 Try.underlying2 rfl) (Za 12 1023) (Zv 10 (by decide) (by decide) (by kernel_rfl) (by kernel_rfl) rfl (Zad rfl rfl (Zc (v := .int .i64 (IntKind.i64.wrap (((a1.terms.getD s11.2.toNat default).factor) * (IntKind.i64.wrap (((a1.terms.getD s11.2.toNat default).mono).get s10.2.toNat))))) rfl (done (Zw (Zd (wp_seq (sr (Z1 0 Try.underlying32 rfl sc22.size rfl rfl ?_)))))))))))
        refine Z8 hC 8 (u0_0) rfl sc22 rfl rfl (Ys hC 2 (A8.enc .u8 s12.1) rfl ag49 rfl rfl rfl ?_)
        refine Zf [u0_0, .agg (List.toArray (A8.enc .u8 s12.1))] _ Try.func152 rfl rfl rfl (Zjd a0.degrees s12.1 h _ (hC.getP 2 rfl)) (fun ret10 w30 hR10 => ?_)
        obtain ⟨r28, rfl, h, hB10⟩ := hR10
        refine ⟨_, rfl, ?_⟩
        replace hC := hC.grow hB10
        refine Jk rfl rfl (by decide) (Xj rfl rfl (dn ?_))
        refine Zr rfl (fun hb16 => ?_) (fun hb16 => ?_)
        ·replace h := ift h (ct hb16)
         refine Zk (Zb (v := .int .i64 (IntKind.i64.wrap (((a1.terms.getD s11.2.toNat default).factor) * (IntKind.i64.wrap (((a1.terms.getD s11.2.toNat default).mono).get s10.2.toNat))))) rfl (Zea rfl (Zc (v := .int .i64 (IntKind.i64.wrap (0 - (IntKind.i64.wrap (((a1.terms.getD s11.2.toNat default).factor) * (IntKind.i64.wrap (((a1.terms.getD s11.2.toNat default).mono).get s10.2.toNat))))))) rfl (dn (wp_seq ?_)))))
         refine Ym 11 Yg [0, 1, 0, 4, 0, 16, 0, 112, 240, 511, 0, 2047] [1, 2, 5, 7, 8] [0, 4, 6] (by kernel_rfl) (by kernel_rfl) (by kernel_rfl) (fun hM12 hM16 w31 hB_ => ?_)
         replace hC := hC.grow hB_
         refine aF 0 (.pointer (some ⟨b8, 0, none⟩)) rfl rfl (hM16 0 rfl) (rfl) (fun _ => by exact Z7 0 Try.underlying32 rfl sc22.size rfl rfl) (Za 12 1) (aL 1 (u0_0) rfl rfl (hM12 1 rfl) (rfl) (fun _ hB_ => by exact Z5 (hC.grow hB_) 8 (u0_0) rfl sc22 rfl rfl) (Za 12 3) (aL 2 (.agg (List.toArray (A8.enc .u8 (s12.1.set s10.2.toNat (IntKind.u8.wrap ((((a1.terms.getD s11.2.toNat default).mono).get s10.2.toNat) - 1)))))) rfl rfl (hM12 2 rfl) (rfl) (fun _ hB_ => by exact Yu (hC.grow hB_) 0 (A8.enc .u8 (s12.1.set s10.2.toNat (IntKind.u8.wrap ((((a1.terms.getD s11.2.toNat default).mono).get s10.2.toNat) - 1)))) rfl ag49 rfl rfl rfl) (Za 12 7) (aF 4 (.pointer (some ⟨b8, 1, none⟩)) rfl rfl (hM16 4 rfl) (rfl) (fun _ => by exact Z7 1 Try.underlying32 rfl sc30.size rfl rfl) (Za 12 23) (aL 5 (u0_1) rfl rfl (hM12 5 rfl) (rfl) (fun _ hB_ => by exact Z5 (hC.grow hB_) 8 (u0_1) rfl sc30 rfl rfl) (Za 12 55) (aF 6 (.int .i64 s10.2) rfl rfl (hM16 6 rfl) (rfl) (fun _ => by exact Zg (v := .int .i64 s10.2) rfl) (Za 12 119) ?_)))))
         obtain ⟨⟨h22, h23⟩, h⟩ := h
         obtain ⟨Ad11, c14, hv12⟩ := Z9 (hC.getP 1 rfl) s10.2.toNat (show s10.2.toNat < a0.images.length by omega)
         refine aL 7 (.pointer (some (Ad11.add (s10.2.toNat * 1)))) rfl rfl (hM12 7 rfl) (rfl) (fun _ hB_ => by exact Yv (len := a0.images.length) Try.underlying30 ag95.size (by exact tr rfl hv12) rfl h22 h23) (Za 12 247) ?_
         obtain ⟨cs_, hl10, hc10, hr10⟩ := X9 (hC.getP 1 rfl) hv12 s10.2.toNat (show s10.2.toNat < a0.images.length by omega)
         obtain ⟨u18, rfl⟩ := List.length_eq_one_iff.1 hl10
         clear hl10
         rw [X3 _ _ (show s10.2.toNat < a0.images.length by omega)] at hr10
         have hp10 := hr10
         replace hC := hC.derive 1 rfl (Ty.item ETerm.ty.sl ((a0.images.getD s10.2.toNat default).terms) [u18] fp0) (fun _ => (Xb hp10)) (fun _ hb_ => hb_)
         refine aL 8 (.agg #[u18]) rfl rfl (hM12 8 rfl) (rfl) (fun _ hB_ => by exact Xw [u18] (J9 hB_ hc10) ag95 rfl rfl) (Za 12 503) ?_
         refine Zbb (fun e_ w_ => ∃ (b16 : Nat), ∃ (u20 : Value), ∃ (r26 : Vc.Form), Z4 e_ [(2, .pointer (some ⟨b8, 0, none⟩)), (3, .pointer (some ⟨b10, 0, none⟩)), (4, .pointer (some ⟨b11, 0, none⟩)), (5, .pointer (some ⟨b12, 0, none⟩)), (6, .int .i64 s11.2), (7, .pointer (some ⟨b13, 0, none⟩)), (8, .int .i64 s10.2), (10, .pointer (some ⟨b14, 0, none⟩)), (13, .int .i64 (IntKind.i64.wrap (0 - (IntKind.i64.wrap (((a1.terms.getD s11.2.toNat default).factor) * (IntKind.i64.wrap (((a1.terms.getD s11.2.toNat default).mono).get s10.2.toNat))))))), (14, .pointer (some ⟨b16, 0, none⟩))] ∧ Ctx Nox w0 w_ [blk b16 95 [u20], own 114 9 u20 r26.terms.length (ETerm.encs r26.terms), blk b14 49 (A8.enc .u8 s12.2), own 114 9 v10 s10.1.length (ETerm.encs s10.1), blk b13 49 (A8.enc .u8 ((a1.terms.getD s11.2.toNat default).mono)), blk b12 95 [v10], blk b11 95 [.slice none 0 0], blk b10 95 [u1_0], blk b8 32 [u0_0, u0_1]] [Ty.item ETerm.ty.sl ((a0.images.getD s10.2.toNat default).terms) [u18] fp0, Ty.item ETerm.ty.sl a1.terms [u1_0] fp1, Ty.item TForm.sl a0.images [u0_1] fp0, Ty.item ((EI .i64).ty.sl) a0.degrees [u0_0] fp0, Ty.item TAlg a0 [u0_0, u0_1] fp0, Ty.item TForm a1 [u1_0] fp1] ∧ (X2 s12.2 1 (fun r13 => Ja a0.degrees r26 r13 (fun r14 => Ju (IntKind.i64.wrap (0 - (IntKind.i64.wrap (((a1.terms.getD s11.2.toNat default).factor) * (IntKind.i64.wrap (((a1.terms.getD s11.2.toNat default).mono).get s10.2.toNat)))))) (fun r20 => J4 (⟨s10.1⟩ : Vc.Form) r14 r20 (fun r10 => nx11 (r10.terms, IntKind.i64.wrap (s10.2 + 1)))))))) ?_ ?_
         ·clear hC h
          rintro e_ w32 ⟨b16, u20, r26, hS_, hC, h⟩
          rw [ue hS_]
          refine Zd ?_
          refine Ym 9 Yg [0, 0, 2, 0, 0, 16, 62, 0, 254, 511, 1023] [0, 2, 3, 4] [1, 7] (by kernel_rfl) (by kernel_rfl) (by kernel_rfl) (fun hM14 hM19 w33 hB_ => ?_)
          replace hC := hC.grow hB_
          refine aL 0 (.agg #[v10]) rfl rfl (hM14 0 rfl) (rfl) (fun _ hB_ => by exact Yu (hC.grow hB_) 5 [v10] rfl ag95 rfl rfl rfl) (Za 11 1) (aF 1 (.pointer (some ⟨b8, 0, none⟩)) rfl rfl (hM19 1 rfl) (rfl) (fun _ => by exact Z7 0 Try.underlying32 rfl sc22.size rfl rfl) (Za 11 3) (aL 2 (u0_0) rfl rfl (hM14 2 rfl) (rfl) (fun _ hB_ => by exact Z5 (hC.grow hB_) 8 (u0_0) rfl sc22 rfl rfl) (Za 11 7) (aL 3 (.agg #[u20]) rfl rfl (hM14 3 rfl) (rfl) (fun _ hB_ => by exact Yu (hC.grow hB_) 0 [u20] rfl ag95 rfl rfl rfl) (Za 11 15) (aL 4 (.agg (List.toArray (A8.enc .u8 s12.2))) rfl rfl (hM14 4 rfl) (rfl) (fun _ hB_ => by exact Yu (hC.grow hB_) 2 (A8.enc .u8 s12.2) rfl ag49 rfl rfl rfl) (Za 11 31) (aF 7 (.int .i64 (IntKind.i64.wrap (0 - (IntKind.i64.wrap (((a1.terms.getD s11.2.toNat default).factor) * (IntKind.i64.wrap (((a1.terms.getD s11.2.toNat default).mono).get s10.2.toNat))))))) rfl rfl (hM19 7 rfl) (rfl) (fun _ => by exact Zg (v := .int .i64 (IntKind.i64.wrap (0 - (IntKind.i64.wrap (((a1.terms.getD s11.2.toNat default).factor) * (IntKind.i64.wrap (((a1.terms.getD s11.2.toNat default).mono).get s10.2.toNat))))))) rfl) (Za 11 159) (aO 5 rfl ?_))))))
          refine Zf [.agg (List.toArray (A8.enc .u8 s12.2)), .int .i64 1] _ Try.func70 rfl rfl rfl (Zaz s12.2 1 h _) (fun ret11 w34 hR11 => ?_)
          obtain ⟨r13, u24, f10, rfl, h, hr12, hf10, hB11⟩ := hR11
          refine ⟨_, rfl, ?_⟩
          replace hC := hC.push hB11 (Tr.item (Zz 114) r13 [u24] f10) hr12 hf10
          obtain ⟨ho10, hf11⟩ := Y8 (hC.getM 0 rfl)
          subst hf11
          replace hC := hC.recast (c := own 114 9 u24 r13.terms.length (ETerm.encs r13.terms)) (fun _ h_ => h_) (fun _ => ho10)
          refine done (aK (by assumption) (Za 11 191) (aO 6 rfl ?_))
          refine Zf [u0_0, .agg #[u20], .agg #[u24]] _ Try.func153 rfl rfl rfl (Zam a0.degrees r26 r13 h _ (hC.getP 3 rfl) (Yl (Y7 (hC.getM 2 rfl))) (Yl (Y7 (hC.getM 0 rfl)))) (fun ret12 w35 hR12 => ?_)
          obtain ⟨r14, u25, f11, rfl, h, hr13, hf12, hB12⟩ := hR12
          refine ⟨_, rfl, ?_⟩
          replace hC := hC.push hB12 (Tr.item (Zz 114) r14 [u25] f11) hr13 hf12
          obtain ⟨ho11, hf13⟩ := Y8 (hC.getM 0 rfl)
          subst hf13
          replace hC := hC.recast (c := own 114 9 u25 r14.terms.length (ETerm.encs r14.terms)) (fun _ h_ => h_) (fun _ => ho11)
          refine done (aK (by assumption) (Za 11 255) (aO 8 rfl ?_))
          refine Zf [.int .i64 (IntKind.i64.wrap (0 - (IntKind.i64.wrap (((a1.terms.getD s11.2.toNat default).factor) * (IntKind.i64.wrap (((a1.terms.getD s11.2.toNat default).mono).get s10.2.toNat))))))] _ Try.func122 rfl rfl rfl (Zb9 (IntKind.i64.wrap (0 - (IntKind.i64.wrap (((a1.terms.getD s11.2.toNat default).factor) * (IntKind.i64.wrap (((a1.terms.getD s11.2.toNat default).mono).get s10.2.toNat)))))) h _) (fun ret13 w36 hR13 => ?_)
          obtain ⟨r20, rfl, h, hB13⟩ := hR13
          refine ⟨_, rfl, ?_⟩
          replace hC := hC.grow hB13
          refine done (aK (by assumption) (Za 11 511) (Zv 9 (by decide) (by decide) (by kernel_rfl) (by kernel_rfl) rfl ?_))
          refine Zf [.agg #[v10], .agg #[u25], .int .i64 r20] _ Try.func69 rfl rfl rfl (Zc0 (⟨s10.1⟩ : Vc.Form) r14 r20 h _ (Yl (Y7 (hC.getM 5 rfl))) (Yl (Y7 (hC.getM 0 rfl)))) (fun ret14 w37 hR14 => ?_)
          obtain ⟨r10, u10, f12, rfl, h, hr14, hf14, hB14⟩ := hR14
          refine ⟨_, rfl, ?_⟩
          replace hC := hC.push hB14 (Tr.item (Zz 114) r10 [u10] f12) hr14 hf14
          obtain ⟨ho12, hf15⟩ := Y8 (hC.getM 0 rfl)
          subst hf15
          replace hC := hC.recast (c := own 114 9 u10 r10.terms.length (ETerm.encs r10.terms)) (fun _ h_ => h_) (fun _ => ho12)
          refine Zu (v := .agg #[u10]) hC 8 [u10] [u10] rfl ag95.size rfl rfl rfl rfl (Y3 (Xl (hC.getM 0 rfl)) rfl) (Nat.le_of_ble_eq_true rfl) rfl fun w38 hC => done (Zw (Zt (Zd (Zk (Zb (v := .int .i64 s10.2) rfl (Zq rfl rfl (Zc (v := .int .i64 (IntKind.i64.wrap (s10.2 + 1))) rfl (done ?_))))))))
          replace hC := hC.sM [0, 7, 8, 9, 10, 11] (M' := [own 114 9 u10 r10.terms.length (ETerm.encs r10.terms), blk b13 49 (A8.enc .u8 ((a1.terms.getD s11.2.toNat default).mono)), blk b12 95 [u10], blk b11 95 [.slice none 0 0], blk b10 95 [u1_0], blk b8 32 [u0_0, u0_1]]) (by decide) rfl
          replace hC := hC.sP [1, 2, 3, 4, 5] (Ps' := [Ty.item ETerm.ty.sl a1.terms [u1_0] fp1, Ty.item TForm.sl a0.images [u0_1] fp0, Ty.item ((EI .i64).ty.sl) a0.degrees [u0_0] fp0, Ty.item TAlg a0 [u0_0, u0_1] fp0, Ty.item TForm a1 [u1_0] fp1]) rfl
          exact hK11 (r10.terms, IntKind.i64.wrap (s10.2 + 1)) _ _ ⟨u10, (sl ⟨rfl, rfl, rfl, rfl, rfl, rfl, rfl, trivial⟩), hC⟩ h
         refine Xc 3 10 rfl rfl (by kernel_rfl) ?_ ?_
         ·skip
          refine Zf [.agg (List.toArray (A8.enc .u8 (s12.1.set s10.2.toNat (IntKind.u8.wrap ((((a1.terms.getD s11.2.toNat default).mono).get s10.2.toNat) - 1))))), .int .i64 1] _ Try.func70 rfl rfl rfl (Zaz (s12.1.set s10.2.toNat (IntKind.u8.wrap ((((a1.terms.getD s11.2.toNat default).mono).get s10.2.toNat) - 1))) 1 h _) (fun ret15 w39 hR15 => ?_)
          obtain ⟨r18, u22, f13, rfl, h, hr15, hf16, hB15⟩ := hR15
          refine ⟨_, rfl, ?_⟩
          replace hC := hC.push hB15 (Tr.item (Zz 114) r18 [u22] f13) hr15 hf16
          obtain ⟨ho13, hf17⟩ := Y8 (hC.getM 0 rfl)
          subst hf17
          replace hC := hC.recast (c := own 114 9 u22 r18.terms.length (ETerm.encs r18.terms)) (fun _ h_ => h_) (fun _ => ho13)
          refine done (aK (by assumption) (Za 12 511) ?_)
          refine Xc 9 10 rfl rfl (by kernel_rfl) ?_ ?_
          ·skip
           refine Zf [u0_0, .agg #[u22], .agg #[u18]] _ Try.func153 rfl rfl rfl (Zam a0.degrees r18 (a0.images.getD s10.2.toNat default) h _ (hC.getP 3 rfl) (Yl (Y7 (hC.getM 0 rfl))) (Yl (hC.getP 0 rfl))) (fun ret16 w40 hR16 => ?_)
           obtain ⟨r12, u11, f14, rfl, h, hr16, hf18, hB16⟩ := hR16
           refine ⟨_, rfl, ?_⟩
           replace hC := hC.push hB16 (Tr.item (Zz 114) r12 [u11] f14) hr16 hf18
           obtain ⟨ho14, hf19⟩ := Y8 (hC.getM 0 rfl)
           subst hf19
           replace hC := hC.recast (c := own 114 9 u11 r12.terms.length (ETerm.encs r12.terms)) (fun _ h_ => h_) (fun _ => ho14)
           refine done (aK (by assumption) (Za 12 1023) (aO 10 rfl (Yf hC [.slice none 0 0] z95 rfl fun b18 w41 hB_ hC => done (aK (by assumption) (Za 12 2047) (Zv 11 (by decide) (by decide) (by kernel_rfl) (by kernel_rfl) rfl (Zu (v := .agg #[u11]) hC 0 [u11] [u11] rfl ag95.size rfl rfl rfl rfl (Y3 (Xl (hC.getM 1 rfl)) rfl) (Nat.le_of_ble_eq_true rfl) rfl fun w42 hC => done (Zw ?_)))))))
           replace hC := hC.sM [0, 1, 4, 6, 7, 8, 9, 10, 11] (M' := [blk b18 95 [u11], own 114 9 u11 r12.terms.length (ETerm.encs r12.terms), blk b14 49 (A8.enc .u8 s12.2), own 114 9 v10 s10.1.length (ETerm.encs s10.1), blk b13 49 (A8.enc .u8 ((a1.terms.getD s11.2.toNat default).mono)), blk b12 95 [v10], blk b11 95 [.slice none 0 0], blk b10 95 [u1_0], blk b8 32 [u0_0, u0_1]]) (by decide) rfl
           exact ⟨rfl, _, rfl, ⟨b18, u11, r12, (sl ⟨rfl, rfl, rfl, rfl, rfl, rfl, rfl, rfl, rfl, rfl, trivial⟩), hC, h⟩⟩
          ·skip
           refine Yf hC [.slice none 0 0] z95 rfl fun b19 w43 hB_ hC => done (aK (by assumption) (Za 12 1535) (aO 9 rfl ?_))
           refine Zf [u0_0, .agg #[u22], .agg #[u18]] _ Try.func153 rfl rfl rfl (Zam a0.degrees r18 (a0.images.getD s10.2.toNat default) h _ (hC.getP 3 rfl) (Yl (Y7 (hC.getM 1 rfl))) (Yl (hC.getP 0 rfl))) (fun ret17 w44 hR17 => ?_)
           obtain ⟨r22, u12, f15, rfl, h, hr17, hf20, hB17⟩ := hR17
           refine ⟨_, rfl, ?_⟩
           replace hC := hC.push hB17 (Tr.item (Zz 114) r22 [u12] f15) hr17 hf20
           obtain ⟨ho15, hf21⟩ := Y8 (hC.getM 0 rfl)
           subst hf21
           replace hC := hC.recast (c := own 114 9 u12 r22.terms.length (ETerm.encs r22.terms)) (fun _ h_ => h_) (fun _ => ho15)
           refine done (aK (by assumption) (Za 12 2047) (Zv 11 (by decide) (by decide) (by kernel_rfl) (by kernel_rfl) rfl (Zu (v := .agg #[u12]) hC 1 [u12] [u12] rfl ag95.size rfl rfl rfl rfl (Y3 (Xl (hC.getM 0 rfl)) rfl) (Nat.le_of_ble_eq_true rfl) rfl fun w45 hC => done (Zw ?_))))
           replace hC := hC.sM [1, 0, 4, 6, 7, 8, 9, 10, 11] (M' := [blk b19 95 [u12], own 114 9 u12 r22.terms.length (ETerm.encs r22.terms), blk b14 49 (A8.enc .u8 s12.2), own 114 9 v10 s10.1.length (ETerm.encs s10.1), blk b13 49 (A8.enc .u8 ((a1.terms.getD s11.2.toNat default).mono)), blk b12 95 [v10], blk b11 95 [.slice none 0 0], blk b10 95 [u1_0], blk b8 32 [u0_0, u0_1]]) (by decide) rfl
           exact ⟨rfl, _, rfl, ⟨b19, u12, r22, (sl ⟨rfl, rfl, rfl, rfl, rfl, rfl, rfl, rfl, rfl, rfl, trivial⟩), hC, h⟩⟩
         ·skip
          refine Yf hC [.slice none 0 0] z95 rfl fun b20 w46 hB_ hC => done (aK (by assumption) (Za 12 1527) (aO 3 rfl ?_))
          refine Zf [.agg (List.toArray (A8.enc .u8 (s12.1.set s10.2.toNat (IntKind.u8.wrap ((((a1.terms.getD s11.2.toNat default).mono).get s10.2.toNat) - 1))))), .int .i64 1] _ Try.func70 rfl rfl rfl (Zaz (s12.1.set s10.2.toNat (IntKind.u8.wrap ((((a1.terms.getD s11.2.toNat default).mono).get s10.2.toNat) - 1))) 1 h _) (fun ret18 w47 hR18 => ?_)
          obtain ⟨r29, u26, f16, rfl, h, hr18, hf22, hB18⟩ := hR18
          refine ⟨_, rfl, ?_⟩
          replace hC := hC.push hB18 (Tr.item (Zz 114) r29 [u26] f16) hr18 hf22
          obtain ⟨ho16, hf23⟩ := Y8 (hC.getM 0 rfl)
          subst hf23
          replace hC := hC.recast (c := own 114 9 u26 r29.terms.length (ETerm.encs r29.terms)) (fun _ h_ => h_) (fun _ => ho16)
          refine done (aK (by assumption) (Za 12 1535) (aO 9 rfl ?_))
          refine Zf [u0_0, .agg #[u26], .agg #[u18]] _ Try.func153 rfl rfl rfl (Zam a0.degrees r29 (a0.images.getD s10.2.toNat default) h _ (hC.getP 3 rfl) (Yl (Y7 (hC.getM 0 rfl))) (Yl (hC.getP 0 rfl))) (fun ret19 w48 hR19 => ?_)
          obtain ⟨r23, u13, f17, rfl, h, hr19, hf24, hB19⟩ := hR19
          refine ⟨_, rfl, ?_⟩
          replace hC := hC.push hB19 (Tr.item (Zz 114) r23 [u13] f17) hr19 hf24
          obtain ⟨ho17, hf25⟩ := Y8 (hC.getM 0 rfl)
          subst hf25
          replace hC := hC.recast (c := own 114 9 u13 r23.terms.length (ETerm.encs r23.terms)) (fun _ h_ => h_) (fun _ => ho17)
          refine done (aK (by assumption) (Za 12 2047) (Zv 11 (by decide) (by decide) (by kernel_rfl) (by kernel_rfl) rfl (Zu (v := .agg #[u13]) hC 2 [u13] [u13] rfl ag95.size rfl rfl rfl rfl (Y3 (Xl (hC.getM 0 rfl)) rfl) (Nat.le_of_ble_eq_true rfl) rfl fun w49 hC => done (Zw ?_))))
          replace hC := hC.sM [2, 0, 4, 6, 7, 8, 9, 10, 11] (M' := [blk b20 95 [u13], own 114 9 u13 r23.terms.length (ETerm.encs r23.terms), blk b14 49 (A8.enc .u8 s12.2), own 114 9 v10 s10.1.length (ETerm.encs s10.1), blk b13 49 (A8.enc .u8 ((a1.terms.getD s11.2.toNat default).mono)), blk b12 95 [v10], blk b11 95 [.slice none 0 0], blk b10 95 [u1_0], blk b8 32 [u0_0, u0_1]]) (by decide) rfl
          exact ⟨rfl, _, rfl, ⟨b20, u13, r23, (sl ⟨rfl, rfl, rfl, rfl, rfl, rfl, rfl, rfl, rfl, rfl, trivial⟩), hC, h⟩⟩
        ·replace h := Zi h (cf hb16)
         refine wp_skip (Zd (wp_seq ?_))
         refine Ym 11 Yg [0, 1, 0, 4, 0, 16, 0, 112, 240, 511, 0, 2047] [1, 2, 5, 7, 8] [0, 4, 6] (by kernel_rfl) (by kernel_rfl) (by kernel_rfl) (fun hM13 hM17 w50 hB_ => ?_)
         replace hC := hC.grow hB_
         refine aF 0 (.pointer (some ⟨b8, 0, none⟩)) rfl rfl (hM17 0 rfl) (rfl) (fun _ => by exact Z7 0 Try.underlying32 rfl sc22.size rfl rfl) (Za 12 1) (aL 1 (u0_0) rfl rfl (hM13 1 rfl) (rfl) (fun _ hB_ => by exact Z5 (hC.grow hB_) 8 (u0_0) rfl sc22 rfl rfl) (Za 12 3) (aL 2 (.agg (List.toArray (A8.enc .u8 (s12.1.set s10.2.toNat (IntKind.u8.wrap ((((a1.terms.getD s11.2.toNat default).mono).get s10.2.toNat) - 1)))))) rfl rfl (hM13 2 rfl) (rfl) (fun _ hB_ => by exact Yu (hC.grow hB_) 0 (A8.enc .u8 (s12.1.set s10.2.toNat (IntKind.u8.wrap ((((a1.terms.getD s11.2.toNat default).mono).get s10.2.toNat) - 1)))) rfl ag49 rfl rfl rfl) (Za 12 7) (aF 4 (.pointer (some ⟨b8, 1, none⟩)) rfl rfl (hM17 4 rfl) (rfl) (fun _ => by exact Z7 1 Try.underlying32 rfl sc30.size rfl rfl) (Za 12 23) (aL 5 (u0_1) rfl rfl (hM13 5 rfl) (rfl) (fun _ hB_ => by exact Z5 (hC.grow hB_) 8 (u0_1) rfl sc30 rfl rfl) (Za 12 55) (aF 6 (.int .i64 s10.2) rfl rfl (hM17 6 rfl) (rfl) (fun _ => by exact Zg (v := .int .i64 s10.2) rfl) (Za 12 119) ?_)))))
         obtain ⟨⟨h24, h25⟩, h⟩ := h
         obtain ⟨Ad12, c15, hv13⟩ := Z9 (hC.getP 1 rfl) s10.2.toNat (show s10.2.toNat < a0.images.length by omega)
         refine aL 7 (.pointer (some (Ad12.add (s10.2.toNat * 1)))) rfl rfl (hM13 7 rfl) (rfl) (fun _ hB_ => by exact Yv (len := a0.images.length) Try.underlying30 ag95.size (by exact tr rfl hv13) rfl h24 h25) (Za 12 247) ?_
         obtain ⟨cs_, hl11, hc11, hr11⟩ := X9 (hC.getP 1 rfl) hv13 s10.2.toNat (show s10.2.toNat < a0.images.length by omega)
         obtain ⟨u19, rfl⟩ := List.length_eq_one_iff.1 hl11
         clear hl11
         rw [X3 _ _ (show s10.2.toNat < a0.images.length by omega)] at hr11
         have hp11 := hr11
         replace hC := hC.derive 1 rfl (Ty.item ETerm.ty.sl ((a0.images.getD s10.2.toNat default).terms) [u19] fp0) (fun _ => (Xb hp11)) (fun _ hb_ => hb_)
         refine aL 8 (.agg #[u19]) rfl rfl (hM13 8 rfl) (rfl) (fun _ hB_ => by exact Xw [u19] (J9 hB_ hc11) ag95 rfl rfl) (Za 12 503) ?_
         refine Zbb (fun e_ w_ => ∃ (b17 : Nat), ∃ (u21 : Value), ∃ (r27 : Vc.Form), Z4 e_ [(2, .pointer (some ⟨b8, 0, none⟩)), (3, .pointer (some ⟨b10, 0, none⟩)), (4, .pointer (some ⟨b11, 0, none⟩)), (5, .pointer (some ⟨b12, 0, none⟩)), (6, .int .i64 s11.2), (7, .pointer (some ⟨b13, 0, none⟩)), (8, .int .i64 s10.2), (10, .pointer (some ⟨b14, 0, none⟩)), (13, .int .i64 (IntKind.i64.wrap (((a1.terms.getD s11.2.toNat default).factor) * (IntKind.i64.wrap (((a1.terms.getD s11.2.toNat default).mono).get s10.2.toNat))))), (14, .pointer (some ⟨b17, 0, none⟩))] ∧ Ctx Nox w0 w_ [blk b17 95 [u21], own 114 9 u21 r27.terms.length (ETerm.encs r27.terms), blk b14 49 (A8.enc .u8 s12.2), own 114 9 v10 s10.1.length (ETerm.encs s10.1), blk b13 49 (A8.enc .u8 ((a1.terms.getD s11.2.toNat default).mono)), blk b12 95 [v10], blk b11 95 [.slice none 0 0], blk b10 95 [u1_0], blk b8 32 [u0_0, u0_1]] [Ty.item ETerm.ty.sl ((a0.images.getD s10.2.toNat default).terms) [u19] fp0, Ty.item ETerm.ty.sl a1.terms [u1_0] fp1, Ty.item TForm.sl a0.images [u0_1] fp0, Ty.item ((EI .i64).ty.sl) a0.degrees [u0_0] fp0, Ty.item TAlg a0 [u0_0, u0_1] fp0, Ty.item TForm a1 [u1_0] fp1] ∧ (X2 s12.2 1 (fun r16 => Ja a0.degrees r27 r16 (fun r17 => Ju (IntKind.i64.wrap (((a1.terms.getD s11.2.toNat default).factor) * (IntKind.i64.wrap (((a1.terms.getD s11.2.toNat default).mono).get s10.2.toNat)))) (fun r21 => J4 (⟨s10.1⟩ : Vc.Form) r17 r21 (fun r11 => nx11 (r11.terms, IntKind.i64.wrap (s10.2 + 1)))))))) ?_ ?_
         ·clear hC h
          rintro e_ w51 ⟨b17, u21, r27, hS_, hC, h⟩
          rw [ue hS_]
          refine Zd ?_
          refine Ym 9 Yg [0, 0, 2, 0, 0, 16, 62, 0, 254, 511, 1023] [0, 2, 3, 4] [1, 7] (by kernel_rfl) (by kernel_rfl) (by kernel_rfl) (fun hM15 hM20 w52 hB_ => ?_)
          replace hC := hC.grow hB_
          refine aL 0 (.agg #[v10]) rfl rfl (hM15 0 rfl) (rfl) (fun _ hB_ => by exact Yu (hC.grow hB_) 5 [v10] rfl ag95 rfl rfl rfl) (Za 11 1) (aF 1 (.pointer (some ⟨b8, 0, none⟩)) rfl rfl (hM20 1 rfl) (rfl) (fun _ => by exact Z7 0 Try.underlying32 rfl sc22.size rfl rfl) (Za 11 3) (aL 2 (u0_0) rfl rfl (hM15 2 rfl) (rfl) (fun _ hB_ => by exact Z5 (hC.grow hB_) 8 (u0_0) rfl sc22 rfl rfl) (Za 11 7) (aL 3 (.agg #[u21]) rfl rfl (hM15 3 rfl) (rfl) (fun _ hB_ => by exact Yu (hC.grow hB_) 0 [u21] rfl ag95 rfl rfl rfl) (Za 11 15) (aL 4 (.agg (List.toArray (A8.enc .u8 s12.2))) rfl rfl (hM15 4 rfl) (rfl) (fun _ hB_ => by exact Yu (hC.grow hB_) 2 (A8.enc .u8 s12.2) rfl ag49 rfl rfl rfl) (Za 11 31) (aF 7 (.int .i64 (IntKind.i64.wrap (((a1.terms.getD s11.2.toNat default).factor) * (IntKind.i64.wrap (((a1.terms.getD s11.2.toNat default).mono).get s10.2.toNat))))) rfl rfl (hM20 7 rfl) (rfl) (fun _ => by exact Zg (v := .int .i64 (IntKind.i64.wrap (((a1.terms.getD s11.2.toNat default).factor) * (IntKind.i64.wrap (((a1.terms.getD s11.2.toNat default).mono).get s10.2.toNat))))) rfl) (Za 11 159) (aO 5 rfl ?_))))))
          refine Zf [.agg (List.toArray (A8.enc .u8 s12.2)), .int .i64 1] _ Try.func70 rfl rfl rfl (Zaz s12.2 1 h _) (fun ret20 w53 hR20 => ?_)
          obtain ⟨r16, u27, f18, rfl, h, hr20, hf26, hB20⟩ := hR20
          refine ⟨_, rfl, ?_⟩
          replace hC := hC.push hB20 (Tr.item (Zz 114) r16 [u27] f18) hr20 hf26
          obtain ⟨ho18, hf27⟩ := Y8 (hC.getM 0 rfl)
          subst hf27
          replace hC := hC.recast (c := own 114 9 u27 r16.terms.length (ETerm.encs r16.terms)) (fun _ h_ => h_) (fun _ => ho18)
          refine done (aK (by assumption) (Za 11 191) (aO 6 rfl ?_))
          refine Zf [u0_0, .agg #[u21], .agg #[u27]] _ Try.func153 rfl rfl rfl (Zam a0.degrees r27 r16 h _ (hC.getP 3 rfl) (Yl (Y7 (hC.getM 2 rfl))) (Yl (Y7 (hC.getM 0 rfl)))) (fun ret21 w54 hR21 => ?_)
          obtain ⟨r17, u28, f19, rfl, h, hr21, hf28, hB21⟩ := hR21
          refine ⟨_, rfl, ?_⟩
          replace hC := hC.push hB21 (Tr.item (Zz 114) r17 [u28] f19) hr21 hf28
          obtain ⟨ho19, hf29⟩ := Y8 (hC.getM 0 rfl)
          subst hf29
          replace hC := hC.recast (c := own 114 9 u28 r17.terms.length (ETerm.encs r17.terms)) (fun _ h_ => h_) (fun _ => ho19)
          refine done (aK (by assumption) (Za 11 255) (aO 8 rfl ?_))
          refine Zf [.int .i64 (IntKind.i64.wrap (((a1.terms.getD s11.2.toNat default).factor) * (IntKind.i64.wrap (((a1.terms.getD s11.2.toNat default).mono).get s10.2.toNat))))] _ Try.func122 rfl rfl rfl (Zb9 (IntKind.i64.wrap (((a1.terms.getD s11.2.toNat default).factor) * (IntKind.i64.wrap (((a1.terms.getD s11.2.toNat default).mono).get s10.2.toNat)))) h _) (fun ret22 w55 hR22 => ?_)
          obtain ⟨r21, rfl, h, hB22⟩ := hR22
          refine ⟨_, rfl, ?_⟩
          replace hC := hC.grow hB22
          refine done (aK (by assumption) (Za 11 511) (Zv 9 (by decide) (by decide) (by kernel_rfl) (by kernel_rfl) rfl ?_))
          refine Zf [.agg #[v10], .agg #[u28], .int .i64 r21] _ Try.func69 rfl rfl rfl (Zc0 (⟨s10.1⟩ : Vc.Form) r17 r21 h _ (Yl (Y7 (hC.getM 5 rfl))) (Yl (Y7 (hC.getM 0 rfl)))) (fun ret23 w56 hR23 => ?_)
          obtain ⟨r11, u14, f20, rfl, h, hr22, hf30, hB23⟩ := hR23
          refine ⟨_, rfl, ?_⟩
          replace hC := hC.push hB23 (Tr.item (Zz 114) r11 [u14] f20) hr22 hf30
          obtain ⟨ho20, hf31⟩ := Y8 (hC.getM 0 rfl)
          subst hf31
          replace hC := hC.recast (c := own 114 9 u14 r11.terms.length (ETerm.encs r11.terms)) (fun _ h_ => h_) (fun _ => ho20)
          refine Zu (v := .agg #[u14]) hC 8 [u14] [u14] rfl ag95.size rfl rfl rfl rfl (Y3 (Xl (hC.getM 0 rfl)) rfl) (Nat.le_of_ble_eq_true rfl) rfl fun w57 hC => done (Zw (Zt (Zd (Zk (Zb (v := .int .i64 s10.2) rfl (Zq rfl rfl (Zc (v := .int .i64 (IntKind.i64.wrap (s10.2 + 1))) rfl (done ?_))))))))
          replace hC := hC.sM [0, 7, 8, 9, 10, 11] (M' := [own 114 9 u14 r11.terms.length (ETerm.encs r11.terms), blk b13 49 (A8.enc .u8 ((a1.terms.getD s11.2.toNat default).mono)), blk b12 95 [u14], blk b11 95 [.slice none 0 0], blk b10 95 [u1_0], blk b8 32 [u0_0, u0_1]]) (by decide) rfl
          replace hC := hC.sP [1, 2, 3, 4, 5] (Ps' := [Ty.item ETerm.ty.sl a1.terms [u1_0] fp1, Ty.item TForm.sl a0.images [u0_1] fp0, Ty.item ((EI .i64).ty.sl) a0.degrees [u0_0] fp0, Ty.item TAlg a0 [u0_0, u0_1] fp0, Ty.item TForm a1 [u1_0] fp1]) rfl
          exact hK11 (r11.terms, IntKind.i64.wrap (s10.2 + 1)) _ _ ⟨u14, (sl ⟨rfl, rfl, rfl, rfl, rfl, rfl, rfl, trivial⟩), hC⟩ h
         refine Xc 3 10 rfl rfl (by kernel_rfl) ?_ ?_
         ·skip
          refine Zf [.agg (List.toArray (A8.enc .u8 (s12.1.set s10.2.toNat (IntKind.u8.wrap ((((a1.terms.getD s11.2.toNat default).mono).get s10.2.toNat) - 1))))), .int .i64 1] _ Try.func70 rfl rfl rfl (Zaz (s12.1.set s10.2.toNat (IntKind.u8.wrap ((((a1.terms.getD s11.2.toNat default).mono).get s10.2.toNat) - 1))) 1 h _) (fun ret24 w58 hR24 => ?_)
          obtain ⟨r19, u23, f21, rfl, h, hr23, hf32, hB24⟩ := hR24
          refine ⟨_, rfl, ?_⟩
          replace hC := hC.push hB24 (Tr.item (Zz 114) r19 [u23] f21) hr23 hf32
          obtain ⟨ho21, hf33⟩ := Y8 (hC.getM 0 rfl)
          subst hf33
          replace hC := hC.recast (c := own 114 9 u23 r19.terms.length (ETerm.encs r19.terms)) (fun _ h_ => h_) (fun _ => ho21)
          refine done (aK (by assumption) (Za 12 511) ?_)
          refine Xc 9 10 rfl rfl (by kernel_rfl) ?_ ?_
          ·skip
           refine Zf [u0_0, .agg #[u23], .agg #[u19]] _ Try.func153 rfl rfl rfl (Zam a0.degrees r19 (a0.images.getD s10.2.toNat default) h _ (hC.getP 3 rfl) (Yl (Y7 (hC.getM 0 rfl))) (Yl (hC.getP 0 rfl))) (fun ret25 w59 hR25 => ?_)
           obtain ⟨r15, u15, f22, rfl, h, hr24, hf34, hB25⟩ := hR25
           refine ⟨_, rfl, ?_⟩
           replace hC := hC.push hB25 (Tr.item (Zz 114) r15 [u15] f22) hr24 hf34
           obtain ⟨ho22, hf35⟩ := Y8 (hC.getM 0 rfl)
           subst hf35
           replace hC := hC.recast (c := own 114 9 u15 r15.terms.length (ETerm.encs r15.terms)) (fun _ h_ => h_) (fun _ => ho22)
           refine done (aK (by assumption) (Za 12 1023) (aO 10 rfl (Yf hC [.slice none 0 0] z95 rfl fun b21 w60 hB_ hC => done (aK (by assumption) (Za 12 2047) (Zv 11 (by decide) (by decide) (by kernel_rfl) (by kernel_rfl) rfl (Zu (v := .agg #[u15]) hC 0 [u15] [u15] rfl ag95.size rfl rfl rfl rfl (Y3 (Xl (hC.getM 1 rfl)) rfl) (Nat.le_of_ble_eq_true rfl) rfl fun w61 hC => done (Zw ?_)))))))
           replace hC := hC.sM [0, 1, 4, 6, 7, 8, 9, 10, 11] (M' := [blk b21 95 [u15], own 114 9 u15 r15.terms.length (ETerm.encs r15.terms), blk b14 49 (A8.enc .u8 s12.2), own 114 9 v10 s10.1.length (ETerm.encs s10.1), blk b13 49 (A8.enc .u8 ((a1.terms.getD s11.2.toNat default).mono)), blk b12 95 [v10], blk b11 95 [.slice none 0 0], blk b10 95 [u1_0], blk b8 32 [u0_0, u0_1]]) (by decide) rfl
           exact ⟨rfl, _, rfl, ⟨b21, u15, r15, (sl ⟨rfl, rfl, rfl, rfl, rfl, rfl, rfl, rfl, rfl, rfl, trivial⟩), hC, h⟩⟩
          ·skip
           refine Yf hC [.slice none 0 0] z95 rfl fun b22 w62 hB_ hC => done (aK (by assumption) (Za 12 1535) (aO 9 rfl ?_))
           refine Zf [u0_0, .agg #[u23], .agg #[u19]] _ Try.func153 rfl rfl rfl (Zam a0.degrees r19 (a0.images.getD s10.2.toNat default) h _ (hC.getP 3 rfl) (Yl (Y7 (hC.getM 1 rfl))) (Yl (hC.getP 0 rfl))) (fun ret26 w63 hR26 => ?_)
           obtain ⟨r24, u16, f23, rfl, h, hr25, hf36, hB26⟩ := hR26
           refine ⟨_, rfl, ?_⟩
           replace hC := hC.push hB26 (Tr.item (Zz 114) r24 [u16] f23) hr25 hf36
           obtain ⟨ho23, hf37⟩ := Y8 (hC.getM 0 rfl)
           subst hf37
           replace hC := hC.recast (c := own 114 9 u16 r24.terms.length (ETerm.encs r24.terms)) (fun _ h_ => h_) (fun _ => ho23)
           refine done (aK (by assumption) (Za 12 2047) (Zv 11 (by decide) (by decide) (by kernel_rfl) (by kernel_rfl) rfl (Zu (v := .agg #[u16]) hC 1 [u16] [u16] rfl ag95.size rfl rfl rfl rfl (Y3 (Xl (hC.getM 0 rfl)) rfl) (Nat.le_of_ble_eq_true rfl) rfl fun w64 hC => done (Zw ?_))))
           replace hC := hC.sM [1, 0, 4, 6, 7, 8, 9, 10, 11] (M' := [blk b22 95 [u16], own 114 9 u16 r24.terms.length (ETerm.encs r24.terms), blk b14 49 (A8.enc .u8 s12.2), own 114 9 v10 s10.1.length (ETerm.encs s10.1), blk b13 49 (A8.enc .u8 ((a1.terms.getD s11.2.toNat default).mono)), blk b12 95 [v10], blk b11 95 [.slice none 0 0], blk b10 95 [u1_0], blk b8 32 [u0_0, u0_1]]) (by decide) rfl
           exact ⟨rfl, _, rfl, ⟨b22, u16, r24, (sl ⟨rfl, rfl, rfl, rfl, rfl, rfl, rfl, rfl, rfl, rfl, trivial⟩), hC, h⟩⟩
         ·skip
          refine Yf hC [.slice none 0 0] z95 rfl fun b23 w65 hB_ hC => done (aK (by assumption) (Za 12 1527) (aO 3 rfl ?_))
          refine Zf [.agg (List.toArray (A8.enc .u8 (s12.1.set s10.2.toNat (IntKind.u8.wrap ((((a1.terms.getD s11.2.toNat default).mono).get s10.2.toNat) - 1))))), .int .i64 1] _ Try.func70 rfl rfl rfl (Zaz (s12.1.set s10.2.toNat (IntKind.u8.wrap ((((a1.terms.getD s11.2.toNat default).mono).get s10.2.toNat) - 1))) 1 h _) (fun ret27 w66 hR27 => ?_)
          obtain ⟨r30, u29, f24, rfl, h, hr26, hf38, hB27⟩ := hR27
          refine ⟨_, rfl, ?_⟩
          replace hC := hC.push hB27 (Tr.item (Zz 114) r30 [u29] f24) hr26 hf38
          obtain ⟨ho24, hf39⟩ := Y8 (hC.getM 0 rfl)
          subst hf39
          replace hC := hC.recast (c := own 114 9 u29 r30.terms.length (ETerm.encs r30.terms)) (fun _ h_ => h_) (fun _ => ho24)
          refine done (aK (by assumption) (Za 12 1535) (aO 9 rfl ?_))
          refine Zf [u0_0, .agg #[u29], .agg #[u19]] _ Try.func153 rfl rfl rfl (Zam a0.degrees r30 (a0.images.getD s10.2.toNat default) h _ (hC.getP 3 rfl) (Yl (Y7 (hC.getM 0 rfl))) (Yl (hC.getP 0 rfl))) (fun ret28 w67 hR28 => ?_)
          obtain ⟨r25, u17, f25, rfl, h, hr27, hf40, hB28⟩ := hR28
          refine ⟨_, rfl, ?_⟩
          replace hC := hC.push hB28 (Tr.item (Zz 114) r25 [u17] f25) hr27 hf40
          obtain ⟨ho25, hf41⟩ := Y8 (hC.getM 0 rfl)
          subst hf41
          replace hC := hC.recast (c := own 114 9 u17 r25.terms.length (ETerm.encs r25.terms)) (fun _ h_ => h_) (fun _ => ho25)
          refine done (aK (by assumption) (Za 12 2047) (Zv 11 (by decide) (by decide) (by kernel_rfl) (by kernel_rfl) rfl (Zu (v := .agg #[u17]) hC 2 [u17] [u17] rfl ag95.size rfl rfl rfl rfl (Y3 (Xl (hC.getM 0 rfl)) rfl) (Nat.le_of_ble_eq_true rfl) rfl fun w68 hC => done (Zw ?_))))
          replace hC := hC.sM [2, 0, 4, 6, 7, 8, 9, 10, 11] (M' := [blk b23 95 [u17], own 114 9 u17 r25.terms.length (ETerm.encs r25.terms), blk b14 49 (A8.enc .u8 s12.2), own 114 9 v10 s10.1.length (ETerm.encs s10.1), blk b13 49 (A8.enc .u8 ((a1.terms.getD s11.2.toNat default).mono)), blk b12 95 [v10], blk b11 95 [.slice none 0 0], blk b10 95 [u1_0], blk b8 32 [u0_0, u0_1]]) (by decide) rfl
          exact ⟨rfl, _, rfl, ⟨b23, u17, r25, (sl ⟨rfl, rfl, rfl, rfl, rfl, rfl, rfl, rfl, rfl, rfl, trivial⟩), hC, h⟩⟩
       ·skip
        exact ⟨(sl ⟨rfl, rfl, rfl, rfl, rfl, rfl, rfl, rfl, rfl, rfl, trivial⟩), hC⟩
      refine Xc 2 3 rfl rfl (by kernel_rfl) ?_ ?_
      ·skip
       refine Za5 hC (A8.enc .u8 A8.zero) z49 rfl fun b26 w69 hn_ hB_ hC => ?_
       have hnb_b13099 := Nat.le_trans hN_ hn_
       refine done ?_
       refine Zx (Yp hN_ (by assumption)) hN_ (l9 := (Za 6 7)) (by kernel_rfl) (fun hN_ => ?_)
       refine aO 3 rfl (Za5 hC (A8.enc .u8 A8.zero) z49 rfl fun b27 w70 hn_ hB_ hC => ?_)
       have hnb_b13102 := Nat.le_trans hN_ hn_
       refine done ?_
       refine Zx (Yp hN_ (by assumption)) hN_ (l9 := (Za 6 15)) (by kernel_rfl) (fun hN_ => ?_)
       refine aO 4 rfl (Zdm (v := .agg (List.toArray (A8.enc .u8 ((a1.terms.getD s11.2.toNat default).mono)))) hC 1 (A8.enc .u8 ((a1.terms.getD s11.2.toNat default).mono)) (A8.enc .u8 ((a1.terms.getD s11.2.toNat default).mono)) rfl ag49.size rfl rfl rfl rfl rfl (Nat.le_of_ble_eq_true rfl) rfl fun w71 hBB_ hC => done ?_)
       refine Zx (Yw hN_ hnb_b13099 hBB_) hN_ (l9 := (Za 6 31)) (by kernel_rfl) (fun hN_ => ?_)
       refine Zv 5 (by decide) (by decide) (by kernel_rfl) (by kernel_rfl) rfl (Zu (v := .agg (List.toArray (A8.enc .u8 ((a1.terms.getD s11.2.toNat default).mono)))) hC 0 (A8.enc .u8 ((a1.terms.getD s11.2.toNat default).mono)) (A8.enc .u8 ((a1.terms.getD s11.2.toNat default).mono)) rfl ag49.size rfl rfl rfl rfl rfl (Nat.le_of_ble_eq_true rfl) rfl fun w72 hC => done (Zw ?_))
       exact ⟨rfl, _, rfl, ⟨b27, b26, (sl ⟨rfl, rfl, rfl, rfl, rfl, rfl, rfl, rfl, rfl, trivial⟩), hC, h⟩⟩
      ·skip
       refine Za5 hC (A8.enc .u8 A8.zero) z49 rfl fun b24 w73 hn_ hB_ hC => ?_
       have hnb_b13107 := Nat.le_trans hN_ hn_
       refine done ?_
       refine Zx (Yp hN_ (by assumption)) hN_ (l9 := (Za 6 11)) (by kernel_rfl) (fun hN_ => ?_)
       refine aO 2 rfl (Za5 hC (A8.enc .u8 A8.zero) z49 rfl fun b25 w74 hn_ hB_ hC => ?_)
       have hnb_b13110 := Nat.le_trans hN_ hn_
       refine done ?_
       refine Zx (Yp hN_ (by assumption)) hN_ (l9 := (Za 6 15)) (by kernel_rfl) (fun hN_ => ?_)
       refine aO 4 rfl (Zdm (v := .agg (List.toArray (A8.enc .u8 ((a1.terms.getD s11.2.toNat default).mono)))) hC 0 (A8.enc .u8 ((a1.terms.getD s11.2.toNat default).mono)) (A8.enc .u8 ((a1.terms.getD s11.2.toNat default).mono)) rfl ag49.size rfl rfl rfl rfl rfl (Nat.le_of_ble_eq_true rfl) rfl fun w75 hBB_ hC => done ?_)
       refine Zx (Yw hN_ hnb_b13110 hBB_) hN_ (l9 := (Za 6 31)) (by kernel_rfl) (fun hN_ => ?_)
       refine Zv 5 (by decide) (by decide) (by kernel_rfl) (by kernel_rfl) rfl (Zu (v := .agg (List.toArray (A8.enc .u8 ((a1.terms.getD s11.2.toNat default).mono)))) hC 1 (A8.enc .u8 ((a1.terms.getD s11.2.toNat default).mono)) (A8.enc .u8 ((a1.terms.getD s11.2.toNat default).mono)) rfl ag49.size rfl rfl rfl rfl rfl (Nat.le_of_ble_eq_true rfl) rfl fun w76 hC => done (Zw ?_))
       replace hC := hC.sM [1, 0, 2, 3, 4, 5, 6, 7] (M' := [blk b24 49 (A8.enc .u8 ((a1.terms.getD s11.2.toNat default).mono)), blk b25 49 (A8.enc .u8 ((a1.terms.getD s11.2.toNat default).mono)), own 114 9 v10 s10.1.length (ETerm.encs s10.1), blk b13 49 (A8.enc .u8 ((a1.terms.getD s11.2.toNat default).mono)), blk b12 95 [v10], blk b11 95 [.slice none 0 0], blk b10 95 [u1_0], blk b8 32 [u0_0, u0_1]]) (by decide) rfl
       exact ⟨rfl, _, rfl, ⟨b24, b25, (sl ⟨rfl, rfl, rfl, rfl, rfl, rfl, rfl, rfl, rfl, trivial⟩), hC, h⟩⟩
    ·replace h := Zi h (cf hb11)
     refine wp_exit (Zl (Zl (Yc ?_)))
     refine Zt (Zd (Zk (Zb (v := .int .i64 s11.2) rfl (Zq rfl rfl (Zc (v := .int .i64 (IntKind.i64.wrap (s11.2 + 1))) rfl (done ?_))))))
     replace hC := hC.sM [0, 2, 3, 4, 5] (M' := [own 114 9 v10 s10.1.length (ETerm.encs s10.1), blk b12 95 [v10], blk b11 95 [.slice none 0 0], blk b10 95 [u1_0], blk b8 32 [u0_0, u0_1]]) (by decide) rfl
     exact hK12 (s10.1, IntKind.i64.wrap (s11.2 + 1)) _ _ ⟨v10, (sl ⟨rfl, rfl, rfl, rfl, rfl, trivial⟩), hC⟩ h
   ·skip
    replace hC := hC.sM [1, 0, 2, 3, 4, 5] (M' := [own 114 9 v11 s11.1.length (ETerm.encs s11.1), blk b13 49 (A8.enc .u8 ((a1.terms.getD s11.2.toNat default).mono)), blk b12 95 [v11], blk b11 95 [.slice none 0 0], blk b10 95 [u1_0], blk b8 32 [u0_0, u0_1]]) (by decide) rfl
    exact ⟨v11, (sl ⟨rfl, rfl, rfl, rfl, rfl, rfl, rfl, trivial⟩), hC⟩
  ·replace h := Zi h (cf hb10)
   refine wp_exit (Zl (Zl (Yc ?_)))
   refine Zd (sr (Ys hC 1 [v11] rfl ag95 rfl rfl rfl (Zu (v := .agg #[v11]) hC 2 [v11] [v11] rfl ag95.size rfl rfl rfl rfl (Y3 (Xl (hC.getM 0 rfl)) rfl) (Nat.le_of_ble_eq_true rfl) rfl fun w77 hC => dn (wp_ret ?_))))
   refine Zo (fn := Try.f132) rfl ?_ ⟨(⟨s11.1⟩ : Vc.Form), v11, (Option.toList (Value.ownBlock v11)), rfl, h, (Zau (Js (hC.getM 0 rfl))), (Zae hC 0 rfl), hC.below⟩ (.inl rfl)
   exact J3 hC 2 rfl ag95 rfl rfl
 ·skip
  replace hC := hC.pushNil 114 9
  exact ⟨.slice none 0 0, (sl ⟨rfl, rfl, rfl, rfl, rfl, trivial⟩), hC⟩
def Zfa (a0 : Alg) (K : Bool → Prop) : Prop :=
 Ze4 a0.degrees (fun r13 => (if ¬ (r13 = true) then K false else (if (a0.images.length : Int) ≠ (a0.degrees.length : Int) then K false else Xf (fun (s10 : Int) nx10 => (if s10 < (a0.images.length : Int) then ((0 ≤ s10 ∧ s10 < (a0.images.length : Int)) ∧ Ze8 a0.degrees (a0.images.getD s10.toNat default) (fun r14 => (if ¬ (r14 = true) then K false else ((0 ≤ s10 ∧ s10 < (a0.images.length : Int)) ∧ Ze9 a0.degrees (a0.images.getD s10.toNat default) (fun r10 r11 => (if ¬ (r11 = true) then K false else ((0 ≤ s10 ∧ s10 < (a0.images.length : Int)) ∧ (if (((a0.images.getD s10.toNat default).terms).length : Int) > 0 then ((0 ≤ s10 ∧ s10 < (a0.degrees.length : Int)) ∧ (if r10 ≠ IntKind.i64.wrap ((a0.degrees.getD s10.toNat default) + 1) then K false else nx10 (IntKind.i64.wrap (s10 + 1)))) else nx10 (IntKind.i64.wrap (s10 + 1)))))))))) else Xf (fun (s11 : Int) nx11 => (if s11 < (a0.images.length : Int) then ((0 ≤ s11 ∧ s11 < (a0.images.length : Int)) ∧ Zdo a0 (a0.images.getD s11.toNat default) (fun r12 => (if (r12.terms.length : Int) > 0 then K false else nx11 (IntKind.i64.wrap (s11 + 1))))) else K true)) 0)) 0)))
theorem Zqm (a0 : Alg) {u0_0 : Value} {u0_1 : Value} {fp0 : List Nat} {K : Bool → Prop} (h : Zfa a0 K) (w0 : World) (q0 : TAlg.rep a0 [u0_0, u0_1] fp0 w0) :
  Calls Try.prog 97 #[.agg #[u0_0, u0_1]] w0 fun e w' => ∃ (r0 : Bool), 
   e = .returned (.bool r0) ∧ K r0 ∧ Bel w0 w' := by
 unfold Zfa at h
 refine Z6 (args := [.agg #[u0_0, u0_1]]) Try.func97 rfl 86 Try.ntmps97 (Nat.le_of_ble_eq_true rfl) ?_
 have hC := Ctx.start (X := Nox) w0 [Ty.item TAlg a0 [u0_0, u0_1] fp0] (by simp only [List.mem_cons, List.not_mem_nil, or_false, forall_eq_or_imp, forall_eq]; exact q0)
 have hp2 := (hC.getP 0 rfl)
 replace hC := hC.derive 0 rfl (Ty.item ((EI .i64).ty.sl) a0.degrees [u0_0] fp0) (fun _ => (Yt hp2).1) (fun _ hb_ => hb_)
 replace hC := hC.derive 1 rfl (Ty.item TForm.sl a0.images [u0_1] fp0) (fun _ => (Yt hp2).2) (fun _ hb_ => hb_)
 refine sr (Ye (v := .agg #[u0_0, u0_1]) hC [u0_0, u0_1] rfl rfl fun b5 w7 hB_ hC => Zc (v := .bool false) rfl (dn (wp_seq (sr (Z1 0 Try.underlying32 rfl sc22.size rfl rfl (Z8 hC 0 (u0_0) rfl sc22 rfl rfl ?_))))))
 refine Zf [u0_0] _ Try.func81 rfl rfl rfl (Zqh a0.degrees h _ (hC.getP 1 rfl)) (fun ret8 w10 hR9 => ?_)
 obtain ⟨r13, rfl, h, hB10⟩ := hR9
 refine ⟨_, rfl, ?_⟩
 replace hC := hC.grow hB10
 refine X0 rfl (Zb (v := .bool (!r13)) rfl ?_)
 refine Xa (!r13) (fun hb12 => ?_) (fun hb12 => ?_)
 ·replace h := ift h (Xq (X6 hb12))
  refine Zn (b := true) 4 11 rfl (tr rfl (congrArg _ hb12)) (by decide) (Zn (b := true) 4 11 rfl (tr rfl (congrArg _ hb12)) (by decide) (Zn (b := true) 4 11 rfl (tr rfl (congrArg _ hb12)) (by decide) (Zn (b := true) 4 11 rfl (tr rfl (congrArg _ hb12)) (by decide) (Zn (b := true) 4 11 rfl (tr rfl (congrArg _ hb12)) (by decide) (Zn (b := true) 4 11 rfl (tr rfl (congrArg _ hb12)) (by decide) (Zn (b := true) 4 11 rfl (tr rfl (congrArg _ hb12)) (by decide) (Yb (v := .bool true) (b := true) (tr rfl (congrArg _ hb12)) rfl (dn (Yq rfl rfl (sr (Zc (v := .bool false) rfl ?_)))))))))))
  refine dn ?_
  refine wp_ret (Zj ?_)
  refine Zo (fn := Try.f97) rfl ?_ ⟨false, rfl, h, hC.below⟩ (.inl rfl)
  exact Zh rfl
 ·replace h := Zi h (not_not_intro ((X7 hb12)))
  refine Zm 4 11 rfl rfl hb12 (Z1 1 Try.underlying32 rfl sc30.size rfl rfl (Zm 4 11 rfl rfl hb12 (Z8 hC 0 (u0_1) rfl sc30 rfl rfl (Zm 4 11 rfl rfl hb12 ?_))))
  obtain ⟨Ad13, c10, hv15⟩ := Z2 (hC.getP 0 rfl)
  refine Z0 Try.underlying30 (tr rfl hv15) (Zm 4 11 rfl rfl hb12 (Z1 0 Try.underlying32 rfl sc22.size rfl rfl (Zm 4 11 rfl rfl hb12 (Z8 hC 0 (u0_0) rfl sc22 rfl rfl (Zm 4 11 rfl rfl hb12 ?_)))))
  obtain ⟨Ad14, c11, hv16⟩ := Z2 (hC.getP 1 rfl)
  refine Z0 Try.underlying22 (tr rfl hv16) (Zm 4 11 rfl rfl hb12 (Xj rfl rfl (Yb (v := .bool (decide ((a0.images.length : Int) ≠ (a0.degrees.length : Int)))) (b := false) (tr rfl (congrArg _ hb12)) rfl (dn ?_))))
  refine Zr rfl (fun hb13 => ?_) (fun hb13 => ?_)
  ·replace h := ift h (ct hb13)
   refine sr (Zc (v := .bool false) rfl (dn ?_))
   refine wp_ret (Zj ?_)
   refine Zo (fn := Try.f97) rfl ?_ ⟨false, rfl, h, hC.below⟩ (.inl rfl)
   exact Zh rfl
  ·replace h := Zi h (cf hb13)
   refine wp_skip (Zd (wp_seq (sr (Zc (v := .int .i64 0) rfl (dn (wp_block ?_))))))
   refine Xu (S := Int) _ (fun s10 e_ w_ => Z4 e_ [(1, .pointer (some ⟨b5, 0, none⟩)), (3, .int .i64 s10)] ∧ Ctx Nox w0 w_ [blk b5 32 [u0_0, u0_1]] [Ty.item TForm.sl a0.images [u0_1] fp0, Ty.item ((EI .i64).ty.sl) a0.degrees [u0_0] fp0, Ty.item TAlg a0 [u0_0, u0_1] fp0]) ?_ (s0 := 0) ?_ h
   ·clear hC h
    rintro s10 e_ w11 nx10 K10 ⟨hS_, hC⟩ h hK10
    rw [ue hS_]
    refine wp_seq (sr (Zb (v := .int .i64 s10) rfl (Z1 1 Try.underlying32 rfl sc30.size rfl rfl (Z8 hC 0 (u0_1) rfl sc30 rfl rfl ?_))))
    obtain ⟨Ad15, c12, hv17⟩ := Z2 (hC.getP 0 rfl)
    refine Z0 Try.underlying30 (tr rfl hv17) (Zs rfl rfl (dn ?_))
    refine Zr rfl (fun hb14 => ?_) (fun hb14 => ?_)
    ·replace h := ift h (ct hb14)
     refine wp_skip (Zd (wp_seq (wp_block (wp_seq (wp_seq ?_)))))
     refine Ym 7 Yg [0, 1, 0, 4, 0, 28, 60, 127, 255] [1, 3, 5, 6] [0, 2, 4] (by kernel_rfl) (by kernel_rfl) (by kernel_rfl) (fun hM11 hM14 w12 hB_ => ?_)
     replace hC := hC.grow hB_
     refine aF 0 (.pointer (some ⟨b5, 0, none⟩)) rfl rfl (hM14 0 rfl) (rfl) (fun _ => by exact Z7 0 Try.underlying32 rfl sc22.size rfl rfl) (Za 9 1) (aL 1 (u0_0) rfl rfl (hM11 1 rfl) (rfl) (fun _ hB_ => by exact Z5 (hC.grow hB_) 0 (u0_0) rfl sc22 rfl rfl) (Za 9 3) (aF 2 (.pointer (some ⟨b5, 1, none⟩)) rfl rfl (hM14 2 rfl) (rfl) (fun _ => by exact Z7 1 Try.underlying32 rfl sc30.size rfl rfl) (Za 9 7) (aL 3 (u0_1) rfl rfl (hM11 3 rfl) (rfl) (fun _ hB_ => by exact Z5 (hC.grow hB_) 0 (u0_1) rfl sc30 rfl rfl) (Za 9 15) (aF 4 (.int .i64 s10) rfl rfl (hM14 4 rfl) (rfl) (fun _ => by exact Zg (v := .int .i64 s10) rfl) (Za 9 31) ?_))))
     obtain ⟨⟨h10, h11⟩, h⟩ := h
     obtain ⟨Ad10, c13, hv10⟩ := Z9 (hC.getP 0 rfl) s10.toNat (show s10.toNat < a0.images.length by omega)
     refine aL 5 (.pointer (some (Ad10.add (s10.toNat * 1)))) rfl rfl (hM11 5 rfl) (rfl) (fun _ hB_ => by exact Yv (len := a0.images.length) Try.underlying30 ag95.size (by exact tr rfl hv10) rfl h10 h11) (Za 9 63) ?_
     obtain ⟨cs_, hl10, hc10, hr10⟩ := X9 (hC.getP 0 rfl) hv10 s10.toNat (show s10.toNat < a0.images.length by omega)
     obtain ⟨u10, rfl⟩ := List.length_eq_one_iff.1 hl10
     clear hl10
     rw [X3 _ _ (show s10.toNat < a0.images.length by omega)] at hr10
     have hp10 := hr10
     replace hC := hC.derive 0 rfl (Ty.item ETerm.ty.sl ((a0.images.getD s10.toNat default).terms) [u10] fp0) (fun _ => (Xb hp10)) (fun _ hb_ => hb_)
     refine aL 6 (.agg #[u10]) rfl rfl (hM11 6 rfl) (rfl) (fun _ hB_ => by exact Xw [u10] (J9 hB_ hc10) ag95 rfl rfl) (Za 9 127) (Zv 7 (by decide) (by decide) (by kernel_rfl) (by kernel_rfl) rfl ?_)
     refine Zf [u0_0, .agg #[u10]] _ Try.func130 rfl rfl rfl (Zqk a0.degrees (a0.images.getD s10.toNat default) h _ (hC.getP 2 rfl) (Yl (hC.getP 0 rfl))) (fun ret10 w13 hR10 => ?_)
     obtain ⟨r14, rfl, h, hB11⟩ := hR10
     refine ⟨_, rfl, ?_⟩
     replace hC := hC.grow hB11
     refine X0 rfl (done (Zw (Zd ?_)))
     refine Zr rfl (fun hb15 => ?_) (fun hb15 => ?_)
     ·replace h := ift h (Xq (X6 hb15))
      refine sr (Zc (v := .bool false) rfl (dn ?_))
      refine wp_ret (Zj (Yd (Zj (Zj (Yd (Zj ?_))))))
      refine Zo (fn := Try.f97) rfl ?_ ⟨false, rfl, h, hC.below⟩ (.inl rfl)
      exact Zh rfl
     ·replace h := Zi h (not_not_intro ((X7 hb15)))
      refine wp_skip (Zd (wp_seq ?_))
      refine Ym 12 Yg [0, 1, 0, 4, 0, 28, 60, 127, 255, 511, 511, 1023, 4095] [1, 3, 5, 6] [0, 2, 4, 8, 9, 10, 11] (by kernel_rfl) (by kernel_rfl) (by kernel_rfl) (fun hM12 hM10 w14 hB_ => ?_)
      replace hC := hC.grow hB_
      refine aF 0 (.pointer (some ⟨b5, 0, none⟩)) rfl rfl (hM10 0 rfl) (rfl) (fun _ => by exact Z7 0 Try.underlying32 rfl sc22.size rfl rfl) (Za 13 1) (aL 1 (u0_0) rfl rfl (hM12 1 rfl) (rfl) (fun _ hB_ => by exact Z5 (hC.grow hB_) 0 (u0_0) rfl sc22 rfl rfl) (Za 13 3) (aF 2 (.pointer (some ⟨b5, 1, none⟩)) rfl rfl (hM10 2 rfl) (rfl) (fun _ => by exact Z7 1 Try.underlying32 rfl sc30.size rfl rfl) (Za 13 7) (aL 3 (u0_1) rfl rfl (hM12 3 rfl) (rfl) (fun _ hB_ => by exact Z5 (hC.grow hB_) 0 (u0_1) rfl sc30 rfl rfl) (Za 13 15) (aF 4 (.int .i64 s10) rfl rfl (hM10 4 rfl) (rfl) (fun _ => by exact Zg (v := .int .i64 s10) rfl) (Za 13 31) ?_))))
      obtain ⟨⟨h12, h13⟩, h⟩ := h
      obtain ⟨Ad11, c14, hv11⟩ := Z9 (hC.getP 1 rfl) s10.toNat (show s10.toNat < a0.images.length by omega)
      refine aL 5 (.pointer (some (Ad11.add (s10.toNat * 1)))) rfl rfl (hM12 5 rfl) (rfl) (fun _ hB_ => by exact Yv (len := a0.images.length) Try.underlying30 ag95.size (by exact tr rfl hv11) rfl h12 h13) (Za 13 63) ?_
      obtain ⟨cs_, hl11, hc11, hr11⟩ := X9 (hC.getP 1 rfl) hv11 s10.toNat (show s10.toNat < a0.images.length by omega)
      obtain ⟨u11, rfl⟩ := List.length_eq_one_iff.1 hl11
      clear hl11
      rw [X3 _ _ (show s10.toNat < a0.images.length by omega)] at hr11
      have hp11 := hr11
      replace hC := hC.derive 1 rfl (Ty.item ETerm.ty.sl ((a0.images.getD s10.toNat default).terms) [u11] fp0) (fun _ => (Xb hp11)) (fun _ hb_ => hb_)
      refine aL 6 (.agg #[u11]) rfl rfl (hM12 6 rfl) (rfl) (fun _ hB_ => by exact Xw [u11] (J9 hB_ hc11) ag95 rfl rfl) (Za 13 127) (aO 7 rfl ?_)
      refine Zf [u0_0, .agg #[u11]] _ Try.func131 rfl rfl rfl (Zql a0.degrees (a0.images.getD s10.toNat default) h _ (hC.getP 3 rfl) (Yl (hC.getP 0 rfl))) (fun ret11 w15 hR11 => ?_)
      obtain ⟨r10, r11, rfl, h, hB12⟩ := hR11
      refine ⟨_, rfl, ?_⟩
      replace hC := hC.grow hB12
      refine done (aK (by assumption) (Za 13 255) (aF 8 (.tuple #[.int .i64 r10, .bool r11]) rfl rfl (hM10 8 rfl) (rfl) (fun _ => by exact Zg (v := .tuple #[.int .i64 r10, .bool r11]) rfl) (Za 13 511) (aF 9 (.int .i64 r10) rfl rfl (hM10 9 rfl) (rfl) (fun _ => by exact Zde (v := .int .i64 r10) rfl rfl) (Za 13 1023) (aF 10 (.bool r11) rfl rfl (hM10 10 rfl) (rfl) (fun _ => by exact Zde (v := .bool r11) rfl rfl) (Za 13 2047) (aF 11 (.int .i64 r10) rfl rfl (hM10 11 rfl) (rfl) (fun _ => by exact Zgn (v := .int .i64 r10) rfl) (Za 13 4095) (Zv 12 (by decide) (by decide) (by kernel_rfl) (by kernel_rfl) rfl (Zc (v := .bool r11) rfl (done (Zw (Zd (sr ?_)))))))))))
      refine Zb (v := .bool r11) rfl (X0 rfl (Zb (v := .bool (!r11)) rfl ?_))
      refine Xa (!r11) (fun hb10 => ?_) (fun hb10 => ?_)
      ·replace h := ift h (Xq (X6 hb10))
       refine Zn (b := true) 2 49 rfl (tr rfl (congrArg _ hb10)) (by decide) (Zn (b := true) 2 49 rfl (tr rfl (congrArg _ hb10)) (by decide) (Zn (b := true) 2 49 rfl (tr rfl (congrArg _ hb10)) (by decide) (Zn (b := true) 2 49 rfl (tr rfl (congrArg _ hb10)) (by decide) (Zn (b := true) 2 49 rfl (tr rfl (congrArg _ hb10)) (by decide) (Zn (b := true) 2 49 rfl (tr rfl (congrArg _ hb10)) (by decide) (Zn (b := true) 2 49 rfl (tr rfl (congrArg _ hb10)) (by decide) (Zn (b := true) 2 49 rfl (tr rfl (congrArg _ hb10)) (by decide) (Zn (b := true) 2 49 rfl (tr rfl (congrArg _ hb10)) (by decide) (J1 11 58 rfl rfl (J1 11 58 rfl rfl (J1 11 58 rfl rfl ?_)))))))))))
       refine J1 11 58 rfl rfl (J1 11 58 rfl rfl (J1 11 58 rfl rfl (J1 11 58 rfl rfl (J1 11 58 rfl rfl (Zn (b := true) 2 49 rfl (tr rfl (congrArg _ hb10)) (by decide) (Yb (v := .bool true) (b := true) (tr rfl (congrArg _ hb10)) rfl (dn (Yq rfl rfl (sr (Zc (v := .bool false) rfl (dn ?_)))))))))))
       refine wp_ret (Yd (Zj (Zj (Yd (Zj ?_)))))
       refine Zo (fn := Try.f97) rfl ?_ ⟨false, rfl, h, hC.below⟩ (.inl rfl)
       exact Zh rfl
      ·replace h := Zi h (not_not_intro ((X7 hb10)))
       refine Zm 2 49 rfl rfl hb10 (Z1 1 Try.underlying32 rfl sc30.size rfl rfl (Zm 2 49 rfl rfl hb10 (Z8 hC 0 (u0_1) rfl sc30 rfl rfl (Zm 2 49 rfl rfl hb10 (Zb (v := .int .i64 s10) rfl (Zm 2 49 rfl rfl hb10 ?_))))))
       obtain ⟨⟨h14, h15⟩, h⟩ := h
       obtain ⟨Ad16, c15, hv12⟩ := Z9 (hC.getP 2 rfl) s10.toNat (show s10.toNat < a0.images.length by omega)
       refine Xe (len := a0.images.length) Try.underlying30 ag95.size (tr rfl hv12) rfl h14 h15 (Zm 2 49 rfl rfl hb10 (Zdf (s10.toNat * 1 + 0) Try.underlying95 rfl sc93.size rfl rfl (Zm 2 49 rfl rfl hb10 ?_)))
       obtain ⟨cs_, hl12, hc12, hr12⟩ := X9 (hC.getP 2 rfl) hv12 s10.toNat (show s10.toNat < a0.images.length by omega)
       obtain ⟨u14, rfl⟩ := List.length_eq_one_iff.1 hl12
       clear hl12
       rw [X3 _ _ (show s10.toNat < a0.images.length by omega)] at hr12
       have hp12 := hr12
       replace hC := hC.derive 2 rfl (Ty.item ETerm.ty.sl ((a0.images.getD s10.toNat default).terms) [u14] fp0) (fun _ => (Xb hp12)) (fun _ hb_ => hb_)
       refine X5 (u14) (Jq (o := 0) (k := 1) hc12 rfl) sc93 rfl (Zm 2 49 rfl rfl hb10 ?_)
       obtain ⟨Ad17, c16, hv18⟩ := Z2 (hC.getP 0 rfl)
       refine Z0 Try.underlying93 (tr rfl hv18) (Zm 2 49 rfl rfl hb10 (Jm rfl rfl (Zm 2 49 rfl rfl hb10 (Zb (v := .bool (decide ((((a0.images.getD s10.toNat default).terms).length : Int) > 0))) rfl ?_))))
       refine Xa (decide ((((a0.images.getD s10.toNat default).terms).length : Int) > 0)) (fun hb11 => ?_) (fun hb11 => ?_)
       ·replace h := ift h (ct hb11)
        refine Zm 11 58 rfl rfl hb11 (Zb (v := .int .i64 r10) rfl (Zm 11 58 rfl rfl hb11 (Z1 0 Try.underlying32 rfl sc22.size rfl rfl (Zm 11 58 rfl rfl hb11 (Z8 hC 0 (u0_0) rfl sc22 rfl rfl (Zm 11 58 rfl rfl hb11 (Zb (v := .int .i64 s10) rfl (Zm 11 58 rfl rfl hb11 ?_))))))))
        obtain ⟨⟨h16, h17⟩, h⟩ := h
        obtain ⟨Ad18, c17, hv13⟩ := Z9 (hC.getP 4 rfl) s10.toNat (show s10.toNat < a0.degrees.length by omega)
        refine Xe (len := a0.degrees.length) Try.underlying22 sc2.size (tr rfl hv13) rfl h16 h17 (Zm 11 58 rfl rfl hb11 (X5 (.int .i64 (a0.degrees.getD s10.toNat default)) (Yk (hC.getP 4 rfl) hv13 s10.toNat (show s10.toNat < a0.degrees.length by omega)) sc2 rfl (Zm 11 58 rfl rfl hb11 (Zq rfl rfl (Zm 11 58 rfl rfl hb11 (Xj rfl rfl (Zm 2 49 rfl rfl hb10 (Yb (v := .bool (decide (r10 ≠ IntKind.i64.wrap ((a0.degrees.getD s10.toNat default) + 1)))) (b := true) (tr rfl (congrArg _ hb11)) rfl (Yb (v := .bool (decide (r10 ≠ IntKind.i64.wrap ((a0.degrees.getD s10.toNat default) + 1)))) (b := false) (tr rfl (congrArg _ hb10)) rfl (dn ?_))))))))))
        refine Zr rfl (fun hb16 => ?_) (fun hb16 => ?_)
        ·replace h := ift h (ct hb16)
         refine sr (Zc (v := .bool false) rfl (dn ?_))
         refine wp_ret (Yd (Zj (Zj (Yd (Zj ?_)))))
         refine Zo (fn := Try.f97) rfl ?_ ⟨false, rfl, h, hC.below⟩ (.inl rfl)
         exact Zh rfl
        ·replace h := Zi h (cf hb16)
         refine wp_skip (Zt (Zd (Zk (Zb (v := .int .i64 s10) rfl (Zq rfl rfl (Zc (v := .int .i64 (IntKind.i64.wrap (s10 + 1))) rfl (done ?_)))))))
         replace hC := hC.sP [3, 4, 5] (Ps' := [Ty.item TForm.sl a0.images [u0_1] fp0, Ty.item ((EI .i64).ty.sl) a0.degrees [u0_0] fp0, Ty.item TAlg a0 [u0_0, u0_1] fp0]) rfl
         exact hK10 (IntKind.i64.wrap (s10 + 1)) _ _ ⟨(sl ⟨rfl, rfl, trivial⟩), hC⟩ h
       ·replace h := Zi h (cf hb11)
        refine Zn (b := false) 11 58 rfl (tr rfl (congrArg _ hb11)) (by decide) (Zn (b := false) 11 58 rfl (tr rfl (congrArg _ hb11)) (by decide) (Zn (b := false) 11 58 rfl (tr rfl (congrArg _ hb11)) (by decide) (Zn (b := false) 11 58 rfl (tr rfl (congrArg _ hb11)) (by decide) (Zn (b := false) 11 58 rfl (tr rfl (congrArg _ hb11)) (by decide) (Zn (b := false) 11 58 rfl (tr rfl (congrArg _ hb11)) (by decide) (Zn (b := false) 11 58 rfl (tr rfl (congrArg _ hb11)) (by decide) (Zn (b := false) 11 58 rfl (tr rfl (congrArg _ hb11)) (by decide) (Zm 2 49 rfl rfl hb10 (Yb (v := .bool false) (b := false) (tr rfl (congrArg _ hb11)) rfl (Yb (v := .bool false) (b := false) (tr rfl (congrArg _ hb10)) rfl (dn ?_)))))))))))
        refine Yj rfl rfl (wp_skip (Zt (Zd (Zk (Zb (v := .int .i64 s10) rfl (Zq rfl rfl (Zc (v := .int .i64 (IntKind.i64.wrap (s10 + 1))) rfl (done ?_))))))))
        replace hC := hC.sP [3, 4, 5] (Ps' := [Ty.item TForm.sl a0.images [u0_1] fp0, Ty.item ((EI .i64).ty.sl) a0.degrees [u0_0] fp0, Ty.item TAlg a0 [u0_0, u0_1] fp0]) rfl
        exact hK10 (IntKind.i64.wrap (s10 + 1)) _ _ ⟨(sl ⟨rfl, rfl, trivial⟩), hC⟩ h
    ·replace h := Zi h (cf hb14)
     refine wp_exit (Zl (Zl (Yc ?_)))
     refine Zd (wp_seq (sr (Zc (v := .int .i64 0) rfl (dn (wp_block ?_)))))
     refine Xu (S := Int) _ (fun s11 e_ w_ => Z4 e_ [(1, .pointer (some ⟨b5, 0, none⟩)), (6, .int .i64 s11)] ∧ Ctx Nox w0 w_ [blk b5 32 [u0_0, u0_1]] [Ty.item TForm.sl a0.images [u0_1] fp0, Ty.item ((EI .i64).ty.sl) a0.degrees [u0_0] fp0, Ty.item TAlg a0 [u0_0, u0_1] fp0]) ?_ (s0 := 0) ?_ h
     ·clear hC h
      rintro s11 e_ w16 nx11 K11 ⟨hS_, hC⟩ h hK11
      rw [ue hS_]
      refine wp_seq (sr (Zb (v := .int .i64 s11) rfl (Z1 1 Try.underlying32 rfl sc30.size rfl rfl (Z8 hC 0 (u0_1) rfl sc30 rfl rfl ?_))))
      obtain ⟨Ad19, c18, hv19⟩ := Z2 (hC.getP 0 rfl)
      refine Z0 Try.underlying30 (tr rfl hv19) (Zs rfl rfl (dn ?_))
      refine Zr rfl (fun hb17 => ?_) (fun hb17 => ?_)
      ·replace h := ift h (ct hb17)
       refine wp_skip (Zd (wp_seq (wp_block (wp_seq ?_))))
       refine Ym 6 Yg [0, 0, 2, 0, 14, 30, 63, 127, 255, 511] [0, 2, 4, 5] [1, 3] (by kernel_rfl) (by kernel_rfl) (by kernel_rfl) (fun hM13 hM15 w17 hB_ => ?_)
       replace hC := hC.grow hB_
       refine aL 0 (.agg #[u0_0, u0_1]) rfl rfl (hM13 0 rfl) (rfl) (fun _ hB_ => by exact Yu (hC.grow hB_) 0 [u0_0, u0_1] rfl ag32 rfl rfl rfl) (Za 10 1) (aF 1 (.pointer (some ⟨b5, 1, none⟩)) rfl rfl (hM15 1 rfl) (rfl) (fun _ => by exact Z7 1 Try.underlying32 rfl sc30.size rfl rfl) (Za 10 3) (aL 2 (u0_1) rfl rfl (hM13 2 rfl) (rfl) (fun _ hB_ => by exact Z5 (hC.grow hB_) 0 (u0_1) rfl sc30 rfl rfl) (Za 10 7) (aF 3 (.int .i64 s11) rfl rfl (hM15 3 rfl) (rfl) (fun _ => by exact Zg (v := .int .i64 s11) rfl) (Za 10 15) ?_)))
       obtain ⟨⟨h18, h19⟩, h⟩ := h
       obtain ⟨Ad12, c19, hv14⟩ := Z9 (hC.getP 0 rfl) s11.toNat (show s11.toNat < a0.images.length by omega)
       refine aL 4 (.pointer (some (Ad12.add (s11.toNat * 1)))) rfl rfl (hM13 4 rfl) (rfl) (fun _ hB_ => by exact Yv (len := a0.images.length) Try.underlying30 ag95.size (by exact tr rfl hv14) rfl h18 h19) (Za 10 31) ?_
       obtain ⟨cs_, hl13, hc13, hr13⟩ := X9 (hC.getP 0 rfl) hv14 s11.toNat (show s11.toNat < a0.images.length by omega)
       obtain ⟨u12, rfl⟩ := List.length_eq_one_iff.1 hl13
       clear hl13
       rw [X3 _ _ (show s11.toNat < a0.images.length by omega)] at hr13
       have hp13 := hr13
       replace hC := hC.derive 0 rfl (Ty.item ETerm.ty.sl ((a0.images.getD s11.toNat default).terms) [u12] fp0) (fun _ => (Xb hp13)) (fun _ hb_ => hb_)
       refine aL 5 (.agg #[u12]) rfl rfl (hM13 5 rfl) (rfl) (fun _ hB_ => by exact Xw [u12] (J9 hB_ hc13) ag95 rfl rfl) (Za 10 63) (Zv 6 (by decide) (by decide) (by kernel_rfl) (by kernel_rfl) rfl ?_)
       refine Zf [.agg #[u0_0, u0_1], .agg #[u12]] _ Try.func132 rfl rfl rfl (Zl1 a0 (a0.images.getD s11.toNat default) h _ (Xr (hC.getP 2 rfl) (hC.getP 1 rfl)) (Yl (hC.getP 0 rfl))) (fun ret12 w18 hR12 => ?_)
       obtain ⟨r12, u13, f10, rfl, h, hr14, hf10, hB13⟩ := hR12
       refine ⟨_, rfl, ?_⟩
       replace hC := hC.push hB13 (Tr.item (Zz 114) r12 [u13] f10) hr14 hf10
       obtain ⟨ho10, hf11⟩ := Y8 (hC.getM 0 rfl)
       subst hf11
       replace hC := hC.recast (c := own 114 9 u13 r12.terms.length (ETerm.encs r12.terms)) (fun _ h_ => h_) (fun _ => ho10)
       refine Zpz (u13) Try.underlying95 rfl sc93 rfl rfl ?_
       obtain ⟨Ad20, c20, hv20⟩ := J6 (hC.getM 0 rfl)
       refine Z0 Try.underlying93 (tr rfl hv20) (Jm rfl rfl (done (Zw (Zd ?_))))
       refine Zr rfl (fun hb18 => ?_) (fun hb18 => ?_)
       ·replace h := ift h (ct hb18)
        refine sr (Zc (v := .bool false) rfl (dn ?_))
        refine wp_ret (Yd (Zj (Zj (Yd (Zj ?_)))))
        refine Zo (fn := Try.f97) rfl ?_ ⟨false, rfl, h, hC.below⟩ (.inl rfl)
        exact Zh rfl
       ·replace h := Zi h (cf hb18)
        refine wp_skip (Zt (Zd (Zk (Zb (v := .int .i64 s11) rfl (Zq rfl rfl (Zc (v := .int .i64 (IntKind.i64.wrap (s11 + 1))) rfl (done ?_)))))))
        replace hC := hC.sM [1] (M' := [blk b5 32 [u0_0, u0_1]]) (by decide) rfl
        replace hC := hC.sP [1, 2, 3] (Ps' := [Ty.item TForm.sl a0.images [u0_1] fp0, Ty.item ((EI .i64).ty.sl) a0.degrees [u0_0] fp0, Ty.item TAlg a0 [u0_0, u0_1] fp0]) rfl
        exact hK11 (IntKind.i64.wrap (s11 + 1)) _ _ ⟨(sl ⟨rfl, rfl, trivial⟩), hC⟩ h
      ·replace h := Zi h (cf hb17)
       refine wp_exit (Zl (Zl (Yc ?_)))
       refine Zd (sr (Zc (v := .bool true) rfl (dn (wp_ret ?_))))
       refine Zo (fn := Try.f97) rfl ?_ ⟨true, rfl, h, hC.below⟩ (.inl rfl)
       exact Zh rfl
     ·skip
      exact ⟨(sl ⟨rfl, rfl, trivial⟩), hC⟩
   ·skip
    exact ⟨(sl ⟨rfl, rfl, trivial⟩), hC⟩
def Zaa (a0 : Int) (K : Int → Prop) : Prop :=
 K (Int.tmod (IntKind.i64.wrap ((Int.tmod a0 10007) + 10007)) 10007)
theorem Zhf (a0 : Int)  {K : Int → Prop} (h : Zaa a0 K) (w0 : World)  :
  Calls Try.prog 159 #[.int .i64 a0] w0 fun e w' => ∃ (r0 : Int), 
   e = .returned (.int .i64 r0) ∧ K r0 ∧ Bel w0 w' := by
 unfold Zaa at h
 refine Z6 (args := [.int .i64 a0]) Try.func159 rfl 7 Try.ntmps159 (Nat.le_of_ble_eq_true rfl) ?_
 have hC := Ctx.start (X := Nox) w0 [] (by simp)
 refine sr (Zc (v := .int .i64 0) rfl (dn (sr (Zb (v := .int .i64 a0) rfl (Jk rfl rfl (by decide) (Zq rfl rfl (Jk rfl rfl (by decide) (Zc (v := .int .i64 (Int.tmod (IntKind.i64.wrap ((Int.tmod a0 10007) + 10007)) 10007)) rfl (dn (wp_ret ?_))))))))))
 refine Zo (fn := Try.f159) rfl ?_ ⟨Int.tmod (IntKind.i64.wrap ((Int.tmod a0 10007) + 10007)) 10007, rfl, h, hC.below⟩ (.inl rfl)
 exact Zh rfl
def Zcb (a0 : A8) (K : A8 → Prop) : Prop :=
 Yy (fun i10 (s10 : A8) nx10 => nx10 (s10.set i10 (IntKind.i64.wrap (a0.get i10)))) (fun (s10 : A8) => K s10) 8 0 A8.zero
theorem Zhg (a0 : A8)  {K : A8 → Prop} (h : Zcb a0 K) (w0 : World)  :
  Calls Try.prog 79 #[.agg (List.toArray (A8.enc .u8 a0))] w0 fun e w' => ∃ (r0 : A8), 
   e = .returned (.agg (List.toArray (A8.enc .i64 r0))) ∧ K r0 ∧ Bel w0 w' := by
 unfold Zcb at h
 refine Z6 (args := [.agg (List.toArray (A8.enc .u8 a0))]) Try.func79 rfl 18 Try.ntmps79 (Nat.le_of_ble_eq_true rfl) ?_
 have hC := Ctx.start (X := Nox) w0 [] (by simp)
 refine sr (Ye (v := .agg (List.toArray (A8.enc .u8 a0))) hC (A8.enc .u8 a0) rfl rfl fun b1 w3 hB_ hC => Yf hC (A8.enc .i64 A8.zero) Jt rfl fun b4 w6 hB_ hC => dn (sr (Jd [] rfl (Ze3   _) (Yf hC (A8.enc .i64 A8.zero) Jt rfl fun b7 w9 hB_ hC => Zu (v := .agg (List.toArray (A8.enc .i64 A8.zero))) hC 0 (A8.enc .i64 A8.zero) (A8.enc .i64 A8.zero) rfl ag101.size rfl rfl rfl rfl rfl (Nat.le_of_ble_eq_true rfl) rfl fun w10 hC => dn (wp_seq (sr (Ys hC 2 (A8.enc .u8 a0) rfl ag49 rfl rfl rfl ?_)))))))
 refine Zb (v := .int .i64 0) rfl (dn (wp_block ?_))
 refine Y6 (S := A8) _ _ (fun i10 s10 e_ w_ => Z4 e_ [(2, .pointer (some ⟨b4, 0, none⟩)), (3, .pointer (some ⟨b7, 0, none⟩)), (7, .agg (List.toArray (A8.enc .u8 a0))), (8, .int .i64 (i10 : Int))] ∧ Ctx Nox w0 w_ [blk b7 101 (A8.enc .i64 s10), blk b4 101 (A8.enc .i64 A8.zero)] []) 8 ?_ ?_ (s0 := A8.zero) ?_ h
 ·clear hC h
  rintro i10 s10 e_ w11 nx10 K10 hi10 ⟨hS_, hC⟩ h hK10
  rw [ue hS_]
  refine sr (Zs rfl rfl (dn (wp_seq (Yq rfl (decide_eq_true (by omega)) (wp_skip (Zd (wp_seq (wp_block (sr (Zb (v := .int .i64 (i10 : Int)) rfl (Zif (.int .u8 (a0.get i10)) Try.underlying49 rfl rfl (Int.natCast_nonneg _) (by omega) sc5 (A8.enc_get _ _ hi10) ?_)))))))))))
  refine Zc (v := .int .i64 (i10 : Int)) rfl (Zc (v := .int .u8 (a0.get i10)) rfl (dn (Zk (Zb (v := .int .i64 (i10 : Int)) rfl (Zb (v := .int .u8 (a0.get i10)) rfl (Zec Try.underlying5 Try.underlying3 rfl (Y1 i10 Try.underlying101 sc3.size rfl rfl (Int.natCast_nonneg _) (by omega) (by omega) (Zu (v := .int .i64 (IntKind.i64.wrap (a0.get i10))) hC 0 [.int .i64 (IntKind.i64.wrap (a0.get i10))] (A8.enc .i64 (s10.set i10 (IntKind.i64.wrap (a0.get i10)))) rfl sc3.size rfl rfl rfl rfl rfl hi10 (A8.enc_set _ _ _ hi10) fun w12 hC => done (Zt (Zd ?_))))))))))
  refine Zk (Zq rfl rfl (Zb (v := .int .i64 (IntKind.i64.wrap ((i10 : Int) + 1))) rfl (done ?_)))
  exact hK10 (s10.set i10 (IntKind.i64.wrap (a0.get i10))) _ _ ⟨(sl ⟨rfl, rfl, rfl, (tr rfl (congrArg _ (Yi hi10 (by decide)))), trivial⟩), hC⟩ h
 ·clear hC h
  rintro s10 e_ w13 K10 ⟨hS_, hC⟩ h
  rw [ue hS_]
  refine sr (Zs rfl rfl (dn (wp_seq (Yj rfl (decide_eq_false (by omega)) ?_))))
  refine wp_exit (Zl (Zl (Yc ?_)))
  refine Zd (sr (Ys hC 0 (A8.enc .i64 s10) rfl ag101 rfl rfl rfl (Zu (v := .agg (List.toArray (A8.enc .i64 s10))) hC 1 (A8.enc .i64 s10) (A8.enc .i64 s10) rfl ag101.size rfl rfl rfl rfl rfl (Nat.le_of_ble_eq_true rfl) rfl fun w14 hC => dn (wp_ret ?_))))
  refine Zo (fn := Try.f79) rfl ?_ ⟨s10, rfl, h, hC.below⟩ (.inl rfl)
  exact J3 hC 1 rfl ag101 rfl rfl
 ·skip
  replace hC := hC.sM [0, 1] (M' := [blk b7 101 (A8.enc .i64 A8.zero), blk b4 101 (A8.enc .i64 A8.zero)]) (by decide) rfl
  exact ⟨(sl ⟨rfl, rfl, rfl, rfl, trivial⟩), hC⟩
end Go.Proofs.Ytaagfepgbofmlaa
