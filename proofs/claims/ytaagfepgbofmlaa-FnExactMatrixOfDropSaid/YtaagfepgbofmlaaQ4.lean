import Derived.Test.YtaagfepgbofmlaaQ3
import Derived.KernelRfl
import Derived.Lib.AppendZeros
import Derived.Lib.AppendZerosOnto
import Derived.Maps.AppendAt
import Derived.Laws.Slices
import Derived.Laws.StructEq
import Derived.Laws.CopyRow
set_option linter.unusedVariables false
set_option linter.unusedSimpArgs false
set_option maxRecDepth 4000
set_option maxHeartbeats 4000000
namespace Go.Proofs.Ytaagfepgbofmlaa
open Go Go.RowKit Vc
theorem sc72 : ScaT Try.prog 72 := ⟨⟨_, Try.underlying72, rfl⟩, by kernel_rfl⟩
theorem ag128 : AggT Try.prog 128 1 := ⟨⟨_, Try.underlying128, rfl⟩, by kernel_rfl⟩
theorem sc23 : ScaT Try.prog 23 := ⟨⟨_, Try.underlying23, rfl⟩, by kernel_rfl⟩
theorem Zji : Jz Try.prog 95 (.agg #[.slice none 0 0]) 1 24 := by unfold Jz; kernel_rfl
theorem z32 : Jc Try.prog 32 (.agg #[.slice none 0 0, .slice none 0 0]) := by unfold Jc; kernel_rfl
def Zfr (a0 : Vc.Form) (a1 : Alg) (K : Bool → Prop) : Prop :=
 Zc1 a0 (fun r11 => Zds a1 r11 (fun r10 => K (decide ((r10.length : Int) > 0))))
theorem Zrj (a0 : Vc.Form) (a1 : Alg) {b1 : Nat} {u0_0 : Value} {u1_0 : Value} {u1_1 : Value} {fp0 : List Nat} {fp1 : List Nat} {K : Bool → Prop} (h : Zfr a0 a1 K) (w0 : World) (q0 : TForm.rep a0 [u0_0] fp0 w0) (q1 : TAlg.rep a1 [u1_0, u1_1] fp1 w0) (qb1 : (blk b1 32 [u1_0, u1_1]).holds w0) :
  Calls Try.prog 138 #[.agg #[u0_0], .pointer (some ⟨b1, 0, none⟩)] w0 fun e w' => ∃ (r0 : Bool), 
   e = .returned (.bool r0) ∧ K r0 ∧ Bel w0 w' := by
 unfold Zfr at h
 refine Z6 (args := [.agg #[u0_0], .pointer (some ⟨b1, 0, none⟩)]) Try.func138 rfl 9 Try.ntmps138 (Nat.le_of_ble_eq_true rfl) ?_
 have hC := Ctx.start (X := Nox) w0 [Ty.item TForm a0 [u0_0] fp0, Ty.item TAlg a1 [u1_0, u1_1] fp1, blk b1 32 [u1_0, u1_1]] (by simp only [List.mem_cons, List.not_mem_nil, or_false, forall_eq_or_imp, forall_eq]; exact ⟨q0, q1, qb1⟩)
 have hp4 := (hC.getP 0 rfl)
 replace hC := hC.derive 0 rfl (Ty.item ETerm.ty.sl a0.terms [u0_0] fp0) (fun _ => (Xb hp4)) (fun _ hb_ => hb_)
 have hp6 := (hC.getP 2 rfl)
 replace hC := hC.derive 2 rfl (Ty.item ((EI .i64).ty.sl) a1.degrees [u1_0] fp1) (fun _ => (Yt hp6).1) (fun _ hb_ => hb_)
 replace hC := hC.derive 3 rfl (Ty.item TForm.sl a1.images [u1_1] fp1) (fun _ => (Yt hp6).2) (fun _ hb_ => hb_)
 refine sr (Ye (v := .agg #[u0_0]) hC [u0_0] rfl rfl fun b9 w10 hB_ hC => Zc (v := .bool false) rfl (dn (sr (Ys hC 0 [u0_0] rfl ag95 rfl rfl rfl ?_))))
 refine Zf [.agg #[u0_0]] _ Try.func140 rfl rfl rfl (Zje a0 h _ (Yl (hC.getP 2 rfl))) (fun ret10 w11 hR10 => ?_)
 obtain ⟨r11, b10, rfl, h, hr10, hf10, hB10⟩ := hR10
 refine ⟨_, rfl, ?_⟩
 replace hC := hC.push hB10 (Ze (kvA .i64) (vvI .i64) b10 r11) hr10 (fun b_ hb_ => by obtain rfl := List.mem_singleton.1 hb_; exact hf10)
 refine Zf [.pointer (some ⟨b1, 0, none⟩), .map (some b10)] _ Try.func139 rfl rfl rfl (Zl5 a1 r11 h _ (Xr (hC.getP 1 rfl) (hC.getP 0 rfl)) (hC.getP 5 rfl) (hC.getM 0 rfl)) (fun ret11 w12 hR11 => ?_)
 obtain ⟨r10, b11, rfl, h, hr11, hf11, hB11⟩ := hR11
 refine ⟨_, rfl, ?_⟩
 replace hC := hC.push hB11 (Ze (kvA .i64) (vvI .i64) b11 r10) hr11 (fun b_ hb_ => by obtain rfl := List.mem_singleton.1 hb_; exact hf11)
 refine Zon (hC.getM 0 rfl) Try.underlying99 rfl rfl (Jm rfl rfl (Zc (v := .bool (decide ((r10.length : Int) > 0))) rfl (dn (wp_ret ?_))))
 refine Zo (fn := Try.f138) rfl ?_ ⟨decide ((r10.length : Int) > 0), rfl, h, hC.below⟩ (.inl rfl)
 exact Zh rfl
def Zhr (a0 : List Vc.Form) (p1 : Vc.Form → (Bool → Prop) → Prop) (K : Int → Prop) : Prop :=
 Yy (fun i10 (s10 : Unit) nx10 => p1 (a0.getD i10 default) (fun r10 => (if r10 = true then K (i10 : Int) else nx10 ()))) (fun (s10 : Unit) => K (-1)) a0.length 0 ()
theorem Zrk (a0 : List Vc.Form) (p1 : Vc.Form → (Bool → Prop) → Prop) {u0_0 : Value} {fp0 : List Nat} {K : Int → Prop} (h : Zhr a0 p1 K) (w0 : World) (q0 : TForm.sl.rep a0 [u0_0] fp0 w0) {g1 : Nat} {cp1 : List Value} {fn1 : Func} (hf1 : Try.prog.funcs[g1]? = some fn1) (hb1 : fn1.body.isNone = false) (hn1 : (fn1.name == "runtime.NumGoroutine") = false) (hp1 : ∀ (y0 : Vc.Form) (yu0_0 : Value) (yf0 : List Nat) (K_ : Bool → Prop) (w_ : World), Bel w0 w_ → TForm.rep y0 [yu0_0] yf0 w_ → p1 y0 K_ → Calls Try.prog g1 (List.toArray ([.agg #[yu0_0]] ++ cp1)) w_ fun e w' => ∃ (z0 : Bool), e = .returned (.bool z0) ∧ K_ z0 ∧ Bel w_ w') :
  Calls Try.prog 141 #[u0_0, .func (.func g1) #[] (List.toArray cp1)] w0 fun e w' => ∃ (r0 : Int), 
   e = .returned (.int .i64 r0) ∧ K r0 ∧ Bel w0 w' := by
 unfold Zhr at h
 refine Z6 (args := [u0_0, .func (.func g1) #[] (List.toArray cp1)]) Try.func141 rfl 19 Try.ntmps141 (Nat.le_of_ble_eq_true rfl) ?_
 have hC := Ctx.start (X := Nox) w0 [Ty.item TForm.sl a0 [u0_0] fp0] (by simp only [List.mem_cons, List.not_mem_nil, or_false, forall_eq_or_imp, forall_eq]; exact q0)
 refine sr (Zc (v := .int .i64 0) rfl (dn (wp_seq (sr (Zb (v := u0_0) rfl ?_)))))
 obtain ⟨Ad2, c3, hv4⟩ := Z2 (hC.getP 0 rfl)
 refine Z0 Try.underlying30 (tr rfl hv4) (Zb (v := .int .i64 0) rfl (dn (wp_block ?_)))
 have hN10 : a0.length ≤ 9223372036854775807 := Xv (hC.getP 0 rfl)
 refine Y6 (S := Unit) _ _ (fun i10 s10 e_ w_ => Z4 e_ [(0, u0_0), (1, .func (.func g1) #[] (List.toArray cp1)), (7, .int .i64 (a0.length : Int)), (8, .int .i64 (i10 : Int))] ∧ Ctx Nox w0 w_ [] [Ty.item TForm.sl a0 [u0_0] fp0]) a0.length ?_ ?_ (s0 := ()) ?_ h
 ·clear hC h
  rintro i10 s10 e_ w10 nx10 K10 hi10 ⟨hS_, hC⟩ h hK10
  rw [ue hS_]
  refine sr (Zs rfl rfl (dn (wp_seq (Yq rfl (decide_eq_true (by omega)) (wp_skip (Zd (wp_seq (wp_block (sr (Zb (v := .int .i64 (i10 : Int)) rfl (Zc (v := .int .i64 (i10 : Int)) rfl ?_)))))))))))
  refine dn (sr (Zb (v := .func (.func g1) #[] (List.toArray cp1)) rfl (Zb (v := u0_0) rfl (Zb (v := .int .i64 (i10 : Int)) rfl ?_))))
  obtain ⟨Ad10, c10, hv10⟩ := Z9 (hC.getP 0 rfl) i10 hi10
  refine Xe (len := a0.length) Try.underlying30 ag95.size (tr rfl hv10) rfl (Int.natCast_nonneg _) (Int.ofNat_lt.2 hi10) ?_
  obtain ⟨cs_, hl10, hc10, hr10⟩ := X9 (hC.getP 0 rfl) hv10 i10 hi10
  obtain ⟨u10, rfl⟩ := List.length_eq_one_iff.1 hl10
  clear hl10
  rw [X3 _ _ hi10] at hr10
  have hp10 := hr10
  replace hC := hC.derive 0 rfl (Ty.item ETerm.ty.sl ((a0.getD i10 default).terms) [u10] fp0) (fun _ => (Xb hp10)) (fun _ hb_ => hb_)
  refine Zak [u10] hc10 ag95 rfl rfl ?_
  refine Zky [.agg #[u10]] _ rfl hf1 hb1 hn1 rfl (hp1 _ _ _ _ _ hC.below (Yl (hC.getP 0 rfl)) h) (fun ret10 w11 hR10 => ?_)
  obtain ⟨r10, rfl, h, hB10⟩ := hR10
  refine ⟨_, rfl, ?_⟩
  replace hC := hC.grow hB10
  refine dn ?_
  refine Zr rfl (fun hb10 => ?_) (fun hb10 => ?_)
  ·replace h := ift h (hb10)
   refine sr (Zb (v := .int .i64 (i10 : Int)) rfl (Zc (v := .int .i64 (i10 : Int)) rfl (dn ?_)))
   refine wp_ret (Yd (Zj (Zj (Yd (Zj ?_)))))
   refine Zo (fn := Try.f141) rfl ?_ ⟨(i10 : Int), rfl, h, hC.below⟩ (.inl rfl)
   exact Zh rfl
  ·replace h := Zi h (Xq hb10)
   refine wp_skip (Zt (Zd (Zk (Zq rfl rfl (Zb (v := .int .i64 (IntKind.i64.wrap ((i10 : Int) + 1))) rfl (done ?_))))))
   replace hC := hC.sP [1] (Ps' := [Ty.item TForm.sl a0 [u0_0] fp0]) rfl
   exact hK10 () _ _ ⟨(sl ⟨rfl, rfl, rfl, (tr rfl (congrArg _ (Yi hi10 hN10))), trivial⟩), hC⟩ h
 ·clear hC h
  rintro s10 e_ w12 K10 ⟨hS_, hC⟩ h
  rw [ue hS_]
  refine sr (Zs rfl rfl (dn (wp_seq (Yj rfl (decide_eq_false (by omega)) ?_))))
  refine wp_exit (Zl (Zl (Yc ?_)))
  refine Zd (sr (Zc (v := .int .i64 (-1)) rfl (dn (wp_ret ?_))))
  refine Zo (fn := Try.f141) rfl ?_ ⟨(-1), rfl, h, hC.below⟩ (.inl rfl)
  exact Zh rfl
 ·skip
  exact ⟨(sl ⟨rfl, rfl, rfl, rfl, trivial⟩), hC⟩
def Zdu (a0 : List Vc.Form) (p1 : Vc.Form → (Bool → Prop) → Prop) (K : Bool → Prop) : Prop :=
 Zhr a0 p1 (fun r5 => K (decide (r5 ≥ 0)))
theorem Zl8 (a0 : List Vc.Form) (p1 : Vc.Form → (Bool → Prop) → Prop) {u0_0 : Value} {fp0 : List Nat} {K : Bool → Prop} (h : Zdu a0 p1 K) (w0 : World) (q0 : TForm.sl.rep a0 [u0_0] fp0 w0) {g1 : Nat} {cp1 : List Value} {fn1 : Func} (hf1 : Try.prog.funcs[g1]? = some fn1) (hb1 : fn1.body.isNone = false) (hn1 : (fn1.name == "runtime.NumGoroutine") = false) (hp1 : ∀ (y0 : Vc.Form) (yu0_0 : Value) (yf0 : List Nat) (K_ : Bool → Prop) (w_ : World), Bel w0 w_ → TForm.rep y0 [yu0_0] yf0 w_ → p1 y0 K_ → Calls Try.prog g1 (List.toArray ([.agg #[yu0_0]] ++ cp1)) w_ fun e w' => ∃ (z0 : Bool), e = .returned (.bool z0) ∧ K_ z0 ∧ Bel w_ w') :
  Calls Try.prog 104 #[u0_0, .func (.func g1) #[] (List.toArray cp1)] w0 fun e w' => ∃ (r0 : Bool), 
   e = .returned (.bool r0) ∧ K r0 ∧ Bel w0 w' := by
 unfold Zdu at h
 refine Z6 (args := [u0_0, .func (.func g1) #[] (List.toArray cp1)]) Try.func104 rfl 9 Try.ntmps104 (Nat.le_of_ble_eq_true rfl) ?_
 have hC := Ctx.start (X := Nox) w0 [Ty.item TForm.sl a0 [u0_0] fp0] (by simp only [List.mem_cons, List.not_mem_nil, or_false, forall_eq_or_imp, forall_eq]; exact q0)
 refine sr (Zc (v := .bool false) rfl (dn (sr (Zb (v := u0_0) rfl (Zb (v := .func (.func g1) #[] (List.toArray cp1)) rfl ?_)))))
 refine Zf [u0_0, .func (.func g1) #[] (List.toArray cp1)] _ Try.func141 rfl rfl rfl (Zrk a0 p1 h _ (hC.getP 0 rfl) hf1 hb1 hn1 (fun x0_ x1_ x2_ K_ w_ hb_ => hp1 x0_ x1_ x2_ K_ w_ (Zk1 hC.below hb_))) (fun Jn w4 hR3 => ?_)
 obtain ⟨r5, rfl, h, hB6⟩ := hR3
 refine ⟨_, rfl, ?_⟩
 replace hC := hC.grow hB6
 refine Zai rfl rfl (Zc (v := .bool (decide (r5 ≥ 0))) rfl (dn (wp_ret ?_)))
 refine Zo (fn := Try.f104) rfl ?_ ⟨decide (r5 ≥ 0), rfl, h, hC.below⟩ (.inl rfl)
 exact Zh rfl
def Zfs (a0 : Alg) (K : Bool → Prop) : Prop :=
 Zfd a0.degrees (fun r11 => (if ¬ (r11 = true) then K false else (if (a0.images.length : Int) ≠ (a0.degrees.length : Int) then K false else Yy (fun i10 (s10 : Unit) nx10 => Zdq a0.degrees (a0.images.getD i10 default) (fun r10 => (if ¬ (r10 = true) then K false else ((0 ≤ (i10 : Int) ∧ (i10 : Int) < (a0.degrees.length : Int)) ∧ Zfg a0.degrees (a0.images.getD i10 default) (IntKind.i64.wrap ((a0.degrees.getD i10 default) + 1)) (fun r13 => (if ¬ (r13 = true) then K false else nx10 ())))))) (fun (s10 : Unit) => Zdu a0.images (fun y0_ K_ => Zfr y0_ a0 K_) (fun r12 => K (!r12))) a0.images.length 0 ())))
theorem Zrl (a0 : Alg) {u0_0 : Value} {u0_1 : Value} {fp0 : List Nat} {K : Bool → Prop} (h : Zfs a0 K) (w0 : World) (q0 : TAlg.rep a0 [u0_0, u0_1] fp0 w0) :
  Calls Try.prog 103 #[.agg #[u0_0, u0_1]] w0 fun e w' => ∃ (r0 : Bool), 
   e = .returned (.bool r0) ∧ K r0 ∧ Bel w0 w' := by
 unfold Zfs at h
 refine Z6 (args := [.agg #[u0_0, u0_1]]) Try.func103 rfl 50 Try.ntmps103 (Nat.le_of_ble_eq_true rfl) ?_
 have hC := Ctx.start (X := Nox) w0 [Ty.item TAlg a0 [u0_0, u0_1] fp0] (by simp only [List.mem_cons, List.not_mem_nil, or_false, forall_eq_or_imp, forall_eq]; exact q0)
 have hp2 := (hC.getP 0 rfl)
 replace hC := hC.derive 0 rfl (Ty.item ((EI .i64).ty.sl) a0.degrees [u0_0] fp0) (fun _ => (Yt hp2).1) (fun _ hb_ => hb_)
 replace hC := hC.derive 1 rfl (Ty.item TForm.sl a0.images [u0_1] fp0) (fun _ => (Yt hp2).2) (fun _ hb_ => hb_)
 refine sr (Ye (v := .agg #[u0_0, u0_1]) hC [u0_0, u0_1] rfl rfl fun b5 w7 hB_ hC => Zc (v := .bool false) rfl (dn (wp_seq (sr (Z1 0 Try.underlying32 rfl sc22.size rfl rfl (Z8 hC 0 (u0_0) rfl sc22 rfl rfl ?_))))))
 refine Zf [u0_0] _ Try.func30 rfl rfl rfl (Zqs a0.degrees h _ (hC.getP 1 rfl)) (fun ret8 w10 hR9 => ?_)
 obtain ⟨r11, rfl, h, hB10⟩ := hR9
 refine ⟨_, rfl, ?_⟩
 replace hC := hC.grow hB10
 refine X0 rfl (Zb (v := .bool (!r11)) rfl ?_)
 refine Xa (!r11) (fun hb11 => ?_) (fun hb11 => ?_)
 ·replace h := ift h (Xq (X6 hb11))
  refine Zn (b := true) 4 9 rfl (tr rfl (congrArg _ hb11)) (by decide) (Zn (b := true) 4 9 rfl (tr rfl (congrArg _ hb11)) (by decide) (Zn (b := true) 4 9 rfl (tr rfl (congrArg _ hb11)) (by decide) (Zn (b := true) 4 9 rfl (tr rfl (congrArg _ hb11)) (by decide) (Zn (b := true) 4 9 rfl (tr rfl (congrArg _ hb11)) (by decide) (Zn (b := true) 4 9 rfl (tr rfl (congrArg _ hb11)) (by decide) (Zn (b := true) 4 9 rfl (tr rfl (congrArg _ hb11)) (by decide) (Yb (v := .bool true) (b := true) (tr rfl (congrArg _ hb11)) rfl (dn (Yq rfl rfl (sr (Zc (v := .bool false) rfl ?_)))))))))))
  refine dn ?_
  refine wp_ret (Zj ?_)
  refine Zo (fn := Try.f103) rfl ?_ ⟨false, rfl, h, hC.below⟩ (.inl rfl)
  exact Zh rfl
 ·replace h := Zi h (not_not_intro ((X7 hb11)))
  refine Zm 4 9 rfl rfl hb11 (Z1 1 Try.underlying32 rfl sc30.size rfl rfl (Zm 4 9 rfl rfl hb11 (Z8 hC 0 (u0_1) rfl sc30 rfl rfl (Zm 4 9 rfl rfl hb11 ?_))))
  obtain ⟨Ad11, c10, hv12⟩ := Z2 (hC.getP 0 rfl)
  refine Z0 Try.underlying30 (tr rfl hv12) (Zm 4 9 rfl rfl hb11 (Z1 0 Try.underlying32 rfl sc22.size rfl rfl (Zm 4 9 rfl rfl hb11 (Z8 hC 0 (u0_0) rfl sc22 rfl rfl (Zm 4 9 rfl rfl hb11 ?_)))))
  obtain ⟨Ad12, c11, hv13⟩ := Z2 (hC.getP 1 rfl)
  refine Z0 Try.underlying22 (tr rfl hv13) (Zm 4 9 rfl rfl hb11 (Xj rfl rfl (Yb (v := .bool (decide ((a0.images.length : Int) ≠ (a0.degrees.length : Int)))) (b := false) (tr rfl (congrArg _ hb11)) rfl (dn ?_))))
  refine Zr rfl (fun hb12 => ?_) (fun hb12 => ?_)
  ·replace h := ift h (ct hb12)
   refine sr (Zc (v := .bool false) rfl (dn ?_))
   refine wp_ret (Zj ?_)
   refine Zo (fn := Try.f103) rfl ?_ ⟨false, rfl, h, hC.below⟩ (.inl rfl)
   exact Zh rfl
  ·replace h := Zi h (cf hb12)
   refine wp_skip (Zd (wp_seq (sr (Z1 1 Try.underlying32 rfl sc30.size rfl rfl (Z8 hC 0 (u0_1) rfl sc30 rfl rfl ?_)))))
   obtain ⟨Ad13, c12, hv14⟩ := Z2 (hC.getP 0 rfl)
   refine Z0 Try.underlying30 (tr rfl hv14) (Zb (v := .int .i64 0) rfl (dn (wp_block ?_)))
   have hN10 : a0.images.length ≤ 9223372036854775807 := Xv (hC.getP 0 rfl)
   refine Y6 (S := Unit) _ _ (fun i10 s10 e_ w_ => Z4 e_ [(1, .pointer (some ⟨b5, 0, none⟩)), (19, u0_1), (20, .int .i64 (a0.images.length : Int)), (21, .int .i64 (i10 : Int))] ∧ Ctx Nox w0 w_ [blk b5 32 [u0_0, u0_1]] [Ty.item TForm.sl a0.images [u0_1] fp0, Ty.item ((EI .i64).ty.sl) a0.degrees [u0_0] fp0, Ty.item TAlg a0 [u0_0, u0_1] fp0]) a0.images.length ?_ ?_ (s0 := ()) ?_ h
   ·clear hC h
    rintro i10 s10 e_ w11 nx10 K10 hi10 ⟨hS_, hC⟩ h hK10
    rw [ue hS_]
    refine sr (Zs rfl rfl (dn (wp_seq (Yq rfl (decide_eq_true (by omega)) (wp_skip (Zd (wp_seq (wp_block (sr (Zb (v := .int .i64 (i10 : Int)) rfl ?_))))))))))
    obtain ⟨Ad14, c13, hv10⟩ := Z9 (hC.getP 0 rfl) i10 hi10
    refine Xe (len := a0.images.length) Try.underlying30 ag95.size (tr rfl hv10) rfl (Int.natCast_nonneg _) (Int.ofNat_lt.2 hi10) ?_
    obtain ⟨cs_, hl10, hc10, hr10⟩ := X9 (hC.getP 0 rfl) hv10 i10 hi10
    obtain ⟨u10, rfl⟩ := List.length_eq_one_iff.1 hl10
    clear hl10
    rw [X3 _ _ hi10] at hr10
    have hp10 := hr10
    replace hC := hC.derive 0 rfl (Ty.item ETerm.ty.sl ((a0.images.getD i10 default).terms) [u10] fp0) (fun _ => (Xb hp10)) (fun _ hb_ => hb_)
    refine Zak [u10] hc10 ag95 rfl rfl (Yf hC [.slice none 0 0] z95 rfl fun b10 w12 hB_ hC => Zc (v := .int .i64 (i10 : Int)) rfl (Zu (v := .agg #[u10]) hC 0 [u10] [u10] rfl ag95.size rfl rfl rfl rfl (Y3 (Zbc (hC.getP 0 rfl)) rfl) (Nat.le_of_ble_eq_true rfl) rfl fun w13 hC => dn (wp_seq ?_)))
    refine Ym 15 Yg [0, 1, 0, 7, 15, 31, 63, 127, 63, 63, 575, 63, 3647, 7743, 15935, 32767, 65535, 131071] [1, 2, 7, 8, 10, 12, 13] [0, 4, 5, 6, 7, 8, 9, 10, 11, 12, 13, 14] (by kernel_rfl) (by kernel_rfl) (by kernel_rfl) (fun hM11 hM10 w14 hB_ => ?_)
    replace hC := hC.grow hB_
    refine aF 0 (.pointer (some ⟨b5, 0, none⟩)) rfl rfl (hM10 0 rfl) (rfl) (fun _ => by exact Z7 0 Try.underlying32 rfl sc22.size rfl rfl) (Za 18 1) (aL 1 (u0_0) rfl rfl (hM11 1 rfl) (rfl) (fun _ hB_ => by exact Z5 (hC.grow hB_) 1 (u0_0) rfl sc22 rfl rfl) (Za 18 3) (aL 2 (.agg #[u10]) rfl rfl (hM11 2 rfl) (rfl) (fun _ hB_ => by exact Yu (hC.grow hB_) 0 [u10] rfl ag95 rfl rfl rfl) (Za 18 7) (aO 3 rfl ?_)))
    refine Zf [u0_0, .agg #[u10]] _ Try.func106 rfl rfl rfl (Zl3 a0.degrees (a0.images.getD i10 default) h _ (hC.getP 2 rfl) (Yl (hC.getP 0 rfl))) (fun ret10 w15 hR10 => ?_)
    obtain ⟨r10, rfl, h, hB11⟩ := hR10
    refine ⟨_, rfl, ?_⟩
    replace hC := hC.grow hB11
    refine done (aK (by assumption) (Za 18 15) (aF 4 (.bool (!r10)) rfl rfl (hM10 4 rfl) (rfl) (fun _ => by exact Zie rfl) (Za 18 31) (aF 5 (.bool (!r10)) rfl rfl (hM10 5 rfl) (rfl) (fun _ => by exact Zg (v := .bool (!r10)) rfl) (Za 18 63) ?_)))
    refine Xa (!r10) (fun hb10 => ?_) (fun hb10 => ?_)
    ·replace h := ift h (Xq (X6 hb10))
     refine Zp Z3 6 undef rfl rfl (by kernel_rfl) (hM10 6 rfl) (fun w_ => .inr ⟨Yh (b := true) 5 31 rfl (tr rfl (congrArg _ hb10)) (by decide), rfl⟩) (l9 := (Za 18 127)) (by kernel_rfl) (Zp Z3 7 undef rfl rfl (by kernel_rfl) (hM10 7 rfl) (fun w_ => .inr ⟨Yh (b := true) 5 31 rfl (tr rfl (congrArg _ hb10)) (by decide), rfl⟩) (l9 := (Za 18 255)) (by kernel_rfl) (Zp Z3 8 undef rfl rfl (by kernel_rfl) (hM10 8 rfl) (fun w_ => .inr ⟨Yh (b := true) 5 31 rfl (tr rfl (congrArg _ hb10)) (by decide), rfl⟩) (l9 := (Za 18 511)) (by kernel_rfl) (Zp Z3 9 undef rfl rfl (by kernel_rfl) (hM10 9 rfl) (fun w_ => .inr ⟨Yh (b := true) 5 31 rfl (tr rfl (congrArg _ hb10)) (by decide), rfl⟩) (l9 := (Za 18 1023)) (by kernel_rfl) (Zp Z3 10 undef rfl rfl (by kernel_rfl) (hM10 10 rfl) (fun w_ => .inr ⟨Yh (b := true) 5 31 rfl (tr rfl (congrArg _ hb10)) (by decide), rfl⟩) (l9 := (Za 18 2047)) (by kernel_rfl) (Zp Z3 11 undef rfl rfl (by kernel_rfl) (hM10 11 rfl) (fun w_ => .inr ⟨Yh (b := true) 5 31 rfl (tr rfl (congrArg _ hb10)) (by decide), rfl⟩) (l9 := (Za 18 4095)) (by kernel_rfl) (Zp Z3 12 undef rfl rfl (by kernel_rfl) (hM10 12 rfl) (fun w_ => .inr ⟨Yh (b := true) 5 31 rfl (tr rfl (congrArg _ hb10)) (by decide), rfl⟩) (l9 := (Za 18 8191)) (by kernel_rfl) (Zp Z3 13 undef rfl rfl (by kernel_rfl) (hM10 13 rfl) (fun w_ => .inr ⟨Yh (b := true) 5 31 rfl (tr rfl (congrArg _ hb10)) (by decide), rfl⟩) (l9 := (Za 18 16383)) (by kernel_rfl) ?_)))))))
     refine Zp Z3 14 undef rfl rfl (by kernel_rfl) (hM10 14 rfl) (fun w_ => .inr ⟨Yh (b := true) 5 31 rfl (tr rfl (congrArg _ hb10)) (by decide), rfl⟩) (l9 := (Za 18 32767)) (by kernel_rfl) (Zv 15 (by decide) (by decide) (by kernel_rfl) (by kernel_rfl) rfl (Zn (b := true) 5 31 rfl (tr rfl (congrArg _ hb10)) (by decide) (Zn (b := true) 5 31 rfl (tr rfl (congrArg _ hb10)) (by decide) (Yb (v := .bool true) (b := true) (tr rfl (congrArg _ hb10)) rfl (done (Zw (Zd (Yq rfl rfl (sr (Zc (v := .bool false) rfl (dn ?_)))))))))))
     refine wp_ret (Yd (Zj (Zj (Yd (Zj ?_)))))
     refine Zo (fn := Try.f103) rfl ?_ ⟨false, rfl, h, hC.below⟩ (.inl rfl)
     exact Zh rfl
    ·replace h := Zi h (not_not_intro ((X7 hb10)))
     refine aF 6 (.pointer (some ⟨b5, 0, none⟩)) rfl rfl (hM10 6 rfl) (Yn 5 31 rfl rfl hb10) (fun _ => by exact Z7 0 Try.underlying32 rfl sc22.size rfl rfl) (Za 18 127) (aL 7 (u0_0) rfl rfl (hM11 7 rfl) (Yn 5 31 rfl rfl hb10) (fun _ hB_ => by exact Z5 (hC.grow hB_) 1 (u0_0) rfl sc22 rfl rfl) (Za 18 255) (aL 8 (.agg #[u10]) rfl rfl (hM11 8 rfl) (Yn 5 31 rfl rfl hb10) (fun _ hB_ => by exact Yu (hC.grow hB_) 0 [u10] rfl ag95 rfl rfl rfl) (Za 18 511) (aF 9 (.pointer (some ⟨b5, 0, none⟩)) rfl rfl (hM10 9 rfl) (Yn 5 31 rfl rfl hb10) (fun _ => by exact Z7 0 Try.underlying32 rfl sc22.size rfl rfl) (Za 18 1023) (aL 10 (u0_0) rfl rfl (hM11 10 rfl) (Yn 5 31 rfl rfl hb10) (fun _ hB_ => by exact Z5 (hC.grow hB_) 1 (u0_0) rfl sc22 rfl rfl) (Za 18 2047) (aF 11 (.int .i64 (i10 : Int)) rfl rfl (hM10 11 rfl) (Yn 5 31 rfl rfl hb10) (fun _ => by exact Zg (v := .int .i64 (i10 : Int)) rfl) (Za 18 4095) ?_)))))
     obtain ⟨⟨h10, h11⟩, h⟩ := h
     obtain ⟨Ad10, c14, hv11⟩ := Z9 (hC.getP 2 rfl) i10 (show i10 < a0.degrees.length by omega)
     refine aL 12 (.pointer (some (Ad10.add (i10 * 1)))) rfl rfl (hM11 12 rfl) (Yn 5 31 rfl rfl hb10) (fun _ hB_ => by exact Yv (len := a0.degrees.length) Try.underlying22 sc2.size (by exact tr rfl hv11) rfl h10 h11) (Za 18 8191) (aL 13 (.int .i64 (a0.degrees.getD i10 default)) rfl rfl (hM11 13 rfl) (Yn 5 31 rfl rfl hb10) (fun _ hB_ => by exact Jf (.int .i64 (a0.degrees.getD i10 default)) (Yk ((hC.grow hB_).getP 2 rfl) hv11 i10 (show i10 < a0.degrees.length by omega)) sc2 rfl) (Za 18 16383) (aF 14 (.int .i64 (IntKind.i64.wrap ((a0.degrees.getD i10 default) + 1))) rfl rfl (hM10 14 rfl) (Yn 5 31 rfl rfl hb10) (fun _ => by exact Zgo rfl rfl) (Za 18 32767) (Zv 15 (by decide) (by decide) (by kernel_rfl) (by kernel_rfl) rfl (Zm 5 31 rfl rfl hb10 ?_))))
     refine Zf [u0_0, .agg #[u10], .int .i64 (IntKind.i64.wrap ((a0.degrees.getD i10 default) + 1))] _ Try.func137 rfl rfl rfl (Zqw a0.degrees (a0.images.getD i10 default) (IntKind.i64.wrap ((a0.degrees.getD i10 default) + 1)) h _ (hC.getP 2 rfl) (Yl (hC.getP 0 rfl))) (fun ret11 w16 hR11 => ?_)
     obtain ⟨r13, rfl, h, hB12⟩ := hR11
     refine ⟨_, rfl, ?_⟩
     replace hC := hC.grow hB12
     refine Zm 5 31 rfl rfl hb10 (X0 rfl (Yb (v := .bool (!r13)) (b := false) (tr rfl (congrArg _ hb10)) rfl (done (Zw (Zd ?_)))))
     refine Zr rfl (fun hb13 => ?_) (fun hb13 => ?_)
     ·replace h := ift h (Xq (X6 hb13))
      refine sr (Zc (v := .bool false) rfl (dn ?_))
      refine wp_ret (Yd (Zj (Zj (Yd (Zj ?_)))))
      refine Zo (fn := Try.f103) rfl ?_ ⟨false, rfl, h, hC.below⟩ (.inl rfl)
      exact Zh rfl
     ·replace h := Zi h (not_not_intro ((X7 hb13)))
      refine wp_skip (Zt (Zd (Zk (Zq rfl rfl (Zb (v := .int .i64 (IntKind.i64.wrap ((i10 : Int) + 1))) rfl (done ?_))))))
      replace hC := hC.sM [1] (M' := [blk b5 32 [u0_0, u0_1]]) (by decide) rfl
      replace hC := hC.sP [1, 2, 3] (Ps' := [Ty.item TForm.sl a0.images [u0_1] fp0, Ty.item ((EI .i64).ty.sl) a0.degrees [u0_0] fp0, Ty.item TAlg a0 [u0_0, u0_1] fp0]) rfl
      exact hK10 () _ _ ⟨(sl ⟨rfl, rfl, rfl, (tr rfl (congrArg _ (Yi hi10 hN10))), trivial⟩), hC⟩ h
   ·clear hC h
    rintro s10 e_ w17 K10 ⟨hS_, hC⟩ h
    rw [ue hS_]
    refine sr (Zs rfl rfl (dn (wp_seq (Yj rfl (decide_eq_false (by omega)) ?_))))
    refine wp_exit (Zl (Zl (Yc ?_)))
    refine Zd (sr (Z1 1 Try.underlying32 rfl sc30.size rfl rfl (Z8 hC 0 (u0_1) rfl sc30 rfl rfl (Zk0 (g := 138) [.pointer (some ⟨b5, 0, none⟩)] (Zkz rfl rfl) ?_))))
    refine Zf [u0_1, .func (.func 138) #[] (List.toArray [.pointer (some ⟨b5, 0, none⟩)])] _ Try.func104 rfl rfl rfl (Zl8 a0.images (fun y0_ K_ => Zfr y0_ a0 K_) h _ (hC.getP 0 rfl) Try.func138 rfl rfl (fun y0_ yu0_0_ yf0_ K_ w_ hb_ rq0_ hq_ => Zrj y0_ a0 hq_ w_ rq0_ (Xr ((hC.grow hb_).getP 1 rfl) ((hC.grow hb_).getP 0 rfl)) ((hC.grow hb_).getM 0 rfl))) (fun ret12 w18 hR12 => ?_)
    obtain ⟨r12, rfl, h, hB13⟩ := hR12
    refine ⟨_, rfl, ?_⟩
    replace hC := hC.grow hB13
    refine X0 rfl (Zc (v := .bool (!r12)) rfl (dn (wp_ret ?_)))
    refine Zo (fn := Try.f103) rfl ?_ ⟨!r12, rfl, h, hC.below⟩ (.inl rfl)
    exact Zh rfl
   ·skip
    exact ⟨(sl ⟨rfl, rfl, rfl, rfl, trivial⟩), hC⟩
def Zhs (a0 : Vc.Form) (a1 : Alg) (K : Bool → Prop) : Prop :=
 Zdq a1.degrees a0 (fun r10 => K (!r10))
theorem Zrm (a0 : Vc.Form) (a1 : Alg) {b1 : Nat} {bp1 : Nat} {u0_0 : Value} {u1_0 : Value} {u1_1 : Value} {fp0 : List Nat} {fp1 : List Nat} {K : Bool → Prop} (h : Zhs a0 a1 K) (w0 : World) (q0 : TForm.rep a0 [u0_0] fp0 w0) (q1 : TAlg.rep a1 [u1_0, u1_1] fp1 w0) (qb1 : (blk b1 32 [u1_0, u1_1]).holds w0) (qbp1 : (blk bp1 72 [.pointer (some ⟨b1, 0, none⟩)]).holds w0) :
  Calls Try.prog 105 #[.agg #[u0_0], .pointer (some ⟨bp1, 0, none⟩)] w0 fun e w' => ∃ (r0 : Bool), 
   e = .returned (.bool r0) ∧ K r0 ∧ Bel w0 w' := by
 unfold Zhs at h
 refine Z6 (args := [.agg #[u0_0], .pointer (some ⟨bp1, 0, none⟩)]) Try.func105 rfl 11 Try.ntmps105 (Nat.le_of_ble_eq_true rfl) ?_
 have hC := Ctx.start (X := Nox) w0 [Ty.item TForm a0 [u0_0] fp0, Ty.item TAlg a1 [u1_0, u1_1] fp1, blk b1 32 [u1_0, u1_1], blk bp1 72 [.pointer (some ⟨b1, 0, none⟩)]] (by simp only [List.mem_cons, List.not_mem_nil, or_false, forall_eq_or_imp, forall_eq]; exact ⟨q0, q1, qb1, qbp1⟩)
 have hp5 := (hC.getP 0 rfl)
 replace hC := hC.derive 0 rfl (Ty.item ETerm.ty.sl a0.terms [u0_0] fp0) (fun _ => (Xb hp5)) (fun _ hb_ => hb_)
 have hp7 := (hC.getP 2 rfl)
 replace hC := hC.derive 2 rfl (Ty.item ((EI .i64).ty.sl) a1.degrees [u1_0] fp1) (fun _ => (Yt hp7).1) (fun _ hb_ => hb_)
 replace hC := hC.derive 3 rfl (Ty.item TForm.sl a1.images [u1_1] fp1) (fun _ => (Yt hp7).2) (fun _ hb_ => hb_)
 refine sr (Ye (v := .agg #[u0_0]) hC [u0_0] rfl rfl fun b10 w10 hB_ hC => Zc (v := .bool false) rfl (dn (wp_seq ?_)))
 refine Ym 5 Yg [0, 1, 3, 7, 0, 31, 63, 127] [0, 3, 4] [1, 2] (by kernel_rfl) (by kernel_rfl) (by kernel_rfl) (fun hM10 hM11 w11 hB_ => ?_)
 replace hC := hC.grow hB_
 refine aL 0 (.pointer (some ⟨b1, 0, none⟩)) rfl rfl (hM10 0 rfl) (rfl) (fun _ hB_ => by exact Zan (.pointer (some ⟨b1, 0, none⟩)) ((hC.grow hB_).getP 6 rfl) sc72 rfl rfl) (Za 8 1) (aF 1 (.pointer (some ⟨b1, 0, none⟩)) rfl rfl (hM11 1 rfl) (rfl) (fun _ => by exact Jx rfl) (Za 8 3) (aF 2 (.pointer (some ⟨b1, 0, none⟩)) rfl rfl (hM11 2 rfl) (rfl) (fun _ => by exact Z7 0 Try.underlying32 rfl sc22.size rfl rfl) (Za 8 7) (aL 3 (u1_0) rfl rfl (hM10 3 rfl) (rfl) (fun _ hB_ => by exact Zan (u1_0) ((hC.grow hB_).getP 5 rfl) sc22 rfl rfl) (Za 8 15) (aL 4 (.agg #[u0_0]) rfl rfl (hM10 4 rfl) (rfl) (fun _ hB_ => by exact Yu (hC.grow hB_) 0 [u0_0] rfl ag95 rfl rfl rfl) (Za 8 31) (Zv 5 (by decide) (by decide) (by kernel_rfl) (by kernel_rfl) rfl ?_)))))
 refine Zf [u1_0, .agg #[u0_0]] _ Try.func106 rfl rfl rfl (Zl3 a1.degrees a0 h _ (hC.getP 1 rfl) (Yl (hC.getP 2 rfl))) (fun ret10 w12 hR10 => ?_)
 obtain ⟨r10, rfl, h, hB10⟩ := hR10
 refine ⟨_, rfl, ?_⟩
 replace hC := hC.grow hB10
 refine X0 rfl (Zc (v := .bool (!r10)) rfl (done (Zw (Zd (wp_ret ?_)))))
 refine Zo (fn := Try.f105) rfl ?_ ⟨!r10, rfl, h, hC.below⟩ (.inl rfl)
 exact Zh rfl
def Zft (a0 : Alg) (a1 : List Vc.Form) (K : Int → Prop) : Prop :=
 Zfs a0 (fun r11 => (if ¬ (r11 = true) then Zc3 true 1 (fun r12 => K r12) else Zdu a1 (fun y0_ K_ => Zhs y0_ a0 K_) (fun r10 => Zc3 r10 1 (fun r13 => K r13))))
theorem Zrn (a0 : Alg) (a1 : List Vc.Form) {b0 : Nat} {u0_0 : Value} {u0_1 : Value} {u1_0 : Value} {fp0 : List Nat} {fp1 : List Nat} {K : Int → Prop} (h : Zft a0 a1 K) (w0 : World) (q0 : TAlg.rep a0 [u0_0, u0_1] fp0 w0) (qb0 : (blk b0 32 [u0_0, u0_1]).holds w0) (q1 : TForm.sl.rep a1 [u1_0] fp1 w0) :
  Calls Try.prog 46 #[.pointer (some ⟨b0, 0, none⟩), u1_0] w0 fun e w' => ∃ (r0 : Int), 
   e = .returned (.int .i64 r0) ∧ K r0 ∧ Bel w0 w' := by
 unfold Zft at h
 refine Z6 (args := [.pointer (some ⟨b0, 0, none⟩), u1_0]) Try.func46 rfl 18 Try.ntmps46 (Nat.le_of_ble_eq_true rfl) ?_
 have hC := Ctx.start (X := Nox) w0 [Ty.item TAlg a0 [u0_0, u0_1] fp0, Ty.item TForm.sl a1 [u1_0] fp1, blk b0 32 [u0_0, u0_1]] (by simp only [List.mem_cons, List.not_mem_nil, or_false, forall_eq_or_imp, forall_eq]; exact ⟨q0, q1, qb0⟩)
 have hp4 := (hC.getP 0 rfl)
 replace hC := hC.derive 0 rfl (Ty.item ((EI .i64).ty.sl) a0.degrees [u0_0] fp0) (fun _ => (Yt hp4).1) (fun _ hb_ => hb_)
 replace hC := hC.derive 1 rfl (Ty.item TForm.sl a0.images [u0_1] fp0) (fun _ => (Yt hp4).2) (fun _ hb_ => hb_)
 refine sr (Ye (v := .pointer (some ⟨b0, 0, none⟩)) hC [.pointer (some ⟨b0, 0, none⟩)] rfl rfl fun b7 w9 hB_ hC => Zc (v := .int .i64 0) rfl (dn (sr (Z8 hC 0 (.pointer (some ⟨b0, 0, none⟩)) rfl sc72 rfl rfl (J2 rfl (Zoc [u0_0, u0_1] (hC.getP 4 rfl) ag32 rfl rfl rfl ?_))))))
 refine Zf [.agg #[u0_0, u0_1]] _ Try.func103 rfl rfl rfl (Zrl a0 h _ (Xr (hC.getP 1 rfl) (hC.getP 0 rfl))) (fun ret10 w10 hR10 => ?_)
 obtain ⟨r11, rfl, h, hB10⟩ := hR10
 refine ⟨_, rfl, ?_⟩
 replace hC := hC.grow hB10
 refine X0 rfl (Zb (v := .bool (!r11)) rfl ?_)
 refine Xa (!r11) (fun hb10 => ?_) (fun hb10 => ?_)
 ·replace h := ift h (Xq (X6 hb10))
  refine Zn (b := true) 5 11 rfl (tr rfl (congrArg _ hb10)) (by decide) (Zn (b := true) 5 11 rfl (tr rfl (congrArg _ hb10)) (by decide) (Zn (b := true) 5 11 rfl (tr rfl (congrArg _ hb10)) (by decide) (Yb (v := .bool true) (b := true) (tr rfl (congrArg _ hb10)) rfl (Zc (v := .bool true) rfl (dn (sr (Zb (v := .bool true) rfl ?_)))))))
  refine Zf [.bool true, .int .i64 1] _ Try.func47 rfl rfl rfl (Zjg true 1 h _) (fun ret11 w11 hR11 => ?_)
  obtain ⟨r12, rfl, h, hB11⟩ := hR11
  refine ⟨_, rfl, ?_⟩
  replace hC := hC.grow hB11
  refine Zc (v := .int .i64 r12) rfl (dn (wp_ret ?_))
  refine Zo (fn := Try.f46) rfl ?_ ⟨r12, rfl, h, hC.below⟩ (.inl rfl)
  exact Zh rfl
 ·replace h := Zi h (not_not_intro ((X7 hb10)))
  refine Zm 5 11 rfl rfl hb10 (Zb (v := u1_0) rfl (Zm 5 11 rfl rfl hb10 (Zk0 (g := 105) [.pointer (some ⟨b7, 0, none⟩)] (Zkz rfl rfl) (Zm 5 11 rfl rfl hb10 ?_))))
  refine Zf [u1_0, .func (.func 105) #[] (List.toArray [.pointer (some ⟨b7, 0, none⟩)])] _ Try.func104 rfl rfl rfl (Zl8 a1 (fun y0_ K_ => Zhs y0_ a0 K_) h _ (hC.getP 3 rfl) Try.func105 rfl rfl (fun y0_ yu0_0_ yf0_ K_ w_ hb_ rq0_ hq_ => Zrm y0_ a0 hq_ w_ rq0_ (Xr ((hC.grow hb_).getP 1 rfl) ((hC.grow hb_).getP 0 rfl)) ((hC.grow hb_).getP 4 rfl) ((hC.grow hb_).getM 0 rfl))) (fun ret12 w12 hR12 => ?_)
  obtain ⟨r10, rfl, h, hB12⟩ := hR12
  refine ⟨_, rfl, ?_⟩
  replace hC := hC.grow hB12
  refine Yb (v := .bool r10) (b := false) (tr rfl (congrArg _ hb10)) rfl (Zc (v := .bool r10) rfl (dn (sr (Zb (v := .bool r10) rfl ?_))))
  refine Zf [.bool r10, .int .i64 1] _ Try.func47 rfl rfl rfl (Zjg r10 1 h _) (fun ret13 w13 hR13 => ?_)
  obtain ⟨r13, rfl, h, hB13⟩ := hR13
  refine ⟨_, rfl, ?_⟩
  replace hC := hC.grow hB13
  refine Zc (v := .int .i64 r13) rfl (dn (wp_ret ?_))
  refine Zo (fn := Try.f46) rfl ?_ ⟨r13, rfl, h, hC.below⟩ (.inl rfl)
  exact Zh rfl
def Zht (a0 : List Term) (a1 : Int) (K : Int → Prop) : Prop :=
 (if IntKind.i64.wrap (a1 - (a0.length : Int)) < 0 then K (-1) else K (IntKind.i64.wrap (a1 - (a0.length : Int))))
theorem Zro (a0 : List Term) (a1 : Int) {u0_0 : Value} {fp0 : List Nat} {K : Int → Prop} (h : Zht a0 a1 K) (w0 : World) (q0 : ETerm.ty.sl.rep a0 [u0_0] fp0 w0) :
  Calls Try.prog 129 #[u0_0, .int .i64 a1] w0 fun e w' => ∃ (r0 : Int), 
   e = .returned (.int .i64 r0) ∧ K r0 ∧ Bel w0 w' := by
 unfold Zht at h
 refine Z6 (args := [u0_0, .int .i64 a1]) Try.func129 rfl 12 Try.ntmps129 (Nat.le_of_ble_eq_true rfl) ?_
 have hC := Ctx.start (X := Nox) w0 [Ty.item ETerm.ty.sl a0 [u0_0] fp0] (by simp only [List.mem_cons, List.not_mem_nil, or_false, forall_eq_or_imp, forall_eq]; exact q0)
 refine sr (Zc (v := .int .i64 0) rfl (dn (sr (Zb (v := .int .i64 a1) rfl (Zb (v := u0_0) rfl ?_)))))
 obtain ⟨Ad2, c3, hv4⟩ := Z2 (hC.getP 0 rfl)
 refine Z0 Try.underlying126 (tr rfl hv4) (J5 rfl rfl (Zc (v := .int .i64 (IntKind.i64.wrap (a1 - (a0.length : Int)))) rfl (dn (wp_seq (sr (Zb (v := .int .i64 (IntKind.i64.wrap (a1 - (a0.length : Int)))) rfl (Zs rfl rfl (dn ?_))))))))
 refine Zr rfl (fun hb5 => ?_) (fun hb5 => ?_)
 ·replace h := ift h (ct hb5)
  refine sr (Zc (v := .int .i64 (-1)) rfl (dn ?_))
  refine wp_ret (Zj ?_)
  refine Zo (fn := Try.f129) rfl ?_ ⟨(-1), rfl, h, hC.below⟩ (.inl rfl)
  exact Zh rfl
 ·replace h := Zi h (cf hb5)
  refine wp_skip (Zd (sr (Zb (v := .int .i64 (IntKind.i64.wrap (a1 - (a0.length : Int)))) rfl (Zc (v := .int .i64 (IntKind.i64.wrap (a1 - (a0.length : Int)))) rfl (dn (wp_ret ?_))))))
  refine Zo (fn := Try.f129) rfl ?_ ⟨IntKind.i64.wrap (a1 - (a0.length : Int)), rfl, h, hC.below⟩ (.inl rfl)
  exact Zh rfl
def Zdv (a0 : Vc.Form) (a1 : Int) (K : Int → Prop) : Prop :=
 Zht a0.terms a1 (fun r10 => (if r10 < 0 then K (-1) else K r10))
theorem Zrp (a0 : Vc.Form) (a1 : Int) {u0_0 : Value} {fp0 : List Nat} {K : Int → Prop} (h : Zdv a0 a1 K) (w0 : World) (q0 : TForm.rep a0 [u0_0] fp0 w0) :
  Calls Try.prog 96 #[.agg #[u0_0], .int .i64 a1] w0 fun e w' => ∃ (r0 : Int), 
   e = .returned (.int .i64 r0) ∧ K r0 ∧ Bel w0 w' := by
 unfold Zdv at h
 refine Z6 (args := [.agg #[u0_0], .int .i64 a1]) Try.func96 rfl 12 Try.ntmps96 (Nat.le_of_ble_eq_true rfl) ?_
 have hC := Ctx.start (X := Nox) w0 [Ty.item TForm a0 [u0_0] fp0] (by simp only [List.mem_cons, List.not_mem_nil, or_false, forall_eq_or_imp, forall_eq]; exact q0)
 have hp2 := (hC.getP 0 rfl)
 replace hC := hC.derive 0 rfl (Ty.item ETerm.ty.sl a0.terms [u0_0] fp0) (fun _ => (Xb hp2)) (fun _ hb_ => hb_)
 refine sr (Ye (v := .agg #[u0_0]) hC [u0_0] rfl rfl fun b4 w6 hB_ hC => Zc (v := .int .i64 0) rfl (dn (sr (Z1 0 Try.underlying128 rfl sc126.size rfl rfl (Z8 hC 0 (u0_0) rfl sc126 rfl rfl (Zb (v := .int .i64 a1) rfl ?_))))))
 refine Zf [u0_0, .int .i64 a1] _ Try.func129 rfl rfl rfl (Zro a0.terms a1 h _ (hC.getP 0 rfl)) (fun ret7 w9 hR8 => ?_)
 obtain ⟨r10, rfl, h, hB10⟩ := hR8
 refine ⟨_, rfl, ?_⟩
 replace hC := hC.grow hB10
 refine Zc (v := .int .i64 r10) rfl (dn (wp_seq (sr (Zb (v := .int .i64 r10) rfl (Zs rfl rfl (dn ?_))))))
 refine Zr rfl (fun hb10 => ?_) (fun hb10 => ?_)
 ·replace h := ift h (ct hb10)
  refine sr (Zc (v := .int .i64 (-1)) rfl (dn ?_))
  refine wp_ret (Zj ?_)
  refine Zo (fn := Try.f96) rfl ?_ ⟨(-1), rfl, h, hC.below⟩ (.inl rfl)
  exact Zh rfl
 ·replace h := Zi h (cf hb10)
  refine wp_skip (Zd (sr (Zb (v := .int .i64 r10) rfl (Zc (v := .int .i64 r10) rfl (dn (wp_ret ?_))))))
  refine Zo (fn := Try.f96) rfl ?_ ⟨r10, rfl, h, hC.below⟩ (.inl rfl)
  exact Zh rfl
def Zfu (a0 : List Vc.Form) (a1 : Int) (K : Int → Prop) : Prop :=
 (if IntKind.i64.wrap (a1 - (a0.length : Int)) < 0 then K (-1) else Yy (fun i10 (s10 : Int) nx10 => Zdv (a0.getD i10 default) s10 (fun r10 => (if r10 < 0 then K (-1) else nx10 r10))) (fun (s10 : Int) => K s10) a0.length 0 (IntKind.i64.wrap (a1 - (a0.length : Int))))
theorem Zrq (a0 : List Vc.Form) (a1 : Int) {u0_0 : Value} {fp0 : List Nat} {K : Int → Prop} (h : Zfu a0 a1 K) (w0 : World) (q0 : TForm.sl.rep a0 [u0_0] fp0 w0) :
  Calls Try.prog 40 #[u0_0, .int .i64 a1] w0 fun e w' => ∃ (r0 : Int), 
   e = .returned (.int .i64 r0) ∧ K r0 ∧ Bel w0 w' := by
 unfold Zfu at h
 refine Z6 (args := [u0_0, .int .i64 a1]) Try.func40 rfl 27 Try.ntmps40 (Nat.le_of_ble_eq_true rfl) ?_
 have hC := Ctx.start (X := Nox) w0 [Ty.item TForm.sl a0 [u0_0] fp0] (by simp only [List.mem_cons, List.not_mem_nil, or_false, forall_eq_or_imp, forall_eq]; exact q0)
 refine sr (Zc (v := .int .i64 0) rfl (dn (sr (Zb (v := .int .i64 a1) rfl (Zb (v := u0_0) rfl ?_)))))
 obtain ⟨Ad2, c3, hv4⟩ := Z2 (hC.getP 0 rfl)
 refine Z0 Try.underlying23 (tr rfl hv4) (J5 rfl rfl (Zc (v := .int .i64 (IntKind.i64.wrap (a1 - (a0.length : Int)))) rfl (dn (wp_seq (sr (Zb (v := .int .i64 (IntKind.i64.wrap (a1 - (a0.length : Int)))) rfl (Zs rfl rfl (dn ?_))))))))
 refine Zr rfl (fun hb5 => ?_) (fun hb5 => ?_)
 ·replace h := ift h (ct hb5)
  refine sr (Zc (v := .int .i64 (-1)) rfl (dn ?_))
  refine wp_ret (Zj ?_)
  refine Zo (fn := Try.f40) rfl ?_ ⟨(-1), rfl, h, hC.below⟩ (.inl rfl)
  exact Zh rfl
 ·replace h := Zi h (cf hb5)
  refine wp_skip (Zd (wp_seq (sr (Zc (v := .int .i64 0) rfl (dn (wp_block ?_))))))
  have hN10 : a0.length ≤ 9223372036854775807 := Xv (hC.getP 0 rfl)
  refine Y6 (S := Int) _ _ (fun i10 s10 e_ w_ => Z4 e_ [(0, u0_0), (1, .int .i64 s10), (5, .int .i64 (i10 : Int))] ∧ Ctx Nox w0 w_ [] [Ty.item TForm.sl a0 [u0_0] fp0]) a0.length ?_ ?_ (s0 := (IntKind.i64.wrap (a1 - (a0.length : Int)))) ?_ h
  ·clear hC h
   rintro i10 s10 e_ w10 nx10 K10 hi10 ⟨hS_, hC⟩ h hK10
   rw [ue hS_]
   refine wp_seq (sr (Zb (v := .int .i64 (i10 : Int)) rfl (Zb (v := u0_0) rfl ?_)))
   obtain ⟨Ad10, c10, hv11⟩ := Z2 (hC.getP 0 rfl)
   refine Z0 Try.underlying23 (tr rfl hv11) (Zs rfl rfl (dn (Yq rfl (decide_eq_true (by omega)) (wp_skip (Zd (wp_seq (wp_block (sr (Zb (v := u0_0) rfl (Zb (v := .int .i64 (i10 : Int)) rfl ?_))))))))))
   obtain ⟨Ad11, c11, hv10⟩ := Z9 (hC.getP 0 rfl) i10 hi10
   refine Xe (len := a0.length) Try.underlying23 ag128.size (tr rfl hv10) rfl (Int.natCast_nonneg _) (Int.ofNat_lt.2 hi10) ?_
   obtain ⟨cs_, hl10, hc10, hr10⟩ := X9 (hC.getP 0 rfl) hv10 i10 hi10
   obtain ⟨u10, rfl⟩ := List.length_eq_one_iff.1 hl10
   clear hl10
   rw [X3 _ _ hi10] at hr10
   have hp10 := hr10
   replace hC := hC.derive 0 rfl (Ty.item ETerm.ty.sl ((a0.getD i10 default).terms) [u10] fp0) (fun _ => (Xb hp10)) (fun _ hb_ => hb_)
   refine Zak [u10] hc10 ag128 rfl rfl (Zb (v := .int .i64 s10) rfl ?_)
   refine Zf [.agg #[u10], .int .i64 s10] _ Try.func96 rfl rfl rfl (Zrp (a0.getD i10 default) s10 h _ (Yl (hC.getP 0 rfl))) (fun ret10 w11 hR10 => ?_)
   obtain ⟨r10, rfl, h, hB10⟩ := hR10
   refine ⟨_, rfl, ?_⟩
   replace hC := hC.grow hB10
   refine Zc (v := .int .i64 r10) rfl (dn (sr (Zb (v := .int .i64 r10) rfl (Zs rfl rfl (dn ?_)))))
   refine Zr rfl (fun hb10 => ?_) (fun hb10 => ?_)
   ·replace h := ift h (ct hb10)
    refine sr (Zc (v := .int .i64 (-1)) rfl (dn ?_))
    refine wp_ret (Yd (Zj (Zj (Yd (Zj ?_)))))
    refine Zo (fn := Try.f40) rfl ?_ ⟨(-1), rfl, h, hC.below⟩ (.inl rfl)
    exact Zh rfl
   ·replace h := Zi h (cf hb10)
    refine wp_skip (Zt (Zd (Zk (Zb (v := .int .i64 (i10 : Int)) rfl (Zq rfl rfl (Zc (v := .int .i64 (IntKind.i64.wrap ((i10 : Int) + 1))) rfl (done ?_)))))))
    replace hC := hC.sP [1] (Ps' := [Ty.item TForm.sl a0 [u0_0] fp0]) rfl
    exact hK10 r10 _ _ ⟨(sl ⟨rfl, rfl, (tr rfl (congrArg _ (Yi hi10 hN10))), trivial⟩), hC⟩ h
  ·clear hC h
   rintro s10 e_ w12 K10 ⟨hS_, hC⟩ h
   rw [ue hS_]
   refine wp_seq (sr (Zb (v := .int .i64 (a0.length : Int)) rfl (Zb (v := u0_0) rfl ?_)))
   obtain ⟨Ad12, c12, hv12⟩ := Z2 (hC.getP 0 rfl)
   refine Z0 Try.underlying23 (tr rfl hv12) (Zs rfl rfl (dn (Yj rfl (decide_eq_false (by omega)) ?_)))
   refine wp_exit (Zl (Zl (Yc ?_)))
   refine Zd (sr (Zb (v := .int .i64 s10) rfl (Zc (v := .int .i64 s10) rfl (dn (wp_ret ?_)))))
   refine Zo (fn := Try.f40) rfl ?_ ⟨s10, rfl, h, hC.below⟩ (.inl rfl)
   exact Zh rfl
  ·skip
   exact ⟨(sl ⟨rfl, rfl, rfl, trivial⟩), hC⟩
def Zhu (a0 : List Int) (a1 : Int) (K : Int → Prop) : Prop :=
 (if IntKind.i64.wrap (a1 - (a0.length : Int)) < 0 then K (-1) else K (IntKind.i64.wrap (a1 - (a0.length : Int))))
theorem Zrr (a0 : List Int) (a1 : Int) {u0_0 : Value} {fp0 : List Nat} {K : Int → Prop} (h : Zhu a0 a1 K) (w0 : World) (q0 : ((EI .i64).ty.sl).rep a0 [u0_0] fp0 w0) :
  Calls Try.prog 39 #[u0_0, .int .i64 a1] w0 fun e w' => ∃ (r0 : Int), 
   e = .returned (.int .i64 r0) ∧ K r0 ∧ Bel w0 w' := by
 unfold Zhu at h
 refine Z6 (args := [u0_0, .int .i64 a1]) Try.func39 rfl 12 Try.ntmps39 (Nat.le_of_ble_eq_true rfl) ?_
 have hC := Ctx.start (X := Nox) w0 [Ty.item ((EI .i64).ty.sl) a0 [u0_0] fp0] (by simp only [List.mem_cons, List.not_mem_nil, or_false, forall_eq_or_imp, forall_eq]; exact q0)
 refine sr (Zc (v := .int .i64 0) rfl (dn (sr (Zb (v := .int .i64 a1) rfl (Zb (v := u0_0) rfl ?_)))))
 obtain ⟨Ad2, c3, hv4⟩ := Z2 (hC.getP 0 rfl)
 refine Z0 Try.underlying22 (tr rfl hv4) (J5 rfl rfl (Zc (v := .int .i64 (IntKind.i64.wrap (a1 - (a0.length : Int)))) rfl (dn (wp_seq (sr (Zb (v := .int .i64 (IntKind.i64.wrap (a1 - (a0.length : Int)))) rfl (Zs rfl rfl (dn ?_))))))))
 refine Zr rfl (fun hb5 => ?_) (fun hb5 => ?_)
 ·replace h := ift h (ct hb5)
  refine sr (Zc (v := .int .i64 (-1)) rfl (dn ?_))
  refine wp_ret (Zj ?_)
  refine Zo (fn := Try.f39) rfl ?_ ⟨(-1), rfl, h, hC.below⟩ (.inl rfl)
  exact Zh rfl
 ·replace h := Zi h (cf hb5)
  refine wp_skip (Zd (sr (Zb (v := .int .i64 (IntKind.i64.wrap (a1 - (a0.length : Int)))) rfl (Zc (v := .int .i64 (IntKind.i64.wrap (a1 - (a0.length : Int)))) rfl (dn (wp_ret ?_))))))
  refine Zo (fn := Try.f39) rfl ?_ ⟨IntKind.i64.wrap (a1 - (a0.length : Int)), rfl, h, hC.below⟩ (.inl rfl)
  exact Zh rfl
def Zfv (a0 : Alg) (a1 : Int) (K : Int → Prop) : Prop :=
 Zhu a0.degrees a1 (fun r10 => (if r10 < 0 then K (-1) else Zfu a0.images r10 (fun r11 => (if r11 < 0 then K (-1) else K r11))))
theorem Zrs (a0 : Alg) (a1 : Int) {u0_0 : Value} {u0_1 : Value} {fp0 : List Nat} {K : Int → Prop} (h : Zfv a0 a1 K) (w0 : World) (q0 : TAlg.rep a0 [u0_0, u0_1] fp0 w0) :
  Calls Try.prog 8 #[.agg #[u0_0, u0_1], .int .i64 a1] w0 fun e w' => ∃ (r0 : Int), 
   e = .returned (.int .i64 r0) ∧ K r0 ∧ Bel w0 w' := by
 unfold Zfv at h
 refine Z6 (args := [.agg #[u0_0, u0_1], .int .i64 a1]) Try.func8 rfl 18 Try.ntmps8 (Nat.le_of_ble_eq_true rfl) ?_
 have hC := Ctx.start (X := Nox) w0 [Ty.item TAlg a0 [u0_0, u0_1] fp0] (by simp only [List.mem_cons, List.not_mem_nil, or_false, forall_eq_or_imp, forall_eq]; exact q0)
 have hp2 := (hC.getP 0 rfl)
 replace hC := hC.derive 0 rfl (Ty.item ((EI .i64).ty.sl) a0.degrees [u0_0] fp0) (fun _ => (Yt hp2).1) (fun _ hb_ => hb_)
 replace hC := hC.derive 1 rfl (Ty.item TForm.sl a0.images [u0_1] fp0) (fun _ => (Yt hp2).2) (fun _ hb_ => hb_)
 refine sr (Ye (v := .agg #[u0_0, u0_1]) hC [u0_0, u0_1] rfl rfl fun b5 w7 hB_ hC => Zc (v := .int .i64 0) rfl (dn (sr (Z1 0 Try.underlying25 rfl sc22.size rfl rfl (Z8 hC 0 (u0_0) rfl sc22 rfl rfl (Zb (v := .int .i64 a1) rfl ?_))))))
 refine Zf [u0_0, .int .i64 a1] _ Try.func39 rfl rfl rfl (Zrr a0.degrees a1 h _ (hC.getP 1 rfl)) (fun ret8 w10 hR9 => ?_)
 obtain ⟨r10, rfl, h, hB10⟩ := hR9
 refine ⟨_, rfl, ?_⟩
 replace hC := hC.grow hB10
 refine Zc (v := .int .i64 r10) rfl (dn (wp_seq (sr (Zb (v := .int .i64 r10) rfl (Zs rfl rfl (dn ?_))))))
 refine Zr rfl (fun hb10 => ?_) (fun hb10 => ?_)
 ·replace h := ift h (ct hb10)
  refine sr (Zc (v := .int .i64 (-1)) rfl (dn ?_))
  refine wp_ret (Zj ?_)
  refine Zo (fn := Try.f8) rfl ?_ ⟨(-1), rfl, h, hC.below⟩ (.inl rfl)
  exact Zh rfl
 ·replace h := Zi h (cf hb10)
  refine wp_skip (Zd (sr (Z1 1 Try.underlying25 rfl sc23.size rfl rfl (Z8 hC 0 (u0_1) rfl sc23 rfl rfl (Zb (v := .int .i64 r10) rfl ?_)))))
  refine Zf [u0_1, .int .i64 r10] _ Try.func40 rfl rfl rfl (Zrq a0.images r10 h _ (hC.getP 0 rfl)) (fun ret10 w11 hR10 => ?_)
  obtain ⟨r11, rfl, h, hB11⟩ := hR10
  refine ⟨_, rfl, ?_⟩
  replace hC := hC.grow hB11
  refine Zc (v := .int .i64 r11) rfl (dn (wp_seq (sr (Zb (v := .int .i64 r11) rfl (Zs rfl rfl (dn ?_))))))
  refine Zr rfl (fun hb11 => ?_) (fun hb11 => ?_)
  ·replace h := ift h (ct hb11)
   refine sr (Zc (v := .int .i64 (-1)) rfl (dn ?_))
   refine wp_ret (Zj ?_)
   refine Zo (fn := Try.f8) rfl ?_ ⟨(-1), rfl, h, hC.below⟩ (.inl rfl)
   exact Zh rfl
  ·replace h := Zi h (cf hb11)
   refine wp_skip (Zd (sr (Zb (v := .int .i64 r11) rfl (Zc (v := .int .i64 r11) rfl (dn (wp_ret ?_))))))
   refine Zo (fn := Try.f8) rfl ?_ ⟨r11, rfl, h, hC.below⟩ (.inl rfl)
   exact Zh rfl
def Zfw (a0 : List Vc.Form) (K : List Vc.Form → Prop) : Prop :=
 ((0 ≤ (a0.length : Int) ∧ (a0.length : Int) * 24 ≤ 281474976710656) ∧ Yy (fun i10 (s10 : (List Vc.Form)) nx10 => Zfn (a0.getD i10 default) (fun r10 => ((0 ≤ (i10 : Int) ∧ (i10 : Int) < (s10.length : Int)) ∧ nx10 (s10.set i10 r10)))) (fun (s10 : (List Vc.Form)) => K s10) a0.length 0 (List.replicate ((a0.length : Int).toNat) ((⟨[]⟩ : Vc.Form) : Vc.Form)))
theorem Zrt (a0 : List Vc.Form) {u0_0 : Value} {fp0 : List Nat} {K : List Vc.Form → Prop} (h : Zfw a0 K) (w0 : World) (q0 : TForm.sl.rep a0 [u0_0] fp0 w0) :
  Calls Try.prog 44 #[u0_0] w0 fun e w' => ∃ (r0 : List Vc.Form) (z0_0 : Value) (fz0 : List Nat), 
   e = .returned (z0_0) ∧ K r0 ∧ (Tr.item (Tr.sl 95 (Zz 114)) r0 [z0_0] fz0).holds w' ∧ (∀ b, b ∈ fz0 → w0.heap.size ≤ b) ∧ Bel w0 w' := by
 unfold Zfw at h
 refine Z6 (args := [u0_0]) Try.func44 rfl 23 Try.ntmps44 (Nat.le_of_ble_eq_true rfl) ?_
 have hC := Ctx.start (X := Nox) w0 [Ty.item TForm.sl a0 [u0_0] fp0] (by simp only [List.mem_cons, List.not_mem_nil, or_false, forall_eq_or_imp, forall_eq]; exact q0)
 refine sr (Zc (v := .slice none 0 0) rfl (dn (sr (Zb (v := u0_0) rfl ?_))))
 obtain ⟨Ad2, c3, hv4⟩ := Z2 (hC.getP 0 rfl)
 refine Z0 Try.underlying23 (tr rfl hv4) ?_
 obtain ⟨hm7, h⟩ := h
 refine Zee (sz := 1) hC (List.replicate ((a0.length : Int).toNat) (.slice none 0 0)) Try.underlying30 Zji (tr rfl (congrArg (Value.int .i64) (Int.toNat_of_nonneg hm7.1).symm)) (tr rfl (congrArg (Value.int .i64) (Int.toNat_of_nonneg hm7.1).symm)) (by omega) (by omega) (Zlv _) fun v5 w6 hB_ hC => ?_
 replace hC := hC.pushM0 (Yo (Zz 114) (List.replicate ((a0.length : Int).toNat) ((⟨[]⟩ : Vc.Form) : Vc.Form)) (List.replicate ((a0.length : Int).toNat) (.slice none 0 0)) (List.replicate ((a0.length : Int).toNat) [])) (Zlx (Zau (Za4 _ _ _)) rfl _) (Zlw _)
 replace hC := hC.gather (c := Tr.item (Tr.sl 95 (Zz 114)) (List.replicate ((a0.length : Int).toNat) ((⟨[]⟩ : Vc.Form) : Vc.Form)) [v5] ((Option.toList (Value.ownBlock v5)) ++ (List.replicate ((a0.length : Int).toNat) ([] : List Nat)).flatten)) (fun x_ hx_ => (List.mem_append.1 hx_).symm) (fun h1_ h2_ hd_ => Zap (by rw [List.length_replicate]; exact h2_) h1_ (fun b_ hb_ hb2_ => hd_ b_ hb2_ hb_))
 refine Zc (v := v5) rfl (dn (wp_seq (sr (Zc (v := .int .i64 0) rfl (dn (wp_block ?_))))))
 have hN10 : a0.length ≤ 9223372036854775807 := Xv (hC.getP 0 rfl)
 refine Y6 (S := (List Vc.Form)) _ _ (fun i10 s10 e_ w_ => ∃ (v10 : Value), ∃ (f10 : List Nat), Z4 e_ [(0, u0_0), (3, v10), (4, .int .i64 (i10 : Int))] ∧ Ctx Nox w0 w_ [Tr.item (Tr.sl 95 (Zz 114)) s10 [v10] f10] [Ty.item TForm.sl a0 [u0_0] fp0]) a0.length ?_ ?_ (s0 := (List.replicate ((a0.length : Int).toNat) ((⟨[]⟩ : Vc.Form) : Vc.Form))) ?_ h
 ·clear hC h
  rintro i10 s10 e_ w10 nx10 K10 hi10 ⟨v10, f10, hS_, hC⟩ h hK10
  rw [ue hS_]
  refine wp_seq (sr (Zb (v := .int .i64 (i10 : Int)) rfl (Zb (v := u0_0) rfl ?_)))
  obtain ⟨Ad10, c10, hv12⟩ := Z2 (hC.getP 0 rfl)
  refine Z0 Try.underlying23 (tr rfl hv12) (Zs rfl rfl (dn (Yq rfl (decide_eq_true (by omega)) (wp_skip (Zd (wp_seq (wp_block (Zk (Zb (v := v10) rfl (Zb (v := .int .i64 (i10 : Int)) rfl (Zb (v := u0_0) rfl ?_)))))))))))
  refine Zb (v := .int .i64 (i10 : Int)) rfl ?_
  obtain ⟨Ad11, c11, hv10⟩ := Z9 (hC.getP 0 rfl) i10 hi10
  refine Xe (len := a0.length) Try.underlying23 ag128.size (tr rfl hv10) rfl (Int.natCast_nonneg _) (Int.ofNat_lt.2 hi10) ?_
  obtain ⟨cs_, hl10, hc10, hr10⟩ := X9 (hC.getP 0 rfl) hv10 i10 hi10
  obtain ⟨u11, rfl⟩ := List.length_eq_one_iff.1 hl10
  clear hl10
  rw [X3 _ _ hi10] at hr10
  have hp10 := hr10
  replace hC := hC.derive 0 rfl (Ty.item ETerm.ty.sl ((a0.getD i10 default).terms) [u11] fp0) (fun _ => (Xb hp10)) (fun _ hb_ => hb_)
  refine Zak [u11] hc10 ag128 rfl rfl ?_
  refine Zf [.agg #[u11]] _ Try.func102 rfl rfl rfl (Zq3 (a0.getD i10 default) h _ (Yl (hC.getP 0 rfl))) (fun ret10 w11 hR10 => ?_)
  obtain ⟨r10, u10, f11, rfl, h, hr11, hf10, hB10⟩ := hR10
  refine ⟨_, rfl, ?_⟩
  replace hC := hC.push hB10 (Tr.item (Zz 114) r10 [u10] f11) hr11 hf10
  obtain ⟨ho10, hf11⟩ := Y8 (hC.getM 0 rfl)
  subst hf11
  replace hC := hC.recast (c := own 114 9 u10 r10.terms.length (ETerm.encs r10.terms)) (fun _ h_ => h_) (fun _ => ho10)
  obtain ⟨⟨h10, h11⟩, h⟩ := h
  obtain ⟨g10, cap10, hv11⟩ := Zly (hC.getM 1 rfl) (Nat.lt_of_le_of_lt (Nat.zero_le _) (show i10 < s10.length by omega))
  refine Zaw (i10 * 1) Try.underlying30 ag95.size (tr rfl hv11) rfl h10 h11 rfl ?_
  replace hC := hC.recast (c := Tr.item (Zz 114) r10 [u10] (Option.toList (Value.ownBlock u10))) (fun _ h_ => h_) (fun h_ => Zau (Js h_))
  replace hC := hC.sM [1, 0] (M' := [Tr.item (Tr.sl 95 (Zz 114)) s10 [v10] f10, Tr.item (Zz 114) r10 [u10] (Option.toList (Value.ownBlock u10))]) (by decide) rfl
  refine Zlz (u := .agg #[u10]) hC (show i10 < s10.length by omega) hv11 ag95.size rfl rfl rfl rfl fun f12 w12 hC => done (Zt (Zd (Zk (Zb (v := .int .i64 (i10 : Int)) rfl (Zq rfl rfl (Zc (v := .int .i64 (IntKind.i64.wrap ((i10 : Int) + 1))) rfl (done ?_)))))))
  replace hC := hC.sP [1] (Ps' := [Ty.item TForm.sl a0 [u0_0] fp0]) rfl
  exact hK10 (s10.set i10 r10) _ _ ⟨v10, f12, (sl ⟨rfl, rfl, (tr rfl (congrArg _ (Yi hi10 hN10))), trivial⟩), hC⟩ h
 ·clear hC h
  rintro s10 e_ w13 K10 ⟨v10, f10, hS_, hC⟩ h
  rw [ue hS_]
  refine wp_seq (sr (Zb (v := .int .i64 (a0.length : Int)) rfl (Zb (v := u0_0) rfl ?_)))
  obtain ⟨Ad12, c12, hv13⟩ := Z2 (hC.getP 0 rfl)
  refine Z0 Try.underlying23 (tr rfl hv13) (Zs rfl rfl (dn (Yj rfl (decide_eq_false (by omega)) ?_)))
  refine wp_exit (Zl (Zl (Yc ?_)))
  refine Zd (sr (Zb (v := v10) rfl (Zc (v := v10) rfl (dn (wp_ret ?_)))))
  refine Zo (fn := Try.f44) rfl ?_ ⟨s10, v10, f10, rfl, h, (hC.getM 0 rfl), (Zbx hC 0 rfl), hC.below⟩ (.inl rfl)
  exact Zh rfl
 ·skip
  exact ⟨v5, ((Option.toList (Value.ownBlock v5)) ++ (List.replicate ((a0.length : Int).toNat) ([] : List Nat)).flatten), (sl ⟨rfl, rfl, rfl, trivial⟩), hC⟩
def Zcc (a0 : Alg) (K : Alg → Prop) : Prop :=
 Zfj a0.degrees (fun r10 => Zfw a0.images (fun r11 => K (⟨r10, r11⟩ : Alg)))
theorem Zhv (a0 : Alg) {u0_0 : Value} {u0_1 : Value} {fp0 : List Nat} {K : Alg → Prop} (h : Zcc a0 K) (w0 : World) (q0 : TAlg.rep a0 [u0_0, u0_1] fp0 w0) :
  Calls Try.prog 10 #[.agg #[u0_0, u0_1]] w0 fun e w' => ∃ (r0 : Alg) (z0_0 : Value) (z0_1 : Value) (fz0 : List Nat), 
   e = .returned (.agg #[z0_0, z0_1]) ∧ K r0 ∧ (Tr.item (Zcu 2 114 95) r0 [z0_0, z0_1] fz0).holds w' ∧ (∀ b, b ∈ fz0 → w0.heap.size ≤ b) ∧ Bel w0 w' := by
 unfold Zcc at h
 refine Z6 (args := [.agg #[u0_0, u0_1]]) Try.func10 rfl 13 Try.ntmps10 (Nat.le_of_ble_eq_true rfl) ?_
 have hC := Ctx.start (X := Nox) w0 [Ty.item TAlg a0 [u0_0, u0_1] fp0] (by simp only [List.mem_cons, List.not_mem_nil, or_false, forall_eq_or_imp, forall_eq]; exact q0)
 have hp2 := (hC.getP 0 rfl)
 replace hC := hC.derive 0 rfl (Ty.item ((EI .i64).ty.sl) a0.degrees [u0_0] fp0) (fun _ => (Yt hp2).1) (fun _ hb_ => hb_)
 replace hC := hC.derive 1 rfl (Ty.item TForm.sl a0.images [u0_1] fp0) (fun _ => (Yt hp2).2) (fun _ hb_ => hb_)
 refine sr (Ye (v := .agg #[u0_0, u0_1]) hC [u0_0, u0_1] rfl rfl fun b5 w7 hB_ hC => Yf hC [.slice none 0 0, .slice none 0 0] z32 rfl fun b8 w10 hB_ hC => dn (sr (Yf hC [.slice none 0 0, .slice none 0 0] z32 rfl fun b10 w11 hB_ hC => dn (sr (Z1 0 Try.underlying25 rfl sc22.size rfl rfl (Z8 hC 2 (u0_0) rfl sc22 rfl rfl ?_))))))
 refine Zf [u0_0] _ Try.func43 rfl rfl rfl (Zqz a0.degrees h _ (hC.getP 1 rfl)) (fun ret10 w12 hR10 => ?_)
 obtain ⟨r10, u10, f12, rfl, h, hr10, hf10, hB10⟩ := hR10
 refine ⟨_, rfl, ?_⟩
 replace hC := hC.push hB10 (Tr.item (Tr.sl 2 ((EI .i64).tr)) r10 [u10] f12) hr10 hf10
 obtain ⟨ho10, hf11⟩ := Zat (hC.getM 0 rfl).1
 subst hf11
 replace hC := hC.recast (c := own 2 1 u10 r10.length ((EI .i64).encs r10)) (fun _ h_ => h_) (fun _ => ho10)
 refine Z1 0 Try.underlying32 rfl sc22.size rfl rfl (Zu (v := u10) hC 1 [u10] [u10, .slice none 0 0] rfl sc22.size rfl rfl (Zcm (hC.getM 0 rfl)) rfl (Y3 (Xl (hC.getM 0 rfl)) rfl) (Nat.le_of_ble_eq_true rfl) rfl fun w13 hC => dn (sr (Z1 1 Try.underlying25 rfl sc23.size rfl rfl (Z8 hC 3 (u0_1) rfl sc23 rfl rfl ?_))))
 refine Zf [u0_1] _ Try.func44 rfl rfl rfl (Zrt a0.images h _ (hC.getP 0 rfl)) (fun ret11 w14 hR11 => ?_)
 obtain ⟨r11, u11, f11, rfl, h, hr11, hf12, hB11⟩ := hR11
 refine ⟨_, rfl, ?_⟩
 replace hC := hC.push hB11 (Tr.item (Tr.sl 95 (Zz 114)) r11 [u11] f11) hr11 hf12
 refine Z1 1 Try.underlying32 rfl sc30.size rfl rfl (Zu (v := u11) hC 2 [u11] [u10, u11] rfl sc30.size rfl rfl (Zej (Tr.trep _ (hC.getM 0 rfl).1)) rfl (Y3 (Zbc (Tr.trep _ (hC.getM 0 rfl).1)) rfl) (Nat.le_of_ble_eq_true rfl) rfl fun w15 hC => dn (sr (Ys hC 2 [u10, u11] rfl ag32 rfl rfl rfl (Zu (v := .agg #[u10, u11]) hC 3 [u10, u11] [u10, u11] rfl ag32.size rfl rfl rfl rfl (Y3 (Xl (hC.getM 1 rfl)) (Y3 (Zbc (Tr.trep _ (hC.getM 0 rfl).1)) rfl)) (Nat.le_of_ble_eq_true rfl) rfl fun w16 hC => dn (wp_ret ?_)))))
 refine Zo (fn := Try.f10) rfl ?_ ⟨(⟨r10, r11⟩ : Alg), u10, u11, ((Option.toList (Value.ownBlock u10)) ++ f11), rfl, h, (Zpv (Js (hC.getM 1 rfl)) (hC.getM 0 rfl) (fun x hx hx' => hC.mm 1 0 rfl rfl (by decide) x hx hx')), (fun b hb => (List.mem_append.1 hb).elim (fun hb => (Zae hC 1 rfl) b hb) (fun hb => (Zbx hC 0 rfl) b hb)), hC.below⟩ (.inl rfl)
 exact J3 hC 3 rfl ag32 rfl rfl
def Zdw (a0 : Alg) (a1 : Alg) (K : Bool → Prop) : Prop :=
 Zdt a0.degrees a1.degrees (fun r10 => (if ¬ (r10 = true) then K false else Zhn a0.images a1.images (fun r11 => (if ¬ (r11 = true) then K false else K true))))
theorem Zru (a0 : Alg) (a1 : Alg) {u0_0 : Value} {u0_1 : Value} {u1_0 : Value} {u1_1 : Value} {fp0 : List Nat} {fp1 : List Nat} {K : Bool → Prop} (h : Zdw a0 a1 K) (w0 : World) (q0 : TAlg.rep a0 [u0_0, u0_1] fp0 w0) (q1 : TAlg.rep a1 [u1_0, u1_1] fp1 w0) :
  Calls Try.prog 13 #[.agg #[u0_0, u0_1], .agg #[u1_0, u1_1]] w0 fun e w' => ∃ (r0 : Bool), 
   e = .returned (.bool r0) ∧ K r0 ∧ Bel w0 w' := by
 unfold Zdw at h
 refine Z6 (args := [.agg #[u0_0, u0_1], .agg #[u1_0, u1_1]]) Try.func13 rfl 17 Try.ntmps13 (Nat.le_of_ble_eq_true rfl) ?_
 have hC := Ctx.start (X := Nox) w0 [Ty.item TAlg a0 [u0_0, u0_1] fp0, Ty.item TAlg a1 [u1_0, u1_1] fp1] (by simp only [List.mem_cons, List.not_mem_nil, or_false, forall_eq_or_imp, forall_eq]; exact ⟨q0, q1⟩)
 have hp3 := (hC.getP 0 rfl)
 replace hC := hC.derive 0 rfl (Ty.item ((EI .i64).ty.sl) a0.degrees [u0_0] fp0) (fun _ => (Yt hp3).1) (fun _ hb_ => hb_)
 replace hC := hC.derive 1 rfl (Ty.item TForm.sl a0.images [u0_1] fp0) (fun _ => (Yt hp3).2) (fun _ hb_ => hb_)
 have hp6 := (hC.getP 3 rfl)
 replace hC := hC.derive 3 rfl (Ty.item ((EI .i64).ty.sl) a1.degrees [u1_0] fp1) (fun _ => (Yt hp6).1) (fun _ hb_ => hb_)
 replace hC := hC.derive 4 rfl (Ty.item TForm.sl a1.images [u1_1] fp1) (fun _ => (Yt hp6).2) (fun _ hb_ => hb_)
 refine sr (Ye (v := .agg #[u0_0, u0_1]) hC [u0_0, u0_1] rfl rfl fun b9 w10 hB_ hC => Ye (v := .agg #[u1_0, u1_1]) hC [u1_0, u1_1] rfl rfl fun b10 w11 hB_ hC => Zc (v := .bool false) rfl (dn (wp_seq (sr (Z1 0 Try.underlying32 rfl sc22.size rfl rfl (Z8 hC 1 (u0_0) rfl sc22 rfl rfl (Z1 0 Try.underlying32 rfl sc22.size rfl rfl (Z8 hC 0 (u1_0) rfl sc22 rfl rfl ?_))))))))
 refine Zf [u0_0, u1_0] _ Try.func50 rfl rfl rfl (Zl6 a0.degrees a1.degrees h _ (hC.getP 3 rfl) (hC.getP 1 rfl)) (fun ret10 w12 hR10 => ?_)
 obtain ⟨r10, rfl, h, hB10⟩ := hR10
 refine ⟨_, rfl, ?_⟩
 replace hC := hC.grow hB10
 refine X0 rfl (dn ?_)
 refine Zr rfl (fun hb10 => ?_) (fun hb10 => ?_)
 ·replace h := ift h (Xq (X6 hb10))
  refine sr (Zc (v := .bool false) rfl (dn ?_))
  refine wp_ret (Zj ?_)
  refine Zo (fn := Try.f13) rfl ?_ ⟨false, rfl, h, hC.below⟩ (.inl rfl)
  exact Zh rfl
 ·replace h := Zi h (not_not_intro ((X7 hb10)))
  refine wp_skip (Zd (wp_seq (sr (Z1 1 Try.underlying32 rfl sc30.size rfl rfl (Z8 hC 1 (u0_1) rfl sc30 rfl rfl (Z1 1 Try.underlying32 rfl sc30.size rfl rfl (Z8 hC 0 (u1_1) rfl sc30 rfl rfl ?_)))))))
  refine Zf [u0_1, u1_1] _ Try.func51 rfl rfl rfl (Zq7 a0.images a1.images h _ (hC.getP 2 rfl) (hC.getP 0 rfl)) (fun ret11 w13 hR11 => ?_)
  obtain ⟨r11, rfl, h, hB11⟩ := hR11
  refine ⟨_, rfl, ?_⟩
  replace hC := hC.grow hB11
  refine X0 rfl (dn ?_)
  refine Zr rfl (fun hb11 => ?_) (fun hb11 => ?_)
  ·replace h := ift h (Xq (X6 hb11))
   refine sr (Zc (v := .bool false) rfl (dn ?_))
   refine wp_ret (Zj ?_)
   refine Zo (fn := Try.f13) rfl ?_ ⟨false, rfl, h, hC.below⟩ (.inl rfl)
   exact Zh rfl
  ·replace h := Zi h (not_not_intro ((X7 hb11)))
   refine wp_skip (Zd (sr (Zc (v := .bool true) rfl (dn (wp_ret ?_)))))
   refine Zo (fn := Try.f13) rfl ?_ ⟨true, rfl, h, hC.below⟩ (.inl rfl)
   exact Zh rfl
def Zdx (a0 : List Int) (K : Int → Prop) : Prop :=
 Yy (fun i10 (s10 : Unit) nx10 => (if a0.getD i10 default ≠ 0 then K (a0.getD i10 default) else nx10 ())) (fun (s10 : Unit) => K 0) a0.length 0 ()
theorem Zl9 (a0 : List Int) {u0_0 : Value} {fp0 : List Nat} {K : Int → Prop} (h : Zdx a0 K) (w0 : World) (q0 : ((EI .i64).ty.sl).rep a0 [u0_0] fp0 w0) :
  Calls Try.prog 45 #[u0_0] w0 fun e w' => ∃ (r0 : Int), 
   e = .returned (.int .i64 r0) ∧ K r0 ∧ Bel w0 w' := by
 unfold Zdx at h
 refine Z6 (args := [u0_0]) Try.func45 rfl 15 Try.ntmps45 (Nat.le_of_ble_eq_true rfl) ?_
 have hC := Ctx.start (X := Nox) w0 [Ty.item ((EI .i64).ty.sl) a0 [u0_0] fp0] (by simp only [List.mem_cons, List.not_mem_nil, or_false, forall_eq_or_imp, forall_eq]; exact q0)
 refine sr (Zc (v := .int .i64 0) rfl (dn (wp_seq (sr (Zb (v := u0_0) rfl ?_)))))
 obtain ⟨Ad2, c3, hv4⟩ := Z2 (hC.getP 0 rfl)
 refine Z0 Try.underlying22 (tr rfl hv4) (Zb (v := .int .i64 0) rfl (dn (wp_block ?_)))
 have hN10 : a0.length ≤ 9223372036854775807 := Xv (hC.getP 0 rfl)
 refine Y6 (S := Unit) _ _ (fun i10 s10 e_ w_ => Z4 e_ [(5, u0_0), (6, .int .i64 (a0.length : Int)), (7, .int .i64 (i10 : Int))] ∧ Ctx Nox w0 w_ [] [Ty.item ((EI .i64).ty.sl) a0 [u0_0] fp0]) a0.length ?_ ?_ (s0 := ()) ?_ h
 ·clear hC h
  rintro i10 s10 e_ w10 nx10 K10 hi10 ⟨hS_, hC⟩ h hK10
  rw [ue hS_]
  refine sr (Zs rfl rfl (dn (wp_seq (Yq rfl (decide_eq_true (by omega)) (wp_skip (Zd (wp_seq (wp_block (sr ?_)))))))))
  obtain ⟨Ad10, c10, hv10⟩ := Z9 (hC.getP 0 rfl) i10 hi10
  refine Xe (len := a0.length) Try.underlying22 sc2.size (tr rfl hv10) rfl (Int.natCast_nonneg _) (Int.ofNat_lt.2 hi10) (X5 (.int .i64 (a0.getD i10 default)) (Yk (hC.getP 0 rfl) hv10 i10 hi10) sc2 rfl (Zc (v := .int .i64 (a0.getD i10 default)) rfl (dn (sr (Zb (v := .int .i64 (a0.getD i10 default)) rfl (Xj rfl rfl (dn ?_)))))))
  refine Zr rfl (fun hb10 => ?_) (fun hb10 => ?_)
  ·replace h := ift h (ct hb10)
   refine sr (Zb (v := .int .i64 (a0.getD i10 default)) rfl (Zc (v := .int .i64 (a0.getD i10 default)) rfl (dn ?_)))
   refine wp_ret (Yd (Zj (Zj (Yd (Zj ?_)))))
   refine Zo (fn := Try.f45) rfl ?_ ⟨a0.getD i10 default, rfl, h, hC.below⟩ (.inl rfl)
   exact Zh rfl
  ·replace h := Zi h (cf hb10)
   refine wp_skip (Zt (Zd (Zk (Zq rfl rfl (Zb (v := .int .i64 (IntKind.i64.wrap ((i10 : Int) + 1))) rfl (done ?_))))))
   exact hK10 () _ _ ⟨(sl ⟨rfl, rfl, (tr rfl (congrArg _ (Yi hi10 hN10))), trivial⟩), hC⟩ h
 ·clear hC h
  rintro s10 e_ w11 K10 ⟨hS_, hC⟩ h
  rw [ue hS_]
  refine sr (Zs rfl rfl (dn (wp_seq (Yj rfl (decide_eq_false (by omega)) ?_))))
  refine wp_exit (Zl (Zl (Yc ?_)))
  refine Zd (sr (Zc (v := .int .i64 0) rfl (dn (wp_ret ?_))))
  refine Zo (fn := Try.f45) rfl ?_ ⟨0, rfl, h, hC.below⟩ (.inl rfl)
  exact Zh rfl
 ·skip
  exact ⟨(sl ⟨rfl, rfl, rfl, trivial⟩), hC⟩
def Zcd (a0 : List Int) (a1 : Int) (K : Int → List Int → Prop) : Prop :=
 Xf (fun (s10 : (List Int) × Int × Int) nx10 => (if s10.2.2 < (s10.1.length : Int) then ((0 ≤ s10.2.2 ∧ s10.2.2 < (s10.1.length : Int)) ∧ nx10 (s10.1.set s10.2.2.toNat s10.2.1, IntKind.i64.wrap (s10.2.1 + 1), IntKind.i64.wrap (s10.2.2 + 1))) else K s10.2.1 s10.1)) (a0, a1, 0)
theorem Zma (a0 : List Int) (a1 : Int) {u0_0 : Value} {K : Int → List Int → Prop} (h : Zcd a0 a1 K) (w0 : World) (qw0 : (own 2 1 u0_0 a0.length ((EI .i64).encs a0)).holds w0) :
  Calls Try.prog 52 #[u0_0, .int .i64 a1] w0 fun e w' => ∃ (r0 : Int) (mw : List Int), 
   e = .returned (.int .i64 r0) ∧ K r0 mw ∧ (own 2 1 u0_0 mw.length ((EI .i64).encs mw)).holds w' ∧ BelO ((Option.toList (Value.ownBlock u0_0))) w0 w' := by
 unfold Zcd at h
 refine Z6 (args := [u0_0, .int .i64 a1]) Try.func52 rfl 19 Try.ntmps52 (Nat.le_of_ble_eq_true rfl) ?_
 have hC := Ctx.startL w0 ((Option.toList (Value.ownBlock u0_0))) [own 2 1 u0_0 a0.length ((EI .i64).encs a0)] [] (by simp only [List.mem_cons, List.not_mem_nil, or_false, forall_eq_or_imp, forall_eq]; exact qw0) (by simp) (by simp only [List.mem_cons, List.not_mem_nil, or_false, forall_eq_or_imp, forall_eq]; exact fun b hb => hb) (List.pairwise_singleton _ _) (by simp)
 refine sr (Zc (v := .int .i64 0) rfl (dn (wp_seq (sr (Zc (v := .int .i64 0) rfl (dn (wp_block ?_)))))))
 refine Xu (S := (List Int) × Int × Int) _ (fun s10 e_ w_ => Z4 e_ [(0, u0_0), (1, .int .i64 s10.2.1), (5, .int .i64 s10.2.2)] ∧ Ctx (fun c_ => c_ ∈ (Option.toList (Value.ownBlock u0_0))) w0 w_ [own 2 1 u0_0 s10.1.length ((EI .i64).encs s10.1)] []) ?_ (s0 := (a0, a1, 0)) ?_ h
 ·clear hC h
  rintro s10 e_ w10 nx10 K10 ⟨hS_, hC⟩ h hK10
  rw [ue hS_]
  refine wp_seq (sr (Zb (v := .int .i64 s10.2.2) rfl (Zb (v := u0_0) rfl ?_)))
  obtain ⟨Ad10, c10, hv11⟩ := J6 (hC.getM 0 rfl)
  refine Z0 Try.underlying22 (tr rfl hv11) (Zs rfl rfl (dn ?_))
  refine Zr rfl (fun hb10 => ?_) (fun hb10 => ?_)
  ·replace h := ift h (ct hb10)
   refine wp_skip (Zd (wp_seq (wp_block (sr (Zb (v := u0_0) rfl (Zb (v := .int .i64 s10.2.2) rfl (Zb (v := .int .i64 s10.2.1) rfl ?_)))))))
   obtain ⟨⟨h10, h11⟩, h⟩ := h
   obtain ⟨Ad11, c11, hv10⟩ := Zav (hC.getM 0 rfl) (Nat.lt_of_le_of_lt (Nat.zero_le _) (show s10.2.2.toNat < s10.1.length by omega))
   refine Zaw (s10.2.2.toNat * 1) Try.underlying22 sc2.size (tr rfl hv10) rfl h10 h11 rfl (Zcl (v := .int .i64 s10.2.1) hC 0 [.int .i64 s10.2.1] ((EI .i64).encs (s10.1.set s10.2.2.toNat s10.2.1)) rfl hv10 sc2.size rfl rfl rfl rfl rfl (by rw [Enc.encs_len]; exact Za3 (sz := 1) (show s10.2.2.toNat < s10.1.length by omega)) (Zef _ _ _ (show s10.2.2.toNat < s10.1.length by omega)) fun w11 hC => ?_)
   replace hC := J8 hC 0 ((s10.1.set s10.2.2.toNat s10.2.1).length) ((EI .i64).encs (s10.1.set s10.2.2.toNat s10.2.1)) rfl (by simp) rfl
   refine dn (Zk (Zb (v := .int .i64 s10.2.1) rfl (Zq rfl rfl (Zc (v := .int .i64 (IntKind.i64.wrap (s10.2.1 + 1))) rfl (done (Zt (Zd (Zk (Zb (v := .int .i64 s10.2.2) rfl (Zq rfl rfl (Zc (v := .int .i64 (IntKind.i64.wrap (s10.2.2 + 1))) rfl ?_)))))))))))
   refine done ?_
   exact hK10 (s10.1.set s10.2.2.toNat s10.2.1, IntKind.i64.wrap (s10.2.1 + 1), IntKind.i64.wrap (s10.2.2 + 1)) _ _ ⟨(sl ⟨rfl, rfl, rfl, trivial⟩), hC⟩ h
  ·replace h := Zi h (cf hb10)
   refine wp_exit (Zl (Zl (Yc ?_)))
   refine Zd (sr (Zb (v := .int .i64 s10.2.1) rfl (Zc (v := .int .i64 s10.2.1) rfl (dn (wp_ret ?_)))))
   refine Zo (fn := Try.f52) rfl ?_ ⟨s10.2.1, s10.1, rfl, h, (hC.getM 0 rfl), hC.belO⟩ (.inl rfl)
   exact Zh rfl
 ·skip
  exact ⟨(sl ⟨rfl, rfl, rfl, trivial⟩), hC⟩
def Zfx (a0 : List Vc.Form) (a1 : Int) (K : Int → List Vc.Form → Prop) : Prop :=
 Xf (fun (s10 : (List Vc.Form) × Int × Int) nx10 => (if s10.2.2 < (s10.1.length : Int) then ((0 ≤ s10.2.2 ∧ s10.2.2 < (s10.1.length : Int)) ∧ Zfq ((s10.1.getD s10.2.2.toNat default).terms) s10.2.1 (fun r10 m10 => nx10 (s10.1.set s10.2.2.toNat (⟨m10⟩ : Vc.Form), r10, IntKind.i64.wrap (s10.2.2 + 1)))) else K s10.2.1 s10.1)) (a0, a1, 0)
theorem Zrv (a0 : List Vc.Form) (a1 : Int) {u0_0 : Value} {fp0_0 : List Nat} {K : Int → List Vc.Form → Prop} (h : Zfx a0 a1 K) (w0 : World) (qw0 : (Tr.item (Tr.sl 95 (Zz 114)) a0 [u0_0] fp0_0).holds w0) :
  Calls Try.prog 53 #[u0_0, .int .i64 a1] w0 fun e w' => ∃ (r0 : Int) (mw : List Vc.Form), 
   e = .returned (.int .i64 r0) ∧ K r0 mw ∧ (Tr.item (Tr.sl 95 (Zz 114)) mw [u0_0] fp0_0).holds w' ∧ BelO (fp0_0) w0 w' := by
 unfold Zfx at h
 refine Z6 (args := [u0_0, .int .i64 a1]) Try.func53 rfl 20 Try.ntmps53 (Nat.le_of_ble_eq_true rfl) ?_
 have hC := Ctx.startL w0 (fp0_0) [Tr.item (Tr.sl 95 (Zz 114)) a0 [u0_0] fp0_0] [] (by simp only [List.mem_cons, List.not_mem_nil, or_false, forall_eq_or_imp, forall_eq]; exact qw0) (by simp) (by simp only [List.mem_cons, List.not_mem_nil, or_false, forall_eq_or_imp, forall_eq]; exact fun b hb => hb) (List.pairwise_singleton _ _) (by simp)
 refine sr (Zc (v := .int .i64 0) rfl (dn (wp_seq (sr (Zc (v := .int .i64 0) rfl (dn (wp_block ?_)))))))
 refine Xu (S := (List Vc.Form) × Int × Int) _ (fun s10 e_ w_ => Z4 e_ [(0, u0_0), (1, .int .i64 s10.2.1), (5, .int .i64 s10.2.2)] ∧ Ctx (fun c_ => c_ ∈ fp0_0) w0 w_ [Tr.item (Tr.sl 95 (Zz 114)) s10.1 [u0_0] fp0_0] []) ?_ (s0 := (a0, a1, 0)) ?_ h
 ·clear hC h
  rintro s10 e_ w10 nx10 K10 ⟨hS_, hC⟩ h hK10
  rw [ue hS_]
  refine wp_seq (sr (Zb (v := .int .i64 s10.2.2) rfl (Zb (v := u0_0) rfl ?_)))
  obtain ⟨Ad10, c10, hv10⟩ := Zlt (hC.getM 0 rfl)
  refine Z0 Try.underlying30 (tr rfl hv10) (Zs rfl rfl (dn ?_))
  refine Zr rfl (fun hb10 => ?_) (fun hb10 => ?_)
  ·replace h := ift h (ct hb10)
   refine wp_skip (Zd (wp_seq (wp_block (Zk (Zb (v := u0_0) rfl (Zb (v := .int .i64 s10.2.2) rfl ?_))))))
   obtain ⟨⟨h10, h11⟩, h⟩ := h
   obtain ⟨cs10, f10, ⟨g10, cap10, hv11, hcell10⟩, hin10, hsub10, hout10⟩ := Zls (hC.getM 0 rfl) s10.2.2.toNat (show s10.2.2.toNat < s10.1.length by omega)
   refine Zaw (s10.2.2.toNat * 1) Try.underlying30 ag95.size (tr rfl hv11) rfl h10 h11 rfl (Z1 (s10.2.2.toNat * 1 + 0) Try.underlying95 rfl sc93.size rfl rfl ?_)
   obtain ⟨u10, rfl⟩ := List.length_eq_one_iff.1 (show cs10.length = 1 from ((Zz 114)).ty.len (Tr.trep _ hin10.1))
   have hin11 := hin10; rw [X3 _ _ (show s10.2.2.toNat < s10.1.length by omega)] at hin11
   obtain ⟨ho10, hf10⟩ := Zat (show (Tr.sl 114 ETerm.tr).tree ((s10.1.getD s10.2.2.toNat default).terms) [u10] f10 _ from hin11.1)
   subst hf10
   refine X5 (u10) (Zoe (o := 0) (k := 1) hcell10 rfl) sc93 rfl (Zb (v := .int .i64 s10.2.1) rfl ?_)
   refine Zf [u10, .int .i64 s10.2.1] _ Try.func111 rfl rfl rfl (Zq8 ((s10.1.getD s10.2.2.toNat default).terms) s10.2.1 h _ ho10) (fun ret10 w11 hR10 => ?_)
   obtain ⟨r10, m10, rfl, h, hm10, hB10⟩ := hR10
   refine ⟨_, rfl, ?_⟩
   replace hC := hC.turn 0 (jt := Tr.item (Tr.sl 95 (Zz 114)) (s10.1.set s10.2.2.toNat (⟨m10⟩ : Vc.Form)) [u0_0] fp0_0) rfl hB10.os hB10.tape hB10.output hB10.size hB10.drawn (fun c_ hc_ hn_ => hB10.old c_ hc_ (fun h_ => hn_ (hsub10 c_ h_))) (hout10 (⟨m10⟩ : Vc.Form) _ (Zi4 hm10) hB10) (fun b_ hb_ => .inl hb_)
   refine Zc (v := .int .i64 r10) rfl (done (Zt (Zd (Zk (Zb (v := .int .i64 s10.2.2) rfl (Zq rfl rfl (Zc (v := .int .i64 (IntKind.i64.wrap (s10.2.2 + 1))) rfl (done ?_))))))))
   exact hK10 (s10.1.set s10.2.2.toNat (⟨m10⟩ : Vc.Form), r10, IntKind.i64.wrap (s10.2.2 + 1)) _ _ ⟨(sl ⟨rfl, rfl, rfl, trivial⟩), hC⟩ h
  ·replace h := Zi h (cf hb10)
   refine wp_exit (Zl (Zl (Yc ?_)))
   refine Zd (sr (Zb (v := .int .i64 s10.2.1) rfl (Zc (v := .int .i64 s10.2.1) rfl (dn (wp_ret ?_)))))
   refine Zo (fn := Try.f53) rfl ?_ ⟨s10.2.1, s10.1, rfl, h, (hC.getM 0 rfl), hC.belO⟩ (.inl rfl)
   exact Zh rfl
 ·skip
  exact ⟨(sl ⟨rfl, rfl, rfl, trivial⟩), hC⟩
def Zfy (a0 : Alg) (a1 : Int) (K : Int → Alg → Prop) : Prop :=
 Zcd a0.degrees a1 (fun r9 m10 => Zfx a0.images r9 (fun r10 m11 => K r10 (⟨m10, m11⟩ : Alg)))
theorem Zrw (a0 : Alg) (a1 : Int) {u0_0 : Value} {u0_1 : Value} {fp0_1 : List Nat} {K : Int → Alg → Prop} (h : Zfy a0 a1 K) (w0 : World) (qw0 : (own 2 1 u0_0 a0.degrees.length ((EI .i64).encs a0.degrees)).holds w0) (qw1 : (Tr.item (Tr.sl 95 (Zz 114)) a0.images [u0_1] fp0_1).holds w0) (dw0_1 : ∀ x, x ∈ (Option.toList (Value.ownBlock u0_0)) → x ∉ fp0_1) :
  Calls Try.prog 14 #[.agg #[u0_0, u0_1], .int .i64 a1] w0 fun e w' => ∃ (r0 : Int) (mw : Alg), 
   e = .returned (.int .i64 r0) ∧ K r0 mw ∧ (own 2 1 u0_0 mw.degrees.length ((EI .i64).encs mw.degrees)).holds w' ∧ (Tr.item (Tr.sl 95 (Zz 114)) mw.images [u0_1] fp0_1).holds w' ∧ BelO ((Option.toList (Value.ownBlock u0_0)) ++ fp0_1) w0 w' := by
 unfold Zfy at h
 refine Z6 (args := [.agg #[u0_0, u0_1], .int .i64 a1]) Try.func14 rfl 14 Try.ntmps14 (Nat.le_of_ble_eq_true rfl) ?_
 have hC := Ctx.startL w0 ((Option.toList (Value.ownBlock u0_0)) ++ fp0_1) [own 2 1 u0_0 a0.degrees.length ((EI .i64).encs a0.degrees), Tr.item (Tr.sl 95 (Zz 114)) a0.images [u0_1] fp0_1] [] (by simp only [List.mem_cons, List.not_mem_nil, or_false, forall_eq_or_imp, forall_eq]; exact ⟨qw0, qw1⟩) (by simp) (by simp only [List.mem_cons, List.not_mem_nil, or_false, forall_eq_or_imp, forall_eq]; exact ⟨fun b hb => (List.mem_append_left _ hb), fun b hb => (List.mem_append_right _ hb)⟩) (List.pairwise_cons.2 ⟨(by simp only [List.mem_cons, List.not_mem_nil, or_false, forall_eq_or_imp, forall_eq]; exact dw0_1), (List.pairwise_singleton _ _)⟩) (by simp)
 refine sr (Ye (v := .agg #[u0_0, u0_1]) hC [u0_0, u0_1] rfl rfl fun b3 w5 hB_ hC => Zc (v := .int .i64 0) rfl (dn (sr (Z1 0 Try.underlying32 rfl sc22.size rfl rfl (Z8 hC 0 (u0_0) rfl sc22 rfl rfl (Zb (v := .int .i64 a1) rfl ?_))))))
 refine Zf [u0_0, .int .i64 a1] _ Try.func52 rfl rfl rfl (Zma a0.degrees a1 h _ (hC.getM 1 rfl)) (fun ret6 w8 hR7 => ?_)
 obtain ⟨r9, m10, rfl, h, hm10, hB10⟩ := hR7
 refine ⟨_, rfl, ?_⟩
 replace hC := hC.turnL hB10 (M' := [blk b3 32 [u0_0, u0_1], own 2 1 u0_0 m10.length ((EI .i64).encs m10), Tr.item (Tr.sl 95 (Zz 114)) a0.images [u0_1] fp0_1]) rfl (fun x_ hx_ => ⟨_, List.mem_of_getElem? (i := 1) rfl, hx_⟩) (by simp only [List.mem_cons, List.not_mem_nil, or_false, forall_eq_or_imp, forall_eq]; exact ⟨(hC.stay 0 rfl hB10 (fun x_ hq_ hx_ => hC.mm 0 1 rfl rfl (by decide) x_ hq_ hx_)), hm10, (hC.stay 2 rfl hB10 (fun x_ hq_ hx_ => hC.mm 2 1 rfl rfl (by decide) x_ hq_ hx_))⟩)
 refine Zc (v := .int .i64 r9) rfl (dn (sr (Z1 1 Try.underlying32 rfl sc30.size rfl rfl (Z8 hC 0 (u0_1) rfl sc30 rfl rfl (Zb (v := .int .i64 r9) rfl ?_)))))
 refine Zf [u0_1, .int .i64 r9] _ Try.func53 rfl rfl rfl (Zrv a0.images r9 h _ (hC.getM 2 rfl)) (fun ret10 w10 hR10 => ?_)
 obtain ⟨r10, m11, rfl, h, hm11, hB11⟩ := hR10
 refine ⟨_, rfl, ?_⟩
 replace hC := hC.turnL hB11 (M' := [blk b3 32 [u0_0, u0_1], own 2 1 u0_0 m10.length ((EI .i64).encs m10), Tr.item (Tr.sl 95 (Zz 114)) m11 [u0_1] fp0_1]) rfl (fun x_ hx_ => ⟨_, List.mem_of_getElem? (i := 2) rfl, hx_⟩) (by simp only [List.mem_cons, List.not_mem_nil, or_false, forall_eq_or_imp, forall_eq]; exact ⟨(hC.stay 0 rfl hB11 (fun x_ hq_ hx_ => hC.mm 0 2 rfl rfl (by decide) x_ hq_ hx_)), (hC.stay 1 rfl hB11 (fun x_ hq_ hx_ => hC.mm 1 2 rfl rfl (by decide) x_ hq_ hx_)), hm11⟩)
 refine Zc (v := .int .i64 r10) rfl (dn (sr (Zb (v := .int .i64 r10) rfl (Zc (v := .int .i64 r10) rfl (dn (wp_ret ?_))))))
 refine Zo (fn := Try.f14) rfl ?_ ⟨r10, (⟨m10, m11⟩ : Alg), rfl, h, (hC.getM 1 rfl), (hC.getM 2 rfl), hC.belO⟩ (.inl rfl)
 exact Zh rfl
def Zdy (a0 : List Int) (a1 : Int) (K : Int → Prop) : Prop :=
 Yy (fun i10 (s10 : Int) nx10 => (if a0.getD i10 default ≠ s10 then K (-1) else nx10 (IntKind.i64.wrap (s10 + 1)))) (fun (s10 : Int) => K s10) a0.length 0 a1
theorem Zrx (a0 : List Int) (a1 : Int) {u0_0 : Value} {fp0 : List Nat} {K : Int → Prop} (h : Zdy a0 a1 K) (w0 : World) (q0 : ((EI .i64).ty.sl).rep a0 [u0_0] fp0 w0) :
  Calls Try.prog 54 #[u0_0, .int .i64 a1] w0 fun e w' => ∃ (r0 : Int), 
   e = .returned (.int .i64 r0) ∧ K r0 ∧ Bel w0 w' := by
 unfold Zdy at h
 refine Z6 (args := [u0_0, .int .i64 a1]) Try.func54 rfl 21 Try.ntmps54 (Nat.le_of_ble_eq_true rfl) ?_
 have hC := Ctx.start (X := Nox) w0 [Ty.item ((EI .i64).ty.sl) a0 [u0_0] fp0] (by simp only [List.mem_cons, List.not_mem_nil, or_false, forall_eq_or_imp, forall_eq]; exact q0)
 refine sr (Zc (v := .int .i64 0) rfl (dn (wp_seq (sr (Zc (v := .int .i64 0) rfl (dn (wp_block ?_)))))))
 have hN10 : a0.length ≤ 9223372036854775807 := Xv (hC.getP 0 rfl)
 refine Y6 (S := Int) _ _ (fun i10 s10 e_ w_ => Z4 e_ [(0, u0_0), (1, .int .i64 s10), (5, .int .i64 (i10 : Int))] ∧ Ctx Nox w0 w_ [] [Ty.item ((EI .i64).ty.sl) a0 [u0_0] fp0]) a0.length ?_ ?_ (s0 := a1) ?_ h
 ·clear hC h
  rintro i10 s10 e_ w10 nx10 K10 hi10 ⟨hS_, hC⟩ h hK10
  rw [ue hS_]
  refine wp_seq (sr (Zb (v := .int .i64 (i10 : Int)) rfl (Zb (v := u0_0) rfl ?_)))
  obtain ⟨Ad10, c10, hv11⟩ := Z2 (hC.getP 0 rfl)
  refine Z0 Try.underlying22 (tr rfl hv11) (Zs rfl rfl (dn (Yq rfl (decide_eq_true (by omega)) (wp_skip (Zd (wp_seq (wp_block (wp_seq (sr (Zb (v := u0_0) rfl (Zb (v := .int .i64 (i10 : Int)) rfl ?_)))))))))))
  obtain ⟨Ad11, c11, hv10⟩ := Z9 (hC.getP 0 rfl) i10 hi10
  refine Xe (len := a0.length) Try.underlying22 sc2.size (tr rfl hv10) rfl (Int.natCast_nonneg _) (Int.ofNat_lt.2 hi10) (X5 (.int .i64 (a0.getD i10 default)) (Yk (hC.getP 0 rfl) hv10 i10 hi10) sc2 rfl (Zb (v := .int .i64 s10) rfl (Xj rfl rfl (dn ?_))))
  refine Zr rfl (fun hb10 => ?_) (fun hb10 => ?_)
  ·replace h := ift h (ct hb10)
   refine sr (Zc (v := .int .i64 (-1)) rfl (dn ?_))
   refine wp_ret (Zj (Yd (Zj (Zj (Yd (Zj ?_))))))
   refine Zo (fn := Try.f54) rfl ?_ ⟨(-1), rfl, h, hC.below⟩ (.inl rfl)
   exact Zh rfl
  ·replace h := Zi h (cf hb10)
   refine wp_skip (Zd (Zk (Zb (v := .int .i64 s10) rfl (Zq rfl rfl (Zc (v := .int .i64 (IntKind.i64.wrap (s10 + 1))) rfl (done (Zt (Zd (Zk (Zb (v := .int .i64 (i10 : Int)) rfl (Zq rfl rfl ?_)))))))))))
   refine Zc (v := .int .i64 (IntKind.i64.wrap ((i10 : Int) + 1))) rfl (done ?_)
   exact hK10 (IntKind.i64.wrap (s10 + 1)) _ _ ⟨(sl ⟨rfl, rfl, (tr rfl (congrArg _ (Yi hi10 hN10))), trivial⟩), hC⟩ h
 ·clear hC h
  rintro s10 e_ w11 K10 ⟨hS_, hC⟩ h
  rw [ue hS_]
  refine wp_seq (sr (Zb (v := .int .i64 (a0.length : Int)) rfl (Zb (v := u0_0) rfl ?_)))
  obtain ⟨Ad12, c12, hv12⟩ := Z2 (hC.getP 0 rfl)
  refine Z0 Try.underlying22 (tr rfl hv12) (Zs rfl rfl (dn (Yj rfl (decide_eq_false (by omega)) ?_)))
  refine wp_exit (Zl (Zl (Yc ?_)))
  refine Zd (sr (Zb (v := .int .i64 s10) rfl (Zc (v := .int .i64 s10) rfl (dn (wp_ret ?_)))))
  refine Zo (fn := Try.f54) rfl ?_ ⟨s10, rfl, h, hC.below⟩ (.inl rfl)
  exact Zh rfl
 ·skip
  exact ⟨(sl ⟨rfl, rfl, rfl, trivial⟩), hC⟩
end Go.Proofs.Ytaagfepgbofmlaa
set_option linter.unusedVariables false
set_option linter.unusedSimpArgs false
namespace Go.Proofs.Ytaagfepgbofmlaa
open Go Vc
theorem Zjj {a b : A8} {K : Bool → Prop} (h : K (decide (pcmp a b < 0))) : Zcz a b K := by
  simp only [Zcz, Yy, A8.get]
  simp only [pcmp, A8.list, Jr] at h
  have e : ∀ x y : Int, decide (x - y < 0) = decide (x < y) := fun x y => decide_eq_decide.2 (by omega)
  repeat' split
  all_goals (simp_all)
theorem Zbz {x : Int} {K : Int → Prop} (h : K (x % 10007)) : Ju x K := by
  unfold Ju
  have := Zey x
  rw [i64_in _ (by omega), Zlg]
  exact h
theorem Zjk {x : Int} {K : Int → Prop} (h : K (x % 10007)) : Zaa x K := by
  unfold Zaa
  have := Zey x
  rw [i64_in _ (by omega), Zlg]
  exact h
theorem Zhw {a b : Int} (ha : 0 ≤ a ∧ a ≤ 10006) (hb : 0 ≤ b ∧ b ≤ 10006) : 0 ≤ a * b ∧ a * b ≤ 100120036 :=
  ⟨Int.mul_nonneg ha.1 hb.1, by have := Int.mul_le_mul ha.2 hb.2 hb.1 (by omega : (0 : Int) ≤ 10006); omega⟩
theorem Zjl {S : Type} {c : Prop} [Decidable c] {A B : (S → Prop) → Prop} {T : S → Prop} (h : c) (k : A T) : joinP (fun J => if c then A J else B J) T := by show if c then A T else B T; rw [if_pos h]; exact k
theorem Zhx {S : Type} {c : Prop} [Decidable c] {A B : (S → Prop) → Prop} {T : S → Prop} (h : ¬ c) (k : B T) : joinP (fun J => if c then A J else B J) T := by show if c then A T else B T; rw [if_neg h]; exact k
theorem Zdz {A B : Prop} (h : A) : if true = true then A else B := by simpa using h
theorem Zhy {A B : Prop} (h : B) : if false = true then A else B := by simpa using h
theorem Xh {c : Prop} [Decidable c] {A B : Prop} (h : c) (k : A) : if c then A else B := by rw [if_pos h]; exact k
theorem Xn {c : Prop} [Decidable c] {A B : Prop} (h : ¬ c) (k : B) : if c then A else B := by rw [if_neg h]; exact k
theorem Zfz {f g : List Term} {k : Int} {K : Vc.Form → Prop} (cf : Canon f) (cg : Canon g) (hk : 0 ≤ k ∧ k ≤ 10006) (hf : f.length ≤ 100000000) (hg : g.length ≤ 100000000) (h : ∀ out, IsAdd f g k out → K ⟨out⟩) : J4 ⟨f⟩ ⟨g⟩ k K := by
  unfold J4
  dsimp only
  refine X1 (fun (s : List Term × Int × Int) => 0 ≤ s.2.1 ∧ 0 ≤ s.2.2 ∧ AddI f g k s.1 s.2.1.toNat s.2.2.toNat) (fun s => (f.length - s.2.1.toNat) + (g.length - s.2.2.toNat)) ?_ ⟨Int.le_refl _, Int.le_refl _, AddI.zero f g k⟩
  rintro ⟨out, i, j⟩ next ⟨h1, h2, hI⟩ hn
  have hi := hI.hi
  have hj := hI.hj
  have hln := hI.ln
  have hR : Xp (out.length + 1) 16 := by unfold Xp; dsimp only at hln hi hj ⊢; omega
  dsimp only at h1 h2 hI hi hj hR hn ⊢
  have ni : (i + 1).toNat = i.toNat + 1 := by omega
  have nj : (j + 1).toNat = j.toNat + 1 := by omega
  have wi : IntKind.i64.wrap (i + 1) = i + 1 := i64_in _ (by omega)
  have wj : IntKind.i64.wrap (j + 1) = j + 1 := i64_in _ (by omega)
  rw [wi, wj]
  have goF : i.toNat < f.length → (j.toNat < g.length → pcmp (f.getD i.toNat default).mono (g.getD j.toNat default).mono < 0) → next (out ++ [f.getD i.toNat default], i + 1, j) := fun a b =>
    hn _ ⟨by dsimp only; omega, by dsimp only; omega, by dsimp only; rw [ni]; exact hI.stepF cf cg a b⟩ (by dsimp only; omega)
  have bg : j.toNat < g.length → 1 ≤ (g.getD j.toNat default).factor ∧ (g.getD j.toNat default).factor ≤ 10006 := fun a => cg.at_range a
  have bf : i.toNat < f.length → 1 ≤ (f.getD i.toNat default).factor ∧ (f.getD i.toNat default).factor ≤ 10006 := fun a => cf.at_range a
  have wk : j.toNat < g.length → IntKind.i64.wrap (k * (g.getD j.toNat default).factor) = k * (g.getD j.toNat default).factor := fun a => by
    have := bg a
    have := Zhw hk (show 0 ≤ (g.getD j.toNat default).factor ∧ (g.getD j.toNat default).factor ≤ 10006 by omega)
    exact i64_in _ (by omega)
  have goG : j.toNat < g.length → (i.toNat < f.length → pcmp (g.getD j.toNat default).mono (f.getD i.toNat default).mono < 0) →
      Ju (IntKind.i64.wrap (k * ((g.getD j.toNat default).factor))) (fun r => (if r ≠ 0 then ((0 ≤ j ∧ j < (g.length : Int)) ∧ (Xp (out.length + 1) 16 ∧ next (out ++ [(⟨(g.getD j.toNat default).mono, r⟩ : Term)], i, j + 1))) else next (out, i, j + 1))) := by
    intro a b
    refine Zbz ?_
    rw [wk a]
    split
    · rename_i q
      exact ⟨by omega, hR, hn _ ⟨by dsimp only; omega, by dsimp only; omega, by dsimp only; rw [nj]; exact hI.stepG1 cf cg a b rfl q⟩ (by dsimp only; omega)⟩
    · rename_i q
      exact hn _ ⟨by dsimp only; omega, by dsimp only; omega, by dsimp only; rw [nj]; exact hI.stepG0 cf cg a (by omega)⟩ (by dsimp only; omega)
  have goB : i.toNat < f.length → j.toNat < g.length → (f.getD i.toNat default).mono = (g.getD j.toNat default).mono →
      ((0 ≤ i ∧ i < (f.length : Int)) ∧ ((0 ≤ j ∧ j < (g.length : Int)) ∧ Ju (IntKind.i64.wrap (k * ((g.getD j.toNat default).factor))) (fun r753 => Ju (IntKind.i64.wrap (((f.getD i.toNat default).factor) + r753)) (fun r758 => (if r758 ≠ 0 then ((0 ≤ i ∧ i < (f.length : Int)) ∧ (Xp (out.length + 1) 16 ∧ next (out ++ [(⟨(f.getD i.toNat default).mono, r758⟩ : Term)], i + 1, j + 1))) else next (out, i + 1, j + 1)))))) := by
    intro a b e
    refine ⟨by omega, by omega, Zbz ?_⟩
    rw [wk b]
    have := bf a
    rw [i64_in _ (by omega)]
    refine Zbz ?_
    rw [show ((f.getD i.toNat default).factor + k * (g.getD j.toNat default).factor % 10007) % 10007 = ((f.getD i.toNat default).factor + k * (g.getD j.toNat default).factor) % 10007 by omega]
    split
    · rename_i q
      exact ⟨by omega, hR, hn _ ⟨by dsimp only; omega, by dsimp only; omega, by dsimp only; rw [ni, nj]; exact hI.stepB1 cf cg a b e rfl q⟩ (by dsimp only; omega)⟩
    · rename_i q
      exact hn _ ⟨by dsimp only; omega, by dsimp only; omega, by dsimp only; rw [ni, nj]; exact hI.stepB0 cf cg a b e (by omega)⟩ (by dsimp only; omega)
  by_cases hif : i < (f.length : Int)
  · refine Zjl hif (Zdz ?_)
    by_cases hjg : j = (g.length : Int)
    · exact Zjl hjg (Zdz ⟨by omega, hR, goF (by omega) (fun q => by omega)⟩)
    · refine Zhx hjg (Xh hif ⟨by omega, by omega, Zjj ?_⟩)
      by_cases hp : pcmp (f.getD i.toNat default).mono (g.getD j.toNat default).mono < 0
      · rw [decide_eq_true hp]
        exact Zdz ⟨by omega, hR, goF (by omega) (fun _ => hp)⟩
      · rw [decide_eq_false hp]
        refine Zhy (Zhx (by omega) ⟨by omega, by omega, Zjj ?_⟩)
        by_cases hq : pcmp (g.getD j.toNat default).mono (f.getD i.toNat default).mono < 0
        · rw [decide_eq_true hq]
          exact Zdz ⟨by omega, goG (by omega) (fun _ => hq)⟩
        · rw [decide_eq_false hq]
          exact Zhy (goB (by omega) (by omega) (Zg6 hp hq))
  · refine Zhx hif ?_
    by_cases hjg : j < (g.length : Int)
    · rw [decide_eq_true hjg]
      refine Zdz (Zhx (by omega) (Xn hif (Zhy (Zjl (by omega) (Zdz ⟨by omega, goG (by omega) (fun q => by omega)⟩)))))
    · rw [decide_eq_false hjg]
      exact Zhy (h _ (hI.done (by omega) (by omega)))
def OkForm (ds : List Int) (l : List Term) : Prop := l.length ≤ 400 ∧ ∀ i, i < l.length → OkMono ds (l.getD i default).mono ∧ (1 ≤ (l.getD i default).factor ∧ (l.getD i default).factor ≤ 10006) ∧ (0 < i → pcmp (l.getD (i - 1) default).mono (l.getD i default).mono < 0)
instance (ds : List Int) (l : List Term) : Decidable (OkForm ds l) := inferInstanceAs (Decidable (_ ∧ ∀ i, i < l.length → _))
theorem OkForm.canon {ds : List Int} {l : List Term} (h : OkForm ds l) : Canon l := by
  have step : ∀ n i, i + n + 1 < l.length → pcmp (l.getD i default).mono (l.getD (i + n + 1) default).mono < 0 := by
    intro n
    induction n with
    | zero => intro i hi; have := (h.2 (i + 1) (by omega)).2.2 (by omega); simpa using this
    | succ n ih =>
      intro i hi
      have h1 := ih i (by omega)
      have h2 := (h.2 (i + (n + 1) + 1) (by omega)).2.2 (by omega)
      rw [show i + (n + 1) + 1 - 1 = i + n + 1 by omega] at h2
      exact Zbe h1 h2
  refine ⟨List.pairwise_iff_getElem.2 fun i j hi hj hij => ?_, fun t ht => ?_⟩
  · have := step (j - i - 1) i (by omega)
    rw [show i + (j - i - 1) + 1 = j by omega] at this
    simpa [List.getD, hi, hj] using this
  · obtain ⟨i, hi, rfl⟩ := List.getElem_of_mem ht
    have := (h.2 i hi).2.1
    simpa [List.getD, hi] using this
theorem OkForm.mono {ds : List Int} {l : List Term} (h : OkForm ds l) {t : Term} (ht : t ∈ l) : OkMono ds t.mono := by
  obtain ⟨i, hi, rfl⟩ := List.getElem_of_mem ht
  have := (h.2 i hi).1
  simpa [List.getD, hi] using this
def Zd0 (l : List Term) : Prop := ∀ t, t ∈ l → ∀ i, i < 8 → 0 ≤ t.mono.get i ∧ t.mono.get i ≤ 255
theorem Zry {ds : List Int} {l : List Term} {K : Bool → Prop} (hd : ds.length ≤ 8) (hp : Zd0 l) (hl : l.length ≤ 100000000) (h : K (decide (OkForm ds l))) : Ze8 ds ⟨l⟩ K := by
  unfold Ze8
  dsimp only
  refine X1 (fun (s : Int) => 0 ≤ s ∧ s ≤ l.length ∧ ∀ i, i < s.toNat → OkMono ds (l.getD i default).mono ∧ (1 ≤ (l.getD i default).factor ∧ (l.getD i default).factor ≤ 10006) ∧ (0 < i → pcmp (l.getD (i - 1) default).mono (l.getD i default).mono < 0)) (fun s => l.length - s.toNat) ?_ ⟨by omega, by omega, fun i hi => by omega⟩
  rintro i next ⟨h1, h2, h3⟩ hn
  have bad : (i.toNat < l.length) → ¬ (OkMono ds (l.getD i.toNat default).mono ∧ (1 ≤ (l.getD i.toNat default).factor ∧ (l.getD i.toNat default).factor ≤ 10006) ∧ (0 < i.toNat → pcmp (l.getD (i.toNat - 1) default).mono (l.getD i.toNat default).mono < 0)) → K false := by
    intro a b
    have : ¬ OkForm ds l := fun q => b (q.2 _ a)
    rwa [decide_eq_false this] at h
  split
  · rename_i hi
    have a : i.toNat < l.length := by omega
    refine ⟨by omega, Zra (fun q hq => (hp _ (Jp a) q hq).1) hd ?_⟩
    split
    · rename_i q
      exact bad a fun z => q (decide_eq_true z.1)
    · rename_i q1
      have q1 : OkMono ds (l.getD i.toNat default).mono := by simpa using q1
      refine Zjh ?_
      split
      · rename_i q
        exact bad a fun z => q (decide_eq_true z.2.1)
      · rename_i q2
        have q2 : 1 ≤ (l.getD i.toNat default).factor ∧ (l.getD i.toNat default).factor ≤ 10006 := by simpa using q2
        have w1 : IntKind.i64.wrap (i + 1) = i + 1 := i64_in _ (by omega)
        rw [w1]
        have ok : (0 < i.toNat → pcmp (l.getD (i.toNat - 1) default).mono (l.getD i.toNat default).mono < 0) → next (i + 1) := fun q3 => by
          refine hn _ ⟨by omega, by omega, fun j hj => ?_⟩ (by omega)
          by_cases hji : j = i.toNat
          · subst hji; exact ⟨q1, q2, q3⟩
          · exact h3 j (by omega)
        split
        · have w2 : IntKind.i64.wrap (i - 1) = i - 1 := i64_in _ (by omega)
          rw [w2, show (i - 1).toNat = i.toNat - 1 by omega]
          refine ⟨by omega, Zjj ?_⟩
          split
          · rename_i q
            exact bad a fun z => q (decide_eq_true (z.2.2 (by omega)))
          · rename_i q
            exact ok fun _ => by simpa using q
        · exact ok fun q => by omega
  · rename_i hi
    have : OkForm ds l ↔ (l.length : Int) ≤ 400 := ⟨fun q => by have := q.1; omega, fun q => ⟨by omega, fun i hi' => h3 i (by omega)⟩⟩
    rw [decide_eq_decide.2 this] at h
    exact h
theorem Zjm {s a b : Int} (hs : s = 1 ∨ s = -1) (ha : 1 ≤ a ∧ a ≤ 10006) (hb : 1 ≤ b ∧ b ≤ 10006) : IntKind.i64.wrap (IntKind.i64.wrap (s * a) * b) = s * (a * b) := by
  have := Zhw (show 0 ≤ a ∧ a ≤ 10006 by omega) (show 0 ≤ b ∧ b ≤ 10006 by omega)
  rcases hs with rfl | rfl
  · rw [i64_in (1 * a) (by omega), Int.mul_assoc, i64_in _ (by omega)]
  · rw [i64_in (-1 * a) (by omega), Int.mul_assoc, i64_in _ (by omega)]
theorem Zrz {ds : List Int} {t : Term} {g : List Term} {K : Vc.Form → Prop} (hd : OkDeg ds) (ht : Xs ds t.mono) (htf : 1 ≤ t.factor ∧ t.factor ≤ 10006) (pt : ∀ i, i < 8 → 0 ≤ t.mono.get i) (cg : Canon g) (wg : ∀ u, u ∈ g → Xs ds u.mono) (pg : Zd0 g) (hl : g.length ≤ 100000000)
    (h : ∀ out, IsShift ds t g out → K ⟨out⟩) : Ze7 ds t ⟨g⟩ K := by
  unfold Ze7
  dsimp only
  refine X1 (fun (s : List Term × Int) => 0 ≤ s.2 ∧ s.2 ≤ g.length ∧ IsShift ds t (g.take s.2.toNat) s.1) (fun s => g.length - s.2.toNat) ?_ ⟨by omega, by omega, by simpa using IsShift.nil ds t⟩
  rintro ⟨out, i⟩ next ⟨h1, h2, hI⟩ hn
  dsimp only at h1 h2 hI hn ⊢
  split
  · rename_i hi
    have a : i.toNat < g.length := by omega
    have hu := Jp a
    have ni : (i + 1).toNat = i.toNat + 1 := by omega
    have wi : IntKind.i64.wrap (i + 1) = i + 1 := i64_in _ (by omega)
    rw [wi]
    have hct : Canon (g.take i.toNat ++ [g.getD i.toNat default]) := by
      rw [← Zal a]
      exact ⟨cg.1.sublist (List.take_sublist _ _), fun s hs => cg.2 s (List.mem_of_mem_take hs)⟩
    refine ⟨by omega, Zrh hd ht (wg _ hu) pt (fun q hq => (pg _ hu q hq).1) ?_⟩
    split
    · rename_i hs
      have hf := cg.at_range a
      have hln := hI.ln
      simp only [List.length_take] at hln
      refine ⟨by omega, Zbz ?_⟩
      rw [Zjm (Zez hs).2.2 htf hf]
      refine ⟨by unfold Xp; omega, hn _ ⟨by dsimp only; omega, by dsimp only; omega, ?_⟩ (by dsimp only; omega)⟩
      dsimp only
      rw [ni, Zal a]
      exact hI.put hct htf hs rfl
    · rename_i hs
      refine hn _ ⟨by dsimp only; omega, by dsimp only; omega, ?_⟩ (by dsimp only; omega)
      dsimp only
      rw [ni, Zal a]
      exact hI.skip (by simpa using hs)
  · rename_i hi
    rw [List.take_of_length_le (by omega)] at hI
    exact h _ hI
theorem Zhz {ds : List Int} {f g : List Term} {K : Vc.Form → Prop} (hd : OkDeg ds) (cf : Canon f) (wf : ∀ u, u ∈ f → Xs ds u.mono) (pf : Zd0 f) (cg : Canon g) (wg : ∀ u, u ∈ g → Xs ds u.mono) (pg : Zd0 g) (hf : f.length ≤ 10000) (hg : g.length ≤ 10000)
    (h : ∀ out, IsProd ds f g out → K ⟨out⟩) : Ja ds ⟨f⟩ ⟨g⟩ K := by
  unfold Ja
  dsimp only
  refine X1 (fun (s : List Term × Int) => 0 ≤ s.2 ∧ s.2 ≤ f.length ∧ IsProd ds (f.take s.2.toNat) g s.1) (fun s => f.length - s.2.toNat) ?_ ⟨by omega, by omega, by simpa using IsProd.nil ds g⟩
  rintro ⟨out, i⟩ next ⟨h1, h2, hI⟩ hn
  dsimp only at h1 h2 hI hn ⊢
  split
  · rename_i hi
    have a : i.toNat < f.length := by omega
    have hu := Jp a
    have ni : (i + 1).toNat = i.toNat + 1 := by omega
    have wi : IntKind.i64.wrap (i + 1) = i + 1 := i64_in _ (by omega)
    rw [wi]
    refine ⟨by omega, Zrz hd (wf _ hu) (cf.at_range a) (fun q hq => (pf _ hu q hq).1) cg wg pg (by omega) fun sh hsh => ?_⟩
    have hln := hI.ln
    have hls := hsh.ln
    have : (f.take i.toNat).length * g.length ≤ 10000 * 10000 := Nat.mul_le_mul (by rw [List.length_take]; omega) hg
    refine Zfz hI.can hsh.can (by omega) (by omega) (by omega) fun out' ho => ?_
    refine hn _ ⟨by dsimp only; omega, by dsimp only; omega, ?_⟩ (by dsimp only; omega)
    dsimp only
    rw [ni, Zal a]
    exact hI.step hsh ho
  · rename_i hi
    rw [List.take_of_length_le (by omega)] at hI
    exact h _ hI
end Go.Proofs.Ytaagfepgbofmlaa
set_option linter.unusedVariables false
set_option linter.unusedSimpArgs false
namespace Go.Proofs.Ytaagfepgbofmlaa
open Go Vc
theorem Zr0 {a b : A8} {K : Int → Prop} (ha : OkP a) (hb : OkP b) (h : K (pcmp a b)) : Zhh a b K := Zos ha hb h
def FitT (l : List Term) : Prop := ∀ t, t ∈ l → Zao .u8 t.mono
theorem FitT.pos {l : List Term} (h : FitT l) : Zd0 l := fun t ht i hi => Zit (Ziu (h t ht) hi)
theorem Zmb {a : A8} (h : Zao .u8 a) : OkP a := fun x hx => by
  obtain ⟨i, hi, rfl⟩ := A8.mem_list.1 hx
  have := Zit (Ziu h hi)
  omega
theorem Zr1 {x : Int} {K : Bool → Prop} (h : K (decide (1 ≤ x ∧ x ≤ 10006))) : Zhl x K := Zho h
theorem Zr2 {ds : List Int} {l : List Term} {K : Bool → Prop} (hd : OkDeg ds) (hp : FitT l) (h : K (decide (OkForm ds l))) : Zdq ds ⟨l⟩ K := by
  unfold Zdq
  dsimp only
  split
  · rename_i q
    have : ¬ OkForm ds l := fun z => by have := z.1; omega
    rwa [decide_eq_false this] at h
  · rename_i q0
    refine Xg (fun i _ => ∀ j, j < i → OkMono ds (l.getD j default).mono ∧ (1 ≤ (l.getD j default).factor ∧ (l.getD j default).factor ≤ 10006) ∧ (0 < j → pcmp (l.getD (j - 1) default).mono (l.getD j default).mono < 0)) l.length ?_ ?_ _ _ _ (by omega) (by intro j hj; omega)
    · intro i s next hi hI hn
      have bad : ¬ (OkMono ds (l.getD i default).mono ∧ (1 ≤ (l.getD i default).factor ∧ (l.getD i default).factor ≤ 10006) ∧ (0 < i → pcmp (l.getD (i - 1) default).mono (l.getD i default).mono < 0)) → K false := by
        intro b
        have : ¬ OkForm ds l := fun q => b (q.2 _ hi)
        rwa [decide_eq_false this] at h
      refine Zrb hd (fun q hq => (hp.pos _ (Jp hi) q hq).1) ?_
      split
      · rename_i q
        exact bad fun z => q (decide_eq_true z.1)
      · rename_i q1
        have q1 : OkMono ds (l.getD i default).mono := of_decide_eq_true (Decidable.not_not.1 q1)
        refine Zr1 ?_
        split
        · rename_i q
          exact bad fun z => q (decide_eq_true z.2.1)
        · rename_i q2
          have q2 : 1 ≤ (l.getD i default).factor ∧ (l.getD i default).factor ≤ 10006 := of_decide_eq_true (Decidable.not_not.1 q2)
          have ok : (0 < i → pcmp (l.getD (i - 1) default).mono (l.getD i default).mono < 0) → next () := fun q3 => by
            refine hn _ fun j hj => ?_
            by_cases hji : j = i
            · subst hji; exact ⟨q1, q2, q3⟩
            · exact hI j (by omega)
          split
          · have w2 : IntKind.i64.wrap ((i : Int) - 1) = (i : Int) - 1 := i64_in _ (by omega)
            rw [w2, show ((i : Int) - 1).toNat = i - 1 by omega]
            have f1 := hp _ (Jp (show i - 1 < l.length by omega))
            have f2 := hp _ (Jp hi)
            refine ⟨by omega, Zhp f1 (Zhp f2 (Zr0 (Zmb f1) (Zmb f2) ?_))⟩
            split
            · rename_i q
              exact bad fun z => by have := z.2.2 (by omega); omega
            · rename_i q
              exact ok fun _ => by omega
          · exact ok fun q => by omega
    · intro s hI
      have : OkForm ds l := ⟨by omega, hI⟩
      rwa [decide_eq_true this] at h
structure IsMap (l : List Term) (m : List (A8 × Int)) : Prop where
  ok : MapOk m
  cf : ∀ x, co m x = coT l x
  ks : ∀ p, p ∈ m → ∃ t, t ∈ l ∧ t.mono = p.1
theorem Zjn {l : List Term} {K : List (A8 × Int) → Prop} (hc : Canon l) (hp : FitT l) (h : ∀ m, IsMap l m → K m) : Zc1 ⟨l⟩ K := by
  unfold Zc1
  dsimp only
  refine Xg (fun i (s : List (A8 × Int)) => IsMap (l.take i) s) l.length ?_ ?_ _ _ _ (by omega) ⟨MapOk.nil, by intro x; rfl, by simp⟩
  · intro i s next hi hI hn
    refine Zhp (hp _ (Jp hi)) (hn _ ?_)
    rw [Zal hi]
    have hnew : co s (l.getD i default).mono = 0 := by
      rw [hI.cf]
      refine Zcr fun t ht => ?_
      obtain ⟨j, hj, rfl⟩ := List.getElem_of_mem ht
      rw [List.length_take] at hj
      have := hc.at_lt (show j < i by omega) hi
      have hjl : j < l.length := by omega
      simp only [List.getElem_take]
      rw [show l.getD j default = l[j] by simp [List.getD, hjl]] at this
      exact Zbu this
    refine ⟨hI.ok.put (hc.at_range hi), fun x => ?_, fun p hpm => ?_⟩
    · rw [Zlk hI.ok.1, Zbw, ← hI.cf]
      by_cases hx : x = (l.getD i default).mono
      · subst hx; rw [if_pos rfl, if_pos rfl, hnew, Int.zero_add]
      · rw [if_neg hx, if_neg (fun e => hx e.symm), Int.add_zero]
    · rcases Ziy hpm with rfl | q
      · exact ⟨_, by simp, rfl⟩
      · obtain ⟨t, ht, e⟩ := hI.ks p q
        exact ⟨t, by simp [ht], e⟩
  · intro s hI
    rw [List.take_length] at hI
    exact h _ hI
theorem Zmc {l : List (A8 × Int)} {x : A8} {c : Int} {K : List (A8 × Int) → Prop} (hl : MapOk l) (hc : -100000000000 ≤ c ∧ c ≤ 100000000000) (h : ∀ l', IsPut l x c l' → K l') : Zdp l x c K := by
  unfold Zdp
  rw [Zcs hl.1]
  have := hl.range x
  rw [i64_in _ (by omega)]
  refine Zjk ?_
  split
  · rename_i q; exact h _ (IsPut.put hl rfl q)
  · rename_i q; exact h _ (IsPut.del hl (by omega))
structure IsSum (s t : List (A8 × Int)) (k : Int) (out : List (A8 × Int)) : Prop where
  ok : MapOk out
  cf : ∀ m, co out m % 10007 = (co s m + k * co t m) % 10007
  ks : ∀ p, p ∈ out → ∃ q, (q ∈ s ∨ q ∈ t) ∧ q.1 = p.1
  ln : out.length ≤ s.length + t.length
theorem Zjo {s t : List (A8 × Int)} {k : Int} {K : List (A8 × Int) → Prop} (hs : MapOk s) (ht : MapOk t) (hk : 0 ≤ k ∧ k ≤ 10006) (h : ∀ out, IsSum s t k out → K out) : Zab s t k K := by
  unfold Zab
  refine Zet (fun l' (out : List (A8 × Int)) => (∀ p, p ∈ l' → p ∈ t) ∧ MapOk out ∧ (∀ m, (co out m + k * co l' m) % 10007 = (co s m + k * co t m) % 10007) ∧ (∀ p, p ∈ out → ∃ q, (q ∈ s ∨ q ∈ t) ∧ q.1 = p.1) ∧ out.length + l'.length ≤ s.length + t.length) ?_ ?_ t s ⟨fun _ h => h, hs, fun _ => rfl, fun p hp => ⟨p, .inl hp, rfl⟩, by omega⟩
  · intro l' p l'' out next hp ⟨h0, h1, h2, h3, h4⟩ hn
    have hperm := Zeu hp
    have hpm : p ∈ l' := hperm.mem_iff.2 (by simp)
    have hpt := ht.2 p (h0 p hpm)
    have hb := Zhw (show 0 ≤ p.2 ∧ p.2 ≤ 10006 by omega) hk
    rw [i64_in _ (by omega)]
    have htm := Zey (p.2 * k)
    refine Zmc h1 (by omega) fun out' ho => hn _ ⟨fun q hq => h0 q (hperm.mem_iff.2 (by simp [hq])), ho.ok, fun m => ?_, fun q hq => ?_, ?_⟩
    · have e1 := ho.cf m
      have e2 := h2 m
      have e3 : co l' m = (if p.1 = m then p.2 else 0) + co l'' m := by rw [co, Zco _ hperm]; rfl
      rw [e3, Int.mul_add] at e2
      by_cases hm : p.1 = m
      · rw [if_pos hm] at e1 e2
        have e4 := Zlh (p.2 * k)
        rw [Int.mul_comm k p.2] at e2
        omega
      · rw [if_neg hm] at e1 e2
        omega
    · rcases ho.ks q hq with e | ⟨q', hq', e⟩
      · exact ⟨p, .inr (h0 p hpm), e.symm⟩
      · obtain ⟨z, hz, e'⟩ := h3 q' hq'
        exact ⟨z, hz, e'.trans e⟩
    · have := ho.ln
      have := Zer hp
      omega
  · intro out ⟨_, h1, h2, h3, h4⟩
    exact h _ ⟨h1, fun m => by have := h2 m; rw [Zcq, Int.mul_zero, Int.add_zero] at this; exact this, h3, by simpa using h4⟩
def shM (ds : List Int) (p : A8 × Int) (t : List (A8 × Int)) (m : A8) : Int := tot (fun q => pr1 ds p.1 p.2 q.1 q.2 m) t
def prM (ds : List Int) (s t : List (A8 × Int)) (m : A8) : Int := tot (fun p => shM ds p t m) s
structure IsProdM (ds : List Int) (s t out : List (A8 × Int)) : Prop where
  ok : MapOk out
  cf : ∀ m, co out m % 10007 = prM ds s t m % 10007
  ks : ∀ p, p ∈ out → ∃ a b, a ∈ s ∧ b ∈ t ∧ p.1 = a.1.add b.1 ∧ ¬ Clash ds a.1 b.1
theorem Zh0 {ds : List Int} {s t : List (A8 × Int)} {K : List (A8 × Int) → Prop} (hd : OkDeg ds) (hs : MapOk s) (ws : ∀ p, p ∈ s → Xs ds p.1) (ps : ∀ p, p ∈ s → ∀ i, i < 8 → 0 ≤ p.1.get i) (ht : MapOk t) (wt : ∀ p, p ∈ t → Xs ds p.1) (pt : ∀ p, p ∈ t → ∀ i, i < 8 → 0 ≤ p.1.get i)
    (h : ∀ out, IsProdM ds s t out → K out) : X4 s ds t K := by
  unfold X4
  refine Zet (fun l' (out : List (A8 × Int)) => (∀ p, p ∈ l' → p ∈ s) ∧ MapOk out ∧ (∀ m, (co out m + prM ds l' t m) % 10007 = prM ds s t m % 10007) ∧ (∀ p, p ∈ out → ∃ a b, a ∈ s ∧ b ∈ t ∧ p.1 = a.1.add b.1 ∧ ¬ Clash ds a.1 b.1)) ?_ ?_ s [] ⟨fun _ h => h, MapOk.nil, fun m => by rw [Zcq, Int.zero_add], by simp⟩
  · intro l' p l'' out next hp ⟨h0, h1, h2, h3⟩ hn
    have hperm := Zeu hp
    have hpm : p ∈ s := h0 p (hperm.mem_iff.2 (by simp))
    have hpf := hs.2 p hpm
    have e3 : ∀ m, prM ds l' t m = shM ds p t m + prM ds l'' t m := fun m => by rw [prM, Zco _ hperm]; rfl
    refine Zet (fun k' (o2 : List (A8 × Int)) => (∀ q, q ∈ k' → q ∈ t) ∧ MapOk o2 ∧ (∀ m, (co o2 m + shM ds p k' m) % 10007 = (co out m + shM ds p t m) % 10007) ∧ (∀ q, q ∈ o2 → ∃ a b, a ∈ s ∧ b ∈ t ∧ q.1 = a.1.add b.1 ∧ ¬ Clash ds a.1 b.1)) ?_ ?_ t out ⟨fun _ h => h, h1, fun _ => rfl, h3⟩
    · intro k' q k'' o2 next' hq ⟨g0, g1, g2, g3⟩ hn'
      have hperm2 := Zeu hq
      have hqm : q ∈ t := g0 q (hperm2.mem_iff.2 (by simp))
      have hqf := ht.2 q hqm
      have e4 : ∀ m, shM ds p k' m = pr1 ds p.1 p.2 q.1 q.2 m + shM ds p k'' m := fun m => by rw [shM, Zco _ hperm2]; rfl
      refine Zri hd (ws p hpm) (wt q hqm) (ps p hpm) (pt q hqm) ?_
      split
      · rename_i hsg
        rw [Zjm (Zez hsg).2.2 hpf hqf]
        have htm := Zey ((Yz ds p.1 q.1).2 * (p.2 * q.2))
        refine Zmc g1 (by omega) fun o3 ho => hn' _ ⟨fun z hz => g0 z (hperm2.mem_iff.2 (by simp [hz])), ho.ok, fun m => ?_, fun z hz => ?_⟩
        · have e1 := ho.cf m
          have e2 := g2 m
          rw [e4, pr1] at e2
          by_cases hm : (Yz ds p.1 q.1).1 = m
          · rw [if_pos hm] at e1 e2
            have e5 := Zlh ((Yz ds p.1 q.1).2 * (p.2 * q.2))
            omega
          · rw [if_neg hm] at e1 e2
            omega
        · rcases ho.ks z hz with e | ⟨z', hz', e⟩
          · exact ⟨p, q, hpm, hqm, by rw [e, (Zez hsg).2.1], (Zez hsg).1⟩
          · obtain ⟨a, b, ha, hb, e', hc⟩ := g3 z' hz'
            exact ⟨a, b, ha, hb, e ▸ e', hc⟩
      · rename_i hsg
        refine hn' _ ⟨fun z hz => g0 z (hperm2.mem_iff.2 (by simp [hz])), g1, fun m => ?_, g3⟩
        have e2 := g2 m
        rw [e4, pr1, show (Yz ds p.1 q.1).2 = 0 by simpa using hsg] at e2
        simpa using e2
    · intro o2 ⟨_, g1, g2, g3⟩
      refine hn _ ⟨fun q hq => h0 q (hperm.mem_iff.2 (by simp [hq])), g1, fun m => ?_, g3⟩
      have e1 := g2 m
      have e2 := h2 m
      rw [e3] at e2
      rw [show shM ds p [] m = 0 from rfl] at e1
      omega
  · intro out ⟨_, h1, h2, h3⟩
    exact h _ ⟨h1, fun m => by have := h2 m; rw [show prM ds [] t m = 0 from rfl, Int.add_zero] at this; exact this, h3⟩
theorem Zf0 {l : List Term} {k : List (A8 × Int)} (hk : IsMap l k) (hc : Canon l) (F : A8 → Int → Int) (hF : ∀ a, F a 0 = 0) : tot (fun p => F p.1 p.2) k = tot (fun t => F t.mono t.factor) l := by
  have hnd : (l.map fun t => (t.mono, t.factor)).Nodup := by
    refine List.pairwise_map.2 (hc.1.imp fun {a b} h e => ?_)
    exact Zbu h (congrArg Prod.fst e)
  have hperm : k.Perm (l.map fun t => (t.mono, t.factor)) := by
    have hkn : k.Nodup := by
      have := hk.ok.1
      exact List.Pairwise.imp (fun {a b} h e => h (congrArg Prod.fst e)) (List.pairwise_map.1 this)
    refine (List.perm_ext_iff_of_nodup hkn hnd).2 fun p => ?_
    have atk : ∀ p, p ∈ k → co k p.1 = p.2 := by
      intro p hp
      obtain ⟨i, hi, rfl⟩ := List.getElem_of_mem hp
      have hkk := hk.ok.1
      clear hk hkn
      induction k generalizing i with
      | nil => simp at hi
      | cons q k ih =>
        simp only [List.map_cons, List.nodup_cons] at hkk
        rw [Zay]
        cases i with
        | zero => rw [List.getElem_cons_zero, if_pos rfl, Zb5 fun t ht e => hkk.1 (List.mem_map.2 ⟨t, ht, e⟩), Int.add_zero]
        | succ i =>
          have hi' : i < k.length := by simpa using hi
          rw [List.getElem_cons_succ, if_neg (fun e => hkk.1 (List.mem_map.2 ⟨_, List.getElem_mem hi', e.symm⟩)), Int.zero_add]
          exact ih i hi' (List.getElem_mem hi') hkk.2
    have atl : ∀ t, t ∈ l → coT l t.mono = t.factor := by
      intro t ht
      clear hk hkn hnd atk
      induction l with
      | nil => simp at ht
      | cons q l ih =>
        rcases List.mem_cons.1 ht with rfl | ht
        · exact hc.at_head
        · rw [Zcp, if_neg (Zbu (hc.head t ht)), Int.zero_add]; exact ih hc.tail ht
    constructor
    · intro hp
      obtain ⟨t, ht, e⟩ := hk.ks p hp
      refine List.mem_map.2 ⟨t, ht, ?_⟩
      have h1 := atk p hp
      rw [hk.cf, ← e, atl t ht] at h1
      rw [e, h1]
    · intro hp
      obtain ⟨t, ht, rfl⟩ := List.mem_map.1 hp
      have h1 := hk.cf t.mono
      rw [atl t ht] at h1
      have hnz := hc.2 t ht
      have : ∃ p, p ∈ k ∧ p.1 = t.mono := by
        refine Classical.byContradiction fun hno => ?_
        rw [Zb5 (fun p hp e => hno ⟨p, hp, e⟩)] at h1
        omega
      obtain ⟨p, hp, e⟩ := this
      have h2 := atk p hp
      rw [e, h1] at h2
      rw [← e, h2]; exact hp
  rw [Zco _ hperm, Zbv]
def Low (a : A8) : Prop := ∀ i, i < 8 → a.get i ≤ 20
instance (a : A8) : Decidable (Low a) := inferInstanceAs (Decidable (∀ i, i < 8 → _))
end Go.Proofs.Ytaagfepgbofmlaa
set_option linter.unusedVariables false
set_option linter.unusedSimpArgs false
namespace Go.Proofs.Ytaagfepgbofmlaa
open Go Vc
def asT (m : List (A8 × Int)) : List Term := m.map fun p => ⟨p.1, p.2⟩
theorem Zjp (m : List (A8 × Int)) (x : A8) : coT (asT m) x = co m x := by rw [coT, asT, Zbv]; rfl
theorem Zjq {l : List Term} {out : List (A8 × Int)} (hc : Canon l) (ho : MapOk out) (h : ∀ x, co out x % 10007 = coT l x % 10007) : IsMap l out := by
  have hcf : ∀ x, co out x = coT l x := fun x => by have := h x; have := ho.range x; have := hc.range x; omega
  refine ⟨ho, hcf, fun p hp => Classical.byContradiction fun hno => ?_⟩
  have h1 : coT l p.1 = 0 := Zcr fun t ht e => hno ⟨t, ht, e⟩
  rw [← hcf, ← Zcs ho.1] at h1
  have h2 := ho.2 p hp
  have h3 : (Xm out p.1).getD 0 = p.2 := by
    rw [Zcs ho.1]
    have hk := ho.1
    clear h hcf hno h1 h2 ho
    induction out with
    | nil => simp at hp
    | cons q k ih =>
      simp only [List.map_cons, List.nodup_cons] at hk
      rw [Zay]
      rcases List.mem_cons.1 hp with rfl | hp
      · rw [if_pos rfl, Zb5 fun t ht e => hk.1 (List.mem_map.2 ⟨t, ht, e⟩), Int.add_zero]
      · rw [if_neg (fun e => hk.1 (List.mem_map.2 ⟨p, hp, e.symm⟩)), Int.zero_add]
        exact ih hp hk.2
  omega
theorem Zmd {ds : List Int} {l b : A8} {img : List Term} {s own t : List (A8 × Int)} (hs : IsMap img s) (hc : Canon img) (h1 : IsProdM ds [(l, 1)] s own) (h2 : IsProdM ds own [(b, 1)] t) (x : A8) : co t x % 10007 = triC ds l b img x % 10007 := by
  rw [← Zjp]
  refine Zi0 (own := asT own) (fun y => ?_) (fun x => ?_) x
  · rw [Zjp, h1.cf]
    unfold prM shM shC
    simp only [tot, Int.add_zero]
    rw [Zf0 hs hc (fun a n => pr1 ds l 1 a n y) (fun a => by unfold pr1; split <;> simp)]
  · rw [Zjp, h2.cf]
    unfold prM shM prC shC asT
    rw [Zbv]
    simp only [tot, Int.add_zero]
structure IsDM (ds : List Int) (imgs : List (List Term)) (s out : List (A8 × Int)) : Prop where
  ok : MapOk out
  cf : ∀ x, co out x % 10007 = tot (fun p => dT ds imgs p.1 p.2 x) s % 10007
  mo : ∀ y, y ∈ out → ∃ t, t ∈ s ∧ DMono ds imgs y.1 t.1
theorem Zr3 {ds : List Int} {imgs : List (List Term)} {f : List Term} {s out' : List (A8 × Int)} {out : List Term} (hs : IsMap f s) (hc : Canon f) (h : IsD ds imgs f out) (h' : IsDM ds imgs s out') : IsMap out out' :=
  Zjq h.can h'.ok fun x => by
    rw [h'.cf, h.cf, Zf0 hs hc (fun a n => dT ds imgs a n x) (fun a => Zi1 ds imgs a x)]
theorem Zme {l : List Term} {m : List (A8 × Int)} (h : IsMap l m) (hc : Canon l) : m = [] ↔ l = [] := by
  constructor
  · intro e
    cases l with
    | nil => rfl
    | cons t l =>
      have h1 := h.cf t.mono
      rw [hc.at_head, e, Zcq] at h1
      have := hc.2 t (by simp)
      omega
  · intro e
    cases m with
    | nil => rfl
    | cons p m =>
      obtain ⟨t, ht, _⟩ := h.ks p (by simp)
      rw [e] at ht; cases ht
end Go.Proofs.Ytaagfepgbofmlaa
set_option linter.unusedVariables false
set_option linter.unusedSimpArgs false
namespace Go.Proofs.Ytaagfepgbofmlaa
open Go Vc
theorem Zr4 {a b : Term} {K : Bool → Prop} (h : K (decide (a = b))) : Zfo a b K := by
  unfold Zfo
  refine Zrf ?_
  cases a with | mk m x => cases b with | mk n y =>
  by_cases h1 : m = n
  · by_cases h2 : x = y
    · simpa [h1, h2] using h
    · simpa [h1, h2] using h
  · simpa [h1] using h
theorem Zjr {α : Type} [DecidableEq α] [Inhabited α] {a b : List α} {K : Bool → Prop} {eq : α → α → (Bool → Prop) → Prop} (he : ∀ x y K, K (decide (x = y)) → eq x y K) (h : K (decide (a = b))) :
    (if (a.length : Int) ≠ (b.length : Int) then K false else Yy (fun i (s : Unit) next => ((0 ≤ (i : Int) ∧ (i : Int) < (b.length : Int)) ∧ eq (a.getD i default) (b.getD i default) (fun r => (if ¬ (r = true) then K false else next ())))) (fun (s : Unit) => K true) a.length 0 ()) := by
  split
  · rename_i h1
    have : ¬ a = b := fun e => h1 (by rw [e])
    simpa [this] using h
  · rename_i h1
    have hl : a.length = b.length := by omega
    refine Xg (fun i _ => ∀ j, j < i → a.getD j default = b.getD j default) a.length ?_ ?_ _ _ _ (by omega) (by intro j hj; omega)
    · intro i s next hi hI hn
      refine ⟨by omega, he _ _ _ ?_⟩
      split
      · rename_i h1
        have : ¬ a = b := fun e => h1 (by rw [e]; simp)
        simpa [this] using h
      · rename_i h1
        refine hn _ fun j hj => ?_
        by_cases hji : j = i
        · subst hji; simpa only [decide_eq_true_eq, Decidable.not_not] using h1
        · exact hI j (by omega)
    · intro s hI
      have : a = b := by
        apply List.ext_getElem hl
        intro i h1 h2
        have := hI i h1
        simpa [List.getD, h1, h2] using this
      simpa [this] using h
theorem Zr5 {a b : List Term} {K : Bool → Prop} (h : K (decide (a = b))) : Zhm a b K := Zjr (fun _ _ _ h => Zr4 h) h
theorem Zr6 {a b : Vc.Form} {K : Bool → Prop} (h : K (decide (a = b))) : Zfp a b K := by
  unfold Zfp
  refine Zr5 ?_
  cases a with | mk s => cases b with | mk t =>
  by_cases h1 : s = t
  · simpa [h1] using h
  · simpa [h1] using h
theorem Zr7 {a b : List Vc.Form} {K : Bool → Prop} (h : K (decide (a = b))) : Zhn a b K := Zjr (fun _ _ _ h => Zr6 h) h
theorem Zr8 {a b : Alg} {K : Bool → Prop} (h : K (decide (a = b))) : Zdw a b K := by
  unfold Zdw
  refine Zl7 ?_
  cases a with | mk s t => cases b with | mk u v =>
  dsimp only
  by_cases h1 : s = u
  · simp only [h1, decide_true, not_true_eq_false, if_false]
    refine Zr7 ?_
    by_cases h2 : t = v
    · simpa [h1, h2] using h
    · simpa [h2] using h
  · simpa [h1] using h
theorem Zbo {α : Type} [Inhabited α] {xs : List α} {i j : Nat} {x : α} (hi : i < xs.length) : (xs.set i x).getD j default = if j = i then x else xs.getD j default := by
  by_cases h : j = i
  · subst h; simp [List.getD, hi]
  · simp [List.getD, List.getElem?_set_ne (fun e => h e.symm), h]
def Zjs (t : Term) (c : Int) : Prop := (∀ q, q < 8 → t.mono.get q = IntKind.u8.wrap (c + q)) ∧ t.factor = c + 8
theorem Zr9 {l : List Term} {m : Int} {K : Int → List Term → Prop} (hm : 0 ≤ m ∧ m + 9 * l.length ≤ 4611686018427387904) (h : ∀ x', x'.length = l.length → (∀ j : Nat, j < x'.length → Zjs (x'.getD j default) (m + 9 * j)) → K (m + 9 * l.length) x') : Zfq l m K := by
  unfold Zfq
  refine X1 (fun (s : List Term × Int × Int) => s.1.length = l.length ∧ (0 ≤ s.2.2 ∧ s.2.2 ≤ l.length) ∧ s.2.1 = m + 9 * s.2.2 ∧ ∀ j : Nat, (j : Int) < s.2.2 → Zjs (s.1.getD j default) (m + 9 * j)) (fun s => l.length - s.2.2.toNat) ?_ ⟨rfl, by dsimp only; omega, by simp, by intro j hj; dsimp only at hj; omega⟩
  rintro ⟨x, c, i⟩ next ⟨h1, h2, h3, h4⟩ hn
  dsimp only at h1 h2 h3 h4 ⊢
  split
  · rename_i hi
    refine Xg (fun q (s : List Term × Int) => s.1.length = l.length ∧ s.2 = c + q ∧ (∀ j : Nat, (j : Int) < i → Zjs (s.1.getD j default) (m + 9 * j)) ∧ ∀ r, r < q → (s.1.getD i.toNat default).mono.get r = IntKind.u8.wrap (c + r)) 8 ?_ ?_ _ _ _ (by omega) ⟨h1, by simp, h4, by intro r hr; omega⟩
    · rintro q ⟨y, d⟩ next' hq ⟨g1, g2, g3, g4⟩ hn'
      dsimp only at g1 g2 g3 g4 ⊢
      refine ⟨by omega, ?_⟩
      rw [i64_in (d + 1) (by omega)]
      refine hn' _ ⟨by simpa using g1, by dsimp only; omega, fun j hj => ?_, fun r hr => ?_⟩
      · dsimp only; rw [Zbo (by omega), if_neg (by omega)]; exact g3 j hj
      · dsimp only; rw [Zbo (by omega), if_pos rfl]
        dsimp only
        rw [A8.get_set hq]
        split
        · rename_i e; rw [g2, e]
        · exact g4 r (by omega)
    · rintro ⟨y, d⟩ ⟨g1, g2, g3, g4⟩
      dsimp only at g1 g2 g3 g4 ⊢
      refine ⟨by omega, ?_⟩
      rw [i64_in (d + 1) (by omega), i64_in (i + 1) (by omega)]
      refine hn _ ⟨by simpa using g1, by dsimp only; omega, by dsimp only; omega, fun j hj => ?_⟩ (by dsimp only; omega)
      dsimp only at hj ⊢
      rw [Zbo (by omega)]
      split
      · rename_i e
        have hc : c = m + 9 * (j : Int) := by rw [h3]; omega
        exact ⟨fun q hq => by dsimp only; rw [g4 q hq, hc], by dsimp only; omega⟩
      · exact g3 j (by omega)
  · rename_i hi
    have hc : c = m + 9 * l.length := by rw [h3]; omega
    rw [hc]
    exact h x h1 fun j hj => h4 j (by omega)
end Go.Proofs.Ytaagfepgbofmlaa
set_option linter.unusedVariables false
set_option linter.unusedSimpArgs false
namespace Go.Proofs.Ytaagfepgbofmlaa
open Go Vc
theorem Zsa {t : Term} {K : Term → Prop} (h : K t) : Zfl t K := by
  unfold Zfl
  exact Zrd h
theorem Zsb {l : List Term} {K : List Term → Prop} (hl : l.length ≤ 1048576) (h : K l) : Zfm l K := by
  unfold Zfm
  refine ⟨by omega, ?_⟩
  refine Xg (fun i (s : List Term) => s.length = l.length ∧ ∀ j, j < i → s.getD j default = l.getD j default) l.length ?_ ?_ _ _ _ (by omega) ⟨by simp, by intro j hj; omega⟩
  · intro i s next hi ⟨h1, h2⟩ hn
    refine Zsa ⟨by omega, hn _ ⟨by simpa using h1, fun j hj => ?_⟩⟩
    rw [Zbo (by omega)]
    by_cases e : j = i
    · rw [if_pos e, e]
    · rw [if_neg e]; exact h2 j (by omega)
  · intro s ⟨h1, h2⟩
    have : s = l := List.ext_getElem h1 fun j hj hj' => by have := h2 j (by omega); simpa [List.getD, hj, hj'] using this
    rw [this]; exact h
theorem Zsc {f : Vc.Form} {K : Vc.Form → Prop} (hl : f.terms.length ≤ 1048576) (h : K f) : Zfn f K := by
  unfold Zfn
  exact Zsb hl h
theorem Zsd {f : Vc.Form} {n : Int} {K : Int → Prop} (hl : (f.terms.length : Int) ≤ 9223372036854775807) (hn : 0 ≤ n ∧ n ≤ 1048576) (h1 : (f.terms.length : Int) ≤ n → K (n - f.terms.length)) (h2 : ∀ r, r < 0 → K r) : Zdv f n K := by
  unfold Zdv Zht
  rw [i64_in _ (by omega)]
  split
  · exact h2 _ (by omega)
  · dsimp only
    rw [if_neg (by assumption)]
    exact h1 (by omega)
theorem FitT.map {l : List Term} {m : List (A8 × Int)} (h : FitT l) (hm : IsMap l m) : ∀ p, p ∈ m → ∀ i, i < 8 → 0 ≤ p.1.get i ∧ p.1.get i ≤ 255 := fun p hp => by
  obtain ⟨t, ht, e⟩ := hm.ks p hp
  rw [← e]; exact h.pos t ht
theorem Za0 {ds : List Int} {a : A8} (h : OkMono ds a) : Low a := fun i hi => by
  by_cases hl : i < ds.length
  · exact ((h i hi).1 hl).1
  · rw [(h i hi).2 (by omega)]; omega
theorem Zh1 {b : Bool} {c : Int} {K : Int → Prop} (h : K (if b = true then c else 0)) : Zc3 b c K := by
  unfold Zc3
  split
  · rename_i q; rwa [if_pos q] at h
  · rename_i q; rwa [if_neg q] at h
theorem Zh2 {A B : Prop} (h : B) : if ¬ (true = true) then A else B := by simpa using h
theorem Zh3 {c : Int} {A B : Prop} (h : B) : if c ≠ c then A else B := by simpa using h
theorem Zjt {c : Int} {A B : Prop} (hc : 0 ≤ c) (h : B) : if c < 0 then A else B := by rw [if_neg (by omega)]; exact h
end Go.Proofs.Ytaagfepgbofmlaa
set_option linter.unusedVariables false
set_option linter.unusedSimpArgs false
namespace Go.Proofs.Ytaagfepgbofmlaa
open Go Vc
def imgsT (a : Alg) : List (List Term) := a.images.map Vc.Form.terms
theorem Zc4 (a : Alg) {i : Nat} (h : i < a.images.length) : (imgsT a).getD i default = (a.images.getD i default).terms := by
  simp [imgsT, List.getD, h]
structure AlgF (a : Alg) : Prop where
  deg : OkDeg a.degrees
  len : a.images.length = a.degrees.length
  frm : ∀ i, i < a.images.length → OkForm a.degrees (a.images.getD i default).terms
  fit : ∀ i, i < a.images.length → FitT (a.images.getD i default).terms
theorem Zh4 {m : A8} {K : Vc.Form → Prop} (h : K ⟨[⟨m, 1⟩]⟩) : X2 m 1 K := by
  unfold X2
  refine Zbz ?_
  rw [if_neg (by decide)]
  exact Zbz h
theorem Zce {ds : List Int} {m : A8} (hd : OkDeg ds) (hm : ∀ i, i < 8 → 0 ≤ m.get i ∧ m.get i ≤ 255) : ∀ k, k ≤ ds.length → 0 ≤ wtU ds m k ∧ wtU ds m k ≤ 3060 * k := by
  intro k
  induction k with
  | zero => intro _; simp [wtU]
  | succ k ih =>
    intro hk
    have h1 := ih (by omega)
    have h2 := hd.2 k (by omega)
    have h3 := hm k (by have := hd.1; omega)
    have h4 : 0 ≤ ds.getD k default * m.get k := Int.mul_nonneg (by omega) h3.1
    have h5 : ds.getD k default * m.get k ≤ 12 * 255 := Int.mul_le_mul h2.2 h3.2 h3.1 (by omega)
    simp only [wtU]
    omega
theorem Zju {ds : List Int} {m : A8} (hd : OkDeg ds) (hm : ∀ i, i < 8 → 0 ≤ m.get i ∧ m.get i ≤ 255) {k : Nat} (hk : k < ds.length) : 0 ≤ ds.getD k default * m.get k ∧ ds.getD k default * m.get k ≤ 3060 := by
  have h2 := hd.2 k hk
  have h3 := hm k (by have := hd.1; omega)
  exact ⟨Int.mul_nonneg (by omega) h3.1, Int.mul_le_mul h2.2 h3.2 h3.1 (by omega)⟩
theorem Zjv {ds : List Int} {m : A8} {K : Int → Prop} (hd : OkDeg ds) (hm : ∀ i, i < 8 → 0 ≤ m.get i ∧ m.get i ≤ 255) (h : K (wtU ds m ds.length)) : Zca ds m K := by
  unfold Zca
  have h8 := hd.1
  refine Xg (fun i (s : Int) => s = wtU ds m i) ds.length ?_ ?_ _ _ _ (by omega) rfl
  · intro i s next hi hs hn
    have h1 := hm i (by omega)
    have h2 := Zju hd hm hi
    have h3 := Zce hd hm i (by omega)
    refine ⟨by omega, ?_⟩
    rw [i64_in (m.get i) (by omega), i64_in (ds.getD i default * m.get i) (by omega), i64_in _ (by omega)]
    exact hn _ (by simp only [wtU]; rw [hs])
  · intro s hs; rw [hs]; exact h
theorem Zmf {ds : List Int} {m : A8} {K : Int → Prop} (hd : OkDeg ds) (hm : ∀ i, i < 8 → 0 ≤ m.get i ∧ m.get i ≤ 255) (h : K (wtU ds m ds.length)) : Zdr m ds K := by
  unfold Zdr
  have h8 := hd.1
  refine Xg (fun i (s : Int) => s = wtU ds m i) ds.length ?_ ?_ _ _ _ (by omega) rfl
  · intro i s next hi hs hn
    have h2 := Zju hd hm hi
    have h3 := Zce hd hm i (by omega)
    refine ⟨by omega, ?_⟩
    rw [i64_in (ds.getD i default * m.get i) (by omega), i64_in _ (by omega)]
    exact hn _ (by simp only [wtU]; rw [hs])
  · intro s hs; rw [hs]; exact h
theorem Zmg {ds : List Int} {m : A8} {i : Nat} (h8 : ds.length ≤ 8) : ∀ k, k ≤ ds.length → wtU ds (frontA m i) k = wtU ds m (min i k) := by
  intro k
  induction k with
  | zero => intro _; simp [wtU]
  | succ k ih =>
    intro hk
    simp only [wtU]
    rw [ih (by omega), frontA, A8.get_mkf _ (by omega)]
    by_cases h : k < i
    · rw [if_pos h, show min i (k + 1) = k + 1 by omega, show min i k = k by omega]
      simp only [wtU]
    · rw [if_neg h, show min i (k + 1) = i by omega, show min i k = i by omega]
      simp
theorem Zh5 (m : A8) : Canon [⟨m, 1⟩] := ⟨by simp, by intro t ht; obtain rfl := List.mem_singleton.1 ht; simp⟩
theorem Zse {l g : List Term} {m : A8} (h : l.length ≤ ([⟨m, 1⟩] : List Term).length * g.length) : l.length ≤ g.length := by simpa using h
theorem Zbg {a : A8} (h : Low a) (p : ∀ i, i < 8 → 0 ≤ a.get i ∧ a.get i ≤ 255) : ∀ i, i < 8 → 0 ≤ a.get i ∧ a.get i ≤ 20 := fun i hi => ⟨(p i hi).1, h i hi⟩
theorem Zh6 {m : A8} {i : Nat} (hm : ∀ i, i < 8 → 0 ≤ m.get i ∧ m.get i ≤ 20) (hp : 0 < m.get i) : (∀ j, j < 8 → 0 ≤ (leftA m i).get j ∧ (leftA m i).get j ≤ 20) ∧ (∀ j, j < 8 → 0 ≤ (backA m i).get j ∧ (backA m i).get j ≤ 20) ∧ ∀ j, j < 8 → (leftA m i).get j + (backA m i).get j ≤ 20 := by
  refine ⟨fun j hj => ?_, fun j hj => ?_, fun j hj => ?_⟩
  · rw [leftA, A8.get_mkf _ hj]
    have := hm j hj
    split
    · exact this
    · split
      · rename_i e; subst e; omega
      · omega
  · rw [backA, A8.get_mkf _ hj]
    have := hm j hj
    split <;> omega
  · rw [leftA, backA, A8.get_mkf _ hj, A8.get_mkf _ hj]
    have := hm j hj
    split
    · rw [if_neg (by omega)]; omega
    · split
      · rename_i e; subst e; rw [if_neg (by omega)]; omega
      · split <;> omega
theorem Zmh (ds : List Int) (m : A8) (n : Int) (i : Nat) : 0 ≤ dK ds m n i ∧ dK ds m n i ≤ 10006 := by unfold dK; omega
theorem Zjw {w : Int} (hw : 0 ≤ w) : (Int.tmod w 2 ≠ 0 ∧ sg w = -1) ∨ (¬ Int.tmod w 2 ≠ 0 ∧ sg w = 1) := by
  rw [Int.tmod_eq_emod_of_nonneg hw]
  unfold sg
  by_cases h : w % 2 = 0
  · right; rw [if_pos h]; exact ⟨by omega, rfl⟩
  · left; rw [if_neg h]; exact ⟨h, rfl⟩
structure StepD (ds : List Int) (imgs : List (List Term)) (m : A8) (n : Int) (i : Nat) (out out' : List Term) : Prop where
  can : Canon out'
  cf : ∀ x, coT out' x % 10007 = (coT out x + dK ds m n i * triC ds (leftA m i) (backA m i) (imgs.getD i default) x) % 10007
  mo : ∀ y, y ∈ out' → (∃ z, z ∈ out ∧ z.mono = y.mono) ∨ DMono ds imgs y.mono m
  ln : out'.length ≤ out.length + 400
theorem Zsf {a : Alg} {K : Vc.Form → Prop} {m : A8} {n v : Int} {i : Nat} {out : List Term} (ha : AlgF a) (hi : i < a.images.length) (hm : OkMono a.degrees m) (pm : ∀ i, i < 8 → 0 ≤ m.get i ∧ m.get i ≤ 255) (hp : 0 < m.get i) (hc : Canon out) (hl : out.length ≤ 50000000) (hv : v % 10007 = dK a.degrees m n i)
    (h : ∀ out', StepD a.degrees (imgsT a) m n i out out' → K ⟨out'⟩) :
    X2 (leftA m i) 1 (fun r => Ja a.degrees r (a.images.getD i default) (fun r' => X2 (backA m i) 1 (fun r2 => Ja a.degrees r' r2 (fun r3 => Ju v (fun k => J4 ⟨out⟩ r3 k K))))) := by
  have hd := ha.deg
  have hi8 : i < 8 := by have := hd.1; have := ha.len; omega
  have hf := ha.frm i hi
  have ff := ha.fit i hi
  have hm20 := Zbg (Za0 hm) pm
  obtain ⟨lb, bb, lbb⟩ := Zh6 hm20 hp
  obtain ⟨wl, wb⟩ := Zg9 hm hi8 hp
  refine Zh4 ?_
  have hL : (⟨(a.images.getD i default).terms⟩ : Vc.Form) = a.images.getD i default := rfl
  rw [← hL]
  refine Zhz hd (Zh5 _) (fun u hu => by obtain rfl := List.mem_singleton.1 hu; exact wl) (fun u hu q hq => by obtain rfl := List.mem_singleton.1 hu; have := lb q hq; dsimp only; omega) hf.canon (fun u hu => (hf.mono hu).wk) ff.pos (by simp) (by have := hf.1; omega) fun own ho => ?_
  refine Zh4 ?_
  have hown : ∀ u, u ∈ own → ∃ z, z ∈ (a.images.getD i default).terms ∧ u.mono = (leftA m i).add z.mono ∧ ¬ Clash a.degrees (leftA m i) z.mono ∧ (∀ q, q < 8 → 0 ≤ z.mono.get q ∧ z.mono.get q ≤ 20) := fun u hu => by
    obtain ⟨t, z, ht, hz, e, hcl⟩ := ho.mo u hu
    obtain rfl := List.mem_singleton.1 ht
    exact ⟨z, hz, e, hcl, Zbg (Za0 (hf.mono hz)) (ff.pos z hz)⟩
  have wown : ∀ u, u ∈ own → Xs a.degrees u.mono ∧ ∀ q, q < 8 → 0 ≤ u.mono.get q ∧ u.mono.get q ≤ 40 := fun u hu => by
    obtain ⟨z, hz, e, hcl, hz20⟩ := hown u hu
    rw [e]
    refine ⟨Zb6 wl (hf.mono hz).wk (fun q hq => (lb q hq).1) (fun q hq => (hz20 q hq).1) (fun q hq => by have := lb q hq; have := hz20 q hq; omega) hcl, fun q hq => ?_⟩
    rw [A8.get_add]
    have := lb q hq
    have := hz20 q hq
    omega
  have lo := Zse ho.ln
  refine Zhz hd ho.can (fun u hu => (wown u hu).1) (fun u hu q hq => by have := (wown u hu).2 q hq; omega) (Zh5 _) (fun u hu => by obtain rfl := List.mem_singleton.1 hu; exact wb) (fun u hu q hq => by obtain rfl := List.mem_singleton.1 hu; have := bb q hq; dsimp only; omega) (by have := hf.1; omega) (by simp) fun prod hpr => ?_
  have lp : prod.length ≤ 400 := by have h1 := hpr.ln; have := hf.1; simp at h1; omega
  refine Zbz ?_
  rw [hv]
  refine Zfz hc hpr.can (Zmh _ _ _ _) (by omega) (by omega) fun out' hout => h out' ⟨hout.can, fun x => ?_, fun y hy => ?_, by have := hout.ln; omega⟩
  · rw [hout.cf]
    have e1 := Zi0 (ds := a.degrees) (l := leftA m i) (b := backA m i) (img := (a.images.getD i default).terms) (own := own) (prod := prod) (fun y => by rw [ho.cf]; simp [prC, tot]) (fun x => hpr.cf x) x
    rw [Zc4 a hi, Int.add_emod, Int.mul_emod, e1, ← Int.mul_emod, ← Int.add_emod]
  · obtain ⟨z, hz, e⟩ := hout.mo y hy
    rcases hz with hz | hz
    · exact .inl ⟨z, hz, e⟩
    · obtain ⟨t, b, ht, hb, e2, hcl2⟩ := hpr.mo z hz
      obtain rfl := List.mem_singleton.1 hb
      obtain ⟨u, hu, e3, hcl, _⟩ := hown t ht
      refine .inr ⟨i, u, hi8, hp, by rw [Zc4 a hi]; exact hu, by rw [← e, e2, e3], hcl, ?_⟩
      rw [← e3]; exact hcl2
theorem Zmi {a : Alg} {f : List Term} {K : Vc.Form → Prop} (ha : AlgF a) (hf : OkForm a.degrees f) (ff : FitT f) (h : ∀ out, IsD a.degrees (imgsT a) f out → out.length ≤ 1280000 → K ⟨out⟩) : Zdo a ⟨f⟩ K := by
  have hd := ha.deg
  have h8 := hd.1
  have hlen := ha.len
  have hl4 := hf.1
  unfold Zdo
  dsimp only
  refine X1 (fun (s : List Term × Int) => 0 ≤ s.2 ∧ s.2 ≤ f.length ∧ IsD a.degrees (imgsT a) (f.take s.2.toNat) s.1 ∧ s.1.length ≤ 3200 * s.2.toNat) (fun s => f.length - s.2.toNat) ?_ ⟨Int.le_refl _, by dsimp only; omega, ⟨Canon.nil, by intro x; rfl, by intro y hy; cases hy⟩, by simp⟩
  rintro ⟨out0, k⟩ next ⟨h1, h2, hI, hL⟩ hn
  dsimp only at h1 h2 hI hL hn ⊢
  split
  · rename_i hk
    have kn : k.toNat < f.length := by omega
    refine ⟨by omega, ?_⟩
    have tm := Jp kn
    have hm := hf.mono tm
    have pm := ff.pos _ tm
    have hfac := hf.canon.at_range kn
    generalize hgm : (f.getD k.toNat default).mono = m at hm pm ⊢
    generalize hgn : (f.getD k.toNat default).factor = n at hfac ⊢
    have nk : (k + 1).toNat = k.toNat + 1 := by omega
    have wk1 : IntKind.i64.wrap (k + 1) = k + 1 := i64_in _ (by omega)
    refine X1 (fun (s : List Term × Int) => 0 ≤ s.2 ∧ s.2 ≤ a.degrees.length ∧ Canon s.1 ∧ (∀ x, (coT s.1 x + dS a.degrees (imgsT a) m n x (8 - s.2.toNat) s.2.toNat) % 10007 = (tot (fun t => dT a.degrees (imgsT a) t.mono t.factor x) (f.take k.toNat) + dT a.degrees (imgsT a) m n x) % 10007) ∧ (∀ y, y ∈ s.1 → ∃ t, t ∈ f.take (k.toNat + 1) ∧ DMono a.degrees (imgsT a) y.mono t.mono) ∧ s.1.length ≤ 3200 * k.toNat + 400 * s.2.toNat)
      (fun s => a.degrees.length - s.2.toNat) ?_ ⟨Int.le_refl _, by dsimp only; omega, hI.can, fun x => ?_, fun y hy => ?_, by dsimp only; omega⟩
    · rintro ⟨out, i⟩ next' ⟨g1, g2, gc, gf, gm, gl⟩ hn'
      dsimp only at g1 g2 gc gf gm gl hn' ⊢
      have ni : (i + 1).toNat = i.toNat + 1 := by omega
      have wi : IntKind.i64.wrap (i + 1) = i + 1 := i64_in _ (by omega)
      rw [wi, wk1]
      split
      · rename_i hi
        have hin : i.toNat < a.degrees.length := by omega
        have hi8 : i.toNat < 8 := by omega
        have pmi := pm i.toNat hi8
        have hdS : ∀ x, dS a.degrees (imgsT a) m n x (8 - i.toNat) i.toNat = (if m.get i.toNat > 0 then dK a.degrees m n i.toNat * triC a.degrees (leftA m i.toNat) (backA m i.toNat) ((imgsT a).getD i.toNat default) x else 0) + dS a.degrees (imgsT a) m n x (8 - (i.toNat + 1)) (i.toNat + 1) := fun x => by
          rw [show 8 - i.toNat = (8 - (i.toNat + 1)) + 1 by omega]; rfl
        refine ⟨by omega, ?_⟩
        split
        · rename_i he
          refine hn' _ ⟨by dsimp only; omega, by dsimp only; omega, gc, fun x => ?_, gm, by dsimp only; omega⟩ (by dsimp only; omega)
          dsimp only
          rw [ni]
          have := gf x
          rw [hdS, if_neg (by omega), Int.zero_add] at this
          exact this
        · rename_i he
          have hp : 0 < m.get i.toNat := by omega
          refine Xg (fun j (s : A8 × A8) => ∀ q, q < 8 → (s.1.get q = if q < j ∧ i.toNat ≤ q then 0 else m.get q) ∧ (s.2.get q = if q < j ∧ q ≤ i.toNat then 0 else m.get q)) 8 ?_ ?_ _ _ _ (by omega) (fun q hq => ⟨by rw [if_neg (by omega)], by rw [if_neg (by omega)]⟩)
          · rintro j ⟨s1, s2⟩ nx hj hs hnx
            dsimp only at hs ⊢
            have fin : ∀ t1 t2 : A8, (∀ q, q < 8 → t1.get q = if q = j ∧ i.toNat ≤ j then 0 else s1.get q) → (∀ q, q < 8 → t2.get q = if q = j ∧ j ≤ i.toNat then 0 else s2.get q) → nx (t1, t2) := fun t1 t2 e1 e2 => hnx _ fun q hq => by
              obtain ⟨a1, a2⟩ := hs q hq
              dsimp only
              rw [e1 q hq, e2 q hq]
              constructor
              · by_cases c1 : q = j ∧ i.toNat ≤ j
                · rw [if_pos c1, if_pos ⟨by omega, by omega⟩]
                · rw [if_neg c1, a1]
                  by_cases c2 : q < j ∧ i.toNat ≤ q
                  · rw [if_pos c2, if_pos ⟨by omega, c2.2⟩]
                  · rw [if_neg c2, if_neg (by omega)]
              · by_cases c1 : q = j ∧ j ≤ i.toNat
                · rw [if_pos c1, if_pos ⟨by omega, by omega⟩]
                · rw [if_neg c1, a2]
                  by_cases c2 : q < j ∧ q ≤ i.toNat
                  · rw [if_pos c2, if_pos ⟨by omega, c2.2⟩]
                  · rw [if_neg c2, if_neg (by omega)]
            have z0 : ∀ (s : A8) q, (s.set j 0).get q = if q = j then 0 else s.get q := fun s q => A8.get_set hj
            split
            · rename_i hge
              split
              · rename_i hle
                exact fin _ _ (fun q hq => by rw [z0]; by_cases e : q = j <;> simp [e]; omega) (fun q hq => by rw [z0]; by_cases e : q = j <;> simp [e]; omega)
              · rename_i hle
                exact fin _ _ (fun q hq => by rw [z0]; by_cases e : q = j <;> simp [e]; omega) (fun q hq => by rw [if_neg (by omega)])
            · rename_i hge
              split
              · rename_i hle
                exact fin _ _ (fun q hq => by rw [if_neg (by omega)]) (fun q hq => by rw [z0]; by_cases e : q = j <;> simp [e]; omega)
              · rename_i hle
                exact fin _ _ (fun q hq => by rw [if_neg (by omega)]) (fun q hq => by rw [if_neg (by omega)])
          · rintro ⟨s1, s2⟩ hs
            have e1 : s1 = frontA m i.toNat := A8.ext_get fun q hq => by
              rw [(hs q hq).1, frontA, A8.get_mkf _ hq]
              by_cases hh : q < i.toNat
              · rw [if_neg (by omega), if_pos hh]
              · rw [if_pos ⟨hq, by omega⟩, if_neg hh]
            have e2 : s2 = backA m i.toNat := A8.ext_get fun q hq => by
              rw [(hs q hq).2, backA, A8.get_mkf _ hq]
              by_cases hh : i.toNat < q
              · rw [if_neg (by omega), if_pos hh]
              · rw [if_pos ⟨hq, by omega⟩, if_neg hh]
            dsimp only
            rw [e1, e2]
            have hw : ∀ q, q < 8 → 0 ≤ (frontA m i.toNat).get q ∧ (frontA m i.toNat).get q ≤ 255 := fun q hq => by
              rw [frontA, A8.get_mkf _ hq]
              have := pm q hq
              split <;> omega
            have hwt : wtU a.degrees (frontA m i.toNat) a.degrees.length = wtU a.degrees m i.toNat := by rw [Zmg h8 _ (Nat.le_refl _), show min i.toNat a.degrees.length = i.toNat by omega]
            have hwb := Zce hd pm i.toNat (by omega)
            have hml := Za0 hm i.toNat hi8
            have hset : (frontA m i.toNat).set i.toNat (IntKind.u8.wrap (m.get i.toNat - 1)) = leftA m i.toNat := A8.ext_get fun q hq => by
              rw [A8.get_set hi8, Zg4 _ (by omega), frontA, leftA, A8.get_mkf _ hq, A8.get_mkf _ hq]
              by_cases e : q = i.toNat
              · subst e; rw [if_pos rfl, if_neg (by omega), if_pos rfl]
              · rw [if_neg e]
                by_cases hh : q < i.toNat
                · rw [if_pos hh, if_pos hh]
                · rw [if_neg hh, if_neg hh, if_neg e]
            rw [hset]
            have hwm : IntKind.i64.wrap (m.get i.toNat) = m.get i.toNat := i64_in _ (by omega)
            have hpb : 0 ≤ n * m.get i.toNat ∧ n * m.get i.toNat ≤ 100120036 := Zhw (by omega) (by omega)
            rw [hwm, i64_in (n * m.get i.toNat) (by omega), i64_in (0 - n * m.get i.toNat) (by omega)]
            refine ⟨by omega, by omega, by omega, by omega, Zjv hd hw ?_⟩
            rw [hwt]
            have key : ∀ v, v % 10007 = dK a.degrees m n i.toNat → X2 (leftA m i.toNat) 1 (fun r => Ja a.degrees r (a.images.getD i.toNat default) (fun r' => X2 (backA m i.toNat) 1 (fun r2 => Ja a.degrees r' r2 (fun r3 => Ju v (fun k => J4 ⟨out⟩ r3 k (fun r => next' (r.terms, i + 1))))))) := fun v hv =>
              Zsf ha (by omega) hm pm hp gc (by omega) hv fun out' hs' => by
                refine hn' _ ⟨by dsimp only; omega, by dsimp only; omega, hs'.can, fun x => ?_, fun y hy => ?_, by have := hs'.ln; dsimp only; omega⟩ (by dsimp only; omega)
                · dsimp only
                  rw [ni]
                  have b1 := gf x
                  have b2 := hs'.cf x
                  rw [hdS, if_pos (by omega)] at b1
                  omega
                · rcases hs'.mo y hy with ⟨z, hz, e⟩ | hD
                  · obtain ⟨t, ht, q⟩ := gm z hz
                    exact ⟨t, ht, e ▸ q⟩
                  · exact ⟨f.getD k.toNat default, by rw [Zal kn]; exact List.mem_append_right _ (List.mem_singleton.2 rfl), by rw [hgm]; exact hD⟩
            rcases Zjw hwb.1 with ⟨q1, q2⟩ | ⟨q1, q2⟩
            · rw [if_pos q1]
              refine ⟨by omega, key _ ?_⟩
              unfold dK; rw [q2]; congr 1; omega
            · rw [if_neg q1]
              refine ⟨by omega, key _ ?_⟩
              unfold dK; rw [q2]; congr 1; omega
      · rename_i hi
        refine hn _ ⟨by dsimp only; omega, by dsimp only; omega, ⟨gc, fun x => ?_, fun y hy => ?_⟩, by dsimp only; omega⟩ (by dsimp only; omega)
        · dsimp only
          rw [nk, Zal kn, Zew]
          simp only [tot]
          rw [hgm, hgn]
          have := gf x
          rw [Zpk _ _ (fun j hj1 hj2 => (hm j (by omega)).2 (by omega))] at this
          omega
        · dsimp only
          rw [nk]; exact gm y hy
    · dsimp only
      have := hI.cf x
      show (coT out0 x + dT a.degrees (imgsT a) m n x) % 10007 = _
      omega
    · obtain ⟨t, ht, q⟩ := hI.mo y hy
      exact ⟨t, List.mem_of_mem_take (i := k.toNat) (by rw [List.take_take, show min k.toNat (k.toNat + 1) = k.toNat by omega]; exact ht), q⟩
  · rename_i hk
    rw [List.take_of_length_le (by omega)] at hI
    exact h _ hI (by omega)
end Go.Proofs.Ytaagfepgbofmlaa
set_option linter.unusedVariables false
set_option linter.unusedSimpArgs false
namespace Go.Proofs.Ytaagfepgbofmlaa
open Go Vc
theorem Zsg {a : Alg} {K : List (Option (List (A8 × Int))) → Prop} (ha : AlgF a) (h : ∀ ls : List (Option (List (A8 × Int))), (∀ i, i < a.images.length → ∃ m, ls[i]? = some (some m) ∧ IsMap (a.images.getD i default).terms m) → K ls) : Zfh a K := by
  unfold Zfh
  have h8 : a.images.length ≤ 8 := by have := ha.deg.1; have := ha.len; omega
  refine Xg (fun i (s : List (Option (List (A8 × Int)))) => s.length = 8 ∧ ∀ j, j < i → ∃ m, s[j]? = some (some m) ∧ IsMap (a.images.getD j default).terms m) a.images.length ?_ ?_ _ _ _ (by omega) ⟨by simp, by intro j hj; omega⟩
  · intro i s next hi ⟨h1, h2⟩ hn
    have hL : (⟨(a.images.getD i default).terms⟩ : Vc.Form) = a.images.getD i default := rfl
    rw [← hL]
    refine Zjn (ha.frm i hi).canon (ha.fit i hi) fun m hm => ⟨by omega, hn _ ⟨by simpa using h1, fun j hj => ?_⟩⟩
    by_cases e : j = i
    · subst e
      exact ⟨m, by rw [List.getElem?_set_self (by omega)], hm⟩
    · rw [List.getElem?_set_ne (fun q => e q.symm)]
      exact h2 j (by omega)
  · intro s ⟨h1, h2⟩
    exact h s h2
theorem Zf1 (m : A8) : MapOk [(m, 1)] := ⟨by simp, by intro p hp; obtain rfl := List.mem_singleton.1 hp; simp⟩
theorem Zsh {a : Alg} {K : List (A8 × Int) → Prop} {m : A8} {n v : Int} {i : Nat} {out ml : List (A8 × Int)} (ha : AlgF a) (hi : i < a.images.length) (hm : OkMono a.degrees m) (pm : ∀ i, i < 8 → 0 ≤ m.get i ∧ m.get i ≤ 255) (hp : 0 < m.get i) (ho : MapOk out) (hml : IsMap (a.images.getD i default).terms ml) (hv : v % 10007 = dK a.degrees m n i)
    (h : ∀ out', MapOk out' → (∀ x, co out' x % 10007 = (co out x + dK a.degrees m n i * triC a.degrees (leftA m i) (backA m i) ((imgsT a).getD i default) x) % 10007) → (∀ y, y ∈ out' → (∃ z, z ∈ out ∧ z.1 = y.1) ∨ DMono a.degrees (imgsT a) y.1 m) → K out') :
    X4 (Zy ([] : List (A8 × Int)) (leftA m i) 1) a.degrees ml (fun r => X4 r a.degrees (Zy ([] : List (A8 × Int)) (backA m i) 1) (fun r2 => Zaa v (fun k => Zab out r2 k K))) := by
  have hd := ha.deg
  have hi8 : i < 8 := by have := hd.1; have := ha.len; omega
  have hf := ha.frm i hi
  have ff := ha.fit i hi
  have hm20 := Zbg (Za0 hm) pm
  obtain ⟨lb, bb, lbb⟩ := Zh6 hm20 hp
  obtain ⟨wl, wb⟩ := Zg9 hm hi8 hp
  have hml20 : ∀ p, p ∈ ml → OkMono a.degrees p.1 ∧ ∃ t, t ∈ (a.images.getD i default).terms ∧ t.mono = p.1 ∧ ∀ q, q < 8 → 0 ≤ p.1.get q ∧ p.1.get q ≤ 20 := fun p hpm => by
    obtain ⟨t, ht, e⟩ := hml.ks p hpm
    rw [← e]
    exact ⟨hf.mono ht, t, ht, rfl, Zbg (Za0 (hf.mono ht)) (ff.pos t ht)⟩
  show X4 [(leftA m i, 1)] a.degrees ml _
  refine Zh0 hd (Zf1 _) (fun p hp' => by obtain rfl := List.mem_singleton.1 hp'; exact wl) (fun p hp' q hq => by obtain rfl := List.mem_singleton.1 hp'; exact (lb q hq).1) hml.ok (fun p hpm => (hml20 p hpm).1.wk) (fun p hpm q hq => by obtain ⟨_, t, _, _, b⟩ := hml20 p hpm; exact (b q hq).1) fun own hown => ?_
  have wown : ∀ u, u ∈ own → ∃ z, z ∈ (a.images.getD i default).terms ∧ u.1 = (leftA m i).add z.mono ∧ ¬ Clash a.degrees (leftA m i) z.mono ∧ Xs a.degrees u.1 ∧ ∀ q, q < 8 → 0 ≤ u.1.get q ∧ u.1.get q ≤ 40 := fun u hu => by
    obtain ⟨t, z, ht, hz, e, hcl⟩ := hown.ks u hu
    obtain rfl := List.mem_singleton.1 ht
    obtain ⟨hzm, tt, htt, ett, hz20⟩ := hml20 z hz
    refine ⟨tt, htt, by rw [ett]; exact e, by rw [ett]; exact hcl, ?_, fun q hq => ?_⟩
    · rw [e]
      exact Zb6 wl hzm.wk (fun q hq => (lb q hq).1) (fun q hq => (hz20 q hq).1) (fun q hq => by have := lb q hq; have := hz20 q hq; dsimp only; omega) hcl
    · rw [e, A8.get_add]
      have := lb q hq
      have := hz20 q hq
      dsimp only
      omega
  show X4 own a.degrees [(backA m i, 1)] _
  refine Zh0 hd hown.ok (fun u hu => by obtain ⟨_, _, _, _, w, _⟩ := wown u hu; exact w) (fun u hu q hq => by obtain ⟨_, _, _, _, _, b⟩ := wown u hu; exact (b q hq).1) (Zf1 _) (fun p hp' => by obtain rfl := List.mem_singleton.1 hp'; exact wb) (fun p hp' q hq => by obtain rfl := List.mem_singleton.1 hp'; exact (bb q hq).1) fun prod hpr => ?_
  refine Zjk ?_
  rw [hv]
  refine Zjo ho hpr.ok (Zmh _ _ _ _) fun out' hout => h out' hout.ok (fun x => ?_) fun y hy => ?_
  · rw [hout.cf, Zc4 a hi]
    have e1 := Zmd hml hf.canon hown hpr x
    rw [Int.add_emod, Int.mul_emod, e1, ← Int.mul_emod, ← Int.add_emod]
  · obtain ⟨z, hz, e⟩ := hout.ks y hy
    rcases hz with hz | hz
    · exact .inl ⟨z, hz, e⟩
    · obtain ⟨t, b, ht, hb, e2, hcl2⟩ := hpr.ks z hz
      obtain rfl := List.mem_singleton.1 hb
      obtain ⟨u, hu, e3, hcl, _⟩ := wown t ht
      refine .inr ⟨i, u, hi8, hp, by rw [Zc4 a hi]; exact hu, by rw [← e, e2, e3], hcl, ?_⟩
      rw [← e3]; exact hcl2
theorem Zjx (m : A8) : A8.zero = frontA m 0 := A8.ext_get fun q hq => by rw [A8.get_zero, frontA, A8.get_mkf _ hq, if_neg (by omega)]
theorem Zh7 {m : A8} {i : Nat} (hi : i < 8) : (frontA m i).set i (m.get i) = frontA m (i + 1) := A8.ext_get fun q hq => by
  rw [A8.get_set hi, frontA, frontA, A8.get_mkf _ hq, A8.get_mkf _ hq]
  by_cases e : q = i
  · subst e; rw [if_pos rfl, if_pos (by omega)]
  · rw [if_neg e]
    by_cases hh : q < i
    · rw [if_pos hh, if_pos (by omega)]
    · rw [if_neg hh, if_neg (by omega)]
theorem Zsi {d e : Int} (hd : 1 ≤ d ∧ d ≤ 12) (he : 0 ≤ e) : sg (d * e) = if Int.tmod d 2 = 1 ∧ Int.tmod e 2 = 1 then -1 else 1 := by
  rw [Int.tmod_eq_emod_of_nonneg (by omega), Int.tmod_eq_emod_of_nonneg he]
  unfold sg
  have h := Int.mul_emod d e 2
  rcases (by omega : d % 2 = 0 ∨ d % 2 = 1) with a | a <;> rcases (by omega : e % 2 = 0 ∨ e % 2 = 1) with b | b <;> rw [a, b] at h <;> simp [h, a, b]
theorem m_d {a : Alg} {f : List Term} {s : List (A8 × Int)} {K : List (A8 × Int) → Prop} (ha : AlgF a) (hs : IsMap f s) (hf : OkForm a.degrees f) (ff : FitT f) (h : ∀ out, IsDM a.degrees (imgsT a) s out → K out) : Zds a s K := by
  have hd := ha.deg
  have h8 := hd.1
  have hlen := ha.len
  unfold Zds
  refine Zsg ha fun ls hls => ?_
  refine Zet (fun l' (out : List (A8 × Int)) => (∀ p, p ∈ l' → p ∈ s) ∧ MapOk out ∧ (∀ x, (co out x + tot (fun p => dT a.degrees (imgsT a) p.1 p.2 x) l') % 10007 = tot (fun p => dT a.degrees (imgsT a) p.1 p.2 x) s % 10007) ∧ (∀ y, y ∈ out → ∃ t, t ∈ s ∧ DMono a.degrees (imgsT a) y.1 t.1)) ?_ ?_ s [] ⟨fun _ h => h, MapOk.nil, fun x => by rw [Zcq, Int.zero_add], by simp⟩
  · intro l' p l'' out next hpk ⟨h0, h1, h2, h3⟩ hn
    have hperm := Zeu hpk
    have hpm : p ∈ s := h0 p (hperm.mem_iff.2 (by simp))
    have hpf := hs.ok.2 p hpm
    obtain ⟨t, ht, et⟩ := hs.ks p hpm
    have hm : OkMono a.degrees p.1 := by rw [← et]; exact hf.mono ht
    have pm : ∀ i, i < 8 → 0 ≤ p.1.get i ∧ p.1.get i ≤ 255 := by rw [← et]; exact ff.pos t ht
    have e3 : ∀ x, tot (fun p => dT a.degrees (imgsT a) p.1 p.2 x) l' = dT a.degrees (imgsT a) p.1 p.2 x + tot (fun p => dT a.degrees (imgsT a) p.1 p.2 x) l'' := fun x => by rw [Zco _ hperm]; rfl
    refine Xg (fun i (t : A8 × (List (A8 × Int)) × Int) => t.1 = frontA p.1 i ∧ MapOk t.2.1 ∧ t.2.2 = sg (wtU a.degrees p.1 i) ∧ (∀ x, (co t.2.1 x + dS a.degrees (imgsT a) p.1 p.2 x (8 - i) i) % 10007 = (co out x + dT a.degrees (imgsT a) p.1 p.2 x) % 10007) ∧ (∀ y, y ∈ t.2.1 → ∃ t, t ∈ s ∧ DMono a.degrees (imgsT a) y.1 t.1)) 8 ?_ ?_ _ _ _ (by omega) ⟨Zjx _, h1, rfl, fun x => rfl, h3⟩
    · rintro i ⟨t1, o1, sg1⟩ nx hi ⟨g1, g2, g3, g4, g5⟩ hnx
      dsimp only at g1 g2 g3 g4 g5 ⊢
      subst g1 g3
      have pmi := pm i hi
      have hdS : ∀ x, dS a.degrees (imgsT a) p.1 p.2 x (8 - i) i = (if p.1.get i > 0 then dK a.degrees p.1 p.2 i * triC a.degrees (leftA p.1 i) (backA p.1 i) ((imgsT a).getD i default) x else 0) + dS a.degrees (imgsT a) p.1 p.2 x (8 - (i + 1)) (i + 1) := fun x => by
        rw [show 8 - i = (8 - (i + 1)) + 1 by omega]; rfl
      have hspm := Ziv (wtU a.degrees p.1 i)
      have tail : ∀ o2 : List (A8 × Int), MapOk o2 → (∀ x, (co o2 x + dS a.degrees (imgsT a) p.1 p.2 x (8 - (i + 1)) (i + 1)) % 10007 = (co out x + dT a.degrees (imgsT a) p.1 p.2 x) % 10007) → (∀ y, y ∈ o2 → ∃ t, t ∈ s ∧ DMono a.degrees (imgsT a) y.1 t.1) →
          (if (i : Int) < (a.degrees.length : Int) then ((0 ≤ (i : Int) ∧ (i : Int) < (a.degrees.length : Int)) ∧ (if Int.tmod (a.degrees.getD i default) 2 = 1 then (if Int.tmod (p.1.get i) 2 = 1 then nx ((frontA p.1 i).set i (p.1.get i), o2, IntKind.i64.wrap (0 - sg (wtU a.degrees p.1 i))) else nx ((frontA p.1 i).set i (p.1.get i), o2, sg (wtU a.degrees p.1 i))) else nx ((frontA p.1 i).set i (p.1.get i), o2, sg (wtU a.degrees p.1 i)))) else nx ((frontA p.1 i).set i (p.1.get i), o2, sg (wtU a.degrees p.1 i))) := by
        intro o2 k1 k2 k3
        rw [Zh7 hi]
        have go : ∀ z, z = sg (wtU a.degrees p.1 (i + 1)) → nx (frontA p.1 (i + 1), o2, z) := fun z hz => hnx _ ⟨rfl, k1, hz, k2, k3⟩
        have hw : wtU a.degrees p.1 (i + 1) = wtU a.degrees p.1 i + a.degrees.getD i default * p.1.get i := rfl
        split
        · rename_i hin
          have hdi := hd.2 i (by omega)
          have hstep := Zsi hdi pmi.1
          refine ⟨by omega, ?_⟩
          split
          · rename_i q1
            split
            · rename_i q2
              rw [if_pos ⟨q1, q2⟩] at hstep
              rw [i64_in _ (by omega)]
              exact go _ (by rw [hw, Zg5, hstep]; omega)
            · rename_i q2
              rw [if_neg (fun z => q2 z.2)] at hstep
              exact go _ (by rw [hw, Zg5, hstep, Int.mul_one])
          · rename_i q1
            rw [if_neg (fun z => q1 z.1)] at hstep
            exact go _ (by rw [hw, Zg5, hstep, Int.mul_one])
        · rename_i hin
          have := (hm i hi).2 (by omega)
          exact go _ (by rw [hw, this, Int.mul_zero, Int.add_zero])
      split
      · rename_i hp0
        have hp0' : 0 < p.1.get i := hp0
        have hin : i < a.images.length := by
          rcases Nat.lt_or_ge i a.images.length with q | q
          · exact q
          · have := (hm i hi).2 (by omega); omega
        have wi : IntKind.i64.wrap ((i : Int) + 1) = (i : Int) + 1 := i64_in _ (by omega)
        rw [wi]
        refine X1 (fun (t : A8 × Int) => 0 ≤ t.2 ∧ t.2 ≤ i + 1 ∧ ∀ q, q < 8 → t.1.get q = if (q : Int) < t.2 then 0 else p.1.get q) (fun t => i + 1 - t.2.toNat) ?_ ⟨Int.le_refl _, by dsimp only; omega, fun q hq => by rw [if_neg (by dsimp only; omega)]⟩
        rintro ⟨t1, k⟩ nk ⟨b1, b2, b3⟩ hnk
        dsimp only at b1 b2 b3 hnk ⊢
        split
        · rename_i hk
          refine ⟨by omega, ?_⟩
          rw [i64_in (k + 1) (by omega)]
          refine hnk _ ⟨by dsimp only; omega, by dsimp only; omega, fun q hq => ?_⟩ (by dsimp only; omega)
          dsimp only
          rw [A8.get_set (by omega), b3 q hq]
          by_cases e : q = k.toNat
          · rw [if_pos e, if_pos (by omega)]
          · rw [if_neg e]
            by_cases hh : (q : Int) < k
            · rw [if_pos hh, if_pos (by omega)]
            · rw [if_neg hh, if_neg (by omega)]
        · rename_i hk
          have eb : t1 = backA p.1 i := A8.ext_get fun q hq => by
            rw [b3 q hq, backA, A8.get_mkf _ hq]
            by_cases hh : i < q
            · rw [if_neg (by omega), if_pos hh]
            · rw [if_pos (by omega), if_neg hh]
          have hml := Za0 hm i hi
          have el : (frontA p.1 i).set i (IntKind.i64.wrap (p.1.get i - 1)) = leftA p.1 i := A8.ext_get fun q hq => by
            rw [A8.get_set hi, i64_in _ (by omega), frontA, leftA, A8.get_mkf _ hq, A8.get_mkf _ hq]
            by_cases e : q = i
            · subst e; rw [if_pos rfl, if_neg (by omega), if_pos rfl]
            · rw [if_neg e]
              by_cases hh : q < i
              · rw [if_pos hh, if_pos hh]
              · rw [if_neg hh, if_neg hh, if_neg e]
          rw [eb, el]
          obtain ⟨ml, hml1, hml2⟩ := hls i hin
          refine ⟨ml, hml1, ?_⟩
          refine Zsh (n := p.2) ha hin hm pm hp0' g2 hml2 ?_ fun o2 k1 k2 k3 => ?_
          · rw [Zjm hspm hpf (by omega)]; rfl
          · refine tail o2 k1 (fun x => ?_) fun y hy => ?_
            · have c1 := g4 x
              have c2 := k2 x
              rw [hdS, if_pos hp0] at c1
              omega
            · rcases k3 y hy with ⟨z, hz, e⟩ | hD
              · obtain ⟨t, ht, q⟩ := g5 z hz
                exact ⟨t, ht, e ▸ q⟩
              · exact ⟨p, hpm, hD⟩
      · rename_i hp0
        refine tail o1 g2 (fun x => ?_) g5
        have c1 := g4 x
        rw [hdS, if_neg hp0, Int.zero_add] at c1
        exact c1
    · rintro ⟨t1, o1, sg1⟩ ⟨g1, g2, g3, g4, g5⟩
      dsimp only at g2 g4 g5 ⊢
      refine hn _ ⟨fun q hq => h0 q (hperm.mem_iff.2 (by simp [hq])), g2, fun x => ?_, g5⟩
      have c1 := g4 x
      have c2 := h2 x
      rw [e3] at c2
      simp only [Nat.sub_self, dS] at c1
      omega
  · intro out ⟨_, h1, h2, h3⟩
    exact h _ ⟨h1, fun x => by have := h2 x; simp only [tot, Int.add_zero] at this; exact this, h3⟩
theorem Zmj {m : List (A8 × Int)} (hm : MapOk m) : ∃ l, Canon l ∧ (∀ x, coT l x = co m x) ∧ ∀ t, t ∈ l → ∃ p, p ∈ m ∧ p.1 = t.mono := by
  obtain ⟨xs, hxs, hw⟩ := Zlm (m.map (·.1))
  obtain ⟨h1, h2⟩ := Zpg hm hxs hw
  refine ⟨_, h1, h2, fun t ht => ?_⟩
  obtain ⟨x, hx, rfl⟩ := List.mem_map.1 ht
  obtain ⟨p, hpm, e⟩ := List.mem_map.1 (hxs.mem_iff.1 hx)
  exact ⟨p, hpm, e⟩
theorem Zsj {ds : List Int} {imgs : List (List Term)} {f : List Term} {s out' : List (A8 × Int)} (hs : IsMap f s) (hc : Canon f) (h' : IsDM ds imgs s out') : out' = [] ↔ ∀ out, IsD ds imgs f out → out = [] := by
  constructor
  · intro e out ho
    exact (Zme (Zr3 hs hc ho h') ho.can).1 e
  · intro hall
    obtain ⟨l, hl, hcf, hks⟩ := Zmj h'.ok
    have hd : IsD ds imgs f l := ⟨hl, fun x => by rw [hcf, h'.cf, Zf0 hs hc (fun a n => dT ds imgs a n x) (fun a => Zi1 ds imgs a x)], fun y hy => by
      obtain ⟨p, hp, e⟩ := hks y hy
      obtain ⟨t, ht, q⟩ := h'.mo p hp
      obtain ⟨u, hu, e2⟩ := hs.ks t ht
      exact ⟨u, hu, by rw [← e, e2]; exact q⟩⟩
    have e := hall l hd
    have hm : IsMap l out' := Zjq hl h'.ok fun x => by rw [hcf]
    exact (Zme hm hl).2 e
theorem Zsk {ds : List Int} {imgs : List (List Term)} {f out out2 : List Term} (h : IsD ds imgs f out) (k : IsD ds imgs f out2) : out = out2 := Zo6 h.can k.can fun x => by rw [h.cf, k.cf]
def Hom (ds : List Int) (l : List Term) (n : Int) : Prop := ∀ i, i < l.length → wtU ds (l.getD i default).mono ds.length = n
instance (ds : List Int) (l : List Term) (n : Int) : Decidable (Hom ds l n) := inferInstanceAs (Decidable (∀ i, i < l.length → _))
theorem Zsl {ds : List Int} {l : List Term} {K : Int → Bool → Prop} (hd : OkDeg ds) (hp : FitT l) (h0 : l.length = 0 → K (-1) true) (h1 : 0 < l.length → Hom ds l (wtU ds (l.getD 0 default).mono ds.length) → K (wtU ds (l.getD 0 default).mono ds.length) true) (h2 : (∀ n, ¬ Hom ds l n) → K 0 false) : Zff ds ⟨l⟩ K := by
  unfold Zff
  dsimp only
  refine Xg (fun i (s : Int) => (i = 0 ∧ s = -1) ∨ (0 < i ∧ s = wtU ds (l.getD 0 default).mono ds.length ∧ ∀ j, j < i → wtU ds (l.getD j default).mono ds.length = wtU ds (l.getD 0 default).mono ds.length)) l.length ?_ ?_ _ _ _ (by omega) (.inl ⟨rfl, rfl⟩)
  · intro i s next hi hI hn
    have f1 := hp _ (Jp hi)
    have b0 := hp.pos _ (Jp hi)
    have hw := Zce hd b0 ds.length (Nat.le_refl _)
    refine Zhp f1 (Zmf hd b0 ?_)
    rcases hI with ⟨e1, e2⟩ | ⟨e1, e2, e3⟩
    · subst e1 e2
      rw [if_neg (by omega)]
      exact hn _ (.inr ⟨by omega, rfl, fun j hj => by obtain rfl : j = 0 := by omega
                                                      rfl⟩)
    · have hw0 := Zce hd (hp.pos _ (Jp (show 0 < l.length by omega))) ds.length (Nat.le_refl _)
      rw [if_pos (by omega)]
      split
      · rename_i q
        refine h2 fun n hn' => q ?_
        rw [hn' i hi, e2, hn' 0 (by omega)]
      · rename_i q
        have q : wtU ds (l.getD i default).mono ds.length = s := Decidable.not_not.1 q
        refine hn _ (.inr ⟨by omega, by rw [q, e2], fun j hj => ?_⟩)
        by_cases e : j = i
        · subst e; rw [q, e2]
        · exact e3 j (by omega)
  · intro s hI
    rcases hI with ⟨e1, e2⟩ | ⟨e1, e2, e3⟩
    · rw [e2]; exact h0 e1
    · rw [e2]; exact h1 e1 e3
theorem Zsm {ds : List Int} {l : List Term} {n : Int} {K : Bool → Prop} (hd : OkDeg ds) (hp : FitT l) (h : K (decide (Hom ds l n))) : Zfg ds ⟨l⟩ n K := by
  unfold Zfg
  refine Zsl hd hp (fun e => ?_) (fun e hh => ?_) (fun hno => ?_)
  · rw [if_pos rfl, if_pos rfl]
    have : Hom ds l n := fun i hi => by omega
    rwa [decide_eq_true this] at h
  · have hw0 := Zce hd (hp.pos _ (Jp e)) ds.length (Nat.le_refl _)
    rw [if_pos rfl, if_neg (by omega)]
    have : Hom ds l n ↔ wtU ds (l.getD 0 default).mono ds.length = n := ⟨fun q => q 0 e, fun q => q ▸ hh⟩
    rwa [decide_eq_decide.2 this] at h
  · rw [if_neg (by simp)]
    rwa [decide_eq_false (hno n)] at h
theorem Zsn {ds : List Int} {l : List Term} {K : Int → Bool → Prop} (hd : OkDeg ds) (hp : Zd0 l) (hl : l.length ≤ 100000000) (h0 : l.length = 0 → K (-1) true) (h1 : 0 < l.length → Hom ds l (wtU ds (l.getD 0 default).mono ds.length) → K (wtU ds (l.getD 0 default).mono ds.length) true) (h2 : (∀ n, ¬ Hom ds l n) → K 0 false) : Ze9 ds ⟨l⟩ K := by
  unfold Ze9
  dsimp only
  split
  · exact h0 (by omega)
  · rename_i q0
    have hpos : 0 < l.length := by omega
    refine ⟨by omega, Zjv hd (hp _ (Jp hpos)) ?_⟩
    refine X1 (fun (s : Int) => 1 ≤ s ∧ s ≤ l.length ∧ ∀ j : Nat, (j : Int) < s → wtU ds (l.getD j default).mono ds.length = wtU ds (l.getD 0 default).mono ds.length) (fun s => l.length - s.toNat) ?_ ⟨Int.le_refl _, by omega, fun j hj => by
      have hj' : (j : Int) < 1 := hj
      obtain rfl : j = 0 := by omega
      rfl⟩
    rintro i next ⟨g1, g2, g3⟩ hn
    split
    · rename_i hi
      have a : i.toNat < l.length := by omega
      refine ⟨by omega, Zjv hd (hp _ (Jp a)) ?_⟩
      split
      · rename_i q
        refine h2 fun n hn' => q ?_
        rw [hn' _ a, hn' 0 hpos]
      · rename_i q
        have q := Decidable.not_not.1 q
        rw [i64_in _ (by omega)]
        refine hn _ ⟨by omega, by omega, fun j hj => ?_⟩ (by omega)
        by_cases e : j = i.toNat
        · subst e; exact q
        · exact g3 j (by omega)
    · exact h1 hpos fun j hj => g3 j (by omega)
structure OkAlg (a : Alg) : Prop where
  deg : OkDeg a.degrees
  len : a.images.length = a.degrees.length
  frm : ∀ i, i < a.images.length → OkForm a.degrees (a.images.getD i default).terms
  hom : ∀ i, i < a.images.length → Hom a.degrees (a.images.getD i default).terms (a.degrees.getD i default + 1)
  clo : ∀ i, i < a.images.length → ∀ out, IsD a.degrees (imgsT a) (a.images.getD i default).terms out → out = []
def Zbp (a : Alg) : Prop := ∀ i, i < a.images.length → FitT (a.images.getD i default).terms ∧ (a.images.getD i default).terms.length ≤ 1048576
theorem OkAlg.algF {a : Alg} (h : OkAlg a) (hf : Zbp a) : AlgF a := ⟨h.deg, h.len, h.frm, fun i hi => (hf i hi).1⟩
theorem Zso {a : Alg} {K : Bool → Prop} (hf : Zbp a) (h1 : OkAlg a → K true) (h2 : ¬ OkAlg a → K false) : Zfa a K := by
  unfold Zfa
  refine Zq9 ?_
  split
  · rename_i q; exact h2 fun z => q (decide_eq_true z.deg)
  · rename_i q1
    have q1 := of_decide_eq_true (Decidable.not_not.1 q1)
    have h8 := q1.1
    split
    · rename_i q; exact h2 fun z => q (by rw [z.len])
    · rename_i q2
      have q2 : a.images.length = a.degrees.length := by have := Decidable.not_not.1 q2; omega
      refine X1 (fun (s : Int) => 0 ≤ s ∧ s ≤ a.images.length ∧ ∀ i : Nat, (i : Int) < s → OkForm a.degrees (a.images.getD i default).terms ∧ Hom a.degrees (a.images.getD i default).terms (a.degrees.getD i default + 1)) (fun s => a.images.length - s.toNat) ?_ ⟨Int.le_refl _, by omega, fun i hi => by omega⟩
      rintro i next ⟨g1, g2, g3⟩ hn
      split
      · rename_i hi
        have hin : i.toNat < a.images.length := by omega
        obtain ⟨hft, hfl⟩ := hf i.toNat hin
        have hL : (⟨(a.images.getD i.toNat default).terms⟩ : Vc.Form) = a.images.getD i.toNat default := rfl
        have hdi := q1.2 i.toNat (by omega)
        have wi : IntKind.i64.wrap (i + 1) = i + 1 := i64_in _ (by omega)
        rw [wi, ← hL]
        refine ⟨by omega, Zry h8 hft.pos (by omega) ?_⟩
        split
        · rename_i q; exact h2 fun z => q (decide_eq_true (z.frm _ hin))
        · rename_i q3
          have q3 := of_decide_eq_true (Decidable.not_not.1 q3)
          have good : Hom a.degrees (a.images.getD i.toNat default).terms (a.degrees.getD i.toNat default + 1) → next (i + 1) := fun hh => hn _ ⟨by omega, by omega, fun j hj => by
            by_cases e : j = i.toNat
            · subst e; exact ⟨q3, hh⟩
            · exact g3 j (by omega)⟩ (by omega)
          have hwd : IntKind.i64.wrap (a.degrees.getD i.toNat default + 1) = a.degrees.getD i.toNat default + 1 := i64_in _ (by omega)
          rw [hwd]
          refine ⟨by omega, Zsn q1 hft.pos (by omega) (fun e => ?_) (fun e hh => ?_) (fun hno => ?_)⟩
          · rw [if_neg (by simp)]
            dsimp only
            refine ⟨by omega, ?_⟩
            rw [if_neg (by omega)]
            exact good fun j hj => by omega
          · rw [if_neg (by simp)]
            dsimp only
            refine ⟨by omega, ?_⟩
            rw [if_pos (by omega)]
            refine ⟨by omega, ?_⟩
            split
            · rename_i q
              exact h2 fun z => q (z.hom _ hin 0 e)
            · rename_i q
              have q := Decidable.not_not.1 q
              exact good (q ▸ hh)
          · rw [if_pos (by simp)]
            exact h2 fun z => hno _ (z.hom _ hin)
      · rename_i hi
        have hF : AlgF a := ⟨q1, q2, fun i hi => (g3 i (by omega)).1, fun i hi => (hf i hi).1⟩
        refine X1 (fun (s : Int) => 0 ≤ s ∧ s ≤ a.images.length ∧ ∀ i : Nat, (i : Int) < s → ∀ out, IsD a.degrees (imgsT a) (a.images.getD i default).terms out → out = []) (fun s => a.images.length - s.toNat) ?_ ⟨Int.le_refl _, by omega, fun i hi => by omega⟩
        rintro k next' ⟨k1, k2, k3⟩ hn'
        split
        · rename_i hk
          have hkn : k.toNat < a.images.length := by omega
          have hL : (⟨(a.images.getD k.toNat default).terms⟩ : Vc.Form) = a.images.getD k.toNat default := rfl
          rw [← hL]
          refine ⟨by omega, Zmi hF (hF.frm _ hkn) (hF.fit _ hkn) fun out ho _ => ?_⟩
          dsimp only
          split
          · rename_i q
            refine h2 fun z => ?_
            have := z.clo _ hkn out ho
            rw [this] at q; simp at q
          · rename_i q
            rw [i64_in _ (by omega)]
            have e : out = [] := List.length_eq_zero_iff.1 (by omega)
            refine hn' _ ⟨by omega, by omega, fun j hj => ?_⟩ (by omega)
            by_cases ej : j = k.toNat
            · subst ej; intro o2 ho2; rw [Zsk ho2 ho, e]
            · exact k3 j (by omega)
        · rename_i hk
          exact h1 ⟨q1, q2, hF.frm, fun i hi => (g3 i (by omega)).2, fun i hi => k3 i (by omega)⟩
theorem Zmk {l : List Vc.Form} {p : Vc.Form → (Bool → Prop) → Prop} {K : Bool → Prop} {Q : Vc.Form → Prop} (hp : ∀ i, i < l.length → ∀ K' : Bool → Prop, (Q (l.getD i default) → K' true) → (¬ Q (l.getD i default) → K' false) → p (l.getD i default) K')
    (h1 : (∃ i, i < l.length ∧ Q (l.getD i default)) → K true) (h2 : (∀ i, i < l.length → ¬ Q (l.getD i default)) → K false) : Zdu l p K := by
  unfold Zdu Zhr
  refine Xg (fun i (_ : Unit) => ∀ j, j < i → ¬ Q (l.getD j default)) l.length ?_ ?_ _ _ _ (by omega) (by intro j hj; omega)
  · intro i s next hi hI hn
    refine hp i hi _ (fun q => ?_) (fun q => ?_)
    · rw [if_pos rfl]
      show K (decide ((i : Int) ≥ 0))
      rw [decide_eq_true (show (i : Int) ≥ 0 by omega)]
      exact h1 ⟨i, hi, q⟩
    · rw [if_neg (by simp)]
      refine hn _ fun j hj => ?_
      by_cases e : j = i
      · subst e; exact q
      · exact hI j (by omega)
  · intro s hI
    show K (decide ((-1 : Int) ≥ 0))
    rw [decide_eq_false (show ¬ (-1 : Int) ≥ 0 by omega)]
    exact h2 hI
theorem Zsp {a : Alg} {K : Bool → Prop} (hf : Zbp a) (h1 : OkAlg a → K true) (h2 : ¬ OkAlg a → K false) : Zfs a K := by
  unfold Zfs
  refine Zrc ?_
  split
  · rename_i q; exact h2 fun z => q (decide_eq_true z.deg)
  · rename_i q1
    have q1 := of_decide_eq_true (Decidable.not_not.1 q1)
    have h8 := q1.1
    split
    · rename_i q; exact h2 fun z => q (by rw [z.len])
    · rename_i q2
      have q2 : a.images.length = a.degrees.length := by have := Decidable.not_not.1 q2; omega
      refine Xg (fun i (_ : Unit) => ∀ j : Nat, j < i → OkForm a.degrees (a.images.getD j default).terms ∧ Hom a.degrees (a.images.getD j default).terms (a.degrees.getD j default + 1)) a.images.length ?_ ?_ _ _ _ (by omega) (by intro j hj; omega)
      · intro i s next hi hI hn
        obtain ⟨hft, hfl⟩ := hf i hi
        have hL : (⟨(a.images.getD i default).terms⟩ : Vc.Form) = a.images.getD i default := rfl
        have hdi := q1.2 i (by omega)
        rw [← hL]
        refine Zr2 q1 hft ?_
        split
        · rename_i q; exact h2 fun z => q (decide_eq_true (z.frm _ hi))
        · rename_i q3
          have q3 := of_decide_eq_true (Decidable.not_not.1 q3)
          rw [i64_in _ (by omega)]
          refine ⟨by omega, Zsm q1 hft ?_⟩
          split
          · rename_i q; exact h2 fun z => q (decide_eq_true (z.hom _ hi))
          · rename_i q4
            have q4 := of_decide_eq_true (Decidable.not_not.1 q4)
            refine hn _ fun j hj => ?_
            by_cases e : j = i
            · subst e; exact ⟨q3, q4⟩
            · exact hI j (by omega)
      · intro s hI
        have hF : AlgF a := ⟨q1, q2, fun i hi => (hI i hi).1, fun i hi => (hf i hi).1⟩
        refine Zmk (Q := fun f => ¬ ∀ out, IsD a.degrees (imgsT a) f.terms out → out = []) (fun i hi K' c1 c2 => ?_) (fun hex => ?_) (fun hall => ?_)
        · unfold Zfr
          have hL : (⟨(a.images.getD i default).terms⟩ : Vc.Form) = a.images.getD i default := rfl
          rw [← hL]
          refine Zjn (hF.frm i hi).canon (hF.fit i hi) fun m hm => m_d hF hm (hF.frm i hi) (hF.fit i hi) fun out ho => ?_
          have hiff := Zsj hm (hF.frm i hi).canon ho
          by_cases e : out = []
          · subst e
            rw [decide_eq_false (by simp)]
            exact c2 fun z => z (hiff.1 rfl)
          · have hlen : 0 < out.length := List.length_pos_iff.2 e
            rw [decide_eq_true (by omega)]
            exact c1 fun z => e (hiff.2 z)
        · obtain ⟨i, hi, hq⟩ := hex
          exact h2 fun z => hq (z.clo i hi)
        · exact h1 ⟨q1, q2, hF.frm, fun i hi => (hI i hi).2, fun i hi => Classical.byContradiction (hall i hi)⟩
theorem Zsq {a : Alg} {K : Int → Prop} (hf : Zbp a) (h1 : OkAlg a → K 0) (h2 : ¬ OkAlg a → K 1) : Zft a [] K := by
  unfold Zft
  refine Zsp hf (fun z => ?_) (fun z => ?_)
  · rw [if_neg (by simp)]
    refine Zmk (Q := fun _ => True) (fun i hi => by simp at hi) (fun hex => by obtain ⟨i, hi, _⟩ := hex; simp at hi) (fun _ => ?_)
    exact Zh1 (h1 z)
  · rw [if_pos (by simp)]
    exact Zh1 (h2 z)
end Go.Proofs.Ytaagfepgbofmlaa
set_option linter.unusedVariables false
set_option linter.unusedSimpArgs false
namespace Vc
open Go Go.RowKit
section
variable {P : Program} {ops : Array Oper} {Q : Exit → Act → World → Prop} {n : Nat} {e : Env} {w w' : World} {rest : List Oper}
variable {X : Nat → Prop} {w0 : World} {M Ps : List Item}
variable {d ty : Nat} {pos : String} {af : Array Edge}
theorem Zsr {t t' : Nat} {x y : Operand} {k : IntKind} {a b : Int} {gd : Option (Nat × Bool)} (hx : ev n e x = .int k a) (hy : ev n e y = .int k b) :
    (execOp (ev n e) ⟨some d, .call { callee := .builtin .min, args := #[x, y], argTypes := #[t, t'] }, ty, pos, af, gd⟩).run P w = .ok (.value (.int k (if b < a then b else a))) w := by
  simp [execOp, resolve, invoke, builtin, hx, hy, Builtin.min_, Builtin.min2, Sem.run_bind]
theorem Zf2 {t t' : Nat} {x y : Operand} {k : IntKind} {a b : Int} (hx : ev n e x = .int k a) (hy : ev n e y = .int k b)
    (h : W P ops Q rest n (upd e d (.int k (if b < a then b else a))) w) : W P ops Q (⟨some d, .call { callee := .builtin .min, args := #[x, y], argTypes := #[t, t'] }, ty, pos, af, none⟩ :: rest) n e w :=
  Y9 _ rfl rfl (Zsr hx hy) h
end
section
variable {X : Nat → Prop} {w0 w w' : World} {M Ps : List Item}
theorem Ctx.turnO {el sz n m : Nat} {v z : Value} {cs ds : List Value} (hC : Ctx X w0 w M Ps) (k : Nat) (hk : M[k]? = some (own el sz v n cs)) (hB : BelO v.ownBlock.toList w w') (ho : (own el sz z m ds).holds w') (hf : ∀ b, b ∈ z.ownBlock.toList → b ∈ v.ownBlock.toList ∨ w.heap.size ≤ b) :
    Ctx X w0 w' (M.set k (own el sz z m ds)) Ps :=
  hC.turn k hk hB.os hB.tape hB.output hB.size hB.drawn (fun b hb hn => hB.old b hb hn) ho hf
theorem Ctx.turnS {b t el sz n m : Nat} {v z : Value} {qs bs cs ds : List Value} (hC : Ctx X w0 w (blk b t qs :: own el sz v n cs :: M) Ps) (hB : BelO (b :: v.ownBlock.toList) w w') (g1 : (blk b t bs).holds w') (g2 : (own el sz z m ds).holds w') (hf : ∀ x, x ∈ z.ownBlock.toList → x ∈ v.ownBlock.toList ∨ w.heap.size ≤ x) :
    Ctx X w0 w' (blk b t bs :: own el sz z m ds :: M) Ps := by
  have hb0 := hC.m (blk b t qs) (by simp)
  have ho0 := hC.m (own el sz v n cs) (by simp)
  have hd := hC.dis
  obtain ⟨d1, d2⟩ := List.pairwise_cons.1 hd
  obtain ⟨d3, d4⟩ := List.pairwise_cons.1 d2
  have hX1 := hC.mfp (blk b t qs) (by simp)
  have hX2 := hC.mfp (own el sz v n cs) (by simp)
  have hbs : b < w.heap.size := Item.low _ w hb0 b (List.mem_singleton_self _)
  have hnot : ∀ j, j ∈ M → ∀ x, x ∈ j.fp → x ∉ b :: v.ownBlock.toList := fun j hj x hx hx' => by
    rcases List.mem_cons.1 hx' with rfl | hx'
    · exact d1 j (by simp [hj]) x (List.mem_singleton_self _) hx
    · exact d3 j hj x hx' hx
  exact {
    os := hB.os.trans hC.os
    tape := hB.tape.trans hC.tape
    output := hB.output.trans hC.output
    size := Nat.le_trans hC.size hB.size
    drawn := Nat.le_trans hC.drawn hB.drawn
    old := fun c hc hx => by
      rw [hB.old c (Nat.lt_of_lt_of_le hc hC.size) (fun q => ?_)]
      · exact hC.old c hc hx
      · rcases List.mem_cons.1 q with rfl | q
        · rcases hX1 c (List.mem_singleton_self _) with r | r
          · omega
          · exact hx r
        · rcases hX2 c q with r | r
          · omega
          · exact hx r
    m := fun j hj => by
      rcases List.mem_cons.1 hj with rfl | hj
      · exact g1
      · rcases List.mem_cons.1 hj with rfl | hj
        · exact g2
        · exact Item.keep _ w w' (fun x hx => hB.old x (Item.low _ w (hC.m j (by simp [hj])) x hx) (hnot j hj x hx)) (hC.m j (by simp [hj]))
    p := fun j hj => Item.keep _ w w' (fun x hx => hB.old x (Item.low _ w (hC.p j hj) x hx) (fun q => by
      rcases List.mem_cons.1 q with rfl | q
      · exact hC.pd j hj x hx (blk x t qs) (by simp) (List.mem_singleton_self _)
      · exact hC.pd j hj x hx (own el sz v n cs) (by simp) q)) (hC.p j hj)
    mfp := fun j hj x hx => by
      rcases List.mem_cons.1 hj with rfl | hj
      · exact hX1 x hx
      · rcases List.mem_cons.1 hj with rfl | hj
        · rcases hf x hx with r | r
          · exact hX2 x r
          · exact .inl (Nat.le_trans hC.size r)
        · exact hC.mfp j (by simp [hj]) x hx
    dis := by
      refine List.pairwise_cons.2 ⟨fun j hj x hx hxj => ?_, List.pairwise_cons.2 ⟨fun j hj x hx hxj => ?_, d4⟩⟩
      · obtain rfl : x = b := List.mem_singleton.1 hx
        rcases List.mem_cons.1 hj with rfl | hj
        · rcases hf x hxj with r | r
          · exact d1 (own el sz v n cs) (by simp) x (List.mem_singleton_self _) r
          · omega
        · exact d1 j (by simp [hj]) x (List.mem_singleton_self _) hxj
      · rcases hf x hx with r | r
        · exact d3 j hj x r hxj
        · have := Item.low _ w (hC.m j (by simp [hj])) x hxj
          omega
    pd := fun j hj x hx q hq hxq => by
      rcases List.mem_cons.1 hq with rfl | hq
      · exact hC.pd j hj x hx (blk b t qs) (by simp) hxq
      · rcases List.mem_cons.1 hq with rfl | hq
        · rcases hf x hxq with r | r
          · exact hC.pd j hj x hx (own el sz v n cs) (by simp) r
          · have := Item.low _ w (hC.p j hj) x hx
            omega
        · exact hC.pd j hj x hx q (by simp [hq]) hxq }
end
section
variable {P : Program} {ops : Array Oper} {Q : Exit → Act → World → Prop} {n : Nat} {e : Env} {w w' : World} {rest : List Oper}
variable {d ty : Nat} {pos : String} {af : Array Edge}
end
def Jv (e f : Nat) : Tr Der := .iso (fun a => (a.drop, a.images)) (.pair (EI .i64).tr (Tr.sl f (Zz e)))
theorem Zss {e f : Nat} {x : Der} {p q : Value} {fp : List Nat} {w : World} (h : ((Jv e f).item x [p, q] fp).holds w) : p = .int .i64 x.drop ∧ ((Tr.sl f (Zz e)).item x.images [q] fp).holds w := by
  obtain ⟨⟨c1, c2, f1, f2, hcs, rfl, h1, h2⟩, hn⟩ := h
  obtain ⟨rfl, rfl⟩ := h1
  obtain ⟨rfl, rfl⟩ : p = .int .i64 x.drop ∧ c2 = [q] := by
    have hcs' : [p, q] = .int .i64 x.drop :: c2 := hcs
    simp only [List.cons.injEq] at hcs'
    exact ⟨hcs'.1, hcs'.2.symm⟩
  exact ⟨rfl, h2, hn⟩
theorem Zml {e f : Nat} {d : Int} {b : List Form} {u : Value} {f2 : List Nat} {w : World} (h2 : ((Tr.sl f (Zz e)).item b [u] f2).holds w) : ((Jv e f).item ⟨d, b⟩ [.int .i64 d, u] f2).holds w :=
  ⟨⟨[.int .i64 d], [u], [], f2, rfl, rfl, ⟨rfl, rfl⟩, h2.1⟩, h2.2⟩
end Vc
set_option linter.unusedVariables false
set_option linter.unusedSimpArgs false
namespace Vc
open Go Go.RowKit
section
variable {α β : Type}
def Xo (kv : α → Value) (vv : β → Value) : Ty (List (α × β)) where
  sz := 1
  rep l cs fp w := ∃ b, cs = [.map (some b)] ∧ b ∈ fp ∧ (∀ c, c ∈ fp → c < w.heap.size) ∧ (Ze kv vv b l).holds w
  keep h hw := by
    obtain ⟨b, rfl, hb, hl, hm⟩ := hw
    exact ⟨b, rfl, hb, Zed h hl, Item.keep _ _ _ (fun c hc => h c (by obtain rfl := List.mem_singleton.1 hc; exact hb)) hm⟩
  low hw := by
    obtain ⟨b, rfl, hb, hl, hm⟩ := hw
    exact hl
  len hw := by obtain ⟨b, rfl, _⟩ := hw; rfl
  one hw u hu := by
    obtain ⟨b, rfl, _⟩ := hw
    obtain rfl := List.mem_singleton.1 hu
    rfl
  more hw h1 h2 := by
    obtain ⟨b, rfl, hb, hl, hm⟩ := hw
    exact ⟨b, rfl, h1 b hb, h2, hm⟩
def Y5 (kv : α → Value) (vv : β → Value) : Tr (List (α × β)) where
  ty := Xo kv vv
  tree l cs fp w := ∃ b, cs = [.map (some b)] ∧ fp = [b] ∧ (Ze kv vv b l).holds w
  tkeep h hw := by
    obtain ⟨b, rfl, rfl, hm⟩ := hw
    exact ⟨b, rfl, rfl, Item.keep _ _ _ h hm⟩
  tlow hw := by
    obtain ⟨b, rfl, rfl, hm⟩ := hw
    exact fun c hc => Item.low _ _ hm c hc
  trep hw := by
    obtain ⟨b, rfl, rfl, hm⟩ := hw
    exact ⟨b, rfl, List.mem_singleton_self _, fun c hc => Item.low _ _ hm c hc, hm⟩
theorem Zjy {kv : α → Value} {vv : β → Value} {b : Nat} {l : List (α × β)} {w : World} (h : (Ze kv vv b l).holds w) : ((Y5 kv vv).item l [.map (some b)] [b]).holds w :=
  ⟨⟨b, rfl, rfl, h⟩, List.nodup_cons.2 ⟨by simp, List.nodup_nil⟩⟩
end
structure Derive where
  alg : Alg
  drop : Int
  images : List (List (A8 × Int))
  deriving Inhabited
def TSum : Ty (List (A8 × Int)) := Xo (kvA .i64) (vvI .i64)
def Xk (ta : Nat) : Ty Derive where
  sz := 3
  rep x cs fp w := ∃ b p q u, cs = [.pointer (some ⟨b, 0, none⟩), .int .i64 x.drop, u] ∧ (∀ c, c ∈ fp → c < w.heap.size) ∧ b ∈ fp ∧ (blk b ta [p, q]).holds w ∧ TAlg.rep x.alg [p, q] fp w ∧ TSum.sl.rep x.images [u] fp w
  keep h hw := by
    obtain ⟨b, p, q, u, rfl, hl, hb, h1, h2, h3⟩ := hw
    exact ⟨b, p, q, u, rfl, Zed h hl, hb, Item.keep _ _ _ (fun c hc => h c (by obtain rfl := List.mem_singleton.1 hc; exact hb)) h1, TAlg.keep h h2, TSum.sl.keep h h3⟩
  low hw := by
    obtain ⟨b, p, q, u, rfl, hl, _⟩ := hw
    exact hl
  len hw := by obtain ⟨b, p, q, u, rfl, _⟩ := hw; rfl
  one hw z hz := by
    obtain ⟨b, p, q, u, rfl, _, _, _, _, h3⟩ := hw
    simp only [List.mem_cons, List.not_mem_nil, or_false] at hz
    rcases hz with rfl | rfl | rfl
    · rfl
    · rfl
    · exact TSum.sl.one h3 _ (List.mem_singleton_self _)
  more hw h1 h2 := by
    obtain ⟨b, p, q, u, rfl, hl, hb, k1, k2, k3⟩ := hw
    exact ⟨b, p, q, u, rfl, h2, h1 b hb, k1, TAlg.more k2 h1 h2, TSum.sl.more k3 h1 h2⟩
theorem Zmm {ta : Nat} {x : Derive} {u0 u1 u2 : Value} {fp : List Nat} {w : World} (h : (Xk ta).rep x [u0, u1, u2] fp w) :
    ∃ b p q, u0 = .pointer (some ⟨b, 0, none⟩) ∧ u1 = .int .i64 x.drop ∧ b ∈ fp ∧ (blk b ta [p, q]).holds w ∧ TAlg.rep x.alg [p, q] fp w ∧ TSum.sl.rep x.images [u2] fp w := by
  obtain ⟨b, p, q, u, hc, hl, hb, k1, k2, k3⟩ := h
  simp only [List.cons.injEq, and_true] at hc
  obtain ⟨rfl, rfl, rfl⟩ := hc
  exact ⟨b, p, q, rfl, rfl, hb, k1, k2, k3⟩
theorem Zmn {ta b : Nat} {a : Alg} {d : Int} {l : List (List (A8 × Int))} {p q u : Value} {f1 f2 : List Nat} {w : World} (hb : (blk b ta [p, q]).holds w) (h1 : TAlg.rep a [p, q] f1 w) (h2 : TSum.sl.rep l [u] f2 w) :
    (Xk ta).rep ⟨a, d, l⟩ [.pointer (some ⟨b, 0, none⟩), .int .i64 d, u] ((b :: f1) ++ f2) w := by
  have hl : ∀ c, c ∈ (b :: f1) ++ f2 → c < w.heap.size := fun c hc => by
    rcases List.mem_append.1 hc with hc | hc
    · rcases List.mem_cons.1 hc with rfl | hc
      · exact Item.low _ w hb c (List.mem_singleton_self _)
      · exact TAlg.low h1 c hc
    · exact TSum.sl.low h2 c hc
  exact ⟨b, p, q, u, rfl, hl, by simp, hb, TAlg.more h1 (fun c hc => List.mem_append_left _ (List.mem_cons_of_mem _ hc)) hl, TSum.sl.more h2 (fun c hc => List.mem_append_right _ hc) hl⟩
theorem Zjz {α β : Type} {kv : α → Value} {vv : β → Value} {l : List (α × β)} {u : Value} {fp : List Nat} {w : World} (h : (Xo kv vv).rep l [u] fp w) : ∃ b, u = .map (some b) ∧ b ∈ fp ∧ (Ze kv vv b l).holds w := by
  obtain ⟨b, hc, hb, _, hm⟩ := h
  simp only [List.cons.injEq, and_true] at hc
  exact ⟨b, hc, hb, hm⟩
def Item.both (a c : Item) : Item where
  fp := a.fp ++ c.fp
  holds w := a.holds w ∧ c.holds w
  keep w w' h hw := ⟨Item.keep _ _ _ (fun b hb => h b (List.mem_append_left _ hb)) hw.1, Item.keep _ _ _ (fun b hb => h b (List.mem_append_right _ hb)) hw.2⟩
  low w hw b hb := (List.mem_append.1 hb).elim (Item.low _ w hw.1 b) (Item.low _ w hw.2 b)
theorem Ctx.pushD {X : Nat → Prop} {w0 w w' : World} {M Ps : List Item} (hC : Ctx X w0 w M Ps) (hB : Bel w w') (a c : Item) (ha : a.holds w') (hc : c.holds w') (hd : ∀ x, x ∈ a.fp → x ∉ c.fp) (hf : ∀ x, x ∈ a.fp ++ c.fp → w.heap.size ≤ x) : Ctx X w0 w' (a :: c :: M) Ps :=
  Ctx.split (c := Item.both a c) (hC.push hB (Item.both a c) ⟨ha, hc⟩ hf) (fun x hx => List.mem_append_left _ hx) (fun x hx => List.mem_append_right _ hx) ⟨ha, hc, hd⟩
section
variable {α β : Type} {kv : α → Value} {vv : β → Value}
def Zc5 (e : Nat) (kv : α → Value) (vv : β → Value) (v : Value) (bs : List Nat) (xs : List (List (α × β))) : Item where
  fp := v.ownBlock.toList ++ bs
  holds w := (own e 1 v xs.length (bs.map fun b => Value.map (some b))).holds w ∧ bs.length = xs.length ∧ (∀ i, i < xs.length → (Ze kv vv (bs.getD i 0) (xs.getD i [])).holds w) ∧ (v.ownBlock.toList ++ bs).Nodup
  keep w w' h hw := by
    refine ⟨Item.keep _ _ _ (fun b hb => h b (List.mem_append_left _ hb)) hw.1, hw.2.1, fun i hi => Item.keep _ w w' (fun b hb => h b (List.mem_append_right _ ?_)) (hw.2.2.1 i hi), hw.2.2.2⟩
    obtain rfl : b = bs.getD i 0 := List.mem_singleton.1 hb
    have : i < bs.length := by rw [hw.2.1]; exact hi
    simp [List.getD, this]
  low w hw b hb := by
    rcases List.mem_append.1 hb with hb | hb
    · exact Item.low _ w hw.1 b hb
    · obtain ⟨i, hi, rfl⟩ := List.getElem_of_mem hb
      have := Item.low _ w (hw.2.2.1 i (by rw [← hw.2.1]; exact hi)) (bs.getD i 0) (List.mem_singleton_self _)
      simpa [List.getD, hi] using this
theorem Zst {α : Type} {l : List α} {i : Nat} {x : α} (h : (l.drop (i * 1)).take 1 = [x]) : l[i]? = some x := by
  have := congrArg (fun z => z[0]?) h
  simpa using this
theorem Zsu {e : Nat} {xs : List (List (α × β))} {v : Value} {fp : List Nat} {w : World} (h : ((Tr.sl e (Y5 kv vv)).item xs [v] fp).holds w) : ∃ bs, (Zc5 e kv vv v bs xs).holds w ∧ fp = v.ownBlock.toList ++ bs := by
  obtain ⟨ecs, fps, a1, ⟨⟨h1, h2, h3⟩, hn⟩, rfl, a4⟩ := Ze0 h
  have hz : (Y5 kv vv).ty.sz = 1 := rfl
  rw [hz] at h1 h3 a1
  have key : ∀ i, i < xs.length → ∃ b, ecs[i]? = some (Value.map (some b)) ∧ fps[i]? = some [b] ∧ (Ze kv vv b (xs.getD i [])).holds w := fun i hi => by
    obtain ⟨b, hb, hf, hm⟩ := h3 i hi
    refine ⟨b, Zst hb, ?_, by simpa [List.getD, hi] using hm⟩
    have hi' : i < fps.length := by omega
    simpa [List.getD, hi'] using hf
  let bs := fps.map fun f => f.headD 0
  have hbs : ∀ i b, i < xs.length → fps[i]? = some [b] → bs[i]? = some b := fun i b hi hf => by simp [bs, hf]
  have hfl : fps.flatten = bs := by
    have : ∀ l : List (List Nat), (∀ f, f ∈ l → ∃ b, f = [b]) → l.flatten = l.map fun f => f.headD 0 := by
      intro l
      induction l with
      | nil => intro _; rfl
      | cons f l ih =>
        intro hl
        obtain ⟨b, rfl⟩ := hl f (by simp)
        simp [ih fun g hg => hl g (by simp [hg])]
    refine this fps fun f hf => ?_
    obtain ⟨i, hi, rfl⟩ := List.getElem_of_mem hf
    obtain ⟨b, _, hb, _⟩ := key i (by omega)
    rw [List.getElem?_eq_getElem hi] at hb
    exact ⟨b, Option.some.inj hb⟩
  have hln : bs.length = xs.length := by simp [bs, h2]
  have hec : ecs = bs.map fun b => Value.map (some b) := by
    apply List.ext_getElem?
    intro i
    rcases Nat.lt_or_ge i xs.length with hi | hi
    · obtain ⟨b, hb1, hb2, _⟩ := key i hi
      rw [hb1, List.getElem?_map, hbs i b hi hb2]; rfl
    · rw [List.getElem?_eq_none (by omega), List.getElem?_eq_none (by simp [hln]; omega)]
  refine ⟨bs, ⟨hec ▸ a1, hln, fun i hi => ?_, ?_⟩, by rw [hfl]⟩
  · obtain ⟨b, _, hb2, hm⟩ := key i hi
    have := hbs i b hi hb2
    rw [List.getD, this]; exact hm
  · rw [← hfl]
    exact List.nodup_append.2 ⟨Zi5 v, hn, fun a ha b hb e => a4 a ha (e ▸ hb)⟩
theorem Zsv {e : Nat} {xs : List (List (α × β))} {v : Value} {bs : List Nat} {w : World} (h : (Zc5 e kv vv v bs xs).holds w) : ((Tr.sl e (Y5 kv vv)).item xs [v] (v.ownBlock.toList ++ bs)).holds w := by
  obtain ⟨h1, h2, h3, h4⟩ := h
  have hfl : ∀ l : List Nat, (l.map fun b => [b]).flatten = l := by
    intro l
    induction l with
    | nil => rfl
    | cons b l ih => simp [ih]
  obtain ⟨n1, n2, n3⟩ := List.nodup_append.1 h4
  have ht : (Yo (Y5 kv vv) xs (bs.map fun b => Value.map (some b)) (bs.map fun b => [b])).holds w := by
    refine ⟨⟨by rw [List.length_map, h2]; exact (Nat.mul_one _).symm, by simp [h2], fun i hi => ?_⟩, by rw [hfl]; exact n2⟩
    have hi' : i < bs.length := by omega
    refine ⟨bs.getD i 0, ?_, by simp [List.getD, hi'], by have := h3 i hi; simpa [List.getD, hi] using this⟩
    show ((bs.map fun b => Value.map (some b)).drop (i * 1)).take 1 = _
    rw [Nat.mul_one, List.drop_eq_getElem_cons (by simpa using hi')]
    simp [List.getD, hi']
  have := Zap (e := e) (T := Y5 kv vv) (v := v) h1 ht (fun b hb hb' => n3 b hb b (by rwa [hfl] at hb') rfl)
  rwa [hfl] at this
theorem Zsw {e g c n i : Nat} {xs : List (List (α × β))} {v : Value} {bs : List Nat} {w : World} (h : (Zc5 e kv vv v bs xs).holds w) (hv : v = .slice (some ⟨g, 0, none⟩) n c) (hi : i < xs.length) : Jj w ⟨g, i * 1, none⟩ [.map (some (bs.getD i 0))] := by
  let E : Enc Nat := ⟨1, by decide, fun b => [.map (some b)], fun _ => rfl, fun _ u hu => by obtain rfl := List.mem_singleton.1 hu; rfl⟩
  have he : ∀ l : List Nat, E.encs l = l.map fun b => Value.map (some b) := by
    intro l
    induction l with
    | nil => rfl
    | cons b l ih => simpa [Enc.encs, E] using ih
  have h0 : (own e E.sz v bs.length (E.encs bs)).holds w := by rw [he, h.2.1]; exact h.1
  exact Zeh (E := E) h0 hv i (by rw [h.2.1]; exact hi)
theorem Zsx {e i : Nat} {xs : List (List (α × β))} {v : Value} {bs : List Nat} {w : World} (h : (Zc5 e kv vv v bs xs).holds w) (hi : i < xs.length) : (Ze kv vv (bs.getD i 0) (xs.getD i [])).holds w ∧ bs.getD i 0 ∈ (Zc5 e kv vv v bs xs).fp := by
  refine ⟨h.2.2.1 i hi, List.mem_append_right _ ?_⟩
  have : i < bs.length := by rw [h.2.1]; exact hi
  simp [List.getD, this]
end
end Vc
set_option linter.unusedVariables false
set_option linter.unusedSimpArgs false
namespace Vc
open Go Go.RowKit
section
variable {X : Nat → Prop} {w0 w w' : World} {M Ps : List Item}
end
section
variable {P : Program} {ops : Array Oper} {Q : Exit → Act → World → Prop} {n : Nat} {e : Env} {w w' : World} {rest : List Oper}
variable {X : Nat → Prop} {w0 : World} {M Ps : List Item}
variable {d ty : Nat} {pos : String} {af : Array Edge}
end
section
variable {P : Program} {ops : Array Oper} {Q : Exit → Act → World → Prop} {n : Nat} {e : Env} {w w' : World} {rest : List Oper}
variable {d ty : Nat} {pos : String} {af : Array Edge}
theorem Zsy {t t' : Nat} {ik : IntKind} {x y : Operand} {a b : A8} {gd : Option (Nat × Bool)} (K : KeyT P t (kvA ik)) (hm : P.eqGuardType P.depth t = false) (hx : ev n e x = .agg (List.toArray (a.enc ik))) (hy : ev n e y = .agg (List.toArray (b.enc ik))) :
    (execOp (ev n e) ⟨some d, .binOp .eql t x y t', ty, pos, af, gd⟩).run P w = .ok (.value (.bool (decide (a = b)))) w := by
  have hq := run_eqGuard_agg (P := P) w .eql t x y (List.toArray (a.enc ik)) (List.toArray (b.enc ik)) hm
  have hr : (Op.equalIn 10000 t (.agg (List.toArray (a.enc ik))) (.agg (List.toArray (b.enc ik)))).run P w = .ok (decide (a = b)) w := K.equal w a b
  simp only [execOp, hx, hy, Sem.run_bind, hq, Result.andThen_ok, run_eql_struct, hr, Sem.run_pure]
theorem Zsz {t t' : Nat} {ik : IntKind} {x y : Operand} {a b : A8} (K : KeyT P t (kvA ik)) (hm : P.eqGuardType P.depth t = false) (hx : ev n e x = .agg (List.toArray (a.enc ik))) (hy : ev n e y = .agg (List.toArray (b.enc ik)))
    (h : W P ops Q rest n (upd e d (.bool (decide (a = b)))) w) : W P ops Q (⟨some d, .binOp .eql t x y t', ty, pos, af, none⟩ :: rest) n e w :=
  Y9 _ rfl rfl (Zsy K hm hx hy) h
end
section
variable {P : Program} {ops : Array Oper} {Q : Exit → Act → World → Prop} {n : Nat} {e : Env} {w w' : World} {rest : List Oper}
variable {X : Nat → Prop} {w0 : World} {M Ps : List Item}
variable {d ty : Nat} {pos : String} {af : Array Edge} {gd : Option (Nat × Bool)}
end
end Vc
set_option linter.unusedVariables false
set_option linter.unusedSimpArgs false
namespace Vc
open Go Go.RowKit
section
variable {P : Program} {ops : Array Oper} {Q : Exit → Act → World → Prop} {n : Nat} {e : Env} {w w' : World} {rest : List Oper}
variable {X : Nat → Prop} {w0 : World} {M Ps : List Item}
variable {d ty : Nat} {pos : String} {af : Array Edge}
end
end Vc
set_option linter.unusedVariables false
set_option linter.unusedSimpArgs false
namespace Vc
open Go Go.RowKit
structure Elem where
  gen : Int
  mono : A8
  deriving DecidableEq, Inhabited
def Elem.enc (t : Elem) : List Value := .int .i64 t.gen :: A8.enc .i64 t.mono
def EElem : Enc Elem := ⟨9, by decide, Elem.enc, fun _ => rfl, fun x u hu => by
  rcases List.mem_cons.1 hu with rfl | hu
  · rfl
  · exact (EA .i64).one _ u hu⟩
section
variable {P : Program} {k : Nat} {ik : IntKind}
end
section
variable {P : Program} {ops : Array Oper} {Q : Exit → Act → World → Prop} {n : Nat} {e : Env} {w w' : World} {rest : List Oper}
variable {X : Nat → Prop} {w0 : World} {M Ps : List Item}
variable {d ty : Nat} {pos : String} {af : Array Edge}
theorem Zs0 {t t' : Nat} {x y : Operand} {k : IntKind} {a b : Int} {gd : Option (Nat × Bool)} (hx : ev n e x = .int k a) (hy : ev n e y = .int k b) :
    (execOp (ev n e) ⟨some d, .call { callee := .builtin .max, args := #[x, y], argTypes := #[t, t'] }, ty, pos, af, gd⟩).run P w = .ok (.value (.int k (if a < b then b else a))) w := by
  simp [execOp, resolve, invoke, builtin, hx, hy, Builtin.max_, Builtin.max2, Sem.run_bind]
theorem Zs1 {t t' : Nat} {x y : Operand} {k : IntKind} {a b : Int} (hx : ev n e x = .int k a) (hy : ev n e y = .int k b)
    (h : W P ops Q rest n (upd e d (.int k (if a < b then b else a))) w) : W P ops Q (⟨some d, .call { callee := .builtin .max, args := #[x, y], argTypes := #[t, t'] }, ty, pos, af, none⟩ :: rest) n e w :=
  Y9 _ rfl rfl (Zs0 hx hy) h
theorem Zs2 {f : FuncId} {l : List Operand} {fn : Func} {c : Code} {at_ : Array Nat} (vs : List Value) (hf : P.funcs[f]? = some fn) (hb : fn.body = some c) (hne : (fn.name == "runtime.NumGoroutine") = false) (m : Nat) (hm : fn.ntmps = m) (hl : vs.length ≤ m)
    (hp : l.map (ev n e) = vs) (h : c.wp P (bodyPost P fn (fun ret w'' => ∃ v, ret = .returned v ∧ W P ops Q rest n (upd e d v) w'')) (actOf m (Zgm vs)) w) :
    W P ops Q (⟨some d, .call { callee := .value (.func f), args := l.toArray, argTypes := at_ }, ty, pos, af, none⟩ :: rest) n e w :=
  Zf vs _ hf (by rw [hb]; rfl) hne hp (Z6 hf hb m hm hl h) (fun ret w'' h => h)
end
section
variable {P : Program} {ops : Array Oper} {Q : Exit → Act → World → Prop} {n : Nat} {e : Env} {w w' : World} {rest : List Oper}
variable {X : Nat → Prop} {w0 : World} {M Ps : List Item}
variable {d ty : Nat} {pos : String} {af : Array Edge}
end
end Vc
