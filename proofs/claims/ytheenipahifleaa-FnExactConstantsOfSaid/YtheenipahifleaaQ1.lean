import Derived.Test.YtheenipahifleaaQ0
set_option linter.unusedSectionVars false
set_option linter.unusedSimpArgs false
set_option linter.unusedVariables false
open Go renaming wp_seq→ZAc,wp_skip→ZAg,wp_ret→ZAk,wp_block→ZAl,wp_exit→ZAt
open Go.Instr renaming build→ZA4
open Go.IntKind renaming i64→Zu2,u8→ZAm
open Go.Proofs.Try renaming prog→ZAf,underlying44→ZAh,underlying42→ZAj,underlying47→ZAp,underlying49→ZAr,underlying32→ZAs,underlying22→ZAu,underlying30→ZAy,func54→ZAz,func51→ZA0,func52→ZA2,f15→ZA3,underlying5→ZA8,func49→ZBa,func53→ZBb,func50→ZBf,underlying2→ZBg,underlying55→ZBh,underlying3→ZBi
open Go.Value renaming ownBlock→Zth
open Inhabited renaming default→Zsn
open Int renaming tmod→Ztb,natCast_nonneg→ZAx,ofNat_lt→ZBk
open List renaming toArray→ZAa,mem_cons→Zsj,not_mem_nil→Zur,length_eq_one_iff→ZA6
open Nat renaming le_of_ble_eq_true→ZAe,le_trans→Zso
open Option renaming toList→ZA7
open Vc renaming ETerm→ZAb,Form→ZAd,TForm→ZAq
open Vc.A8 renaming enc→Zz8,zero→ZAi,enc_get→ZAw,enc_set→ZA5
open Vc.Ctx renaming start→ZAv
open Vc.Enc renaming encs_append→ZA1,encs_one'→ZBc
open Vc.Term renaming enc→ZAn
open Vc.Tr renaming item→ZAo
open Vc.Ty renaming item→Zz9
set_option maxRecDepth 4000
set_option maxHeartbeats 4000000
namespace Go.Proofs.Ytheenipahifleaa
open Go Go.RowKit Vc
theorem sc2:ScaT ZAf 2:=⟨⟨_,ZBg,rfl⟩,by kernel_rfl⟩
theorem sc5:ScaT ZAf 5:=⟨⟨_,ZA8,rfl⟩,by kernel_rfl⟩
theorem z44:Xx ZAf 44 (.agg #[.slice none 0 0]):=by unfold Xx; kernel_rfl
theorem Zb8  (w:World):(ZA4 44 #[]).run ZAf w=.ok (.agg #[.slice none 0 0]) w:=by kernel_rfl
theorem ag44:AggT ZAf 44 1:=⟨⟨_,ZAh,rfl⟩,by kernel_rfl⟩
theorem mixed:ZAf.follows .mixedOrders=true:=by kernel_rfl
theorem ag47:AggT ZAf 47 8:=⟨⟨_,ZAp,rfl⟩,by kernel_rfl⟩
theorem Zfk (x0:A8) (x1:Int) (w:World):(ZA4 49 #[(0,.agg (ZAa (Zz8 .u8 x0))),(1,.int .i64 x1)]).run ZAf w=.ok (.agg (ZAa (ZAn (⟨x0,x1⟩:Term)))) w:=by kernel_rfl
theorem Zb9 (x0:Term) (w:World):(Instr.buildSlice 42 1 #[(0,.agg (ZAa (ZAn x0)))]).run ZAf w=.ok (.slice (some ⟨w.heap.size,0,none⟩) 1 1) (w.alloc (.cells (ZAa (ZAb.encs [x0])) 49)):=by kernel_rfl
theorem Znl (x0:Value) (hx0:Zg3 x0) (w:World):(ZA4 44 #[(0,x0)]).run ZAf w=.ok (.agg #[x0]) w:=by obtain ⟨_,_,_,rfl⟩:=hx0; kernel_rfl
theorem sc42:ScaT ZAf 42:=⟨⟨_,ZAj,rfl⟩,by kernel_rfl⟩
theorem ag49:AggT ZAf 49 9:=⟨⟨_,ZAr,rfl⟩,by kernel_rfl⟩
theorem Zca:J8 ZAf 49 (.agg (ZAa (ZAn (⟨ZAi,0⟩:Term)))) 9 16:=by unfold J8; kernel_rfl
theorem z47:Xx ZAf 47 (.agg (ZAa (Zz8 .u8 ZAi))):=by unfold Xx; kernel_rfl
theorem Zg8  (w:World):(ZA4 47 #[]).run ZAf w=.ok (.agg (ZAa (Zz8 .u8 ZAi))) w:=by kernel_rfl
theorem z49:Xx ZAf 49 (.agg (ZAa (ZAn (⟨ZAi,0⟩:Term)))):=by unfold Xx; kernel_rfl
theorem sc22:ScaT ZAf 22:=⟨⟨_,ZAu,rfl⟩,by kernel_rfl⟩
theorem sc30:ScaT ZAf 30:=⟨⟨_,ZAy,rfl⟩,by kernel_rfl⟩
theorem ag32:AggT ZAf 32 2:=⟨⟨_,ZAs,rfl⟩,by kernel_rfl⟩
theorem z55:Xx ZAf 55 (.agg (ZAa (Zz8 .i64 ZAi))):=by unfold Xx; kernel_rfl
theorem Zg9  (w:World):(ZA4 55 #[]).run ZAf w=.ok (.agg (ZAa (Zz8 .i64 ZAi))) w:=by kernel_rfl
theorem ag55:AggT ZAf 55 8:=⟨⟨_,ZBh,rfl⟩,by kernel_rfl⟩
theorem sc3:ScaT ZAf 3:=⟨⟨_,ZBi,rfl⟩,by kernel_rfl⟩
theorem X4:KeyT ZAf 55 (kvA .i64):=Zix ZBh ZBi sc3
theorem z2:Xx ZAf 2 (.int .i64 0):=by unfold Xx; kernel_rfl
theorem Zha:Xx ZAf 119 (.agg (ZAa (List.replicate 8 (Value.map none)))):=by unfold Xx; kernel_rfl
theorem Znm (w:World):(ZA4 119 #[]).run ZAf w=.ok (.agg (ZAa (List.replicate 8 (Value.map none)))) w:=by kernel_rfl
theorem ag119:AggT ZAf 119 8:=⟨⟨_,Try.underlying119,rfl⟩,by kernel_rfl⟩
theorem sc95:ScaT ZAf 95:=⟨⟨_,Try.underlying95,rfl⟩,by kernel_rfl⟩
theorem el2:J8 ZAf 2 (.int .i64 0) 1 8:=by unfold J8; kernel_rfl
theorem ag46:AggT ZAf 46 8:=⟨⟨_,Try.underlying46,rfl⟩,by kernel_rfl⟩
theorem ag117:AggT ZAf 117 9:=⟨⟨_,Try.underlying117,rfl⟩,by kernel_rfl⟩
theorem sc64:ScaT ZAf 64:=⟨⟨_,Try.underlying64,rfl⟩,by kernel_rfl⟩
def Zcb (a0:Int) (a1:Int) (a2:Int) (K:Bool→Prop):Prop :=
 (if a0≥a1 then K (decide (a0≤a2)) else K false)
theorem Zjd (a0:Int) (a1:Int) (a2:Int)  {K:Bool→Prop} (h:Zcb a0 a1 a2 K) (w0:World)  :
  Calls ZAf 47 #[.int .i64 a0,.int .i64 a1,.int .i64 a2] w0 fun e w'=>∃ (r0:Bool),
   e=.returned (.bool r0)∧K r0∧Bel w0 w':=by
 unfold Zcb at h
 refine Zz (args:=[.int .i64 a0,.int .i64 a1,.int .i64 a2]) Try.func47 rfl 15 Try.ntmps47 (ZAe rfl) ?_
 have hC:=ZAv (X:=Nox) w0 [] (by simp)
 refine sr (Zc (v:=.bool false) rfl (dn (sr (Za (v:=.int .i64 a0) rfl (Za (v:=.int .i64 a1) rfl (Zao rfl rfl (Za (v:=.bool (decide (a0≥a1))) rfl ?_)))))))
 refine Yy (decide (a0≥a1)) (fun hb1=>?_) (fun hb1=>?_)
 ·replace h:=ift h (ct hb1)
  refine Zj 3 10 rfl rfl hb1 (Za (v:=.int .i64 a0) rfl (Zj 3 10 rfl rfl hb1 (Za (v:=.int .i64 a2) rfl (Zj 3 10 rfl rfl hb1 (Zbc rfl rfl (Z3 (v:=.bool (decide (a0≤a2))) (b:=true) (tr rfl (congrArg _ hb1)) rfl (Zc (v:=.bool (decide (a0≤a2))) rfl (dn (ZAk ?_)))))))))
  refine Zg (fn:=Try.f47) rfl ?_ ⟨decide (a0≤a2),rfl,h,hC.below⟩ (.inl rfl)
  exact Zf rfl
 ·replace h:=Zh h (cf hb1)
  refine Zi (b:=false) 3 10 rfl (tr rfl (congrArg _ hb1)) (by decide) (Zi (b:=false) 3 10 rfl (tr rfl (congrArg _ hb1)) (by decide) (Zi (b:=false) 3 10 rfl (tr rfl (congrArg _ hb1)) (by decide) (Z3 (v:=.bool false) (b:=false) (tr rfl (congrArg _ hb1)) rfl (Zc (v:=.bool false) rfl (dn (ZAk ?_))))))
  refine Zg (fn:=Try.f47) rfl ?_ ⟨false,rfl,h,hC.below⟩ (.inl rfl)
  exact Zf rfl
def Zdb (a0:List Int) (K:Bool→Prop):Prop :=
 Yh (fun i10 (s10:Unit) nx10=>Zcb (a0.getD i10 Zsn) 1 12 (fun r10=>(if¬ (r10=true) then K false else nx10 ()))) (fun (s10:Unit)=>K (decide ((a0.length:Int)≤8))) a0.length 0 ()
theorem Znn (a0:List Int) {u0_0:Value} {fp0:List Nat} {K:Bool→Prop} (h:Zdb a0 K) (w0:World) (q0:((EI .i64).ty.sl).rep a0 [u0_0] fp0 w0) :
  Calls ZAf 30 #[u0_0] w0 fun e w'=>∃ (r0:Bool),
   e=.returned (.bool r0)∧K r0∧Bel w0 w':=by
 unfold Zdb at h
 refine Zz (args:=[u0_0]) Try.func30 rfl 19 Try.ntmps30 (ZAe rfl) ?_
 have hC:=ZAv (X:=Nox) w0 [Zz9 ((EI .i64).ty.sl) a0 [u0_0] fp0] (by simp only [Zsj,Zur,or_false,forall_eq_or_imp,forall_eq]; exact q0)
 refine sr (Zc (v:=.bool false) rfl (dn (ZAc (sr (Zc (v:=.int .i64 0) rfl (dn (ZAl ?_)))))))
 have hN10:a0.length≤9223372036854775807:=Y9 (hC.getP 0 rfl)
 refine Yp (S:=Unit) _ _ (fun i10 s10 e_ w_=>Z1 e_ [(0,u0_0),(3,.int .i64 (i10:Int))]∧Ctx Nox w0 w_ [] [Zz9 ((EI .i64).ty.sl) a0 [u0_0] fp0]) a0.length ?_ ?_ (s0:=()) ?_ h
 ·clear hC h
  rintro i10 s10 e_ w10 nx10 K10 hi10 ⟨hS_,hC⟩ h hK10
  rw [ue hS_]
  refine ZAc (sr (Za (v:=.int .i64 (i10:Int)) rfl (Za (v:=u0_0) rfl ?_)))
  obtain ⟨Ad10,c10,hv11⟩:=Zw (hC.getP 0 rfl)
  refine Zv ZAu (tr rfl hv11) (Zq rfl rfl (dn (Yf rfl (decide_eq_true (by omega)) (ZAg (Zd (ZAc (ZAl (sr (Za (v:=u0_0) rfl (Za (v:=.int .i64 (i10:Int)) rfl ?_))))))))))
  obtain ⟨Ad11,c11,hv10⟩:=Z6 (hC.getP 0 rfl) i10 hi10
  refine Yv (len:=a0.length) ZAu sc2.size (tr rfl hv10) rfl (ZAx _) (ZBk.2 hi10) (Xy (.int .i64 (a0.getD i10 Zsn)) (Yj (hC.getP 0 rfl) hv10 i10 hi10) sc2 rfl ?_)
  refine Zk [.int .i64 (a0.getD i10 Zsn),.int .i64 1,.int .i64 12] _ Try.func47 rfl rfl rfl (Zjd (a0.getD i10 Zsn) 1 12 h _) (fun ret10 w11 hR10=>?_)
  obtain ⟨r10,rfl,h,hB10⟩:=hR10
  refine⟨_,rfl,?_⟩
  replace hC:=hC.grow hB10
  refine Xc rfl (dn ?_)
  refine Zr rfl (fun hb10=>?_) (fun hb10=>?_)
  ·replace h:=ift h (Yw (Xg hb10))
   refine sr (Zc (v:=.bool false) rfl (dn ?_))
   refine ZAk (Z2 (Ze (Ze (Z2 (Ze ?_)))))
   refine Zg (fn:=Try.f30) rfl ?_ ⟨false,rfl,h,hC.below⟩ (.inl rfl)
   exact Zf rfl
  ·replace h:=Zh h (not_not_intro ((Xh hb10)))
   refine ZAg (Zt (Zd (Zn (Za (v:=.int .i64 (i10:Int)) rfl (Zp rfl rfl (Zc (v:=.int .i64 (Zu2.wrap ((i10:Int)+1))) rfl (done ?_)))))))
   exact hK10 () _ _ ⟨(sl ⟨rfl,(tr rfl (congrArg _ (Yb hi10 hN10))),trivial⟩),hC⟩ h
 ·clear hC h
  rintro s10 e_ w12 K10 ⟨hS_,hC⟩ h
  rw [ue hS_]
  refine ZAc (sr (Za (v:=.int .i64 (a0.length:Int)) rfl (Za (v:=u0_0) rfl ?_)))
  obtain ⟨Ad12,c12,hv12⟩:=Zw (hC.getP 0 rfl)
  refine Zv ZAu (tr rfl hv12) (Zq rfl rfl (dn (Yd rfl (decide_eq_false (by omega)) ?_)))
  refine ZAt (Zl (Zl (Z4 ?_)))
  refine Zd (sr (Za (v:=u0_0) rfl ?_))
  obtain ⟨Ad13,c13,hv13⟩:=Zw (hC.getP 0 rfl)
  refine Zv ZAu (tr rfl hv13) (Zbc rfl rfl (Zc (v:=.bool (decide ((a0.length:Int)≤8))) rfl (dn (ZAk ?_))))
  refine Zg (fn:=Try.f30) rfl ?_ ⟨decide ((a0.length:Int)≤8),rfl,h,hC.below⟩ (.inl rfl)
  exact Zf rfl
 ·skip
  exact⟨(sl ⟨rfl,rfl,trivial⟩),hC⟩
def Zdc (a0:List Int) (a1:A8) (K:Bool→Prop):Prop :=
 Yh (fun i10 (s10:Unit) nx10=>(if(i10:Int)≥(a0.length:Int) then(if a1.get i10≠0 then K false else nx10 ()) else(if a1.get i10 > 20 then K false else((0≤(i10:Int)∧(i10:Int) < (a0.length:Int))∧(if Ztb (a0.getD i10 Zsn) 2≠0 then(if a1.get i10 > 1 then K false else nx10 ()) else nx10 ()))))) (fun (s10:Unit)=>K true) 8 0 ()
theorem Zno (a0:List Int) (a1:A8) {u0_0:Value} {fp0:List Nat} {K:Bool→Prop} (h:Zdc a0 a1 K) (w0:World) (q0:((EI .i64).ty.sl).rep a0 [u0_0] fp0 w0) :
  Calls ZAf 48 #[u0_0,.agg (ZAa (Zz8 .u8 a1))] w0 fun e w'=>∃ (r0:Bool),
   e=.returned (.bool r0)∧K r0∧Bel w0 w':=by
 unfold Zdc at h
 refine Zz (args:=[u0_0,.agg (ZAa (Zz8 .u8 a1))]) Try.func48 rfl 38 Try.ntmps48 (ZAe rfl) ?_
 have hC:=ZAv (X:=Nox) w0 [Zz9 ((EI .i64).ty.sl) a0 [u0_0] fp0] (by simp only [Zsj,Zur,or_false,forall_eq_or_imp,forall_eq]; exact q0)
 refine sr (Yg (v:=.agg (ZAa (Zz8 .u8 a1))) hC (Zz8 .u8 a1) rfl rfl fun b2 w4 hB_ hC=>Zc (v:=.bool false) rfl (dn (ZAc (sr (Zc (v:=.int .i64 0) rfl (dn (ZAl ?_)))))))
 refine Yp (S:=Unit) _ _ (fun i10 s10 e_ w_=>Z1 e_ [(0,u0_0),(3,.pointer (some ⟨b2,0,none⟩)),(5,.int .i64 (i10:Int))]∧Ctx Nox w0 w_ [blk b2 47 (Zz8 .u8 a1)] [Zz9 ((EI .i64).ty.sl) a0 [u0_0] fp0]) 8 ?_ ?_ (s0:=()) ?_ h
 ·clear hC h
  rintro i10 s10 e_ w10 nx10 K10 hi10 ⟨hS_,hC⟩ h hK10
  rw [ue hS_]
  refine ZAc (sr (Za (v:=.int .i64 (i10:Int)) rfl (Zq rfl rfl (dn (Yf rfl (decide_eq_true (by omega)) (ZAg (Zd (ZAc (ZAl (ZAl (sr ?_)))))))))))
  refine Za (v:=.int .i64 (i10:Int)) rfl (Za (v:=u0_0) rfl ?_)
  obtain ⟨Ad10,c10,hv11⟩:=Zw (hC.getP 0 rfl)
  refine Zv ZAu (tr rfl hv11) (Zao rfl rfl (Zc (v:=.bool (decide ((i10:Int)≥(a0.length:Int)))) rfl (dn ?_)))
  refine Zr rfl (fun hb12=>?_) (fun hb12=>?_)
  ·replace h:=ift h (ct hb12)
   refine sr (Za (v:=.int .i64 (i10:Int)) rfl (Y1 i10 ZAp sc5.size rfl rfl (ZAx _) (by omega) (by omega) (Z0 hC 0 (.int .u8 (a1.get i10)) rfl sc5 rfl (ZAw _ _ hi10) (Y0 rfl rfl (dn ?_)))))
   refine Zr rfl (fun hb13=>?_) (fun hb13=>?_)
   ·replace h:=ift h (ct hb13)
    refine sr (Zc (v:=.bool false) rfl (dn ?_))
    refine ZAk (Z2 (Z2 (Ze (Ze (Z2 (Ze ?_))))))
    refine Zg (fn:=Try.f48) rfl ?_ ⟨false,rfl,h,hC.below⟩ (.inl rfl)
    exact Zf rfl
   ·replace h:=Zh h (cf hb13)
    refine ZAg (Zt (Zt (Zd (Zn (Za (v:=.int .i64 (i10:Int)) rfl (Zp rfl rfl (Zc (v:=.int .i64 (Zu2.wrap ((i10:Int)+1))) rfl (done ?_))))))))
    exact hK10 () _ _ ⟨(sl ⟨rfl,rfl,(tr rfl (congrArg _ (Yb hi10 (by decide)))),trivial⟩),hC⟩ h
  ·replace h:=Zh h (cf hb12)
   refine sr (Za (v:=.int .i64 (i10:Int)) rfl (Y1 i10 ZAp sc5.size rfl rfl (ZAx _) (by omega) (by omega) (Z0 hC 0 (.int .u8 (a1.get i10)) rfl sc5 rfl (ZAw _ _ hi10) (Jg rfl rfl (Za (v:=.bool (decide (a1.get i10 > 20))) rfl ?_)))))
   refine Yy (decide (a1.get i10 > 20)) (fun hb10=>?_) (fun hb10=>?_)
   ·replace h:=ift h (ct hb10)
    refine Zi (b:=true) 4 24 rfl (tr rfl (congrArg _ hb10)) (by decide) (Zi (b:=true) 4 24 rfl (tr rfl (congrArg _ hb10)) (by decide) (Zi (b:=true) 4 24 rfl (tr rfl (congrArg _ hb10)) (by decide) (Zi (b:=true) 4 24 rfl (tr rfl (congrArg _ hb10)) (by decide) (Zi (b:=true) 4 24 rfl (tr rfl (congrArg _ hb10)) (by decide) (Zi (b:=true) 4 24 rfl (tr rfl (congrArg _ hb10)) (by decide) (Zi (b:=true) 4 24 rfl (tr rfl (congrArg _ hb10)) (by decide) (X2 11 31 rfl rfl (X2 11 31 rfl rfl (X2 11 31 rfl rfl (X2 11 31 rfl rfl (Zi (b:=true) 4 24 rfl (tr rfl (congrArg _ hb10)) (by decide) ?_)))))))))))
    refine Z3 (v:=.bool true) (b:=true) (tr rfl (congrArg _ hb10)) rfl (Zc (v:=.bool true) rfl (dn (Yf rfl rfl (sr (Zc (v:=.bool false) rfl (dn ?_))))))
    refine ZAk (Z2 (Z2 (Ze (Ze (Z2 (Ze ?_))))))
    refine Zg (fn:=Try.f48) rfl ?_ ⟨false,rfl,h,hC.below⟩ (.inl rfl)
    exact Zf rfl
   ·replace h:=Zh h (cf hb10)
    refine Zj 4 24 rfl rfl hb10 (Za (v:=u0_0) rfl (Zj 4 24 rfl rfl hb10 (Za (v:=.int .i64 (i10:Int)) rfl (Zj 4 24 rfl rfl hb10 ?_))))
    obtain ⟨⟨h10,h11⟩,h⟩:=h
    obtain ⟨Ad11,c11,hv10⟩:=Z6 (hC.getP 0 rfl) i10 (show i10 < a0.length by omega)
    refine Yv (len:=a0.length) ZAu sc2.size (tr rfl hv10) rfl h10 h11 (Zj 4 24 rfl rfl hb10 (Xy (.int .i64 (a0.getD i10 Zsn)) (Yj (hC.getP 0 rfl) hv10 i10 (show i10 < a0.length by omega)) sc2 rfl (Zj 4 24 rfl rfl hb10 (Jf rfl rfl (by decide) (Zj 4 24 rfl rfl hb10 (Y0 rfl rfl (Zj 4 24 rfl rfl hb10 (Za (v:=.bool (decide (Ztb (a0.getD i10 Zsn) 2≠0))) rfl ?_))))))))
    refine Yy (decide (Ztb (a0.getD i10 Zsn) 2≠0)) (fun hb11=>?_) (fun hb11=>?_)
    ·replace h:=ift h (ct hb11)
     refine Zj 11 31 rfl rfl hb11 (Za (v:=.int .i64 (i10:Int)) rfl (Zj 11 31 rfl rfl hb11 (Y1 i10 ZAp sc5.size rfl rfl (ZAx _) (by omega) (by omega) (Zj 11 31 rfl rfl hb11 (Z0 hC 0 (.int .u8 (a1.get i10)) rfl sc5 rfl (ZAw _ _ hi10) (Zj 11 31 rfl rfl hb11 (Jg rfl rfl (Zj 4 24 rfl rfl hb10 (Z3 (v:=.bool (decide (a1.get i10 > 1))) (b:=true) (tr rfl (congrArg _ hb11)) rfl (Z3 (v:=.bool (decide (a1.get i10 > 1))) (b:=false) (tr rfl (congrArg _ hb10)) rfl (Zc (v:=.bool (decide (a1.get i10 > 1))) rfl ?_)))))))))))
     refine dn ?_
     refine Zr rfl (fun hb14=>?_) (fun hb14=>?_)
     ·replace h:=ift h (ct hb14)
      refine sr (Zc (v:=.bool false) rfl (dn ?_))
      refine ZAk (Z2 (Z2 (Ze (Ze (Z2 (Ze ?_))))))
      refine Zg (fn:=Try.f48) rfl ?_ ⟨false,rfl,h,hC.below⟩ (.inl rfl)
      exact Zf rfl
     ·replace h:=Zh h (cf hb14)
      refine ZAg (Zt (Zt (Zd (Zn (Za (v:=.int .i64 (i10:Int)) rfl (Zp rfl rfl (Zc (v:=.int .i64 (Zu2.wrap ((i10:Int)+1))) rfl (done ?_))))))))
      exact hK10 () _ _ ⟨(sl ⟨rfl,rfl,(tr rfl (congrArg _ (Yb hi10 (by decide)))),trivial⟩),hC⟩ h
    ·replace h:=Zh h (cf hb11)
     refine Zi (b:=false) 11 31 rfl (tr rfl (congrArg _ hb11)) (by decide) (Zi (b:=false) 11 31 rfl (tr rfl (congrArg _ hb11)) (by decide) (Zi (b:=false) 11 31 rfl (tr rfl (congrArg _ hb11)) (by decide) (Zi (b:=false) 11 31 rfl (tr rfl (congrArg _ hb11)) (by decide) (Zj 4 24 rfl rfl hb10 (Z3 (v:=.bool false) (b:=false) (tr rfl (congrArg _ hb11)) rfl (Z3 (v:=.bool false) (b:=false) (tr rfl (congrArg _ hb10)) rfl (Zc (v:=.bool false) rfl (dn (Yd rfl rfl (ZAg (Zt ?_)))))))))))
     refine Zt (Zd (Zn (Za (v:=.int .i64 (i10:Int)) rfl (Zp rfl rfl (Zc (v:=.int .i64 (Zu2.wrap ((i10:Int)+1))) rfl (done ?_))))))
     exact hK10 () _ _ ⟨(sl ⟨rfl,rfl,(tr rfl (congrArg _ (Yb hi10 (by decide)))),trivial⟩),hC⟩ h
 ·clear hC h
  rintro s10 e_ w11 K10 ⟨hS_,hC⟩ h
  rw [ue hS_]
  refine ZAc (sr (Za (v:=.int .i64 8) rfl (Zq rfl rfl (dn (Yd rfl (decide_eq_false (by omega)) ?_)))))
  refine ZAt (Zl (Zl (Z4 ?_)))
  refine Zd (sr (Zc (v:=.bool true) rfl (dn (ZAk ?_))))
  refine Zg (fn:=Try.f48) rfl ?_ ⟨true,rfl,h,hC.below⟩ (.inl rfl)
  exact Zf rfl
 ·skip
  exact⟨(sl ⟨rfl,rfl,rfl,trivial⟩),hC⟩
def Xu (a0:Int) (K:Int→Prop):Prop :=
 K (Ztb (Zu2.wrap ((Ztb a0 10007)+10007)) 10007)
theorem Za0 (a0:Int)  {K:Int→Prop} (h:Xu a0 K) (w0:World)  :
  Calls ZAf 54 #[.int .i64 a0] w0 fun e w'=>∃ (r0:Int),
   e=.returned (.int .i64 r0)∧K r0∧Bel w0 w':=by
 unfold Xu at h
 refine Zz (args:=[.int .i64 a0]) ZAz rfl 7 Try.ntmps54 (ZAe rfl) ?_
 have hC:=ZAv (X:=Nox) w0 [] (by simp)
 refine sr (Zc (v:=.int .i64 0) rfl (dn (sr (Za (v:=.int .i64 a0) rfl (Jf rfl rfl (by decide) (Zp rfl rfl (Jf rfl rfl (by decide) (Zc (v:=.int .i64 (Ztb (Zu2.wrap ((Ztb a0 10007)+10007)) 10007)) rfl (dn (ZAk ?_))))))))))
 refine Zg (fn:=Try.f54) rfl ?_ ⟨Ztb (Zu2.wrap ((Ztb a0 10007)+10007)) 10007,rfl,h,hC.below⟩ (.inl rfl)
 exact Zf rfl
def Jd (a0:A8) (a1:Int) (K:ZAd→Prop):Prop :=
 Xu a1 (fun r11=>(if r11=0 then K (⟨[]⟩:ZAd) else Xu a1 (fun r10=>K (⟨[(⟨a0,r10⟩:Term)]⟩:ZAd))))
theorem Zcc (a0:A8) (a1:Int)  {K:ZAd→Prop} (h:Jd a0 a1 K) (w0:World)  :
  Calls ZAf 52 #[.agg (ZAa (Zz8 .u8 a0)),.int .i64 a1] w0 fun e w'=>∃ (r0:ZAd) (z0_0:Value) (fz0:List Nat),
   e=.returned (.agg #[z0_0])∧K r0∧(ZAo (Ya 49) r0 [z0_0] fz0).holds w'∧(∀ b,b∈fz0→w0.heap.size≤b)∧Bel w0 w':=by
 unfold Jd at h
 refine Zz (args:=[.agg (ZAa (Zz8 .u8 a0)),.int .i64 a1]) ZA2 rfl 15 Try.ntmps52 (ZAe rfl) ?_
 have hC:=ZAv (X:=Nox) w0 [] (by simp)
 refine sr (Yg (v:=.agg (ZAa (Zz8 .u8 a0))) hC (Zz8 .u8 a0) rfl rfl fun b1 w3 hB_ hC=>Ye hC [.slice none 0 0] z44 rfl fun b4 w6 hB_ hC=>dn (ZAc (sr (Za (v:=.int .i64 a1) rfl ?_))))
 refine Zk [.int .i64 a1] _ ZAz rfl rfl rfl (Za0 a1 h _) (fun ret7 w9 hR8=>?_)
 obtain ⟨r11,rfl,h,hB10⟩:=hR8
 refine⟨_,rfl,?_⟩
 replace hC:=hC.grow hB10
 refine Ji rfl rfl (dn ?_)
 refine Zr rfl (fun hb10=>?_) (fun hb10=>?_)
 ·replace h:=ift h (ct hb10)
  refine sr (Jl [] rfl (Zb8   _) (Zy (v:=.agg #[.slice none 0 0]) hC 0 [.slice none 0 0] [.slice none 0 0] rfl ag44.size rfl rfl rfl rfl rfl (ZAe rfl) rfl fun w10 hC=>dn ?_))
  refine ZAk (Ze ?_)
  refine Zg (fn:=Try.f52) rfl ?_ ⟨(⟨[]⟩:ZAd),.slice none 0 0,[],rfl,h,(Zaj (Zfg _ _ _)),(fun b hb=>absurd hb (by simp)),hC.below⟩ (.inl rfl)
  exact X9 hC 0 rfl ag44 rfl rfl
 ·replace h:=Zh h (cf hb10)
  refine ZAg (Zd (ZAc ?_))
  refine Yq 3 mixed [0,0,2,7,15,31,63] [0] [1] (by kernel_rfl) (by kernel_rfl) (by kernel_rfl) (fun hM10 hM11 w11 hB_=>?_)
  replace hC:=hC.grow hB_
  refine aL 0 (.agg (ZAa (Zz8 .u8 a0))) rfl rfl (hM10 0 rfl) (rfl) (fun _ hB_=>by exact Y8 (hC.grow hB_) 1 (Zz8 .u8 a0) rfl ag47 rfl rfl rfl) (Zb 7 1) (aF 1 (.int .i64 a1) rfl rfl (hM11 1 rfl) (rfl) (fun _=>by exact Zs (v:=.int .i64 a1) rfl) (Zb 7 3) (aO 2 rfl ?_))
  refine Zk [.int .i64 a1] _ ZAz rfl rfl rfl (Za0 a1 h _) (fun ret10 w12 hR10=>?_)
  obtain ⟨r10,rfl,h,hB11⟩:=hR10
  refine⟨_,rfl,?_⟩
  replace hC:=hC.grow hB11
  refine done (aK (by assumption) (Zb 7 7) (Z7 3 (by decide) (by decide) (by kernel_rfl) (by kernel_rfl) rfl (Jl [(0,.agg (ZAa (Zz8 .u8 a0))),(1,.int .i64 r10)] rfl (Zfk a0 r10  _) (Jq (sz:=9) hC [(0,.agg (ZAa (ZAn (⟨a0,r10⟩:Term))))] (ZAb.encs [(⟨a0,r10⟩:Term)]) rfl (fun _=>Zb9 (⟨a0,r10⟩:Term) _) rfl (by decide) fun b10 w13 hB_ hC=>Jl [(0,.slice (some ⟨b10,0,none⟩) 1 1)] rfl (Znl (.slice (some ⟨b10,0,none⟩) 1 1) (Zg4 (hC.getM 0 rfl)) _) (Zy (v:=.agg #[.slice (some ⟨b10,0,none⟩) 1 1]) hC 1 [.slice (some ⟨b10,0,none⟩) 1 1] [.slice (some ⟨b10,0,none⟩) 1 1] rfl ag44.size rfl rfl rfl rfl (Y4 (Xe (hC.getM 0 rfl)) rfl) (ZAe rfl) rfl fun w14 hC=>done (Z8 (Zd (ZAk ?_))))))))
  refine Zg (fn:=Try.f52) rfl ?_ ⟨(⟨[(⟨a0,r10⟩:Term)]⟩:ZAd),.slice (some ⟨b10,0,none⟩) 1 1,(ZA7 (Zth (.slice (some ⟨b10,0,none⟩) 1 1))),rfl,h,(Zaj (Jw (hC.getM 0 rfl))),(Zaf hC 0 rfl),hC.below⟩ (.inl rfl)
  exact X9 hC 1 rfl ag44 rfl rfl
def Zbj (a0:A8) (a1:A8) (K:Bool→Prop):Prop :=
 Yh (fun i10 (s10:Unit) nx10=>(if a0.get i10≠a1.get i10 then K (decide (a0.get i10 > a1.get i10)) else nx10 ())) (fun (s10:Unit)=>K false) 8 0 ()
theorem Zhb (a0:A8) (a1:A8)  {K:Bool→Prop} (h:Zbj a0 a1 K) (w0:World)  :
  Calls ZAf 49 #[.agg (ZAa (Zz8 .u8 a0)),.agg (ZAa (Zz8 .u8 a1))] w0 fun e w'=>∃ (r0:Bool),
   e=.returned (.bool r0)∧K r0∧Bel w0 w':=by
 unfold Zbj at h
 refine Zz (args:=[.agg (ZAa (Zz8 .u8 a0)),.agg (ZAa (Zz8 .u8 a1))]) ZBa rfl 24 Try.ntmps49 (ZAe rfl) ?_
 have hC:=ZAv (X:=Nox) w0 [] (by simp)
 refine sr (Yg (v:=.agg (ZAa (Zz8 .u8 a0))) hC (Zz8 .u8 a0) rfl rfl fun b1 w3 hB_ hC=>Yg (v:=.agg (ZAa (Zz8 .u8 a1))) hC (Zz8 .u8 a1) rfl rfl fun b4 w6 hB_ hC=>Zc (v:=.bool false) rfl (dn (ZAc (sr (Zc (v:=.int .i64 0) rfl (dn (ZAl ?_)))))))
 refine Yp (S:=Unit) _ _ (fun i10 s10 e_ w_=>Z1 e_ [(2,.pointer (some ⟨b1,0,none⟩)),(3,.pointer (some ⟨b4,0,none⟩)),(5,.int .i64 (i10:Int))]∧Ctx Nox w0 w_ [blk b4 47 (Zz8 .u8 a1),blk b1 47 (Zz8 .u8 a0)] []) 8 ?_ ?_ (s0:=()) ?_ h
 ·clear hC h
  rintro i10 s10 e_ w10 nx10 K10 hi10 ⟨hS_,hC⟩ h hK10
  rw [ue hS_]
  refine ZAc (sr (Za (v:=.int .i64 (i10:Int)) rfl (Zq rfl rfl (dn (Yf rfl (decide_eq_true (by omega)) (ZAg (Zd (ZAc (ZAl (ZAc ?_))))))))))
  refine Yq 6 mixed [0,1,3,0,8,24,63] [1,2,4,5] [0,3] (by kernel_rfl) (by kernel_rfl) (by kernel_rfl) (fun hM10 hM12 w11 hB_=>?_)
  replace hC:=hC.grow hB_
  refine aF 0 (.int .i64 (i10:Int)) rfl rfl (hM12 0 rfl) (rfl) (fun _=>by exact Zs (v:=.int .i64 (i10:Int)) rfl) (Zb 7 1) (aL 1 (.pointer (some ⟨b1,i10,none⟩)) rfl rfl (hM10 1 rfl) (rfl) (fun _ hB_=>by exact X8 i10 ZAp sc5.size rfl rfl (ZAx _) (by omega) (by omega)) (Zb 7 3) (aL 2 (.int .u8 (a0.get i10)) rfl rfl (hM10 2 rfl) (rfl) (fun _ hB_=>by exact Yc (hC.grow hB_) 1 (.int .u8 (a0.get i10)) rfl sc5 rfl (ZAw _ _ hi10)) (Zb 7 7) (aF 3 (.int .i64 (i10:Int)) rfl rfl (hM12 3 rfl) (rfl) (fun _=>by exact Zs (v:=.int .i64 (i10:Int)) rfl) (Zb 7 15) (aL 4 (.pointer (some ⟨b4,i10,none⟩)) rfl rfl (hM10 4 rfl) (rfl) (fun _ hB_=>by exact X8 i10 ZAp sc5.size rfl rfl (ZAx _) (by omega) (by omega)) (Zb 7 31) (aL 5 (.int .u8 (a1.get i10)) rfl rfl (hM10 5 rfl) (rfl) (fun _ hB_=>by exact Yc (hC.grow hB_) 0 (.int .u8 (a1.get i10)) rfl sc5 rfl (ZAw _ _ hi10)) (Zb 7 63) (Z7 6 (by decide) (by decide) (by kernel_rfl) (by kernel_rfl) rfl (Y0 rfl rfl (done (Z8 (Zd ?_))))))))))
  refine Zr rfl (fun hb10=>?_) (fun hb10=>?_)
  ·replace h:=ift h (ct hb10)
   refine ZAc ?_
   refine Yq 6 mixed [0,1,3,0,8,24,63,127] [1,2,4,5] [0,3] (by kernel_rfl) (by kernel_rfl) (by kernel_rfl) (fun hM11 hM13 w12 hB_=>?_)
   replace hC:=hC.grow hB_
   refine aF 0 (.int .i64 (i10:Int)) rfl rfl (hM13 0 rfl) (rfl) (fun _=>by exact Zs (v:=.int .i64 (i10:Int)) rfl) (Zb 8 1) (aL 1 (.pointer (some ⟨b1,i10,none⟩)) rfl rfl (hM11 1 rfl) (rfl) (fun _ hB_=>by exact X8 i10 ZAp sc5.size rfl rfl (ZAx _) (by omega) (by omega)) (Zb 8 3) (aL 2 (.int .u8 (a0.get i10)) rfl rfl (hM11 2 rfl) (rfl) (fun _ hB_=>by exact Yc (hC.grow hB_) 1 (.int .u8 (a0.get i10)) rfl sc5 rfl (ZAw _ _ hi10)) (Zb 8 7) (aF 3 (.int .i64 (i10:Int)) rfl rfl (hM13 3 rfl) (rfl) (fun _=>by exact Zs (v:=.int .i64 (i10:Int)) rfl) (Zb 8 15) (aL 4 (.pointer (some ⟨b4,i10,none⟩)) rfl rfl (hM11 4 rfl) (rfl) (fun _ hB_=>by exact X8 i10 ZAp sc5.size rfl rfl (ZAx _) (by omega) (by omega)) (Zb 8 31) (aL 5 (.int .u8 (a1.get i10)) rfl rfl (hM11 5 rfl) (rfl) (fun _ hB_=>by exact Yc (hC.grow hB_) 0 (.int .u8 (a1.get i10)) rfl sc5 rfl (ZAw _ _ hi10)) (Zb 8 63) (Z7 6 (by decide) (by decide) (by kernel_rfl) (by kernel_rfl) rfl (Jg rfl rfl (Zc (v:=.bool (decide (a0.get i10 > a1.get i10))) rfl (done (Z8 (Zd ?_)))))))))))
   refine ZAk (Z2 (Ze (Ze (Z2 (Ze ?_)))))
   refine Zg (fn:=Try.f49) rfl ?_ ⟨decide (a0.get i10 > a1.get i10),rfl,h,hC.below⟩ (.inl rfl)
   exact Zf rfl
  ·replace h:=Zh h (cf hb10)
   refine ZAg (Zt (Zd (Zn (Za (v:=.int .i64 (i10:Int)) rfl (Zp rfl rfl (Zc (v:=.int .i64 (Zu2.wrap ((i10:Int)+1))) rfl (done ?_)))))))
   exact hK10 () _ _ ⟨(sl ⟨rfl,rfl,(tr rfl (congrArg _ (Yb hi10 (by decide)))),trivial⟩),hC⟩ h
 ·clear hC h
  rintro s10 e_ w13 K10 ⟨hS_,hC⟩ h
  rw [ue hS_]
  refine ZAc (sr (Za (v:=.int .i64 8) rfl (Zq rfl rfl (dn (Yd rfl (decide_eq_false (by omega)) ?_)))))
  refine ZAt (Zl (Zl (Z4 ?_)))
  refine Zd (sr (Zc (v:=.bool false) rfl (dn (ZAk ?_))))
  refine Zg (fn:=Try.f49) rfl ?_ ⟨false,rfl,h,hC.below⟩ (.inl rfl)
  exact Zf rfl
 ·skip
  exact⟨(sl ⟨rfl,rfl,rfl,trivial⟩),hC⟩
def Jx (a0:ZAd) (a1:ZAd) (a2:Int) (K:ZAd→Prop):Prop :=
 Xa (fun (s10:(List Term)×Int×Int) nx10=>joinP (fun (jn11:Bool→Prop)=>(if s10.2.1 < (a0.terms.length:Int) then jn11 true else jn11 (decide (s10.2.2 < (a1.terms.length:Int))))) (fun (x10:Bool)=>(if x10=true then joinP (fun (jn10:Bool→Prop)=>(if s10.2.2=(a1.terms.length:Int) then jn10 true else(if s10.2.1 < (a0.terms.length:Int) then((0≤s10.2.1∧s10.2.1 < (a0.terms.length:Int))∧((0≤s10.2.2∧s10.2.2 < (a1.terms.length:Int))∧Zbj ((a0.terms.getD s10.2.1.toNat Zsn).mono) ((a1.terms.getD s10.2.2.toNat Zsn).mono) (fun r12=>jn10 r12))) else jn10 false))) (fun (x11:Bool)=>(if x11=true then((0≤s10.2.1∧s10.2.1 < (a0.terms.length:Int))∧(Xf (s10.1.length+1) 16∧nx10 (s10.1++[a0.terms.getD s10.2.1.toNat Zsn],Zu2.wrap (s10.2.1+1),s10.2.2))) else joinP (fun (jn12:Bool→Prop)=>(if s10.2.1=(a0.terms.length:Int) then jn12 true else((0≤s10.2.2∧s10.2.2 < (a1.terms.length:Int))∧((0≤s10.2.1∧s10.2.1 < (a0.terms.length:Int))∧Zbj ((a1.terms.getD s10.2.2.toNat Zsn).mono) ((a0.terms.getD s10.2.1.toNat Zsn).mono) (fun r13=>jn12 r13))))) (fun (x12:Bool)=>(if x12=true then((0≤s10.2.2∧s10.2.2 < (a1.terms.length:Int))∧Xu (Zu2.wrap (a2 * ((a1.terms.getD s10.2.2.toNat Zsn).factor))) (fun r10=>(if r10≠0 then((0≤s10.2.2∧s10.2.2 < (a1.terms.length:Int))∧(Xf (s10.1.length+1) 16∧nx10 (s10.1++[(⟨(a1.terms.getD s10.2.2.toNat Zsn).mono,r10⟩:Term)],s10.2.1,Zu2.wrap (s10.2.2+1)))) else nx10 (s10.1,s10.2.1,Zu2.wrap (s10.2.2+1))))) else((0≤s10.2.1∧s10.2.1 < (a0.terms.length:Int))∧((0≤s10.2.2∧s10.2.2 < (a1.terms.length:Int))∧Xu (Zu2.wrap (a2 * ((a1.terms.getD s10.2.2.toNat Zsn).factor))) (fun r14=>Xu (Zu2.wrap (((a0.terms.getD s10.2.1.toNat Zsn).factor)+r14)) (fun r11=>(if r11≠0 then((0≤s10.2.1∧s10.2.1 < (a0.terms.length:Int))∧(Xf (s10.1.length+1) 16∧nx10 (s10.1++[(⟨(a0.terms.getD s10.2.1.toNat Zsn).mono,r11⟩:Term)],Zu2.wrap (s10.2.1+1),Zu2.wrap (s10.2.2+1)))) else nx10 (s10.1,Zu2.wrap (s10.2.1+1),Zu2.wrap (s10.2.2+1))))))))))) else K (⟨s10.1⟩:ZAd)))) ([],0,0)
theorem Zhc (a0 : ZAd) (a1 : ZAd) (a2 : Int) {u0_0 : Value} {u1_0 : Value} {fp0 : List Nat} {fp1 : List Nat} {K : ZAd → Prop} (h : Jx a0 a1 a2 K) (w0 : World) (q0 : ZAq.rep a0 [u0_0] fp0 w0) (q1 : ZAq.rep a1 [u1_0] fp1 w0) :
  Calls ZAf 53 #[.agg #[u0_0],.agg #[u1_0],.int .i64 a2] w0 fun e w'=>∃ (r0:ZAd) (z0_0:Value) (fz0:List Nat),
   e=.returned (.agg #[z0_0])∧K r0∧(ZAo (Ya 49) r0 [z0_0] fz0).holds w'∧(∀ b,b∈fz0→w0.heap.size≤b)∧Bel w0 w':=by
 unfold Jx at h
 refine Zz (args:=[.agg #[u0_0],.agg #[u1_0],.int .i64 a2]) ZBb rfl 149 Try.ntmps53 (ZAe rfl) ?_
 have hC:=ZAv (X:=Nox) w0 [Zz9 TForm a0 [u0_0] fp0,Zz9 TForm a1 [u1_0] fp1] (by simp only [Zsj,Zur,or_false,forall_eq_or_imp,forall_eq]; exact⟨q0,q1⟩)
 have hp3:=(hC.getP 0 rfl)
 replace hC:=hC.derive 0 rfl (Zz9 ZAb.ty.sl a0.terms [u0_0] fp0) (fun _=>(Yx hp3)) (fun _ hb_=>hb_)
 have hp5:=(hC.getP 2 rfl)
 replace hC:=hC.derive 2 rfl (Zz9 ZAb.ty.sl a1.terms [u1_0] fp1) (fun _=>(Yx hp5)) (fun _ hb_=>hb_)
 refine sr (Yg (v:=.agg #[u0_0]) hC [u0_0] rfl rfl fun b7 w9 hB_ hC=>Yg (v:=.agg #[u1_0]) hC [u1_0] rfl rfl fun b10 w10 hB_ hC=>Ye hC [.slice none 0 0] z44 rfl fun b12 w11 hB_ hC=>dn (sr (Jl [] rfl (Zb8   _) (Ye hC [.slice none 0 0] z44 rfl fun b11 w12 hB_ hC=>Zy (v:=.agg #[.slice none 0 0]) hC 0 [.slice none 0 0] [.slice none 0 0] rfl ag44.size rfl rfl rfl rfl rfl (ZAe rfl) rfl fun w13 hC=>dn (sr (Zc (v:=.int .i64 0) rfl ?_))))))
 refine Zc (v:=.int .i64 0) rfl (dn (ZAc (ZAl ?_)))
 refine Xq (S:=(List Term)×Int×Int) _ (fun s10 e_ w_=>∃ (v10:Value),Z1 e_ [(2,.int .i64 a2),(3,.pointer (some ⟨b7,0,none⟩)),(4,.pointer (some ⟨b10,0,none⟩)),(6,.pointer (some ⟨b12,0,none⟩)),(7,.pointer (some ⟨b11,0,none⟩)),(8,.int .i64 s10.2.1),(9,.int .i64 s10.2.2)]∧Ctx Nox w0 w_ [own 49 9 v10 s10.1.length (ZAb.encs s10.1),blk b11 44 [v10],blk b12 44 [.slice none 0 0],blk b10 44 [u1_0],blk b7 44 [u0_0]] [Zz9 ZAb.ty.sl a1.terms [u1_0] fp1,Zz9 ZAb.ty.sl a0.terms [u0_0] fp0,Zz9 TForm a0 [u0_0] fp0,Zz9 TForm a1 [u1_0] fp1]) ?_ (s0:=([],0,0)) ?_ h
 ·clear hC h
  rintro s10 e_ w14 nx10 K10 ⟨v10,hS_,hC⟩ h hK10
  rw [ue hS_]
  refine ZAc (ZAc ?_)
  obtain ⟨jn11,hj10,h⟩:=Zgk h
  refine Zgr (fun e_ w_=>∃ (x10:Bool),Z1 e_ [(2,.int .i64 a2),(3,.pointer (some ⟨b7,0,none⟩)),(4,.pointer (some ⟨b10,0,none⟩)),(6,.pointer (some ⟨b12,0,none⟩)),(7,.pointer (some ⟨b11,0,none⟩)),(8,.int .i64 s10.2.1),(9,.int .i64 s10.2.2),(24,.bool x10)]∧Ctx Nox w0 w_ [own 49 9 v10 s10.1.length (ZAb.encs s10.1),blk b11 44 [v10],blk b12 44 [.slice none 0 0],blk b10 44 [u1_0],blk b7 44 [u0_0]] [Zz9 ZAb.ty.sl a1.terms [u1_0] fp1,Zz9 ZAb.ty.sl a0.terms [u0_0] fp0,Zz9 TForm a0 [u0_0] fp0,Zz9 TForm a1 [u1_0] fp1]∧jn11 x10) ?_ ?_
  ·skip
   refine Zn (Za (v:=.int .i64 s10.2.1) rfl (Zx 0 ZAh rfl sc42.size rfl rfl (Z0 hC 4 (u0_0) rfl sc42 rfl rfl ?_)))
   obtain ⟨Ad19,c10,hv20⟩:=Zw (hC.getP 1 rfl)
   refine Zv ZAj (tr rfl hv20) (Zq rfl rfl (Za (v:=.bool (decide (s10.2.1 < (a0.terms.length:Int)))) rfl ?_))
   refine Yy (decide (s10.2.1 < (a0.terms.length:Int))) (fun hb13=>?_) (fun hb13=>?_)
   ·replace h:=ift h (ct hb13)
    refine Zi (b:=true) 5 18 rfl (tr rfl (congrArg _ hb13)) (by decide) (Zi (b:=true) 5 18 rfl (tr rfl (congrArg _ hb13)) (by decide) (Zi (b:=true) 5 18 rfl (tr rfl (congrArg _ hb13)) (by decide) (Zi (b:=true) 5 18 rfl (tr rfl (congrArg _ hb13)) (by decide) (Zi (b:=true) 5 18 rfl (tr rfl (congrArg _ hb13)) (by decide) (Z3 (v:=.bool true) (b:=true) (tr rfl (congrArg _ hb13)) rfl (done ?_))))))
    exact⟨rfl,_,rfl,true,(sl ⟨rfl,rfl,rfl,rfl,rfl,rfl,rfl,rfl,trivial⟩),hC,h⟩
   ·replace h:=Zh h (cf hb13)
    refine Zj 5 18 rfl rfl hb13 (Za (v:=.int .i64 s10.2.2) rfl (Zj 5 18 rfl rfl hb13 (Zx 0 ZAh rfl sc42.size rfl rfl (Zj 5 18 rfl rfl hb13 (Z0 hC 3 (u1_0) rfl sc42 rfl rfl (Zj 5 18 rfl rfl hb13 ?_))))))
    obtain ⟨Ad20,c11,hv21⟩:=Zw (hC.getP 0 rfl)
    refine Zv ZAj (tr rfl hv21) (Zj 5 18 rfl rfl hb13 (Zq rfl rfl (Z3 (v:=.bool (decide (s10.2.2 < (a1.terms.length:Int)))) (b:=false) (tr rfl (congrArg _ hb13)) rfl (done ?_))))
    exact⟨rfl,_,rfl,decide (s10.2.2 < (a1.terms.length:Int)),(sl ⟨rfl,rfl,rfl,rfl,rfl,rfl,rfl,rfl,trivial⟩),hC,h⟩
  ·clear hC h
   rintro e_ w15 ⟨x10,hS_,hC,h⟩
   replace h:=hj10 _ h
   rw [ue hS_]
   refine Zd ?_
   refine Zr rfl (fun hb14=>?_) (fun hb14=>?_)
   ·replace h:=ift h (hb14)
    refine ZAg (Zd (ZAl (ZAl (ZAc ?_))))
    obtain ⟨jn10,hj11,h⟩:=Zgk h
    refine Zgr (fun e_ w_=>∃ (x11:Bool),Z1 e_ [(2,.int .i64 a2),(3,.pointer (some ⟨b7,0,none⟩)),(4,.pointer (some ⟨b10,0,none⟩)),(6,.pointer (some ⟨b12,0,none⟩)),(7,.pointer (some ⟨b11,0,none⟩)),(8,.int .i64 s10.2.1),(9,.int .i64 s10.2.2),(61,.bool x11)]∧Ctx Nox w0 w_ [own 49 9 v10 s10.1.length (ZAb.encs s10.1),blk b11 44 [v10],blk b12 44 [.slice none 0 0],blk b10 44 [u1_0],blk b7 44 [u0_0]] [Zz9 ZAb.ty.sl a1.terms [u1_0] fp1,Zz9 ZAb.ty.sl a0.terms [u0_0] fp0,Zz9 TForm a0 [u0_0] fp0,Zz9 TForm a1 [u1_0] fp1]∧jn10 x11) ?_ ?_
    ·skip
     refine Yq 24 mixed [0,0,2,6,15,31,63,63,191,447,1023,2047,4095,8191,4095,32767,65535,131071,4095,266239,4095,1839103,3936255,8130559,16777215,33554431,67108863,134217727] [2,3,8,9,13,15,17,19,21,23] [0,1,4,5,6,7,8,9,10,11,12,13,14,15,16,17,18,19,20,21,22,23] (by kernel_rfl) (by kernel_rfl) (by kernel_rfl) (fun hM12 hM10 w16 hB_=>?_)
     replace hC:=hC.grow hB_
     refine aF 0 (.int .i64 s10.2.2) rfl rfl (hM10 0 rfl) (rfl) (fun _=>by exact Zs (v:=.int .i64 s10.2.2) rfl) (Zb 28 1) (aF 1 (.pointer (some ⟨b10,0,none⟩)) rfl rfl (hM10 1 rfl) (rfl) (fun _=>by exact Yi 0 ZAh rfl sc42.size rfl rfl) (Zb 28 3) (aL 2 (u1_0) rfl rfl (hM12 2 rfl) (rfl) (fun _ hB_=>by exact Yc (hC.grow hB_) 3 (u1_0) rfl sc42 rfl rfl) (Zb 28 7) ?_))
     obtain ⟨Ad21,c12,hv22⟩:=Zw (hC.getP 0 rfl)
     refine aL 3 (.int .i64 (a1.terms.length:Int)) rfl rfl (hM12 3 rfl) (rfl) (fun _ hB_=>by exact Zgn ZAj (by exact tr rfl hv22)) (Zb 28 15) (aF 4 (.bool (decide (s10.2.2=(a1.terms.length:Int)))) rfl rfl (hM10 4 rfl) (rfl) (fun _=>by exact Zh3 rfl rfl) (Zb 28 31) (aF 5 (.bool (decide (s10.2.2=(a1.terms.length:Int)))) rfl rfl (hM10 5 rfl) (rfl) (fun _=>by exact Zs (v:=.bool (decide (s10.2.2=(a1.terms.length:Int)))) rfl) (Zb 28 63) ?_))
     refine Yy (decide (s10.2.2=(a1.terms.length:Int))) (fun hb12=>?_) (fun hb12=>?_)
     ·replace h:=ift h (ct hb12)
      refine Zo Zu 6 undef rfl rfl (by kernel_rfl) (hM10 6 rfl) (fun w_=>.inr ⟨Z5 (b:=true) 5 67 rfl (tr rfl (congrArg _ hb12)) (by decide),rfl⟩) (l9:=(Zb 28 127)) (by kernel_rfl) (Zo Zu 7 undef rfl rfl (by kernel_rfl) (hM10 7 rfl) (fun w_=>.inr ⟨Z5 (b:=true) 5 67 rfl (tr rfl (congrArg _ hb12)) (by decide),rfl⟩) (l9:=(Zb 28 255)) (by kernel_rfl) (Zo Zu 8 undef rfl rfl (by kernel_rfl) (hM10 8 rfl) (fun w_=>.inr ⟨Z5 (b:=true) 5 67 rfl (tr rfl (congrArg _ hb12)) (by decide),rfl⟩) (l9:=(Zb 28 511)) (by kernel_rfl) (Zo Zu 9 undef rfl rfl (by kernel_rfl) (hM10 9 rfl) (fun w_=>.inr ⟨Z5 (b:=true) 5 67 rfl (tr rfl (congrArg _ hb12)) (by decide),rfl⟩) (l9:=(Zb 28 1023)) (by kernel_rfl) (Zo Zu 10 undef rfl rfl (by kernel_rfl) (hM10 10 rfl) (fun w_=>.inr ⟨Z5 (b:=true) 5 67 rfl (tr rfl (congrArg _ hb12)) (by decide),rfl⟩) (l9:=(Zb 28 2047)) (by kernel_rfl) (Zo Zu 11 undef rfl rfl (by kernel_rfl) (hM10 11 rfl) (fun w_=>.inr ⟨Z5 (b:=true) 5 67 rfl (tr rfl (congrArg _ hb12)) (by decide),rfl⟩) (l9:=(Zb 28 4095)) (by kernel_rfl) (Zo Zu 12 undef rfl rfl (by kernel_rfl) (hM10 12 rfl) (fun w_=>.inr ⟨Y7 11 73 rfl rfl,rfl⟩) (l9:=(Zb 28 8191)) (by kernel_rfl) (Zo Zu 13 undef rfl rfl (by kernel_rfl) (hM10 13 rfl) (fun w_=>.inr ⟨Y7 11 73 rfl rfl,rfl⟩) (l9:=(Zb 28 16383)) (by kernel_rfl) (Zo Zu 14 undef rfl rfl (by kernel_rfl) (hM10 14 rfl) (fun w_=>.inr ⟨Y7 11 73 rfl rfl,rfl⟩) (l9:=(Zb 28 32767)) (by kernel_rfl) ?_))))))))
      refine Zo Zu 15 undef rfl rfl (by kernel_rfl) (hM10 15 rfl) (fun w_=>.inr ⟨Y7 11 73 rfl rfl,rfl⟩) (l9:=(Zb 28 65535)) (by kernel_rfl) (Zo Zu 16 undef rfl rfl (by kernel_rfl) (hM10 16 rfl) (fun w_=>.inr ⟨Y7 11 73 rfl rfl,rfl⟩) (l9:=(Zb 28 131071)) (by kernel_rfl) (Zo Zu 17 undef rfl rfl (by kernel_rfl) (hM10 17 rfl) (fun w_=>.inr ⟨Y7 11 73 rfl rfl,rfl⟩) (l9:=(Zb 28 262143)) (by kernel_rfl) (Zo Zu 18 undef rfl rfl (by kernel_rfl) (hM10 18 rfl) (fun w_=>.inr ⟨Y7 11 73 rfl rfl,rfl⟩) (l9:=(Zb 28 524287)) (by kernel_rfl) (Zo Zu 19 undef rfl rfl (by kernel_rfl) (hM10 19 rfl) (fun w_=>.inr ⟨Y7 11 73 rfl rfl,rfl⟩) (l9:=(Zb 28 1048575)) (by kernel_rfl) (Zo Zu 20 undef rfl rfl (by kernel_rfl) (hM10 20 rfl) (fun w_=>.inr ⟨Y7 11 73 rfl rfl,rfl⟩) (l9:=(Zb 28 2097151)) (by kernel_rfl) (Zo Zu 21 undef rfl rfl (by kernel_rfl) (hM10 21 rfl) (fun w_=>.inr ⟨Y7 11 73 rfl rfl,rfl⟩) (l9:=(Zb 28 4194303)) (by kernel_rfl) (Zo Zu 22 undef rfl rfl (by kernel_rfl) (hM10 22 rfl) (fun w_=>.inr ⟨Y7 11 73 rfl rfl,rfl⟩) (l9:=(Zb 28 8388607)) (by kernel_rfl) (Zo Zu 23 undef rfl rfl (by kernel_rfl) (hM10 23 rfl) (fun w_=>.inr ⟨Y7 11 73 rfl rfl,rfl⟩) (l9:=(Zb 28 16777215)) (by kernel_rfl) (Z7 24 (by decide) (by decide) (by kernel_rfl) (by kernel_rfl) rfl (X2 11 73 rfl rfl (Zi (b:=true) 5 67 rfl (tr rfl (congrArg _ hb12)) (by decide) ?_)))))))))))
      refine Z3 (v:=.bool true) (b:=true) (tr rfl (congrArg _ hb12)) rfl (Zc (v:=.bool true) rfl (done (Z8 ?_)))
      exact⟨rfl,_,rfl,true,(sl ⟨rfl,rfl,rfl,rfl,rfl,rfl,rfl,rfl,trivial⟩),hC,h⟩
     ·replace h:=Zh h (cf hb12)
      refine aF 6 (.int .i64 s10.2.1) rfl rfl (hM10 6 rfl) (Z9 5 67 rfl rfl hb12) (fun _=>by exact Zs (v:=.int .i64 s10.2.1) rfl) (Zb 28 127) (aF 7 (.pointer (some ⟨b7,0,none⟩)) rfl rfl (hM10 7 rfl) (Z9 5 67 rfl rfl hb12) (fun _=>by exact Yi 0 ZAh rfl sc42.size rfl rfl) (Zb 28 255) (aL 8 (u0_0) rfl rfl (hM12 8 rfl) (Z9 5 67 rfl rfl hb12) (fun _ hB_=>by exact Yc (hC.grow hB_) 4 (u0_0) rfl sc42 rfl rfl) (Zb 28 511) ?_))
      obtain ⟨Ad22,c13,hv23⟩:=Zw (hC.getP 1 rfl)
      refine aL 9 (.int .i64 (a0.terms.length:Int)) rfl rfl (hM12 9 rfl) (Z9 5 67 rfl rfl hb12) (fun _ hB_=>by exact Zgn ZAj (by exact tr rfl hv23)) (Zb 28 1023) (aF 10 (.bool (decide (s10.2.1 < (a0.terms.length:Int)))) rfl rfl (hM10 10 rfl) (Z9 5 67 rfl rfl hb12) (fun _=>by exact Zlk rfl rfl) (Zb 28 2047) (aF 11 (.bool (decide (s10.2.1 < (a0.terms.length:Int)))) rfl rfl (hM10 11 rfl) (Z9 5 67 rfl rfl hb12) (fun _=>by exact Zs (v:=.bool (decide (s10.2.1 < (a0.terms.length:Int)))) rfl) (Zb 28 4095) ?_))
      refine Yy (decide (s10.2.1 < (a0.terms.length:Int))) (fun hb10=>?_) (fun hb10=>?_)
      ·replace h:=ift h (ct hb10)
       refine aF 12 (.pointer (some ⟨b7,0,none⟩)) rfl rfl (hM10 12 rfl) (Z9 11 73 rfl rfl hb10) (fun _=>by exact Yi 0 ZAh rfl sc42.size rfl rfl) (Zb 28 8191) (aL 13 (u0_0) rfl rfl (hM12 13 rfl) (Z9 11 73 rfl rfl hb10) (fun _ hB_=>by exact Yc (hC.grow hB_) 4 (u0_0) rfl sc42 rfl rfl) (Zb 28 16383) (aF 14 (.int .i64 s10.2.1) rfl rfl (hM10 14 rfl) (Z9 11 73 rfl rfl hb10) (fun _=>by exact Zs (v:=.int .i64 s10.2.1) rfl) (Zb 28 32767) ?_))
       obtain ⟨⟨h10,h11⟩,h⟩:=h
       obtain ⟨Ad10,c14,hv10⟩:=Z6 (hC.getP 1 rfl) s10.2.1.toNat (show s10.2.1.toNat < a0.terms.length by omega)
       refine aL 15 (.pointer (some (Ad10.add (s10.2.1.toNat * 9)))) rfl rfl (hM12 15 rfl) (Z9 11 73 rfl rfl hb10) (fun _ hB_=>by exact Y2 (len:=a0.terms.length) ZAj ag49.size (by exact tr rfl hv10) rfl h10 h11) (Zb 28 65535) (aF 16 (.pointer (some (Ad10.add (s10.2.1.toNat * 9+0)))) rfl rfl (hM10 16 rfl) (Z9 11 73 rfl rfl hb10) (fun _=>by exact Jv (s10.2.1.toNat * 9+0) ZAr rfl ag47.size rfl rfl) (Zb 28 131071) (aL 17 (.agg (ZAa (Zz8 .u8 ((a0.terms.getD s10.2.1.toNat Zsn).mono)))) rfl rfl (hM12 17 rfl) (Z9 11 73 rfl rfl hb10) (fun _ hB_=>by exact Xs (Zz8 .u8 ((a0.terms.getD s10.2.1.toNat Zsn).mono)) (X6 (o:=0) (k:=8) (Yj ((hC.grow hB_).getP 1 rfl) hv10 s10.2.1.toNat (show s10.2.1.toNat < a0.terms.length by omega)) rfl) ag47 rfl rfl) (Zb 28 262143) (aF 18 (.pointer (some ⟨b10,0,none⟩)) rfl rfl (hM10 18 rfl) (Z9 11 73 rfl rfl hb10) (fun _=>by exact Yi 0 ZAh rfl sc42.size rfl rfl) (Zb 28 524287) (aL 19 (u1_0) rfl rfl (hM12 19 rfl) (Z9 11 73 rfl rfl hb10) (fun _ hB_=>by exact Yc (hC.grow hB_) 3 (u1_0) rfl sc42 rfl rfl) (Zb 28 1048575) (aF 20 (.int .i64 s10.2.2) rfl rfl (hM10 20 rfl) (Z9 11 73 rfl rfl hb10) (fun _=>by exact Zs (v:=.int .i64 s10.2.2) rfl) (Zb 28 2097151) ?_)))))
       obtain ⟨⟨h12,h13⟩,h⟩:=h
       obtain ⟨Ad11,c15,hv11⟩:=Z6 (hC.getP 0 rfl) s10.2.2.toNat (show s10.2.2.toNat < a1.terms.length by omega)
       refine aL 21 (.pointer (some (Ad11.add (s10.2.2.toNat * 9)))) rfl rfl (hM12 21 rfl) (Z9 11 73 rfl rfl hb10) (fun _ hB_=>by exact Y2 (len:=a1.terms.length) ZAj ag49.size (by exact tr rfl hv11) rfl h12 h13) (Zb 28 4194303) (aF 22 (.pointer (some (Ad11.add (s10.2.2.toNat * 9+0)))) rfl rfl (hM10 22 rfl) (Z9 11 73 rfl rfl hb10) (fun _=>by exact Jv (s10.2.2.toNat * 9+0) ZAr rfl ag47.size rfl rfl) (Zb 28 8388607) (aL 23 (.agg (ZAa (Zz8 .u8 ((a1.terms.getD s10.2.2.toNat Zsn).mono)))) rfl rfl (hM12 23 rfl) (Z9 11 73 rfl rfl hb10) (fun _ hB_=>by exact Xs (Zz8 .u8 ((a1.terms.getD s10.2.2.toNat Zsn).mono)) (X6 (o:=0) (k:=8) (Yj ((hC.grow hB_).getP 0 rfl) hv11 s10.2.2.toNat (show s10.2.2.toNat < a1.terms.length by omega)) rfl) ag47 rfl rfl) (Zb 28 16777215) (Z7 24 (by decide) (by decide) (by kernel_rfl) (by kernel_rfl) rfl (Zj 11 73 rfl rfl hb10 ?_))))
       refine Zk [.agg (ZAa (Zz8 .u8 ((a0.terms.getD s10.2.1.toNat Zsn).mono))),.agg (ZAa (Zz8 .u8 ((a1.terms.getD s10.2.2.toNat Zsn).mono)))] _ ZBa rfl rfl rfl (Zhb ((a0.terms.getD s10.2.1.toNat Zsn).mono) ((a1.terms.getD s10.2.2.toNat Zsn).mono) h _) (fun ret10 w17 hR10=>?_)
       obtain ⟨r12,rfl,h,hB10⟩:=hR10
       refine⟨_,rfl,?_⟩
       replace hC:=hC.grow hB10
       refine Zj 5 67 rfl rfl hb12 (Z3 (v:=.bool r12) (b:=true) (tr rfl (congrArg _ hb10)) rfl (Z3 (v:=.bool r12) (b:=false) (tr rfl (congrArg _ hb12)) rfl (Zc (v:=.bool r12) rfl (done (Z8 ?_)))))
       exact⟨rfl,_,rfl,r12,(sl ⟨rfl,rfl,rfl,rfl,rfl,rfl,rfl,rfl,trivial⟩),hC,h⟩
      ·replace h:=Zh h (cf hb10)
       refine Zo Zu 12 undef rfl rfl (by kernel_rfl) (hM10 12 rfl) (fun w_=>.inr ⟨Z5 (b:=false) 11 73 rfl (tr rfl (congrArg _ hb10)) (by decide),rfl⟩) (l9:=(Zb 28 8191)) (by kernel_rfl) (Zo Zu 13 undef rfl rfl (by kernel_rfl) (hM10 13 rfl) (fun w_=>.inr ⟨Z5 (b:=false) 11 73 rfl (tr rfl (congrArg _ hb10)) (by decide),rfl⟩) (l9:=(Zb 28 16383)) (by kernel_rfl) (Zo Zu 14 undef rfl rfl (by kernel_rfl) (hM10 14 rfl) (fun w_=>.inr ⟨Z5 (b:=false) 11 73 rfl (tr rfl (congrArg _ hb10)) (by decide),rfl⟩) (l9:=(Zb 28 32767)) (by kernel_rfl) (Zo Zu 15 undef rfl rfl (by kernel_rfl) (hM10 15 rfl) (fun w_=>.inr ⟨Z5 (b:=false) 11 73 rfl (tr rfl (congrArg _ hb10)) (by decide),rfl⟩) (l9:=(Zb 28 65535)) (by kernel_rfl) (Zo Zu 16 undef rfl rfl (by kernel_rfl) (hM10 16 rfl) (fun w_=>.inr ⟨Z5 (b:=false) 11 73 rfl (tr rfl (congrArg _ hb10)) (by decide),rfl⟩) (l9:=(Zb 28 131071)) (by kernel_rfl) (Zo Zu 17 undef rfl rfl (by kernel_rfl) (hM10 17 rfl) (fun w_=>.inr ⟨Z5 (b:=false) 11 73 rfl (tr rfl (congrArg _ hb10)) (by decide),rfl⟩) (l9:=(Zb 28 262143)) (by kernel_rfl) (Zo Zu 18 undef rfl rfl (by kernel_rfl) (hM10 18 rfl) (fun w_=>.inr ⟨Z5 (b:=false) 11 73 rfl (tr rfl (congrArg _ hb10)) (by decide),rfl⟩) (l9:=(Zb 28 524287)) (by kernel_rfl) (Zo Zu 19 undef rfl rfl (by kernel_rfl) (hM10 19 rfl) (fun w_=>.inr ⟨Z5 (b:=false) 11 73 rfl (tr rfl (congrArg _ hb10)) (by decide),rfl⟩) (l9:=(Zb 28 1048575)) (by kernel_rfl) ?_)))))))
       refine Zo Zu 20 undef rfl rfl (by kernel_rfl) (hM10 20 rfl) (fun w_=>.inr ⟨Z5 (b:=false) 11 73 rfl (tr rfl (congrArg _ hb10)) (by decide),rfl⟩) (l9:=(Zb 28 2097151)) (by kernel_rfl) (Zo Zu 21 undef rfl rfl (by kernel_rfl) (hM10 21 rfl) (fun w_=>.inr ⟨Z5 (b:=false) 11 73 rfl (tr rfl (congrArg _ hb10)) (by decide),rfl⟩) (l9:=(Zb 28 4194303)) (by kernel_rfl) (Zo Zu 22 undef rfl rfl (by kernel_rfl) (hM10 22 rfl) (fun w_=>.inr ⟨Z5 (b:=false) 11 73 rfl (tr rfl (congrArg _ hb10)) (by decide),rfl⟩) (l9:=(Zb 28 8388607)) (by kernel_rfl) (Zo Zu 23 undef rfl rfl (by kernel_rfl) (hM10 23 rfl) (fun w_=>.inr ⟨Z5 (b:=false) 11 73 rfl (tr rfl (congrArg _ hb10)) (by decide),rfl⟩) (l9:=(Zb 28 16777215)) (by kernel_rfl) (Z7 24 (by decide) (by decide) (by kernel_rfl) (by kernel_rfl) rfl (Zi (b:=false) 11 73 rfl (tr rfl (congrArg _ hb10)) (by decide) (Zj 5 67 rfl rfl hb12 (Z3 (v:=.bool false) (b:=false) (tr rfl (congrArg _ hb10)) rfl (Z3 (v:=.bool false) (b:=false) (tr rfl (congrArg _ hb12)) rfl (Zc (v:=.bool false) rfl (done (Z8 ?_)))))))))))
       exact⟨rfl,_,rfl,false,(sl ⟨rfl,rfl,rfl,rfl,rfl,rfl,rfl,rfl,trivial⟩),hC,h⟩
    ·clear hC h
     rintro e_ w18 ⟨x11,hS_,hC,h⟩
     replace h:=hj11 _ h
     rw [ue hS_]
     refine Zd ?_
     refine Zr rfl (fun hb15=>?_) (fun hb15=>?_)
     ·replace h:=ift h (hb15)
      refine ZAc ?_
      refine Yq 8 mixed [0,1,0,4,0,28,60,124,255,511,1023] [1,3,5,6] [0,2,4] (by kernel_rfl) (by kernel_rfl) (by kernel_rfl) (fun hM20 hM21 w19 hB_=>?_)
      replace hC:=hC.grow hB_
      refine aF 0 (.pointer (some ⟨b11,0,none⟩)) rfl rfl (hM21 0 rfl) (rfl) (fun _=>by exact Yi 0 ZAh rfl sc42.size rfl rfl) (Zb 11 1) (aL 1 (v10) rfl rfl (hM20 1 rfl) (rfl) (fun _ hB_=>by exact Yc (hC.grow hB_) 1 (v10) rfl sc42 rfl rfl) (Zb 11 3) (aF 2 (.pointer (some ⟨b7,0,none⟩)) rfl rfl (hM21 2 rfl) (rfl) (fun _=>by exact Yi 0 ZAh rfl sc42.size rfl rfl) (Zb 11 7) (aL 3 (u0_0) rfl rfl (hM20 3 rfl) (rfl) (fun _ hB_=>by exact Yc (hC.grow hB_) 4 (u0_0) rfl sc42 rfl rfl) (Zb 11 15) (aF 4 (.int .i64 s10.2.1) rfl rfl (hM21 4 rfl) (rfl) (fun _=>by exact Zs (v:=.int .i64 s10.2.1) rfl) (Zb 11 31) ?_))))
      obtain ⟨⟨h14,h15⟩,h⟩:=h
      obtain ⟨Ad18,c16,hv12⟩:=Z6 (hC.getP 1 rfl) s10.2.1.toNat (show s10.2.1.toNat < a0.terms.length by omega)
      refine aL 5 (.pointer (some (Ad18.add (s10.2.1.toNat * 9)))) rfl rfl (hM20 5 rfl) (rfl) (fun _ hB_=>by exact Y2 (len:=a0.terms.length) ZAj ag49.size (by exact tr rfl hv12) rfl h14 h15) (Zb 11 63) (aL 6 (.agg (ZAa (ZAn (a0.terms.getD s10.2.1.toNat Zsn)))) rfl rfl (hM20 6 rfl) (rfl) (fun _ hB_=>by exact Xs (ZAn (a0.terms.getD s10.2.1.toNat Zsn)) (Yj ((hC.grow hB_).getP 1 rfl) hv12 s10.2.1.toNat (show s10.2.1.toNat < a0.terms.length by omega)) ag49 rfl rfl) (Zb 11 127) (aO 7 rfl (Jq (sz:=9) hC [(0,.agg (ZAa (ZAn (a0.terms.getD s10.2.1.toNat Zsn))))] (ZAb.encs [a0.terms.getD s10.2.1.toNat Zsn]) rfl (fun _=>Zb9 (a0.terms.getD s10.2.1.toNat Zsn) _) rfl (by decide) fun b13 w20 hB_ hC=>done (aK (by assumption) (Zb 11 255) (Z7 8 (by decide) (by decide) (by kernel_rfl) (by kernel_rfl) rfl ?_)))))
      obtain ⟨hm10,h⟩:=h
      refine Zay hC 1 ZAj Zca rfl (by decide) (by decide) rfl (J7 (hC.getM 0 rfl)) (fun q hq=>ZBc (E:=ETerm) _ q hq) rfl rfl hm10 fun v11 w21 hC=>?_
      replace hC:=Js hC 1 ((s10.1++[a0.terms.getD s10.2.1.toNat Zsn]).length) (ZAb.encs (s10.1++[a0.terms.getD s10.2.1.toNat Zsn])) rfl (by simp) (by first | (simp [ZA1]; done) | simp [ZA1,Enc.encs])
      refine Zx 0 ZAh rfl sc42.size rfl rfl (Zy (v:=v11) hC 2 [v11] [v11] rfl sc42.size rfl rfl (Zbd (hC.getM 1 rfl)) rfl (Y4 (Xe (hC.getM 1 rfl)) rfl) (ZAe rfl) rfl fun w22 hC=>done (Z8 (Zd (Zn (Za (v:=.int .i64 s10.2.1) rfl (Zp rfl rfl (Zc (v:=.int .i64 (Zu2.wrap (s10.2.1+1))) rfl (done (Zt (Zt ?_))))))))))
      replace hC:=hC.sM [1,2,3,4,5] (M':=[own 49 9 v11 ((s10.1++[a0.terms.getD s10.2.1.toNat Zsn]).length) (ZAb.encs (s10.1++[a0.terms.getD s10.2.1.toNat Zsn])),blk b11 44 [v11],blk b12 44 [.slice none 0 0],blk b10 44 [u1_0],blk b7 44 [u0_0]]) (by decide) rfl
      exact hK10 (s10.1++[a0.terms.getD s10.2.1.toNat Zsn],Zu2.wrap (s10.2.1+1),s10.2.2) _ _ ⟨v11,(sl ⟨rfl,rfl,rfl,rfl,rfl,rfl,rfl,trivial⟩),hC⟩ h
     ·replace h:=Zh h (Yw hb15)
      refine ZAc ?_
      obtain ⟨jn12,hj12,h⟩:=Zgk h
      refine Zgr (fun e_ w_=>∃ (x12:Bool),Z1 e_ [(2,.int .i64 a2),(3,.pointer (some ⟨b7,0,none⟩)),(4,.pointer (some ⟨b10,0,none⟩)),(6,.pointer (some ⟨b12,0,none⟩)),(7,.pointer (some ⟨b11,0,none⟩)),(8,.int .i64 s10.2.1),(9,.int .i64 s10.2.2),(101,.bool x12)]∧Ctx Nox w0 w_ [own 49 9 v10 s10.1.length (ZAb.encs s10.1),blk b11 44 [v10],blk b12 44 [.slice none 0 0],blk b10 44 [u1_0],blk b7 44 [u0_0]] [Zz9 ZAb.ty.sl a1.terms [u1_0] fp1,Zz9 ZAb.ty.sl a0.terms [u0_0] fp0,Zz9 TForm a0 [u0_0] fp0,Zz9 TForm a1 [u1_0] fp1]∧jn12 x12) ?_ ?_
      ·skip
       refine Yq 18 mixed [0,0,2,6,15,31,63,127,63,511,1023,2047,63,4159,63,28735,61503,127039,262143,524287,1048575] [2,3,7,9,11,13,15,17] [0,1,4,5,6,7,8,9,10,11,12,13,14,15,16,17] (by kernel_rfl) (by kernel_rfl) (by kernel_rfl) (fun hM13 hM11 w23 hB_=>?_)
       replace hC:=hC.grow hB_
       refine aF 0 (.int .i64 s10.2.1) rfl rfl (hM11 0 rfl) (rfl) (fun _=>by exact Zs (v:=.int .i64 s10.2.1) rfl) (Zb 21 1) (aF 1 (.pointer (some ⟨b7,0,none⟩)) rfl rfl (hM11 1 rfl) (rfl) (fun _=>by exact Yi 0 ZAh rfl sc42.size rfl rfl) (Zb 21 3) (aL 2 (u0_0) rfl rfl (hM13 2 rfl) (rfl) (fun _ hB_=>by exact Yc (hC.grow hB_) 4 (u0_0) rfl sc42 rfl rfl) (Zb 21 7) ?_))
       obtain ⟨Ad23,c17,hv24⟩:=Zw (hC.getP 1 rfl)
       refine aL 3 (.int .i64 (a0.terms.length:Int)) rfl rfl (hM13 3 rfl) (rfl) (fun _ hB_=>by exact Zgn ZAj (by exact tr rfl hv24)) (Zb 21 15) (aF 4 (.bool (decide (s10.2.1=(a0.terms.length:Int)))) rfl rfl (hM11 4 rfl) (rfl) (fun _=>by exact Zh3 rfl rfl) (Zb 21 31) (aF 5 (.bool (decide (s10.2.1=(a0.terms.length:Int)))) rfl rfl (hM11 5 rfl) (rfl) (fun _=>by exact Zs (v:=.bool (decide (s10.2.1=(a0.terms.length:Int)))) rfl) (Zb 21 63) ?_))
       refine Yy (decide (s10.2.1=(a0.terms.length:Int))) (fun hb11=>?_) (fun hb11=>?_)
       ·replace h:=ift h (ct hb11)
        refine Zo Zu 6 undef rfl rfl (by kernel_rfl) (hM11 6 rfl) (fun w_=>.inr ⟨Z5 (b:=true) 5 107 rfl (tr rfl (congrArg _ hb11)) (by decide),rfl⟩) (l9:=(Zb 21 127)) (by kernel_rfl) (Zo Zu 7 undef rfl rfl (by kernel_rfl) (hM11 7 rfl) (fun w_=>.inr ⟨Z5 (b:=true) 5 107 rfl (tr rfl (congrArg _ hb11)) (by decide),rfl⟩) (l9:=(Zb 21 255)) (by kernel_rfl) (Zo Zu 8 undef rfl rfl (by kernel_rfl) (hM11 8 rfl) (fun w_=>.inr ⟨Z5 (b:=true) 5 107 rfl (tr rfl (congrArg _ hb11)) (by decide),rfl⟩) (l9:=(Zb 21 511)) (by kernel_rfl) (Zo Zu 9 undef rfl rfl (by kernel_rfl) (hM11 9 rfl) (fun w_=>.inr ⟨Z5 (b:=true) 5 107 rfl (tr rfl (congrArg _ hb11)) (by decide),rfl⟩) (l9:=(Zb 21 1023)) (by kernel_rfl) (Zo Zu 10 undef rfl rfl (by kernel_rfl) (hM11 10 rfl) (fun w_=>.inr ⟨Z5 (b:=true) 5 107 rfl (tr rfl (congrArg _ hb11)) (by decide),rfl⟩) (l9:=(Zb 21 2047)) (by kernel_rfl) (Zo Zu 11 undef rfl rfl (by kernel_rfl) (hM11 11 rfl) (fun w_=>.inr ⟨Z5 (b:=true) 5 107 rfl (tr rfl (congrArg _ hb11)) (by decide),rfl⟩) (l9:=(Zb 21 4095)) (by kernel_rfl) (Zo Zu 12 undef rfl rfl (by kernel_rfl) (hM11 12 rfl) (fun w_=>.inr ⟨Z5 (b:=true) 5 107 rfl (tr rfl (congrArg _ hb11)) (by decide),rfl⟩) (l9:=(Zb 21 8191)) (by kernel_rfl) (Zo Zu 13 undef rfl rfl (by kernel_rfl) (hM11 13 rfl) (fun w_=>.inr ⟨Z5 (b:=true) 5 107 rfl (tr rfl (congrArg _ hb11)) (by decide),rfl⟩) (l9:=(Zb 21 16383)) (by kernel_rfl) ?_)))))))
        refine Zo Zu 14 undef rfl rfl (by kernel_rfl) (hM11 14 rfl) (fun w_=>.inr ⟨Z5 (b:=true) 5 107 rfl (tr rfl (congrArg _ hb11)) (by decide),rfl⟩) (l9:=(Zb 21 32767)) (by kernel_rfl) (Zo Zu 15 undef rfl rfl (by kernel_rfl) (hM11 15 rfl) (fun w_=>.inr ⟨Z5 (b:=true) 5 107 rfl (tr rfl (congrArg _ hb11)) (by decide),rfl⟩) (l9:=(Zb 21 65535)) (by kernel_rfl) (Zo Zu 16 undef rfl rfl (by kernel_rfl) (hM11 16 rfl) (fun w_=>.inr ⟨Z5 (b:=true) 5 107 rfl (tr rfl (congrArg _ hb11)) (by decide),rfl⟩) (l9:=(Zb 21 131071)) (by kernel_rfl) (Zo Zu 17 undef rfl rfl (by kernel_rfl) (hM11 17 rfl) (fun w_=>.inr ⟨Z5 (b:=true) 5 107 rfl (tr rfl (congrArg _ hb11)) (by decide),rfl⟩) (l9:=(Zb 21 262143)) (by kernel_rfl) (Z7 18 (by decide) (by decide) (by kernel_rfl) (by kernel_rfl) rfl (Zi (b:=true) 5 107 rfl (tr rfl (congrArg _ hb11)) (by decide) (Z3 (v:=.bool true) (b:=true) (tr rfl (congrArg _ hb11)) rfl (Zc (v:=.bool true) rfl (done (Z8 ?_)))))))))
        exact⟨rfl,_,rfl,true,(sl ⟨rfl,rfl,rfl,rfl,rfl,rfl,rfl,rfl,trivial⟩),hC,h⟩
       ·replace h:=Zh h (cf hb11)
        refine aF 6 (.pointer (some ⟨b10,0,none⟩)) rfl rfl (hM11 6 rfl) (Z9 5 107 rfl rfl hb11) (fun _=>by exact Yi 0 ZAh rfl sc42.size rfl rfl) (Zb 21 127) (aL 7 (u1_0) rfl rfl (hM13 7 rfl) (Z9 5 107 rfl rfl hb11) (fun _ hB_=>by exact Yc (hC.grow hB_) 3 (u1_0) rfl sc42 rfl rfl) (Zb 21 255) (aF 8 (.int .i64 s10.2.2) rfl rfl (hM11 8 rfl) (Z9 5 107 rfl rfl hb11) (fun _=>by exact Zs (v:=.int .i64 s10.2.2) rfl) (Zb 21 511) ?_))
        obtain ⟨⟨h16,h17⟩,h⟩:=h
        obtain ⟨Ad12,c18,hv13⟩:=Z6 (hC.getP 0 rfl) s10.2.2.toNat (show s10.2.2.toNat < a1.terms.length by omega)
        refine aL 9 (.pointer (some (Ad12.add (s10.2.2.toNat * 9)))) rfl rfl (hM13 9 rfl) (Z9 5 107 rfl rfl hb11) (fun _ hB_=>by exact Y2 (len:=a1.terms.length) ZAj ag49.size (by exact tr rfl hv13) rfl h16 h17) (Zb 21 1023) (aF 10 (.pointer (some (Ad12.add (s10.2.2.toNat * 9+0)))) rfl rfl (hM11 10 rfl) (Z9 5 107 rfl rfl hb11) (fun _=>by exact Jv (s10.2.2.toNat * 9+0) ZAr rfl ag47.size rfl rfl) (Zb 21 2047) (aL 11 (.agg (ZAa (Zz8 .u8 ((a1.terms.getD s10.2.2.toNat Zsn).mono)))) rfl rfl (hM13 11 rfl) (Z9 5 107 rfl rfl hb11) (fun _ hB_=>by exact Xs (Zz8 .u8 ((a1.terms.getD s10.2.2.toNat Zsn).mono)) (X6 (o:=0) (k:=8) (Yj ((hC.grow hB_).getP 0 rfl) hv13 s10.2.2.toNat (show s10.2.2.toNat < a1.terms.length by omega)) rfl) ag47 rfl rfl) (Zb 21 4095) (aF 12 (.pointer (some ⟨b7,0,none⟩)) rfl rfl (hM11 12 rfl) (Z9 5 107 rfl rfl hb11) (fun _=>by exact Yi 0 ZAh rfl sc42.size rfl rfl) (Zb 21 8191) (aL 13 (u0_0) rfl rfl (hM13 13 rfl) (Z9 5 107 rfl rfl hb11) (fun _ hB_=>by exact Yc (hC.grow hB_) 4 (u0_0) rfl sc42 rfl rfl) (Zb 21 16383) (aF 14 (.int .i64 s10.2.1) rfl rfl (hM11 14 rfl) (Z9 5 107 rfl rfl hb11) (fun _=>by exact Zs (v:=.int .i64 s10.2.1) rfl) (Zb 21 32767) ?_)))))
        obtain ⟨⟨h18,h19⟩,h⟩:=h
        obtain ⟨Ad13,c19,hv14⟩:=Z6 (hC.getP 1 rfl) s10.2.1.toNat (show s10.2.1.toNat < a0.terms.length by omega)
        refine aL 15 (.pointer (some (Ad13.add (s10.2.1.toNat * 9)))) rfl rfl (hM13 15 rfl) (Z9 5 107 rfl rfl hb11) (fun _ hB_=>by exact Y2 (len:=a0.terms.length) ZAj ag49.size (by exact tr rfl hv14) rfl h18 h19) (Zb 21 65535) (aF 16 (.pointer (some (Ad13.add (s10.2.1.toNat * 9+0)))) rfl rfl (hM11 16 rfl) (Z9 5 107 rfl rfl hb11) (fun _=>by exact Jv (s10.2.1.toNat * 9+0) ZAr rfl ag47.size rfl rfl) (Zb 21 131071) (aL 17 (.agg (ZAa (Zz8 .u8 ((a0.terms.getD s10.2.1.toNat Zsn).mono)))) rfl rfl (hM13 17 rfl) (Z9 5 107 rfl rfl hb11) (fun _ hB_=>by exact Xs (Zz8 .u8 ((a0.terms.getD s10.2.1.toNat Zsn).mono)) (X6 (o:=0) (k:=8) (Yj ((hC.grow hB_).getP 1 rfl) hv14 s10.2.1.toNat (show s10.2.1.toNat < a0.terms.length by omega)) rfl) ag47 rfl rfl) (Zb 21 262143) (Z7 18 (by decide) (by decide) (by kernel_rfl) (by kernel_rfl) rfl (Zj 5 107 rfl rfl hb11 ?_))))
        refine Zk [.agg (ZAa (Zz8 .u8 ((a1.terms.getD s10.2.2.toNat Zsn).mono))),.agg (ZAa (Zz8 .u8 ((a0.terms.getD s10.2.1.toNat Zsn).mono)))] _ ZBa rfl rfl rfl (Zhb ((a1.terms.getD s10.2.2.toNat Zsn).mono) ((a0.terms.getD s10.2.1.toNat Zsn).mono) h _) (fun ret11 w24 hR11=>?_)
        obtain ⟨r13,rfl,h,hB11⟩:=hR11
        refine⟨_,rfl,?_⟩
        replace hC:=hC.grow hB11
        refine Z3 (v:=.bool r13) (b:=false) (tr rfl (congrArg _ hb11)) rfl (Zc (v:=.bool r13) rfl (done (Z8 ?_)))
        exact⟨rfl,_,rfl,r13,(sl ⟨rfl,rfl,rfl,rfl,rfl,rfl,rfl,rfl,trivial⟩),hC,h⟩
      ·clear hC h
       rintro e_ w25 ⟨x12,hS_,hC,h⟩
       replace h:=hj12 _ h
       rw [ue hS_]
       refine Zd ?_
       refine Zr rfl (fun hb16=>?_) (fun hb16=>?_)
       ·replace h:=ift h (hb16)
        refine ZAc (sr (Za (v:=.int .i64 a2) rfl (Zx 0 ZAh rfl sc42.size rfl rfl (Z0 hC 3 (u1_0) rfl sc42 rfl rfl (Za (v:=.int .i64 s10.2.2) rfl ?_)))))
        obtain ⟨⟨h20,h21⟩,h⟩:=h
        obtain ⟨Ad24,c20,hv15⟩:=Z6 (hC.getP 0 rfl) s10.2.2.toNat (show s10.2.2.toNat < a1.terms.length by omega)
        refine Yv (len:=a1.terms.length) ZAj ag49.size (tr rfl hv15) rfl h20 h21 (Zby (s10.2.2.toNat * 9+8) ZAr rfl sc2.size rfl rfl (Xy (.int .i64 ((a1.terms.getD s10.2.2.toNat Zsn).factor)) (X6 (o:=8) (k:=1) (Yj (hC.getP 0 rfl) hv15 s10.2.2.toNat (show s10.2.2.toNat < a1.terms.length by omega)) rfl) sc2 rfl (Zaw rfl rfl ?_)))
        refine Zk [.int .i64 (Zu2.wrap (a2 * ((a1.terms.getD s10.2.2.toNat Zsn).factor)))] _ ZAz rfl rfl rfl (Za0 (Zu2.wrap (a2 * ((a1.terms.getD s10.2.2.toNat Zsn).factor))) h _) (fun ret12 w26 hR12=>?_)
        obtain ⟨r10,rfl,h,hB12⟩:=hR12
        refine⟨_,rfl,?_⟩
        replace hC:=hC.grow hB12
        refine Zc (v:=.int .i64 r10) rfl (dn (sr (Za (v:=.int .i64 r10) rfl (Y0 rfl rfl (dn ?_)))))
        refine Zr rfl (fun hb17=>?_) (fun hb17=>?_)
        ·replace h:=ift h (ct hb17)
         refine Yq 11 mixed [0,1,0,4,0,28,60,124,0,508,1020,2047,4095,8191] [1,3,5,7,9] [0,2,4,6,8] (by kernel_rfl) (by kernel_rfl) (by kernel_rfl) (fun hM16 hM17 w27 hB_=>?_)
         replace hC:=hC.grow hB_
         refine aF 0 (.pointer (some ⟨b11,0,none⟩)) rfl rfl (hM17 0 rfl) (rfl) (fun _=>by exact Yi 0 ZAh rfl sc42.size rfl rfl) (Zb 14 1) (aL 1 (v10) rfl rfl (hM16 1 rfl) (rfl) (fun _ hB_=>by exact Yc (hC.grow hB_) 1 (v10) rfl sc42 rfl rfl) (Zb 14 3) (aF 2 (.pointer (some ⟨b10,0,none⟩)) rfl rfl (hM17 2 rfl) (rfl) (fun _=>by exact Yi 0 ZAh rfl sc42.size rfl rfl) (Zb 14 7) (aL 3 (u1_0) rfl rfl (hM16 3 rfl) (rfl) (fun _ hB_=>by exact Yc (hC.grow hB_) 3 (u1_0) rfl sc42 rfl rfl) (Zb 14 15) (aF 4 (.int .i64 s10.2.2) rfl rfl (hM17 4 rfl) (rfl) (fun _=>by exact Zs (v:=.int .i64 s10.2.2) rfl) (Zb 14 31) ?_))))
         obtain ⟨⟨h22,h23⟩,h⟩:=h
         obtain ⟨Ad14,c21,hv16⟩:=Z6 (hC.getP 0 rfl) s10.2.2.toNat (show s10.2.2.toNat < a1.terms.length by omega)
         refine aL 5 (.pointer (some (Ad14.add (s10.2.2.toNat * 9)))) rfl rfl (hM16 5 rfl) (rfl) (fun _ hB_=>by exact Y2 (len:=a1.terms.length) ZAj ag49.size (by exact tr rfl hv16) rfl h22 h23) (Zb 14 63) (aF 6 (.pointer (some (Ad14.add (s10.2.2.toNat * 9+0)))) rfl rfl (hM17 6 rfl) (rfl) (fun _=>by exact Jv (s10.2.2.toNat * 9+0) ZAr rfl ag47.size rfl rfl) (Zb 14 127) (aL 7 (.agg (ZAa (Zz8 .u8 ((a1.terms.getD s10.2.2.toNat Zsn).mono)))) rfl rfl (hM16 7 rfl) (rfl) (fun _ hB_=>by exact Xs (Zz8 .u8 ((a1.terms.getD s10.2.2.toNat Zsn).mono)) (X6 (o:=0) (k:=8) (Yj ((hC.grow hB_).getP 0 rfl) hv16 s10.2.2.toNat (show s10.2.2.toNat < a1.terms.length by omega)) rfl) ag47 rfl rfl) (Zb 14 255) (aF 8 (.int .i64 r10) rfl rfl (hM17 8 rfl) (rfl) (fun _=>by exact Zs (v:=.int .i64 r10) rfl) (Zb 14 511) (aL 9 (.agg (ZAa (ZAn (⟨(a1.terms.getD s10.2.2.toNat Zsn).mono,r10⟩:Term)))) rfl rfl (hM16 9 rfl) (rfl) (fun _ hB_=>by exact Zgj [(0,.agg (ZAa (Zz8 .u8 ((a1.terms.getD s10.2.2.toNat Zsn).mono)))),(1,.int .i64 r10)] rfl (Zfk ((a1.terms.getD s10.2.2.toNat Zsn).mono) r10  _)) (Zb 14 1023) (aO 10 rfl (Jq (sz:=9) hC [(0,.agg (ZAa (ZAn (⟨(a1.terms.getD s10.2.2.toNat Zsn).mono,r10⟩:Term))))] (ZAb.encs [(⟨(a1.terms.getD s10.2.2.toNat Zsn).mono,r10⟩:Term)]) rfl (fun _=>Zb9 (⟨(a1.terms.getD s10.2.2.toNat Zsn).mono,r10⟩:Term) _) rfl (by decide) fun b14 w28 hB_ hC=>?_))))))
         refine done (aK (by assumption) (Zb 14 2047) (Z7 11 (by decide) (by decide) (by kernel_rfl) (by kernel_rfl) rfl ?_))
         obtain ⟨hm11,h⟩:=h
         refine Zay hC 1 ZAj Zca rfl (by decide) (by decide) rfl (J7 (hC.getM 0 rfl)) (fun q hq=>ZBc (E:=ETerm) _ q hq) rfl rfl hm11 fun v12 w29 hC=>?_
         replace hC:=Js hC 1 ((s10.1++[(⟨(a1.terms.getD s10.2.2.toNat Zsn).mono,r10⟩:Term)]).length) (ZAb.encs (s10.1++[(⟨(a1.terms.getD s10.2.2.toNat Zsn).mono,r10⟩:Term)])) rfl (by simp) (by first | (simp [ZA1]; done) | simp [ZA1,Enc.encs])
         refine Zx 0 ZAh rfl sc42.size rfl rfl (Zy (v:=v12) hC 2 [v12] [v12] rfl sc42.size rfl rfl (Zbd (hC.getM 1 rfl)) rfl (Y4 (Xe (hC.getM 1 rfl)) rfl) (ZAe rfl) rfl fun w30 hC=>done (Z8 (Zd (Zn (Za (v:=.int .i64 s10.2.2) rfl (Zp rfl rfl (Zc (v:=.int .i64 (Zu2.wrap (s10.2.2+1))) rfl (done (Zt (Zt ?_))))))))))
         replace hC:=hC.sM [1,2,3,4,5] (M':=[own 49 9 v12 ((s10.1++[(⟨(a1.terms.getD s10.2.2.toNat Zsn).mono,r10⟩:Term)]).length) (ZAb.encs (s10.1++[(⟨(a1.terms.getD s10.2.2.toNat Zsn).mono,r10⟩:Term)])),blk b11 44 [v12],blk b12 44 [.slice none 0 0],blk b10 44 [u1_0],blk b7 44 [u0_0]]) (by decide) rfl
         exact hK10 (s10.1++[(⟨(a1.terms.getD s10.2.2.toNat Zsn).mono,r10⟩:Term)],s10.2.1,Zu2.wrap (s10.2.2+1)) _ _ ⟨v12,(sl ⟨rfl,rfl,rfl,rfl,rfl,rfl,rfl,trivial⟩),hC⟩ h
        ·replace h:=Zh h (cf hb17)
         refine ZAg (Zd (Zn (Za (v:=.int .i64 s10.2.2) rfl (Zp rfl rfl (Zc (v:=.int .i64 (Zu2.wrap (s10.2.2+1))) rfl (done (Zt (Zt ?_))))))))
         exact hK10 (s10.1,s10.2.1,Zu2.wrap (s10.2.2+1)) _ _ ⟨v10,(sl ⟨rfl,rfl,rfl,rfl,rfl,rfl,rfl,trivial⟩),hC⟩ h
       ·replace h:=Zh h (Yw hb16)
        refine ZAc (ZAc ?_)
        refine Yq 15 mixed [0,1,0,7,15,31,0,0,128,0,896,1920,3968,8128,16320,32767,65535,131071] [1,3,5,8,10,12] [0,2,4,6,7,9,11,13] (by kernel_rfl) (by kernel_rfl) (by kernel_rfl) (fun hM15 hM14 w31 hB_=>?_)
        replace hC:=hC.grow hB_
        refine aF 0 (.pointer (some ⟨b7,0,none⟩)) rfl rfl (hM14 0 rfl) (rfl) (fun _=>by exact Yi 0 ZAh rfl sc42.size rfl rfl) (Zb 18 1) (aL 1 (u0_0) rfl rfl (hM15 1 rfl) (rfl) (fun _ hB_=>by exact Yc (hC.grow hB_) 4 (u0_0) rfl sc42 rfl rfl) (Zb 18 3) (aF 2 (.int .i64 s10.2.1) rfl rfl (hM14 2 rfl) (rfl) (fun _=>by exact Zs (v:=.int .i64 s10.2.1) rfl) (Zb 18 7) ?_))
        obtain ⟨⟨h24,h25⟩,h⟩:=h
        obtain ⟨Ad15,c22,hv17⟩:=Z6 (hC.getP 1 rfl) s10.2.1.toNat (show s10.2.1.toNat < a0.terms.length by omega)
        refine aL 3 (.pointer (some (Ad15.add (s10.2.1.toNat * 9)))) rfl rfl (hM15 3 rfl) (rfl) (fun _ hB_=>by exact Y2 (len:=a0.terms.length) ZAj ag49.size (by exact tr rfl hv17) rfl h24 h25) (Zb 18 15) (aF 4 (.pointer (some (Ad15.add (s10.2.1.toNat * 9+8)))) rfl rfl (hM14 4 rfl) (rfl) (fun _=>by exact Jv (s10.2.1.toNat * 9+8) ZAr rfl sc2.size rfl rfl) (Zb 18 31) (aL 5 (.int .i64 ((a0.terms.getD s10.2.1.toNat Zsn).factor)) rfl rfl (hM15 5 rfl) (rfl) (fun _ hB_=>by exact J9 (.int .i64 ((a0.terms.getD s10.2.1.toNat Zsn).factor)) (X6 (o:=8) (k:=1) (Yj ((hC.grow hB_).getP 1 rfl) hv17 s10.2.1.toNat (show s10.2.1.toNat < a0.terms.length by omega)) rfl) sc2 rfl) (Zb 18 63) (aF 6 (.int .i64 a2) rfl rfl (hM14 6 rfl) (rfl) (fun _=>by exact Zs (v:=.int .i64 a2) rfl) (Zb 18 127) (aF 7 (.pointer (some ⟨b10,0,none⟩)) rfl rfl (hM14 7 rfl) (rfl) (fun _=>by exact Yi 0 ZAh rfl sc42.size rfl rfl) (Zb 18 255) (aL 8 (u1_0) rfl rfl (hM15 8 rfl) (rfl) (fun _ hB_=>by exact Yc (hC.grow hB_) 3 (u1_0) rfl sc42 rfl rfl) (Zb 18 511) (aF 9 (.int .i64 s10.2.2) rfl rfl (hM14 9 rfl) (rfl) (fun _=>by exact Zs (v:=.int .i64 s10.2.2) rfl) (Zb 18 1023) ?_))))))
        obtain ⟨⟨h26,h27⟩,h⟩:=h
        obtain ⟨Ad16,c23,hv18⟩:=Z6 (hC.getP 0 rfl) s10.2.2.toNat (show s10.2.2.toNat < a1.terms.length by omega)
        refine aL 10 (.pointer (some (Ad16.add (s10.2.2.toNat * 9)))) rfl rfl (hM15 10 rfl) (rfl) (fun _ hB_=>by exact Y2 (len:=a1.terms.length) ZAj ag49.size (by exact tr rfl hv18) rfl h26 h27) (Zb 18 2047) (aF 11 (.pointer (some (Ad16.add (s10.2.2.toNat * 9+8)))) rfl rfl (hM14 11 rfl) (rfl) (fun _=>by exact Jv (s10.2.2.toNat * 9+8) ZAr rfl sc2.size rfl rfl) (Zb 18 4095) (aL 12 (.int .i64 ((a1.terms.getD s10.2.2.toNat Zsn).factor)) rfl rfl (hM15 12 rfl) (rfl) (fun _ hB_=>by exact J9 (.int .i64 ((a1.terms.getD s10.2.2.toNat Zsn).factor)) (X6 (o:=8) (k:=1) (Yj ((hC.grow hB_).getP 0 rfl) hv18 s10.2.2.toNat (show s10.2.2.toNat < a1.terms.length by omega)) rfl) sc2 rfl) (Zb 18 8191) (aF 13 (.int .i64 (Zu2.wrap (a2 * ((a1.terms.getD s10.2.2.toNat Zsn).factor)))) rfl rfl (hM14 13 rfl) (rfl) (fun _=>by exact Zc1 rfl rfl) (Zb 18 16383) (aO 14 rfl ?_))))
        refine Zk [.int .i64 (Zu2.wrap (a2 * ((a1.terms.getD s10.2.2.toNat Zsn).factor)))] _ ZAz rfl rfl rfl (Za0 (Zu2.wrap (a2 * ((a1.terms.getD s10.2.2.toNat Zsn).factor))) h _) (fun ret13 w32 hR13=>?_)
        obtain ⟨r14,rfl,h,hB13⟩:=hR13
        refine⟨_,rfl,?_⟩
        replace hC:=hC.grow hB13
        refine done (aK (by assumption) (Zb 18 32767) (Z7 15 (by decide) (by decide) (by kernel_rfl) (by kernel_rfl) rfl (Zp rfl rfl ?_)))
        refine Zk [.int .i64 (Zu2.wrap (((a0.terms.getD s10.2.1.toNat Zsn).factor)+r14))] _ ZAz rfl rfl rfl (Za0 (Zu2.wrap (((a0.terms.getD s10.2.1.toNat Zsn).factor)+r14)) h _) (fun ret14 w33 hR14=>?_)
        obtain ⟨r11,rfl,h,hB14⟩:=hR14
        refine⟨_,rfl,?_⟩
        replace hC:=hC.grow hB14
        refine Zc (v:=.int .i64 r11) rfl (done (Z8 (Zd (sr (Za (v:=.int .i64 r11) rfl (Y0 rfl rfl (dn ?_)))))))
        refine Zr rfl (fun hb18=>?_) (fun hb18=>?_)
        ·replace h:=ift h (ct hb18)
         refine Yq 11 mixed [0,1,0,4,0,28,60,124,0,508,1020,2047,4095,8191] [1,3,5,7,9] [0,2,4,6,8] (by kernel_rfl) (by kernel_rfl) (by kernel_rfl) (fun hM18 hM19 w34 hB_=>?_)
         replace hC:=hC.grow hB_
         refine aF 0 (.pointer (some ⟨b11,0,none⟩)) rfl rfl (hM19 0 rfl) (rfl) (fun _=>by exact Yi 0 ZAh rfl sc42.size rfl rfl) (Zb 14 1) (aL 1 (v10) rfl rfl (hM18 1 rfl) (rfl) (fun _ hB_=>by exact Yc (hC.grow hB_) 1 (v10) rfl sc42 rfl rfl) (Zb 14 3) (aF 2 (.pointer (some ⟨b7,0,none⟩)) rfl rfl (hM19 2 rfl) (rfl) (fun _=>by exact Yi 0 ZAh rfl sc42.size rfl rfl) (Zb 14 7) (aL 3 (u0_0) rfl rfl (hM18 3 rfl) (rfl) (fun _ hB_=>by exact Yc (hC.grow hB_) 4 (u0_0) rfl sc42 rfl rfl) (Zb 14 15) (aF 4 (.int .i64 s10.2.1) rfl rfl (hM19 4 rfl) (rfl) (fun _=>by exact Zs (v:=.int .i64 s10.2.1) rfl) (Zb 14 31) ?_))))
         obtain ⟨⟨h28,h29⟩,h⟩:=h
         obtain ⟨Ad17,c24,hv19⟩:=Z6 (hC.getP 1 rfl) s10.2.1.toNat (show s10.2.1.toNat < a0.terms.length by omega)
         refine aL 5 (.pointer (some (Ad17.add (s10.2.1.toNat * 9)))) rfl rfl (hM18 5 rfl) (rfl) (fun _ hB_=>by exact Y2 (len:=a0.terms.length) ZAj ag49.size (by exact tr rfl hv19) rfl h28 h29) (Zb 14 63) (aF 6 (.pointer (some (Ad17.add (s10.2.1.toNat * 9+0)))) rfl rfl (hM19 6 rfl) (rfl) (fun _=>by exact Jv (s10.2.1.toNat * 9+0) ZAr rfl ag47.size rfl rfl) (Zb 14 127) (aL 7 (.agg (ZAa (Zz8 .u8 ((a0.terms.getD s10.2.1.toNat Zsn).mono)))) rfl rfl (hM18 7 rfl) (rfl) (fun _ hB_=>by exact Xs (Zz8 .u8 ((a0.terms.getD s10.2.1.toNat Zsn).mono)) (X6 (o:=0) (k:=8) (Yj ((hC.grow hB_).getP 1 rfl) hv19 s10.2.1.toNat (show s10.2.1.toNat < a0.terms.length by omega)) rfl) ag47 rfl rfl) (Zb 14 255) (aF 8 (.int .i64 r11) rfl rfl (hM19 8 rfl) (rfl) (fun _=>by exact Zs (v:=.int .i64 r11) rfl) (Zb 14 511) (aL 9 (.agg (ZAa (ZAn (⟨(a0.terms.getD s10.2.1.toNat Zsn).mono,r11⟩:Term)))) rfl rfl (hM18 9 rfl) (rfl) (fun _ hB_=>by exact Zgj [(0,.agg (ZAa (Zz8 .u8 ((a0.terms.getD s10.2.1.toNat Zsn).mono)))),(1,.int .i64 r11)] rfl (Zfk ((a0.terms.getD s10.2.1.toNat Zsn).mono) r11  _)) (Zb 14 1023) (aO 10 rfl (Jq (sz:=9) hC [(0,.agg (ZAa (ZAn (⟨(a0.terms.getD s10.2.1.toNat Zsn).mono,r11⟩:Term))))] (ZAb.encs [(⟨(a0.terms.getD s10.2.1.toNat Zsn).mono,r11⟩:Term)]) rfl (fun _=>Zb9 (⟨(a0.terms.getD s10.2.1.toNat Zsn).mono,r11⟩:Term) _) rfl (by decide) fun b15 w35 hB_ hC=>?_))))))
         refine done (aK (by assumption) (Zb 14 2047) (Z7 11 (by decide) (by decide) (by kernel_rfl) (by kernel_rfl) rfl ?_))
         obtain ⟨hm12,h⟩:=h
         refine Zay hC 1 ZAj Zca rfl (by decide) (by decide) rfl (J7 (hC.getM 0 rfl)) (fun q hq=>ZBc (E:=ETerm) _ q hq) rfl rfl hm12 fun v13 w36 hC=>?_
         replace hC:=Js hC 1 ((s10.1++[(⟨(a0.terms.getD s10.2.1.toNat Zsn).mono,r11⟩:Term)]).length) (ZAb.encs (s10.1++[(⟨(a0.terms.getD s10.2.1.toNat Zsn).mono,r11⟩:Term)])) rfl (by simp) (by first | (simp [ZA1]; done) | simp [ZA1,Enc.encs])
         refine Zx 0 ZAh rfl sc42.size rfl rfl (Zy (v:=v13) hC 2 [v13] [v13] rfl sc42.size rfl rfl (Zbd (hC.getM 1 rfl)) rfl (Y4 (Xe (hC.getM 1 rfl)) rfl) (ZAe rfl) rfl fun w37 hC=>done (Z8 (Zd (sr (Za (v:=.int .i64 s10.2.1) rfl (Zp rfl rfl (Zc (v:=.int .i64 (Zu2.wrap (s10.2.1+1))) rfl (dn (Zn (Za (v:=.int .i64 s10.2.2) rfl ?_))))))))))
         refine Zp rfl rfl (Zc (v:=.int .i64 (Zu2.wrap (s10.2.2+1))) rfl (done (Zt (Zt ?_))))
         replace hC:=hC.sM [1,2,3,4,5] (M':=[own 49 9 v13 ((s10.1++[(⟨(a0.terms.getD s10.2.1.toNat Zsn).mono,r11⟩:Term)]).length) (ZAb.encs (s10.1++[(⟨(a0.terms.getD s10.2.1.toNat Zsn).mono,r11⟩:Term)])),blk b11 44 [v13],blk b12 44 [.slice none 0 0],blk b10 44 [u1_0],blk b7 44 [u0_0]]) (by decide) rfl
         exact hK10 (s10.1++[(⟨(a0.terms.getD s10.2.1.toNat Zsn).mono,r11⟩:Term)],Zu2.wrap (s10.2.1+1),Zu2.wrap (s10.2.2+1)) _ _ ⟨v13,(sl ⟨rfl,rfl,rfl,rfl,rfl,rfl,rfl,trivial⟩),hC⟩ h
        ·replace h:=Zh h (cf hb18)
         refine ZAg (Zd (sr (Za (v:=.int .i64 s10.2.1) rfl (Zp rfl rfl (Zc (v:=.int .i64 (Zu2.wrap (s10.2.1+1))) rfl (dn (Zn (Za (v:=.int .i64 s10.2.2) rfl (Zp rfl rfl (Zc (v:=.int .i64 (Zu2.wrap (s10.2.2+1))) rfl (done ?_)))))))))))
         refine Zt (Zt ?_)
         exact hK10 (s10.1,Zu2.wrap (s10.2.1+1),Zu2.wrap (s10.2.2+1)) _ _ ⟨v10,(sl ⟨rfl,rfl,rfl,rfl,rfl,rfl,rfl,trivial⟩),hC⟩ h
   ·replace h:=Zh h (Yw hb14)
    refine ZAt (Zl (Zl (Z4 ?_)))
    refine Zd (sr (Yl hC 1 [v10] rfl ag44 rfl rfl rfl (Zy (v:=.agg #[v10]) hC 2 [v10] [v10] rfl ag44.size rfl rfl rfl rfl (Y4 (Xe (hC.getM 0 rfl)) rfl) (ZAe rfl) rfl fun w38 hC=>dn (ZAk ?_))))
    refine Zg (fn:=Try.f53) rfl ?_ ⟨(⟨s10.1⟩:ZAd),v10,(ZA7 (Zth v10)),rfl,h,(Zaj (Jw (hC.getM 0 rfl))),(Zaf hC 0 rfl),hC.below⟩ (.inl rfl)
    exact X9 hC 2 rfl ag44 rfl rfl
 ·skip
  replace hC:=hC.pushNil 49 9
  exact⟨.slice none 0 0,(sl ⟨rfl,rfl,rfl,rfl,rfl,rfl,rfl,trivial⟩),hC⟩
def Zdd (a0:List Int) (a1:A8) (a2:A8) (K:A8→Int→Prop):Prop :=
 Yh (fun i10 (s11:A8×Int) nx10=>((0≤(i10:Int)∧(i10:Int) < 8)∧((0≤(i10:Int)∧(i10:Int) < 8)∧((0≤(i10:Int)∧(i10:Int) < 8)∧(if Ztb (a0.getD i10 Zsn) 2=0 then nx10 (s11.1.set i10 (ZAm.wrap ((a1.get i10)+(a2.get i10))),s11.2) else((0≤(i10:Int)∧(i10:Int) < 8)∧(if(s11.1.set i10 (ZAm.wrap ((a1.get i10)+(a2.get i10)))).get i10 > 1 then K ZAi 0 else Xa (fun (s10:Int×Int) nx11=>(if s10.1 < (a0.length:Int) then((0≤(i10:Int)∧(i10:Int) < 8)∧(if a2.get i10=1 then((0≤s10.1∧s10.1 < (a0.length:Int))∧(if Ztb (a0.getD s10.1.toNat Zsn) 2≠0 then((0≤s10.1∧s10.1 < 8)∧(if a1.get s10.1.toNat=1 then nx11 (Zu2.wrap (s10.1+1),Zu2.wrap (0 - s10.2)) else nx11 (Zu2.wrap (s10.1+1),s10.2))) else nx11 (Zu2.wrap (s10.1+1),s10.2))) else nx10 (s11.1.set i10 (ZAm.wrap ((a1.get i10)+(a2.get i10))),s10.2))) else nx10 (s11.1.set i10 (ZAm.wrap ((a1.get i10)+(a2.get i10))),s10.2))) (Zu2.wrap ((i10:Int)+1),s11.2)))))))) (fun (s11:A8×Int)=>K s11.1 s11.2) a0.length 0 (ZAi,1)
theorem Zje (a0 : List Int) (a1 : A8) (a2 : A8) {u0_0 : Value} {fp0 : List Nat} {K : A8 → Int → Prop} (h : Zdd a0 a1 a2 K) (w0 : World) (q0 : ((EI .i64).ty.sl).rep a0 [u0_0] fp0 w0) :
  Calls ZAf 93 #[u0_0,.agg (ZAa (Zz8 .u8 a1)),.agg (ZAa (Zz8 .u8 a2))] w0 fun e w'=>∃ (r0:A8) (r1:Int),
   e=.returned (.tuple #[.agg (ZAa (Zz8 .u8 r0)),.int .i64 r1])∧K r0 r1∧Bel w0 w':=by
 unfold Zdd at h
 refine Zz (args:=[u0_0,.agg (ZAa (Zz8 .u8 a1)),.agg (ZAa (Zz8 .u8 a2))]) Try.func93 rfl 69 Try.ntmps93 (ZAe rfl) ?_
 have hC:=ZAv (X:=Nox) w0 [Zz9 ((EI .i64).ty.sl) a0 [u0_0] fp0] (by simp only [Zsj,Zur,or_false,forall_eq_or_imp,forall_eq]; exact q0)
 refine sr (Yg (v:=.agg (ZAa (Zz8 .u8 a1))) hC (Zz8 .u8 a1) rfl rfl fun b2 w4 hB_ hC=>Yg (v:=.agg (ZAa (Zz8 .u8 a2))) hC (Zz8 .u8 a2) rfl rfl fun b5 w7 hB_ hC=>Ye hC (Zz8 .u8 ZAi) z47 rfl fun b8 w10 hB_ hC=>Zc (v:=.int .i64 0) rfl (dn (sr (Jl [] rfl (Zg8   _) (Ye hC (Zz8 .u8 ZAi) z47 rfl fun b10 w11 hB_ hC=>Zy (v:=.agg (ZAa (Zz8 .u8 ZAi))) hC 0 (Zz8 .u8 ZAi) (Zz8 .u8 ZAi) rfl ag47.size rfl rfl rfl rfl rfl (ZAe rfl) rfl fun w12 hC=>Zc (v:=.int .i64 1) rfl (dn ?_))))))
 refine ZAc (sr (Zc (v:=.int .i64 0) rfl (dn (ZAl ?_))))
 have hN10:a0.length≤9223372036854775807:=Y9 (hC.getP 0 rfl)
 refine Yp (S:=A8×Int) _ _ (fun i10 s11 e_ w_=>Z1 e_ [(0,u0_0),(4,.pointer (some ⟨b2,0,none⟩)),(5,.pointer (some ⟨b5,0,none⟩)),(6,.pointer (some ⟨b8,0,none⟩)),(8,.pointer (some ⟨b10,0,none⟩)),(9,.int .i64 s11.2),(10,.int .i64 (i10:Int))]∧Ctx Nox w0 w_ [blk b10 47 (Zz8 .u8 s11.1),blk b8 47 (Zz8 .u8 ZAi),blk b5 47 (Zz8 .u8 a2),blk b2 47 (Zz8 .u8 a1)] [Zz9 ((EI .i64).ty.sl) a0 [u0_0] fp0]) a0.length ?_ ?_ (s0:=(ZAi,1)) ?_ h
 ·clear hC h
  rintro i10 s11 e_ w13 nx10 K10 hi10 ⟨hS_,hC⟩ h hK10
  rw [ue hS_]
  refine ZAc (sr (Za (v:=.int .i64 (i10:Int)) rfl (Za (v:=u0_0) rfl ?_)))
  obtain ⟨Ad10,c10,hv12⟩:=Zw (hC.getP 0 rfl)
  refine Zv ZAu (tr rfl hv12) (Zq rfl rfl (dn (Yf rfl (decide_eq_true (by omega)) (ZAg (Zd (ZAc (ZAl (ZAc ?_))))))))
  refine Yq 8 mixed [0,0,2,6,0,16,48,126,255,511] [2,3,5,6] [0,1,4,7] (by kernel_rfl) (by kernel_rfl) (by kernel_rfl) (fun hM10 hM11 w14 hB_=>?_)
  replace hC:=hC.grow hB_
  refine aF 0 (.int .i64 (i10:Int)) rfl rfl (hM11 0 rfl) (rfl) (fun _=>by exact Zs (v:=.int .i64 (i10:Int)) rfl) (Zb 10 1) (aF 1 (.int .i64 (i10:Int)) rfl rfl (hM11 1 rfl) (rfl) (fun _=>by exact Zs (v:=.int .i64 (i10:Int)) rfl) (Zb 10 3) ?_)
  obtain ⟨⟨h10,h11⟩,h⟩:=h
  refine aL 2 (.pointer (some ⟨b2,i10,none⟩)) rfl rfl (hM10 2 rfl) (rfl) (fun _ hB_=>by exact X8 i10 ZAp sc5.size rfl rfl h10 h11 (by omega)) (Zb 10 7) (aL 3 (.int .u8 (a1.get i10)) rfl rfl (hM10 3 rfl) (rfl) (fun _ hB_=>by exact Yc (hC.grow hB_) 3 (.int .u8 (a1.get i10)) rfl sc5 rfl (ZAw _ _ (show i10 < 8 by omega))) (Zb 10 15) (aF 4 (.int .i64 (i10:Int)) rfl rfl (hM11 4 rfl) (rfl) (fun _=>by exact Zs (v:=.int .i64 (i10:Int)) rfl) (Zb 10 31) ?_))
  obtain ⟨⟨h12,h13⟩,h⟩:=h
  refine aL 5 (.pointer (some ⟨b5,i10,none⟩)) rfl rfl (hM10 5 rfl) (rfl) (fun _ hB_=>by exact X8 i10 ZAp sc5.size rfl rfl h12 h13 (by omega)) (Zb 10 63) (aL 6 (.int .u8 (a2.get i10)) rfl rfl (hM10 6 rfl) (rfl) (fun _ hB_=>by exact Yc (hC.grow hB_) 2 (.int .u8 (a2.get i10)) rfl sc5 rfl (ZAw _ _ (show i10 < 8 by omega))) (Zb 10 127) (aF 7 (.int .u8 (ZAm.wrap ((a1.get i10)+(a2.get i10)))) rfl rfl (hM11 7 rfl) (rfl) (fun _=>by exact Zh1 rfl rfl) (Zb 10 255) (Z7 8 (by decide) (by decide) (by kernel_rfl) (by kernel_rfl) rfl ?_)))
  obtain ⟨⟨h14,h15⟩,h⟩:=h
  refine Y1 i10 ZAp sc5.size rfl rfl h14 h15 (by omega) (Zy (v:=.int .u8 (ZAm.wrap ((a1.get i10)+(a2.get i10)))) hC 0 [.int .u8 (ZAm.wrap ((a1.get i10)+(a2.get i10)))] (Zz8 .u8 (s11.1.set i10 (ZAm.wrap ((a1.get i10)+(a2.get i10))))) rfl sc5.size rfl rfl rfl rfl rfl (show i10 < 8 by omega) (ZA5 _ _ _ (show i10 < 8 by omega)) fun w15 hC=>done (Z8 (Zd (ZAc (sr (Za (v:=u0_0) rfl (Za (v:=.int .i64 (i10:Int)) rfl ?_)))))))
  obtain ⟨Ad11,c11,hv10⟩:=Z6 (hC.getP 0 rfl) i10 hi10
  refine Yv (len:=a0.length) ZAu sc2.size (tr rfl hv10) rfl (ZAx _) (ZBk.2 hi10) (Xy (.int .i64 (a0.getD i10 Zsn)) (Yj (hC.getP 0 rfl) hv10 i10 hi10) sc2 rfl (Jf rfl rfl (by decide) (Ji rfl rfl (dn ?_))))
  refine Zr rfl (fun hb12=>?_) (fun hb12=>?_)
  ·replace h:=ift h (ct hb12)
   refine ZAt (Zl (Z4 ?_))
   refine Zd (Zn (Za (v:=.int .i64 (i10:Int)) rfl (Zp rfl rfl (Zc (v:=.int .i64 (Zu2.wrap ((i10:Int)+1))) rfl (done ?_)))))
   exact hK10 (s11.1.set i10 (ZAm.wrap ((a1.get i10)+(a2.get i10))),s11.2) _ _ ⟨(sl ⟨rfl,rfl,rfl,rfl,rfl,rfl,(tr rfl (congrArg _ (Yb hi10 hN10))),trivial⟩),hC⟩ h
  ·replace h:=Zh h (cf hb12)
   refine ZAg (Zd (ZAc (sr (Za (v:=.int .i64 (i10:Int)) rfl ?_))))
   obtain ⟨⟨h16,h17⟩,h⟩:=h
   refine Y1 i10 ZAp sc5.size rfl rfl h16 h17 (by omega) (Z0 hC 0 (.int .u8 ((s11.1.set i10 (ZAm.wrap ((a1.get i10)+(a2.get i10)))).get i10)) rfl sc5 rfl (ZAw _ _ (show i10 < 8 by omega)) (Jg rfl rfl (dn ?_)))
   refine Zr rfl (fun hb13=>?_) (fun hb13=>?_)
   ·replace h:=ift h (ct hb13)
    refine sr (Jl [] rfl (Zg8   _) (Zy (v:=.agg (ZAa (Zz8 .u8 ZAi))) hC 1 (Zz8 .u8 ZAi) (Zz8 .u8 ZAi) rfl ag47.size rfl rfl rfl rfl rfl (ZAe rfl) rfl fun w16 hC=>Zc (v:=.int .i64 0) rfl (dn ?_)))
    refine ZAk (Ze (Z2 (Ze (Ze (Z2 (Ze ?_))))))
    refine Jj (fn:=Try.f93) rfl ?_ ?_ ⟨ZAi,0,rfl,h,hC.below⟩ (.inl rfl)
    ·exact X9 hC 1 rfl ag47 rfl rfl
    ·exact Zf rfl
   ·replace h:=Zh h (cf hb13)
    refine ZAg (Zd (sr (Za (v:=.int .i64 (i10:Int)) rfl (Zp rfl rfl (Zc (v:=.int .i64 (Zu2.wrap ((i10:Int)+1))) rfl (dn (ZAl ?_)))))))
    refine Xq (S:=Int×Int) _ (fun s10 e_ w_=>Z1 e_ [(0,u0_0),(4,.pointer (some ⟨b2,0,none⟩)),(5,.pointer (some ⟨b5,0,none⟩)),(6,.pointer (some ⟨b8,0,none⟩)),(8,.pointer (some ⟨b10,0,none⟩)),(9,.int .i64 s10.2),(10,.int .i64 (i10:Int)),(11,.int .i64 s10.1)]∧Ctx Nox w0 w_ [blk b10 47 (Zz8 .u8 (s11.1.set i10 (ZAm.wrap ((a1.get i10)+(a2.get i10))))),blk b8 47 (Zz8 .u8 ZAi),blk b5 47 (Zz8 .u8 a2),blk b2 47 (Zz8 .u8 a1)] [Zz9 ((EI .i64).ty.sl) a0 [u0_0] fp0]) ?_ (s0:=(Zu2.wrap ((i10:Int)+1),s11.2)) ?_ h
    ·clear hC h
     rintro s10 e_ w17 nx11 K11 ⟨hS_,hC⟩ h hK11
     rw [ue hS_]
     refine ZAc (sr (Za (v:=.int .i64 s10.1) rfl (Za (v:=u0_0) rfl ?_)))
     obtain ⟨Ad12,c12,hv13⟩:=Zw (hC.getP 0 rfl)
     refine Zv ZAu (tr rfl hv13) (Zq rfl rfl (Za (v:=.bool (decide (s10.1 < (a0.length:Int)))) rfl ?_))
     refine Yy (decide (s10.1 < (a0.length:Int))) (fun hb10=>?_) (fun hb10=>?_)
     ·replace h:=ift h (ct hb10)
      refine Zj 4 45 rfl rfl hb10 (Za (v:=.int .i64 (i10:Int)) rfl (Zj 4 45 rfl rfl hb10 ?_))
      obtain ⟨⟨h18,h19⟩,h⟩:=h
      refine Y1 i10 ZAp sc5.size rfl rfl h18 h19 (by omega) (Zj 4 45 rfl rfl hb10 (Z0 hC 2 (.int .u8 (a2.get i10)) rfl sc5 rfl (ZAw _ _ (show i10 < 8 by omega)) (Zj 4 45 rfl rfl hb10 (Ji rfl rfl (Z3 (v:=.bool (decide (a2.get i10=1))) (b:=true) (tr rfl (congrArg _ hb10)) rfl (dn ?_))))))
      refine Zr rfl (fun hb14=>?_) (fun hb14=>?_)
      ·replace h:=ift h (ct hb14)
       refine ZAg (Zd (ZAc (ZAl (sr (Za (v:=u0_0) rfl (Za (v:=.int .i64 s10.1) rfl ?_))))))
       obtain ⟨⟨h20,h21⟩,h⟩:=h
       obtain ⟨Ad13,c13,hv11⟩:=Z6 (hC.getP 0 rfl) s10.1.toNat (show s10.1.toNat < a0.length by omega)
       refine Yv (len:=a0.length) ZAu sc2.size (tr rfl hv11) rfl h20 h21 (Xy (.int .i64 (a0.getD s10.1.toNat Zsn)) (Yj (hC.getP 0 rfl) hv11 s10.1.toNat (show s10.1.toNat < a0.length by omega)) sc2 rfl (Jf rfl rfl (by decide) (Y0 rfl rfl (Za (v:=.bool (decide (Ztb (a0.getD s10.1.toNat Zsn) 2≠0))) rfl ?_))))
       refine Yy (decide (Ztb (a0.getD s10.1.toNat Zsn) 2≠0)) (fun hb11=>?_) (fun hb11=>?_)
       ·replace h:=ift h (ct hb11)
        refine Zj 6 59 rfl rfl hb11 (Za (v:=.int .i64 s10.1) rfl (Zj 6 59 rfl rfl hb11 ?_))
        obtain ⟨⟨h22,h23⟩,h⟩:=h
        refine Y1 s10.1.toNat ZAp sc5.size rfl rfl h22 h23 (by omega) (Zj 6 59 rfl rfl hb11 (Z0 hC 3 (.int .u8 (a1.get s10.1.toNat)) rfl sc5 rfl (ZAw _ _ (show s10.1.toNat < 8 by omega)) (Zj 6 59 rfl rfl hb11 (Ji rfl rfl (Z3 (v:=.bool (decide (a1.get s10.1.toNat=1))) (b:=true) (tr rfl (congrArg _ hb11)) rfl (dn ?_))))))
        refine Zr rfl (fun hb15=>?_) (fun hb15=>?_)
        ·replace h:=ift h (ct hb15)
         refine Zn (Za (v:=.int .i64 s10.2) rfl (Zep rfl (Zc (v:=.int .i64 (Zu2.wrap (0 - s10.2))) rfl (done (Zt (Zd (Zn (Za (v:=.int .i64 s10.1) rfl (Zp rfl rfl (Zc (v:=.int .i64 (Zu2.wrap (s10.1+1))) rfl (done ?_)))))))))))
         exact hK11 (Zu2.wrap (s10.1+1),Zu2.wrap (0 - s10.2)) _ _ ⟨(sl ⟨rfl,rfl,rfl,rfl,rfl,rfl,rfl,rfl,trivial⟩),hC⟩ h
        ·replace h:=Zh h (cf hb15)
         refine ZAg (Zt (Zd (Zn (Za (v:=.int .i64 s10.1) rfl (Zp rfl rfl (Zc (v:=.int .i64 (Zu2.wrap (s10.1+1))) rfl (done ?_)))))))
         exact hK11 (Zu2.wrap (s10.1+1),s10.2) _ _ ⟨(sl ⟨rfl,rfl,rfl,rfl,rfl,rfl,rfl,rfl,trivial⟩),hC⟩ h
       ·replace h:=Zh h (cf hb11)
        refine Zi (b:=false) 6 59 rfl (tr rfl (congrArg _ hb11)) (by decide) (Zi (b:=false) 6 59 rfl (tr rfl (congrArg _ hb11)) (by decide) (Zi (b:=false) 6 59 rfl (tr rfl (congrArg _ hb11)) (by decide) (Zi (b:=false) 6 59 rfl (tr rfl (congrArg _ hb11)) (by decide) (Z3 (v:=.bool false) (b:=false) (tr rfl (congrArg _ hb11)) rfl (dn (Yd rfl rfl (ZAg (Zt (Zd (Zn (Za (v:=.int .i64 s10.1) rfl ?_)))))))))))
        refine Zp rfl rfl (Zc (v:=.int .i64 (Zu2.wrap (s10.1+1))) rfl (done ?_))
        exact hK11 (Zu2.wrap (s10.1+1),s10.2) _ _ ⟨(sl ⟨rfl,rfl,rfl,rfl,rfl,rfl,rfl,rfl,trivial⟩),hC⟩ h
      ·replace h:=Zh h (cf hb14)
       refine ZAt (Zl (Zl (Z4 ?_)))
       refine Zt (Zd (Zn (Za (v:=.int .i64 (i10:Int)) rfl (Zp rfl rfl (Zc (v:=.int .i64 (Zu2.wrap ((i10:Int)+1))) rfl (done ?_))))))
       exact hK10 (s11.1.set i10 (ZAm.wrap ((a1.get i10)+(a2.get i10))),s10.2) _ _ ⟨(sl ⟨rfl,rfl,rfl,rfl,rfl,rfl,(tr rfl (congrArg _ (Yb hi10 hN10))),trivial⟩),hC⟩ h
     ·replace h:=Zh h (cf hb10)
      refine Zi (b:=false) 4 45 rfl (tr rfl (congrArg _ hb10)) (by decide) (Zi (b:=false) 4 45 rfl (tr rfl (congrArg _ hb10)) (by decide) (Zi (b:=false) 4 45 rfl (tr rfl (congrArg _ hb10)) (by decide) (Zi (b:=false) 4 45 rfl (tr rfl (congrArg _ hb10)) (by decide) (Z3 (v:=.bool false) (b:=false) (tr rfl (congrArg _ hb10)) rfl (dn (Yd rfl rfl ?_))))))
      refine ZAt (Zl (Zl (Z4 ?_)))
      refine Zt (Zd (Zn (Za (v:=.int .i64 (i10:Int)) rfl (Zp rfl rfl (Zc (v:=.int .i64 (Zu2.wrap ((i10:Int)+1))) rfl (done ?_))))))
      exact hK10 (s11.1.set i10 (ZAm.wrap ((a1.get i10)+(a2.get i10))),s10.2) _ _ ⟨(sl ⟨rfl,rfl,rfl,rfl,rfl,rfl,(tr rfl (congrArg _ (Yb hi10 hN10))),trivial⟩),hC⟩ h
    ·skip
     exact⟨(sl ⟨rfl,rfl,rfl,rfl,rfl,rfl,rfl,rfl,trivial⟩),hC⟩
 ·clear hC h
  rintro s11 e_ w18 K10 ⟨hS_,hC⟩ h
  rw [ue hS_]
  refine ZAc (sr (Za (v:=.int .i64 (a0.length:Int)) rfl (Za (v:=u0_0) rfl ?_)))
  obtain ⟨Ad14,c14,hv14⟩:=Zw (hC.getP 0 rfl)
  refine Zv ZAu (tr rfl hv14) (Zq rfl rfl (dn (Yd rfl (decide_eq_false (by omega)) ?_)))
  refine ZAt (Zl (Zl (Z4 ?_)))
  refine Zd (sr (Yl hC 0 (Zz8 .u8 s11.1) rfl ag47 rfl rfl rfl (Za (v:=.int .i64 s11.2) rfl (Zy (v:=.agg (ZAa (Zz8 .u8 s11.1))) hC 1 (Zz8 .u8 s11.1) (Zz8 .u8 s11.1) rfl ag47.size rfl rfl rfl rfl rfl (ZAe rfl) rfl fun w19 hC=>Zc (v:=.int .i64 s11.2) rfl (dn (ZAk ?_))))))
  refine Jj (fn:=Try.f93) rfl ?_ ?_ ⟨s11.1,s11.2,rfl,h,hC.below⟩ (.inl rfl)
  ·exact X9 hC 1 rfl ag47 rfl rfl
  ·exact Zf rfl
 ·skip
  exact⟨(sl ⟨rfl,rfl,rfl,rfl,rfl,rfl,rfl,trivial⟩),hC⟩
def Zde (a0:List Int) (a1:Term) (a2:ZAd) (K:ZAd→Prop):Prop :=
 Xa (fun (s10:(List Term)×Int) nx10=>(if s10.2 < (a2.terms.length:Int) then((0≤s10.2∧s10.2 < (a2.terms.length:Int))∧Zdd a0 a1.mono ((a2.terms.getD s10.2.toNat Zsn).mono) (fun r13 r14=>(if r14≠0 then((0≤s10.2∧s10.2 < (a2.terms.length:Int))∧Xu (Zu2.wrap ((Zu2.wrap (r14 * a1.factor)) * ((a2.terms.getD s10.2.toNat Zsn).factor))) (fun r11=>(Xf (s10.1.length+1) 16∧nx10 (s10.1++[(⟨r13,r11⟩:Term)],Zu2.wrap (s10.2+1))))) else nx10 (s10.1,Zu2.wrap (s10.2+1))))) else K (⟨s10.1⟩:ZAd))) ([],0)
theorem Znp (a0:List Int) (a1:Term) (a2:ZAd) {u0_0:Value} {u2_0:Value} {fp0:List Nat} {fp2:List Nat} {K:ZAd→Prop} (h:Zde a0 a1 a2 K) (w0:World) (q0:((EI .i64).ty.sl).rep a0 [u0_0] fp0 w0) (q2:ZAq.rep a2 [u2_0] fp2 w0) :
  Calls ZAf 77 #[u0_0,.agg (ZAa (ZAn a1)),.agg #[u2_0]] w0 fun e w'=>∃ (r0:ZAd) (z0_0:Value) (fz0:List Nat),
   e=.returned (.agg #[z0_0])∧K r0∧(ZAo (Ya 49) r0 [z0_0] fz0).holds w'∧(∀ b,b∈fz0→w0.heap.size≤b)∧Bel w0 w':=by
 unfold Zde at h
 refine Zz (args:=[u0_0,.agg (ZAa (ZAn a1)),.agg #[u2_0]]) Try.func77 rfl 54 Try.ntmps77 (ZAe rfl) ?_
 have hC:=ZAv (X:=Nox) w0 [Zz9 ((EI .i64).ty.sl) a0 [u0_0] fp0,Zz9 TForm a2 [u2_0] fp2] (by simp only [Zsj,Zur,or_false,forall_eq_or_imp,forall_eq]; exact⟨q0,q2⟩)
 have hp3:=(hC.getP 1 rfl)
 replace hC:=hC.derive 1 rfl (Zz9 ZAb.ty.sl a2.terms [u2_0] fp2) (fun _=>(Yx hp3)) (fun _ hb_=>hb_)
 refine sr (Yg (v:=.agg (ZAa (ZAn a1))) hC (ZAn a1) rfl rfl fun b5 w7 hB_ hC=>Yg (v:=.agg #[u2_0]) hC [u2_0] rfl rfl fun b8 w10 hB_ hC=>Ye hC [.slice none 0 0] z44 rfl fun b11 w11 hB_ hC=>dn (sr (Jl [] rfl (Zb8   _) (Ye hC [.slice none 0 0] z44 rfl fun b10 w12 hB_ hC=>Zy (v:=.agg #[.slice none 0 0]) hC 0 [.slice none 0 0] [.slice none 0 0] rfl ag44.size rfl rfl rfl rfl rfl (ZAe rfl) rfl fun w13 hC=>dn (ZAc (sr ?_))))))
 refine Zc (v:=.int .i64 0) rfl (dn (ZAl ?_))
 refine Xq (S:=(List Term)×Int) _ (fun s10 e_ w_=>∃ (v10:Value),Z1 e_ [(0,u0_0),(4,.pointer (some ⟨b5,0,none⟩)),(5,.pointer (some ⟨b8,0,none⟩)),(6,.pointer (some ⟨b11,0,none⟩)),(7,.pointer (some ⟨b10,0,none⟩)),(8,.int .i64 s10.2)]∧Ctx Nox w0 w_ [own 49 9 v10 s10.1.length (ZAb.encs s10.1),blk b10 44 [v10],blk b11 44 [.slice none 0 0],blk b8 44 [u2_0],blk b5 49 (ZAn a1)] [Zz9 ZAb.ty.sl a2.terms [u2_0] fp2,Zz9 ((EI .i64).ty.sl) a0 [u0_0] fp0,Zz9 TForm a2 [u2_0] fp2]) ?_ (s0:=([],0)) ?_ h
 ·clear hC h
  rintro s10 e_ w14 nx10 K10 ⟨v10,hS_,hC⟩ h hK10
  rw [ue hS_]
  refine ZAc (sr (Za (v:=.int .i64 s10.2) rfl (Zx 0 ZAh rfl sc42.size rfl rfl (Z0 hC 3 (u2_0) rfl sc42 rfl rfl ?_))))
  obtain ⟨Ad12,c10,hv12⟩:=Zw (hC.getP 0 rfl)
  refine Zv ZAj (tr rfl hv12) (Zq rfl rfl (dn ?_))
  refine Zr rfl (fun hb10=>?_) (fun hb10=>?_)
  ·replace h:=ift h (ct hb10)
   refine ZAg (Zd (ZAc (ZAl (ZAc ?_))))
   refine Yq 14 mixed [0,0,2,0,8,0,56,120,248,511,1023,2047,2047,0,12287,32767] [2,4,6,8] [0,1,3,5,7,10,11,12] (by kernel_rfl) (by kernel_rfl) (by kernel_rfl) (fun hM13 hM10 w15 hB_=>?_)
   replace hC:=hC.grow hB_
   refine aF 0 (u0_0) rfl rfl (hM10 0 rfl) (rfl) (fun _=>by exact Zs (v:=u0_0) rfl) (Zb 16 1) (aF 1 (.pointer (some ⟨b5,0,none⟩)) rfl rfl (hM10 1 rfl) (rfl) (fun _=>by exact Yi 0 ZAr rfl ag47.size rfl rfl) (Zb 16 3) (aL 2 (.agg (ZAa (Zz8 .u8 a1.mono))) rfl rfl (hM13 2 rfl) (rfl) (fun _ hB_=>by exact Y8 (hC.grow hB_) 4 (Zz8 .u8 a1.mono) rfl ag47 rfl rfl rfl) (Zb 16 7) (aF 3 (.pointer (some ⟨b8,0,none⟩)) rfl rfl (hM10 3 rfl) (rfl) (fun _=>by exact Yi 0 ZAh rfl sc42.size rfl rfl) (Zb 16 15) (aL 4 (u2_0) rfl rfl (hM13 4 rfl) (rfl) (fun _ hB_=>by exact Yc (hC.grow hB_) 3 (u2_0) rfl sc42 rfl rfl) (Zb 16 31) (aF 5 (.int .i64 s10.2) rfl rfl (hM10 5 rfl) (rfl) (fun _=>by exact Zs (v:=.int .i64 s10.2) rfl) (Zb 16 63) ?_)))))
   obtain ⟨⟨h10,h11⟩,h⟩:=h
   obtain ⟨Ad10,c11,hv10⟩:=Z6 (hC.getP 0 rfl) s10.2.toNat (show s10.2.toNat < a2.terms.length by omega)
   refine aL 6 (.pointer (some (Ad10.add (s10.2.toNat * 9)))) rfl rfl (hM13 6 rfl) (rfl) (fun _ hB_=>by exact Y2 (len:=a2.terms.length) ZAj ag49.size (by exact tr rfl hv10) rfl h10 h11) (Zb 16 127) (aF 7 (.pointer (some (Ad10.add (s10.2.toNat * 9+0)))) rfl rfl (hM10 7 rfl) (rfl) (fun _=>by exact Jv (s10.2.toNat * 9+0) ZAr rfl ag47.size rfl rfl) (Zb 16 255) (aL 8 (.agg (ZAa (Zz8 .u8 ((a2.terms.getD s10.2.toNat Zsn).mono)))) rfl rfl (hM13 8 rfl) (rfl) (fun _ hB_=>by exact Xs (Zz8 .u8 ((a2.terms.getD s10.2.toNat Zsn).mono)) (X6 (o:=0) (k:=8) (Yj ((hC.grow hB_).getP 0 rfl) hv10 s10.2.toNat (show s10.2.toNat < a2.terms.length by omega)) rfl) ag47 rfl rfl) (Zb 16 511) ?_))
   refine Zc4 (fun e_ w_=>∃ (b12:Nat),∃ (r10:A8),∃ (r12:Int),Z1 e_ [(0,u0_0),(4,.pointer (some ⟨b5,0,none⟩)),(5,.pointer (some ⟨b8,0,none⟩)),(6,.pointer (some ⟨b11,0,none⟩)),(7,.pointer (some ⟨b10,0,none⟩)),(8,.int .i64 s10.2),(9,.pointer (some ⟨b12,0,none⟩)),(10,.int .i64 r12)]∧Ctx Nox w0 w_ [blk b12 47 (Zz8 .u8 r10),own 49 9 v10 s10.1.length (ZAb.encs s10.1),blk b10 44 [v10],blk b11 44 [.slice none 0 0],blk b8 44 [u2_0],blk b5 49 (ZAn a1)] [Zz9 ZAb.ty.sl a2.terms [u2_0] fp2,Zz9 ((EI .i64).ty.sl) a0 [u0_0] fp0,Zz9 TForm a2 [u2_0] fp2]∧(if r12≠0 then((0≤s10.2∧s10.2 < (a2.terms.length:Int))∧Xu (Zu2.wrap ((Zu2.wrap (r12 * a1.factor)) * ((a2.terms.getD s10.2.toNat Zsn).factor))) (fun r11=>(Xf (s10.1.length+1) 16∧nx10 (s10.1++[(⟨r10,r11⟩:Term)],Zu2.wrap (s10.2+1))))) else nx10 (s10.1,Zu2.wrap (s10.2+1)))) ?_ ?_
   ·clear hC h
    rintro e_ w16 ⟨b12,r10,r12,hS_,hC,h⟩
    rw [ue hS_]
    refine Zd (sr (Za (v:=.int .i64 r12) rfl (Y0 rfl rfl (dn ?_))))
    refine Zr rfl (fun hb11=>?_) (fun hb11=>?_)
    ·replace h:=ift h (ct hb11)
     refine Yq 17 mixed [0,1,0,0,0,16,56,0,128,0,896,1920,3968,8184,16376,32764,65532,131071,262143,524287] [1,2,5,8,10,12,15] [0,3,4,6,7,9,11,13] (by kernel_rfl) (by kernel_rfl) (by kernel_rfl) (fun hM12 hM11 w17 hB_=>?_)
     replace hC:=hC.grow hB_
     refine aF 0 (.pointer (some ⟨b10,0,none⟩)) rfl rfl (hM11 0 rfl) (rfl) (fun _=>by exact Yi 0 ZAh rfl sc42.size rfl rfl) (Zb 20 1) (aL 1 (v10) rfl rfl (hM12 1 rfl) (rfl) (fun _ hB_=>by exact Yc (hC.grow hB_) 2 (v10) rfl sc42 rfl rfl) (Zb 20 3) (aL 2 (.agg (ZAa (Zz8 .u8 r10))) rfl rfl (hM12 2 rfl) (rfl) (fun _ hB_=>by exact Y8 (hC.grow hB_) 0 (Zz8 .u8 r10) rfl ag47 rfl rfl rfl) (Zb 20 7) (aF 3 (.int .i64 r12) rfl rfl (hM11 3 rfl) (rfl) (fun _=>by exact Zs (v:=.int .i64 r12) rfl) (Zb 20 15) (aF 4 (.pointer (some ⟨b5,8,none⟩)) rfl rfl (hM11 4 rfl) (rfl) (fun _=>by exact Yi 8 ZAr rfl sc2.size rfl rfl) (Zb 20 31) (aL 5 (.int .i64 a1.factor) rfl rfl (hM12 5 rfl) (rfl) (fun _ hB_=>by exact Yc (hC.grow hB_) 5 (.int .i64 a1.factor) rfl sc2 rfl rfl) (Zb 20 63) (aF 6 (.int .i64 (Zu2.wrap (r12 * a1.factor))) rfl rfl (hM11 6 rfl) (rfl) (fun _=>by exact Zc1 rfl rfl) (Zb 20 127) (aF 7 (.pointer (some ⟨b8,0,none⟩)) rfl rfl (hM11 7 rfl) (rfl) (fun _=>by exact Yi 0 ZAh rfl sc42.size rfl rfl) (Zb 20 255) (aL 8 (u2_0) rfl rfl (hM12 8 rfl) (rfl) (fun _ hB_=>by exact Yc (hC.grow hB_) 4 (u2_0) rfl sc42 rfl rfl) (Zb 20 511) (aF 9 (.int .i64 s10.2) rfl rfl (hM11 9 rfl) (rfl) (fun _=>by exact Zs (v:=.int .i64 s10.2) rfl) (Zb 20 1023) ?_)))))))))
     obtain ⟨⟨h12,h13⟩,h⟩:=h
     obtain ⟨Ad11,c12,hv11⟩:=Z6 (hC.getP 0 rfl) s10.2.toNat (show s10.2.toNat < a2.terms.length by omega)
     refine aL 10 (.pointer (some (Ad11.add (s10.2.toNat * 9)))) rfl rfl (hM12 10 rfl) (rfl) (fun _ hB_=>by exact Y2 (len:=a2.terms.length) ZAj ag49.size (by exact tr rfl hv11) rfl h12 h13) (Zb 20 2047) (aF 11 (.pointer (some (Ad11.add (s10.2.toNat * 9+8)))) rfl rfl (hM11 11 rfl) (rfl) (fun _=>by exact Jv (s10.2.toNat * 9+8) ZAr rfl sc2.size rfl rfl) (Zb 20 4095) (aL 12 (.int .i64 ((a2.terms.getD s10.2.toNat Zsn).factor)) rfl rfl (hM12 12 rfl) (rfl) (fun _ hB_=>by exact J9 (.int .i64 ((a2.terms.getD s10.2.toNat Zsn).factor)) (X6 (o:=8) (k:=1) (Yj ((hC.grow hB_).getP 0 rfl) hv11 s10.2.toNat (show s10.2.toNat < a2.terms.length by omega)) rfl) sc2 rfl) (Zb 20 8191) (aF 13 (.int .i64 (Zu2.wrap ((Zu2.wrap (r12 * a1.factor)) * ((a2.terms.getD s10.2.toNat Zsn).factor)))) rfl rfl (hM11 13 rfl) (rfl) (fun _=>by exact Zc1 rfl rfl) (Zb 20 16383) (aO 14 rfl ?_))))
     refine Zk [.int .i64 (Zu2.wrap ((Zu2.wrap (r12 * a1.factor)) * ((a2.terms.getD s10.2.toNat Zsn).factor)))] _ ZAz rfl rfl rfl (Za0 (Zu2.wrap ((Zu2.wrap (r12 * a1.factor)) * ((a2.terms.getD s10.2.toNat Zsn).factor))) h _) (fun ret10 w18 hR10=>?_)
     obtain ⟨r11,rfl,h,hB10⟩:=hR10
     refine⟨_,rfl,?_⟩
     replace hC:=hC.grow hB10
     refine done (aK (by assumption) (Zb 20 32767) (aL 15 (.agg (ZAa (ZAn (⟨r10,r11⟩:Term)))) rfl rfl (hM12 15 rfl) (rfl) (fun _ hB_=>by exact Zgj [(0,.agg (ZAa (Zz8 .u8 r10))),(1,.int .i64 r11)] rfl (Zfk r10 r11  _)) (Zb 20 65535) (aO 16 rfl (Jq (sz:=9) hC [(0,.agg (ZAa (ZAn (⟨r10,r11⟩:Term))))] (ZAb.encs [(⟨r10,r11⟩:Term)]) rfl (fun _=>Zb9 (⟨r10,r11⟩:Term) _) rfl (by decide) fun b15 w19 hB_ hC=>done (aK (by assumption) (Zb 20 131071) (Z7 17 (by decide) (by decide) (by kernel_rfl) (by kernel_rfl) rfl ?_))))))
     obtain ⟨hm10,h⟩:=h
     refine Zay hC 2 ZAj Zca rfl (by decide) (by decide) rfl (J7 (hC.getM 0 rfl)) (fun q hq=>ZBc (E:=ETerm) _ q hq) rfl rfl hm10 fun v11 w20 hC=>?_
     replace hC:=Js hC 2 ((s10.1++[(⟨r10,r11⟩:Term)]).length) (ZAb.encs (s10.1++[(⟨r10,r11⟩:Term)])) rfl (by simp) (by first | (simp [ZA1]; done) | simp [ZA1,Enc.encs])
     refine Zx 0 ZAh rfl sc42.size rfl rfl (Zy (v:=v11) hC 3 [v11] [v11] rfl sc42.size rfl rfl (Zbd (hC.getM 2 rfl)) rfl (Y4 (Xe (hC.getM 2 rfl)) rfl) (ZAe rfl) rfl fun w21 hC=>done (Z8 (Zt (Zd (Zn (Za (v:=.int .i64 s10.2) rfl (Zp rfl rfl (Zc (v:=.int .i64 (Zu2.wrap (s10.2+1))) rfl (done ?_)))))))))
     replace hC:=hC.sM [2,3,4,5,6] (M':=[own 49 9 v11 ((s10.1++[(⟨r10,r11⟩:Term)]).length) (ZAb.encs (s10.1++[(⟨r10,r11⟩:Term)])),blk b10 44 [v11],blk b11 44 [.slice none 0 0],blk b8 44 [u2_0],blk b5 49 (ZAn a1)]) (by decide) rfl
     exact hK10 (s10.1++[(⟨r10,r11⟩:Term)],Zu2.wrap (s10.2+1)) _ _ ⟨v11,(sl ⟨rfl,rfl,rfl,rfl,rfl,rfl,trivial⟩),hC⟩ h
    ·replace h:=Zh h (cf hb11)
     refine ZAg (Zt (Zd (Zn (Za (v:=.int .i64 s10.2) rfl (Zp rfl rfl (Zc (v:=.int .i64 (Zu2.wrap (s10.2+1))) rfl (done ?_)))))))
     replace hC:=hC.sM [1,2,3,4,5] (M':=[own 49 9 v10 s10.1.length (ZAb.encs s10.1),blk b10 44 [v10],blk b11 44 [.slice none 0 0],blk b8 44 [u2_0],blk b5 49 (ZAn a1)]) (by decide) rfl
     exact hK10 (s10.1,Zu2.wrap (s10.2+1)) _ _ ⟨v10,(sl ⟨rfl,rfl,rfl,rfl,rfl,rfl,trivial⟩),hC⟩ h
   refine Jm 9 13 rfl rfl (by kernel_rfl) ?_ ?_
   ·skip
    refine Zk [u0_0,.agg (ZAa (Zz8 .u8 a1.mono)),.agg (ZAa (Zz8 .u8 ((a2.terms.getD s10.2.toNat Zsn).mono)))] _ Try.func93 rfl rfl rfl (Zje a0 a1.mono ((a2.terms.getD s10.2.toNat Zsn).mono) h _ (hC.getP 1 rfl)) (fun ret11 w22 hR11=>?_)
    obtain ⟨r13,r14,rfl,h,hB11⟩:=hR11
    refine⟨_,rfl,?_⟩
    replace hC:=hC.grow hB11
    refine done (aK (by assumption) (Zb 16 1023) (aF 10 (.tuple #[.agg (ZAa (Zz8 .u8 r13)),.int .i64 r14]) rfl rfl (hM10 10 rfl) (rfl) (fun _=>by exact Zs (v:=.tuple #[.agg (ZAa (Zz8 .u8 r13)),.int .i64 r14]) rfl) (Zb 16 2047) (aF 11 (.agg (ZAa (Zz8 .u8 r13))) rfl rfl (hM10 11 rfl) (rfl) (fun _=>by exact Zbw (v:=.agg (ZAa (Zz8 .u8 r13))) rfl rfl) (Zb 16 4095) (aF 12 (.int .i64 r14) rfl rfl (hM10 12 rfl) (rfl) (fun _=>by exact Zbw (v:=.int .i64 r14) rfl rfl) (Zb 16 8191) (aO 13 rfl (Ye hC (Zz8 .u8 ZAi) z47 rfl fun b13 w23 hB_ hC=>done (aK (by assumption) (Zb 16 16383) (aO 14 rfl (Zy (v:=.agg (ZAa (Zz8 .u8 r13))) hC 0 (Zz8 .u8 r13) (Zz8 .u8 r13) rfl ag47.size rfl rfl rfl rfl rfl (ZAe rfl) rfl fun w24 hC=>done ?_)))))))))
    refine Zin (by decide) (l9:=(Zb 16 32767)) (by kernel_rfl) (Z7 15 (by decide) (by decide) (by kernel_rfl) (by kernel_rfl) rfl (Zc (v:=.int .i64 r14) rfl (done (Z8 ?_))))
    exact⟨rfl,_,rfl,⟨b13,r13,r14,(sl ⟨rfl,rfl,rfl,rfl,rfl,rfl,rfl,rfl,trivial⟩),hC,h⟩⟩
   ·skip
    refine Ye hC (Zz8 .u8 ZAi) z47 rfl fun b14 w25 hB_ hC=>done (aK (by assumption) (Zb 16 8703) (aO 9 rfl ?_))
    refine Zk [u0_0,.agg (ZAa (Zz8 .u8 a1.mono)),.agg (ZAa (Zz8 .u8 ((a2.terms.getD s10.2.toNat Zsn).mono)))] _ Try.func93 rfl rfl rfl (Zje a0 a1.mono ((a2.terms.getD s10.2.toNat Zsn).mono) h _ (hC.getP 1 rfl)) (fun ret12 w26 hR12=>?_)
    obtain ⟨r15,r16,rfl,h,hB12⟩:=hR12
    refine⟨_,rfl,?_⟩
    replace hC:=hC.grow hB12
    refine done (aK (by assumption) (Zb 16 9215) (aF 10 (.tuple #[.agg (ZAa (Zz8 .u8 r15)),.int .i64 r16]) rfl rfl (hM10 10 rfl) (rfl) (fun _=>by exact Zs (v:=.tuple #[.agg (ZAa (Zz8 .u8 r15)),.int .i64 r16]) rfl) (Zb 16 10239) (aF 11 (.agg (ZAa (Zz8 .u8 r15))) rfl rfl (hM10 11 rfl) (rfl) (fun _=>by exact Zbw (v:=.agg (ZAa (Zz8 .u8 r15))) rfl rfl) (Zb 16 12287) (aF 12 (.int .i64 r16) rfl rfl (hM10 12 rfl) (rfl) (fun _=>by exact Zbw (v:=.int .i64 r16) rfl rfl) (Zb 16 16383) (aO 14 rfl (Zy (v:=.agg (ZAa (Zz8 .u8 r15))) hC 0 (Zz8 .u8 r15) (Zz8 .u8 r15) rfl ag47.size rfl rfl rfl rfl rfl (ZAe rfl) rfl fun w27 hC=>done (Zin (by decide) (l9:=(Zb 16 32767)) (by kernel_rfl) (Z7 15 (by decide) (by decide) (by kernel_rfl) (by kernel_rfl) rfl (Zc (v:=.int .i64 r16) rfl (done ?_))))))))))
    refine Z8 ?_
    exact⟨rfl,_,rfl,⟨b14,r15,r16,(sl ⟨rfl,rfl,rfl,rfl,rfl,rfl,rfl,rfl,trivial⟩),hC,h⟩⟩
  ·replace h:=Zh h (cf hb10)
   refine ZAt (Zl (Zl (Z4 ?_)))
   refine Zd (sr (Yl hC 1 [v10] rfl ag44 rfl rfl rfl (Zy (v:=.agg #[v10]) hC 2 [v10] [v10] rfl ag44.size rfl rfl rfl rfl (Y4 (Xe (hC.getM 0 rfl)) rfl) (ZAe rfl) rfl fun w28 hC=>dn (ZAk ?_))))
   refine Zg (fn:=Try.f77) rfl ?_ ⟨(⟨s10.1⟩:ZAd),v10,(ZA7 (Zth v10)),rfl,h,(Zaj (Jw (hC.getM 0 rfl))),(Zaf hC 0 rfl),hC.below⟩ (.inl rfl)
   exact X9 hC 2 rfl ag44 rfl rfl
 ·skip
  replace hC:=hC.pushNil 49 9
  exact⟨.slice none 0 0,(sl ⟨rfl,rfl,rfl,rfl,rfl,rfl,trivial⟩),hC⟩
def Je (a0:List Int) (a1:ZAd) (a2:ZAd) (K:ZAd→Prop):Prop :=
 Xa (fun (s10:(List Term)×Int) nx10=>(if s10.2 < (a1.terms.length:Int) then((0≤s10.2∧s10.2 < (a1.terms.length:Int))∧Zde a0 (a1.terms.getD s10.2.toNat Zsn) a2 (fun r11=>Jx (⟨s10.1⟩:ZAd) r11 1 (fun r10=>nx10 (r10.terms,Zu2.wrap (s10.2+1))))) else K (⟨s10.1⟩:ZAd))) ([],0)
theorem Za1 (a0:List Int) (a1:ZAd) (a2:ZAd) {u0_0:Value} {u1_0:Value} {u2_0:Value} {fp0:List Nat} {fp1:List Nat} {fp2:List Nat} {K:ZAd→Prop} (h:Je a0 a1 a2 K) (w0:World) (q0:((EI .i64).ty.sl).rep a0 [u0_0] fp0 w0) (q1:ZAq.rep a1 [u1_0] fp1 w0) (q2:ZAq.rep a2 [u2_0] fp2 w0) :
  Calls ZAf 51 #[u0_0,.agg #[u1_0],.agg #[u2_0]] w0 fun e w'=>∃ (r0:ZAd) (z0_0:Value) (fz0:List Nat),
   e=.returned (.agg #[z0_0])∧K r0∧(ZAo (Ya 49) r0 [z0_0] fz0).holds w'∧(∀ b,b∈fz0→w0.heap.size≤b)∧Bel w0 w':=by
 unfold Je at h
 refine Zz (args:=[u0_0,.agg #[u1_0],.agg #[u2_0]]) ZA0 rfl 28 Try.ntmps51 (ZAe rfl) ?_
 have hC:=ZAv (X:=Nox) w0 [Zz9 ((EI .i64).ty.sl) a0 [u0_0] fp0,Zz9 TForm a1 [u1_0] fp1,Zz9 TForm a2 [u2_0] fp2] (by simp only [Zsj,Zur,or_false,forall_eq_or_imp,forall_eq]; exact⟨q0,q1,q2⟩)
 have hp4:=(hC.getP 1 rfl)
 replace hC:=hC.derive 1 rfl (Zz9 ZAb.ty.sl a1.terms [u1_0] fp1) (fun _=>(Yx hp4)) (fun _ hb_=>hb_)
 have hp6:=(hC.getP 3 rfl)
 replace hC:=hC.derive 3 rfl (Zz9 ZAb.ty.sl a2.terms [u2_0] fp2) (fun _=>(Yx hp6)) (fun _ hb_=>hb_)
 refine sr (Yg (v:=.agg #[u1_0]) hC [u1_0] rfl rfl fun b8 w10 hB_ hC=>Yg (v:=.agg #[u2_0]) hC [u2_0] rfl rfl fun b10 w11 hB_ hC=>Ye hC [.slice none 0 0] z44 rfl fun b11 w12 hB_ hC=>dn (sr (Jl [] rfl (Zb8   _) (Ye hC [.slice none 0 0] z44 rfl fun b12 w13 hB_ hC=>Zy (v:=.agg #[.slice none 0 0]) hC 0 [.slice none 0 0] [.slice none 0 0] rfl ag44.size rfl rfl rfl rfl rfl (ZAe rfl) rfl fun w14 hC=>dn (ZAc (sr ?_))))))
 refine Zc (v:=.int .i64 0) rfl (dn (ZAl ?_))
 refine Xq (S:=(List Term)×Int) _ (fun s10 e_ w_=>∃ (v10:Value),Z1 e_ [(0,u0_0),(4,.pointer (some ⟨b8,0,none⟩)),(5,.pointer (some ⟨b10,0,none⟩)),(6,.pointer (some ⟨b11,0,none⟩)),(7,.pointer (some ⟨b12,0,none⟩)),(8,.int .i64 s10.2)]∧Ctx Nox w0 w_ [own 49 9 v10 s10.1.length (ZAb.encs s10.1),blk b12 44 [v10],blk b11 44 [.slice none 0 0],blk b10 44 [u2_0],blk b8 44 [u1_0]] [Zz9 ZAb.ty.sl a2.terms [u2_0] fp2,Zz9 ZAb.ty.sl a1.terms [u1_0] fp1,Zz9 ((EI .i64).ty.sl) a0 [u0_0] fp0,Zz9 TForm a1 [u1_0] fp1,Zz9 TForm a2 [u2_0] fp2]) ?_ (s0:=([],0)) ?_ h
 ·clear hC h
  rintro s10 e_ w15 nx10 K10 ⟨v10,hS_,hC⟩ h hK10
  rw [ue hS_]
  refine ZAc (sr (Za (v:=.int .i64 s10.2) rfl (Zx 0 ZAh rfl sc42.size rfl rfl (Z0 hC 4 (u1_0) rfl sc42 rfl rfl ?_))))
  obtain ⟨Ad11,c10,hv11⟩:=Zw (hC.getP 1 rfl)
  refine Zv ZAj (tr rfl hv11) (Zq rfl rfl (dn ?_))
  refine Zr rfl (fun hb10=>?_) (fun hb10=>?_)
  ·replace h:=ift h (ct hb10)
   refine ZAg (Zd (ZAc (ZAl ?_)))
   refine Yq 9 mixed [0,0,0,4,0,28,60,0,254,511,1023] [0,3,5,6,7] [1,2,4] (by kernel_rfl) (by kernel_rfl) (by kernel_rfl) (fun hM10 hM11 w16 hB_=>?_)
   replace hC:=hC.grow hB_
   refine aL 0 (.agg #[v10]) rfl rfl (hM10 0 rfl) (rfl) (fun _ hB_=>by exact Y8 (hC.grow hB_) 1 [v10] rfl ag44 rfl rfl rfl) (Zb 11 1) (aF 1 (u0_0) rfl rfl (hM11 1 rfl) (rfl) (fun _=>by exact Zs (v:=u0_0) rfl) (Zb 11 3) (aF 2 (.pointer (some ⟨b8,0,none⟩)) rfl rfl (hM11 2 rfl) (rfl) (fun _=>by exact Yi 0 ZAh rfl sc42.size rfl rfl) (Zb 11 7) (aL 3 (u1_0) rfl rfl (hM10 3 rfl) (rfl) (fun _ hB_=>by exact Yc (hC.grow hB_) 4 (u1_0) rfl sc42 rfl rfl) (Zb 11 15) (aF 4 (.int .i64 s10.2) rfl rfl (hM11 4 rfl) (rfl) (fun _=>by exact Zs (v:=.int .i64 s10.2) rfl) (Zb 11 31) ?_))))
   obtain ⟨⟨h10,h11⟩,h⟩:=h
   obtain ⟨Ad10,c11,hv10⟩:=Z6 (hC.getP 1 rfl) s10.2.toNat (show s10.2.toNat < a1.terms.length by omega)
   refine aL 5 (.pointer (some (Ad10.add (s10.2.toNat * 9)))) rfl rfl (hM10 5 rfl) (rfl) (fun _ hB_=>by exact Y2 (len:=a1.terms.length) ZAj ag49.size (by exact tr rfl hv10) rfl h10 h11) (Zb 11 63) (aL 6 (.agg (ZAa (ZAn (a1.terms.getD s10.2.toNat Zsn)))) rfl rfl (hM10 6 rfl) (rfl) (fun _ hB_=>by exact Xs (ZAn (a1.terms.getD s10.2.toNat Zsn)) (Yj ((hC.grow hB_).getP 1 rfl) hv10 s10.2.toNat (show s10.2.toNat < a1.terms.length by omega)) ag49 rfl rfl) (Zb 11 127) (aL 7 (.agg #[u2_0]) rfl rfl (hM10 7 rfl) (rfl) (fun _ hB_=>by exact Y8 (hC.grow hB_) 3 [u2_0] rfl ag44 rfl rfl rfl) (Zb 11 255) (aO 8 rfl ?_)))
   refine Zk [u0_0,.agg (ZAa (ZAn (a1.terms.getD s10.2.toNat Zsn))),.agg #[u2_0]] _ Try.func77 rfl rfl rfl (Znp a0 (a1.terms.getD s10.2.toNat Zsn) a2 h _ (hC.getP 2 rfl) (Ys (hC.getP 0 rfl))) (fun ret10 w17 hR10=>?_)
   obtain ⟨r11,u11,f10,rfl,h,hr10,hf10,hB10⟩:=hR10
   refine⟨_,rfl,?_⟩
   replace hC:=hC.push hB10 (ZAo (Ya 49) r11 [u11] f10) hr10 hf10
   obtain ⟨ho10,hf11⟩:=X0 (hC.getM 0 rfl)
   subst hf11
   replace hC:=hC.recast (c:=own 49 9 u11 r11.terms.length (ZAb.encs r11.terms)) (fun _ h_=>h_) (fun _=>ho10)
   refine done (aK (by assumption) (Zb 11 511) (Z7 9 (by decide) (by decide) (by kernel_rfl) (by kernel_rfl) rfl ?_))
   refine Zk [.agg #[v10],.agg #[u11],.int .i64 1] _ ZBb rfl rfl rfl (Zhc (⟨s10.1⟩:ZAd) r11 1 h _ (Ys (Xr (hC.getM 1 rfl))) (Ys (Xr (hC.getM 0 rfl)))) (fun ret11 w18 hR11=>?_)
   obtain ⟨r10,u10,f11,rfl,h,hr11,hf12,hB11⟩:=hR11
   refine⟨_,rfl,?_⟩
   replace hC:=hC.push hB11 (ZAo (Ya 49) r10 [u10] f11) hr11 hf12
   obtain ⟨ho11,hf13⟩:=X0 (hC.getM 0 rfl)
   subst hf13
   replace hC:=hC.recast (c:=own 49 9 u10 r10.terms.length (ZAb.encs r10.terms)) (fun _ h_=>h_) (fun _=>ho11)
   refine Zy (v:=.agg #[u10]) hC 3 [u10] [u10] rfl ag44.size rfl rfl rfl rfl (Y4 (Xe (hC.getM 0 rfl)) rfl) (ZAe rfl) rfl fun w19 hC=>done (Z8 (Zt (Zd (Zn (Za (v:=.int .i64 s10.2) rfl (Zp rfl rfl (Zc (v:=.int .i64 (Zu2.wrap (s10.2+1))) rfl (done ?_))))))))
   replace hC:=hC.sM [0,3,4,5,6] (M':=[own 49 9 u10 r10.terms.length (ZAb.encs r10.terms),blk b12 44 [u10],blk b11 44 [.slice none 0 0],blk b10 44 [u2_0],blk b8 44 [u1_0]]) (by decide) rfl
   exact hK10 (r10.terms,Zu2.wrap (s10.2+1)) _ _ ⟨u10,(sl ⟨rfl,rfl,rfl,rfl,rfl,rfl,trivial⟩),hC⟩ h
  ·replace h:=Zh h (cf hb10)
   refine ZAt (Zl (Zl (Z4 ?_)))
   refine Zd (sr (Yl hC 1 [v10] rfl ag44 rfl rfl rfl (Zy (v:=.agg #[v10]) hC 2 [v10] [v10] rfl ag44.size rfl rfl rfl rfl (Y4 (Xe (hC.getM 0 rfl)) rfl) (ZAe rfl) rfl fun w20 hC=>dn (ZAk ?_))))
   refine Zg (fn:=Try.f51) rfl ?_ ⟨(⟨s10.1⟩:ZAd),v10,(ZA7 (Zth v10)),rfl,h,(Zaj (Jw (hC.getM 0 rfl))),(Zaf hC 0 rfl),hC.below⟩ (.inl rfl)
   exact X9 hC 2 rfl ag44 rfl rfl
 ·skip
  replace hC:=hC.pushNil 49 9
  exact⟨.slice none 0 0,(sl ⟨rfl,rfl,rfl,rfl,rfl,rfl,trivial⟩),hC⟩
def Zdf (a0:List Int) (a1:ZAd) (K:Bool→Prop):Prop :=
 Xa (fun (s10:Int) nx10=>(if s10 < (a1.terms.length:Int) then((0≤s10∧s10 < (a1.terms.length:Int))∧Zdc a0 ((a1.terms.getD s10.toNat Zsn).mono) (fun r11=>(if¬ (r11=true) then K false else Zcb ((a1.terms.getD s10.toNat Zsn).factor) 1 10006 (fun r10=>(if¬ (r10=true) then K false else(if s10 > 0 then((0≤Zu2.wrap (s10 - 1)∧Zu2.wrap (s10 - 1) < (a1.terms.length:Int))∧Zbj ((a1.terms.getD ((Zu2.wrap (s10 - 1)).toNat) Zsn).mono) ((a1.terms.getD s10.toNat Zsn).mono) (fun r12=>(if¬ (r12=true) then K false else nx10 (Zu2.wrap (s10+1))))) else nx10 (Zu2.wrap (s10+1)))))))) else K (decide ((a1.terms.length:Int)≤400)))) 0
theorem Znq (a0:List Int) (a1:ZAd) {u0_0:Value} {u1_0:Value} {fp0:List Nat} {fp1:List Nat} {K:Bool→Prop} (h:Zdf a0 a1 K) (w0:World) (q0:((EI .i64).ty.sl).rep a0 [u0_0] fp0 w0) (q1:ZAq.rep a1 [u1_0] fp1 w0) :
  Calls ZAf 31 #[u0_0,.agg #[u1_0]] w0 fun e w'=>∃ (r0:Bool),
   e=.returned (.bool r0)∧K r0∧Bel w0 w':=by
 unfold Zdf at h
 refine Zz (args:=[u0_0,.agg #[u1_0]]) Try.func31 rfl 51 Try.ntmps31 (ZAe rfl) ?_
 have hC:=ZAv (X:=Nox) w0 [Zz9 ((EI .i64).ty.sl) a0 [u0_0] fp0,Zz9 TForm a1 [u1_0] fp1] (by simp only [Zsj,Zur,or_false,forall_eq_or_imp,forall_eq]; exact⟨q0,q1⟩)
 have hp3:=(hC.getP 1 rfl)
 replace hC:=hC.derive 1 rfl (Zz9 ZAb.ty.sl a1.terms [u1_0] fp1) (fun _=>(Yx hp3)) (fun _ hb_=>hb_)
 refine sr (Yg (v:=.agg #[u1_0]) hC [u1_0] rfl rfl fun b5 w7 hB_ hC=>Zc (v:=.bool false) rfl (dn (ZAc (sr (Zc (v:=.int .i64 0) rfl (dn (ZAl ?_)))))))
 refine Xq (S:=Int) _ (fun s10 e_ w_=>Z1 e_ [(0,u0_0),(3,.pointer (some ⟨b5,0,none⟩)),(5,.int .i64 s10)]∧Ctx Nox w0 w_ [blk b5 44 [u1_0]] [Zz9 ZAb.ty.sl a1.terms [u1_0] fp1,Zz9 ((EI .i64).ty.sl) a0 [u0_0] fp0,Zz9 TForm a1 [u1_0] fp1]) ?_ (s0:=0) ?_ h
 ·clear hC h
  rintro s10 e_ w10 nx10 K10 ⟨hS_,hC⟩ h hK10
  rw [ue hS_]
  refine ZAc (sr (Za (v:=.int .i64 s10) rfl (Zx 0 ZAh rfl sc42.size rfl rfl (Z0 hC 0 (u1_0) rfl sc42 rfl rfl ?_))))
  obtain ⟨Ad11,c10,hv12⟩:=Zw (hC.getP 0 rfl)
  refine Zv ZAj (tr rfl hv12) (Zq rfl rfl (dn ?_))
  refine Zr rfl (fun hb13=>?_) (fun hb13=>?_)
  ·replace h:=ift h (ct hb13)
   refine ZAg (Zd (ZAc (ZAl (sr (Zx 0 ZAh rfl sc42.size rfl rfl (Z0 hC 0 (u1_0) rfl sc42 rfl rfl (Za (v:=.int .i64 s10) rfl ?_)))))))
   obtain ⟨⟨h10,h11⟩,h⟩:=h
   obtain ⟨Ad12,c11,hv10⟩:=Z6 (hC.getP 0 rfl) s10.toNat (show s10.toNat < a1.terms.length by omega)
   refine Yv (len:=a1.terms.length) ZAj ag49.size (tr rfl hv10) rfl h10 h11 (Jh (ZAn (a1.terms.getD s10.toNat Zsn)) (Yj (hC.getP 0 rfl) hv10 s10.toNat (show s10.toNat < a1.terms.length by omega)) ag49 rfl rfl (Ye hC (ZAn (⟨ZAi,0⟩:Term)) z49 rfl fun b10 w11 hB_ hC=>Zy (v:=.agg (ZAa (ZAn (a1.terms.getD s10.toNat Zsn)))) hC 0 (ZAn (a1.terms.getD s10.toNat Zsn)) (ZAn (a1.terms.getD s10.toNat Zsn)) rfl ag49.size rfl rfl rfl rfl rfl (ZAe rfl) rfl fun w12 hC=>dn (ZAc ?_)))
   refine Yq 24 mixed [0,0,2,7,15,31,63,127,255,511,1023,2047,4095,8191,16383,32767,65535,32767,163839,524287,1048575,2097151,32767,4227071,16777215,33554431,67108863,134217727] [2,7,16,19,21,23] [0,1,4,5,6,7,8,9,10,11,12,13,14,15,16,17,18,19,20,21,22,23] (by kernel_rfl) (by kernel_rfl) (by kernel_rfl) (fun hM11 hM10 w13 hB_=>?_)
   replace hC:=hC.grow hB_
   refine aF 0 (u0_0) rfl rfl (hM10 0 rfl) (rfl) (fun _=>by exact Zs (v:=u0_0) rfl) (Zb 28 1) (aF 1 (.pointer (some ⟨b10,0,none⟩)) rfl rfl (hM10 1 rfl) (rfl) (fun _=>by exact Yi 0 ZAr rfl ag47.size rfl rfl) (Zb 28 3) (aL 2 (.agg (ZAa (Zz8 .u8 ((a1.terms.getD s10.toNat Zsn).mono)))) rfl rfl (hM11 2 rfl) (rfl) (fun _ hB_=>by exact Y8 (hC.grow hB_) 0 (Zz8 .u8 ((a1.terms.getD s10.toNat Zsn).mono)) rfl ag47 rfl rfl rfl) (Zb 28 7) (aO 3 rfl ?_)))
   refine Zk [u0_0,.agg (ZAa (Zz8 .u8 ((a1.terms.getD s10.toNat Zsn).mono)))] _ Try.func48 rfl rfl rfl (Zno a0 ((a1.terms.getD s10.toNat Zsn).mono) h _ (hC.getP 1 rfl)) (fun ret10 w14 hR10=>?_)
   obtain ⟨r11,rfl,h,hB10⟩:=hR10
   refine⟨_,rfl,?_⟩
   replace hC:=hC.grow hB10
   refine done (aK (by assumption) (Zb 28 15) (aF 4 (.bool (!r11)) rfl rfl (hM10 4 rfl) (rfl) (fun _=>by exact Zgg rfl) (Zb 28 31) (aF 5 (.bool (!r11)) rfl rfl (hM10 5 rfl) (rfl) (fun _=>by exact Zs (v:=.bool (!r11)) rfl) (Zb 28 63) ?_)))
   refine Yy (!r11) (fun hb12=>?_) (fun hb12=>?_)
   ·replace h:=ift h (Yw (Xg hb12))
    refine Zo Zu 6 undef rfl rfl (by kernel_rfl) (hM10 6 rfl) (fun w_=>.inr ⟨Z5 (b:=true) 5 24 rfl (tr rfl (congrArg _ hb12)) (by decide),rfl⟩) (l9:=(Zb 28 127)) (by kernel_rfl) (Zo Zu 7 undef rfl rfl (by kernel_rfl) (hM10 7 rfl) (fun w_=>.inr ⟨Z5 (b:=true) 5 24 rfl (tr rfl (congrArg _ hb12)) (by decide),rfl⟩) (l9:=(Zb 28 255)) (by kernel_rfl) (Zo Zu 8 undef rfl rfl (by kernel_rfl) (hM10 8 rfl) (fun w_=>.inr ⟨Z5 (b:=true) 5 24 rfl (tr rfl (congrArg _ hb12)) (by decide),rfl⟩) (l9:=(Zb 28 511)) (by kernel_rfl) (Zo Zu 9 undef rfl rfl (by kernel_rfl) (hM10 9 rfl) (fun w_=>.inr ⟨Z5 (b:=true) 5 24 rfl (tr rfl (congrArg _ hb12)) (by decide),rfl⟩) (l9:=(Zb 28 1023)) (by kernel_rfl) (aF 10 (.bool true) rfl rfl (hM10 10 rfl) (rfl) (fun _=>by exact Zh0 (v:=.bool true) (b:=true) (by exact tr rfl (congrArg _ hb12)) rfl) (Zb 28 2047) (aF 11 (.bool true) rfl rfl (hM10 11 rfl) (rfl) (fun _=>by exact Zs (v:=.bool true) rfl) (Zb 28 4095) (Zo Zu 12 undef rfl rfl (by kernel_rfl) (hM10 12 rfl) (fun w_=>.inr ⟨Z5 (b:=true) 11 30 rfl (tr rfl (congrArg _ rfl)) (by decide),rfl⟩) (l9:=(Zb 28 8191)) (by kernel_rfl) (Zo Zu 13 undef rfl rfl (by kernel_rfl) (hM10 13 rfl) (fun w_=>.inr ⟨Z5 (b:=true) 11 30 rfl (tr rfl (congrArg _ rfl)) (by decide),rfl⟩) (l9:=(Zb 28 16383)) (by kernel_rfl) (Zo Zu 14 undef rfl rfl (by kernel_rfl) (hM10 14 rfl) (fun w_=>.inr ⟨Z5 (b:=true) 11 30 rfl (tr rfl (congrArg _ rfl)) (by decide),rfl⟩) (l9:=(Zb 28 32767)) (by kernel_rfl) ?_))))))))
    refine Zo Zu 15 undef rfl rfl (by kernel_rfl) (hM10 15 rfl) (fun w_=>.inr ⟨Y7 14 33 rfl rfl,rfl⟩) (l9:=(Zb 28 65535)) (by kernel_rfl) (Zo Zu 16 undef rfl rfl (by kernel_rfl) (hM10 16 rfl) (fun w_=>.inr ⟨Y7 14 33 rfl rfl,rfl⟩) (l9:=(Zb 28 131071)) (by kernel_rfl) (Zo Zu 17 undef rfl rfl (by kernel_rfl) (hM10 17 rfl) (fun w_=>.inr ⟨Y7 14 33 rfl rfl,rfl⟩) (l9:=(Zb 28 262143)) (by kernel_rfl) (Zo Zu 18 undef rfl rfl (by kernel_rfl) (hM10 18 rfl) (fun w_=>.inr ⟨Y7 14 33 rfl rfl,rfl⟩) (l9:=(Zb 28 524287)) (by kernel_rfl) (Zo Zu 19 undef rfl rfl (by kernel_rfl) (hM10 19 rfl) (fun w_=>.inr ⟨Y7 14 33 rfl rfl,rfl⟩) (l9:=(Zb 28 1048575)) (by kernel_rfl) (Zo Zu 20 undef rfl rfl (by kernel_rfl) (hM10 20 rfl) (fun w_=>.inr ⟨Y7 14 33 rfl rfl,rfl⟩) (l9:=(Zb 28 2097151)) (by kernel_rfl) (Zo Zu 21 undef rfl rfl (by kernel_rfl) (hM10 21 rfl) (fun w_=>.inr ⟨Y7 14 33 rfl rfl,rfl⟩) (l9:=(Zb 28 4194303)) (by kernel_rfl) (Zo Zu 22 undef rfl rfl (by kernel_rfl) (hM10 22 rfl) (fun w_=>.inr ⟨Y7 14 33 rfl rfl,rfl⟩) (l9:=(Zb 28 8388607)) (by kernel_rfl) (Zo Zu 23 undef rfl rfl (by kernel_rfl) (hM10 23 rfl) (fun w_=>.inr ⟨Y7 14 33 rfl rfl,rfl⟩) (l9:=(Zb 28 16777215)) (by kernel_rfl) (Z7 24 (by decide) (by decide) (by kernel_rfl) (by kernel_rfl) rfl (X2 14 33 rfl rfl (X2 14 33 rfl rfl ?_)))))))))))
    refine Zi (b:=true) 11 30 rfl (tr rfl (congrArg _ rfl)) (by decide) (Z3 (v:=.bool true) (b:=true) rfl rfl (done (Z8 (Zd (Yf rfl rfl (sr (Zc (v:=.bool false) rfl (dn ?_))))))))
    refine ZAk (Z2 (Ze (Ze (Z2 (Ze ?_)))))
    refine Zg (fn:=Try.f31) rfl ?_ ⟨false,rfl,h,hC.below⟩ (.inl rfl)
    exact Zf rfl
   ·replace h:=Zh h (not_not_intro ((Xh hb12)))
    refine aF 6 (.pointer (some ⟨b10,8,none⟩)) rfl rfl (hM10 6 rfl) (Z9 5 24 rfl rfl hb12) (fun _=>by exact Yi 8 ZAr rfl sc2.size rfl rfl) (Zb 28 127) (aL 7 (.int .i64 ((a1.terms.getD s10.toNat Zsn).factor)) rfl rfl (hM11 7 rfl) (Z9 5 24 rfl rfl hb12) (fun _ hB_=>by exact Yc (hC.grow hB_) 0 (.int .i64 ((a1.terms.getD s10.toNat Zsn).factor)) rfl sc2 rfl rfl) (Zb 28 255) (aO 8 rfl (Zj 5 24 rfl rfl hb12 ?_)))
    refine Zk [.int .i64 ((a1.terms.getD s10.toNat Zsn).factor),.int .i64 1,.int .i64 10006] _ Try.func47 rfl rfl rfl (Zjd ((a1.terms.getD s10.toNat Zsn).factor) 1 10006 h _) (fun ret11 w15 hR11=>?_)
    obtain ⟨r10,rfl,h,hB11⟩:=hR11
    refine⟨_,rfl,?_⟩
    replace hC:=hC.grow hB11
    refine done (aK (by assumption) (Zb 28 511) (aF 9 (.bool (!r10)) rfl rfl (hM10 9 rfl) (Z9 5 24 rfl rfl hb12) (fun _=>by exact Zgg rfl) (Zb 28 1023) (aF 10 (.bool (!r10)) rfl rfl (hM10 10 rfl) (rfl) (fun _=>by exact Zh0 (v:=.bool (!r10)) (b:=false) (by exact tr rfl (congrArg _ hb12)) rfl) (Zb 28 2047) (aF 11 (.bool (!r10)) rfl rfl (hM10 11 rfl) (rfl) (fun _=>by exact Zs (v:=.bool (!r10)) rfl) (Zb 28 4095) ?_))))
    refine Yy (!r10) (fun hb11=>?_) (fun hb11=>?_)
    ·replace h:=ift h (Yw (Xg hb11))
     refine Zo Zu 12 undef rfl rfl (by kernel_rfl) (hM10 12 rfl) (fun w_=>.inr ⟨Z5 (b:=true) 11 30 rfl (tr rfl (congrArg _ hb11)) (by decide),rfl⟩) (l9:=(Zb 28 8191)) (by kernel_rfl) (Zo Zu 13 undef rfl rfl (by kernel_rfl) (hM10 13 rfl) (fun w_=>.inr ⟨Z5 (b:=true) 11 30 rfl (tr rfl (congrArg _ hb11)) (by decide),rfl⟩) (l9:=(Zb 28 16383)) (by kernel_rfl) (Zo Zu 14 undef rfl rfl (by kernel_rfl) (hM10 14 rfl) (fun w_=>.inr ⟨Z5 (b:=true) 11 30 rfl (tr rfl (congrArg _ hb11)) (by decide),rfl⟩) (l9:=(Zb 28 32767)) (by kernel_rfl) (Zo Zu 15 undef rfl rfl (by kernel_rfl) (hM10 15 rfl) (fun w_=>.inr ⟨Y7 14 33 rfl rfl,rfl⟩) (l9:=(Zb 28 65535)) (by kernel_rfl) (Zo Zu 16 undef rfl rfl (by kernel_rfl) (hM10 16 rfl) (fun w_=>.inr ⟨Y7 14 33 rfl rfl,rfl⟩) (l9:=(Zb 28 131071)) (by kernel_rfl) (Zo Zu 17 undef rfl rfl (by kernel_rfl) (hM10 17 rfl) (fun w_=>.inr ⟨Y7 14 33 rfl rfl,rfl⟩) (l9:=(Zb 28 262143)) (by kernel_rfl) (Zo Zu 18 undef rfl rfl (by kernel_rfl) (hM10 18 rfl) (fun w_=>.inr ⟨Y7 14 33 rfl rfl,rfl⟩) (l9:=(Zb 28 524287)) (by kernel_rfl) (Zo Zu 19 undef rfl rfl (by kernel_rfl) (hM10 19 rfl) (fun w_=>.inr ⟨Y7 14 33 rfl rfl,rfl⟩) (l9:=(Zb 28 1048575)) (by kernel_rfl) (Zo Zu 20 undef rfl rfl (by kernel_rfl) (hM10 20 rfl) (fun w_=>.inr ⟨Y7 14 33 rfl rfl,rfl⟩) (l9:=(Zb 28 2097151)) (by kernel_rfl) ?_))))))))
     refine Zo Zu 21 undef rfl rfl (by kernel_rfl) (hM10 21 rfl) (fun w_=>.inr ⟨Y7 14 33 rfl rfl,rfl⟩) (l9:=(Zb 28 4194303)) (by kernel_rfl) (Zo Zu 22 undef rfl rfl (by kernel_rfl) (hM10 22 rfl) (fun w_=>.inr ⟨Y7 14 33 rfl rfl,rfl⟩) (l9:=(Zb 28 8388607)) (by kernel_rfl) (Zo Zu 23 undef rfl rfl (by kernel_rfl) (hM10 23 rfl) (fun w_=>.inr ⟨Y7 14 33 rfl rfl,rfl⟩) (l9:=(Zb 28 16777215)) (by kernel_rfl) (Z7 24 (by decide) (by decide) (by kernel_rfl) (by kernel_rfl) rfl (X2 14 33 rfl rfl (X2 14 33 rfl rfl (Zi (b:=true) 11 30 rfl (tr rfl (congrArg _ hb11)) (by decide) (Z3 (v:=.bool true) (b:=true) (tr rfl (congrArg _ hb11)) rfl (done (Z8 (Zd (Yf rfl rfl ?_)))))))))))
     refine sr (Zc (v:=.bool false) rfl (dn ?_))
     refine ZAk (Z2 (Ze (Ze (Z2 (Ze ?_)))))
     refine Zg (fn:=Try.f31) rfl ?_ ⟨false,rfl,h,hC.below⟩ (.inl rfl)
     exact Zf rfl
    ·replace h:=Zh h (not_not_intro ((Xh hb11)))
     refine aF 12 (.int .i64 s10) rfl rfl (hM10 12 rfl) (Z9 11 30 rfl rfl hb11) (fun _=>by exact Zs (v:=.int .i64 s10) rfl) (Zb 28 8191) (aF 13 (.bool (decide (s10 > 0))) rfl rfl (hM10 13 rfl) (Z9 11 30 rfl rfl hb11) (fun _=>by exact Zh4 rfl rfl) (Zb 28 16383) (aF 14 (.bool (decide (s10 > 0))) rfl rfl (hM10 14 rfl) (Z9 11 30 rfl rfl hb11) (fun _=>by exact Zs (v:=.bool (decide (s10 > 0))) rfl) (Zb 28 32767) ?_))
     refine Yy (decide (s10 > 0)) (fun hb10=>?_) (fun hb10=>?_)
     ·replace h:=ift h (ct hb10)
      refine aF 15 (.pointer (some ⟨b5,0,none⟩)) rfl rfl (hM10 15 rfl) (Z9 14 33 rfl rfl hb10) (fun _=>by exact Yi 0 ZAh rfl sc42.size rfl rfl) (Zb 28 65535) (aL 16 (u1_0) rfl rfl (hM11 16 rfl) (Z9 14 33 rfl rfl hb10) (fun _ hB_=>by exact Yc (hC.grow hB_) 1 (u1_0) rfl sc42 rfl rfl) (Zb 28 131071) (aF 17 (.int .i64 s10) rfl rfl (hM10 17 rfl) (Z9 14 33 rfl rfl hb10) (fun _=>by exact Zs (v:=.int .i64 s10) rfl) (Zb 28 262143) (aF 18 (.int .i64 (Zu2.wrap (s10 - 1))) rfl rfl (hM10 18 rfl) (Z9 14 33 rfl rfl hb10) (fun _=>by exact Zh2 rfl rfl) (Zb 28 524287) ?_)))
      obtain ⟨⟨h12,h13⟩,h⟩:=h
      obtain ⟨Ad10,c12,hv11⟩:=Z6 (hC.getP 0 rfl) ((Zu2.wrap (s10 - 1)).toNat) (show (Zu2.wrap (s10 - 1)).toNat < a1.terms.length by omega)
      refine aL 19 (.pointer (some (Ad10.add ((Zu2.wrap (s10 - 1)).toNat * 9)))) rfl rfl (hM11 19 rfl) (Z9 14 33 rfl rfl hb10) (fun _ hB_=>by exact Y2 (len:=a1.terms.length) ZAj ag49.size (by exact tr rfl hv11) rfl h12 h13) (Zb 28 1048575) (aF 20 (.pointer (some (Ad10.add ((Zu2.wrap (s10 - 1)).toNat * 9+0)))) rfl rfl (hM10 20 rfl) (Z9 14 33 rfl rfl hb10) (fun _=>by exact Jv ((Zu2.wrap (s10 - 1)).toNat * 9+0) ZAr rfl ag47.size rfl rfl) (Zb 28 2097151) (aL 21 (.agg (ZAa (Zz8 .u8 ((a1.terms.getD ((Zu2.wrap (s10 - 1)).toNat) Zsn).mono)))) rfl rfl (hM11 21 rfl) (Z9 14 33 rfl rfl hb10) (fun _ hB_=>by exact Xs (Zz8 .u8 ((a1.terms.getD ((Zu2.wrap (s10 - 1)).toNat) Zsn).mono)) (X6 (o:=0) (k:=8) (Yj ((hC.grow hB_).getP 0 rfl) hv11 ((Zu2.wrap (s10 - 1)).toNat) (show (Zu2.wrap (s10 - 1)).toNat < a1.terms.length by omega)) rfl) ag47 rfl rfl) (Zb 28 4194303) (aF 22 (.pointer (some ⟨b10,0,none⟩)) rfl rfl (hM10 22 rfl) (Z9 14 33 rfl rfl hb10) (fun _=>by exact Yi 0 ZAr rfl ag47.size rfl rfl) (Zb 28 8388607) (aL 23 (.agg (ZAa (Zz8 .u8 ((a1.terms.getD s10.toNat Zsn).mono)))) rfl rfl (hM11 23 rfl) (Z9 14 33 rfl rfl hb10) (fun _ hB_=>by exact Y8 (hC.grow hB_) 0 (Zz8 .u8 ((a1.terms.getD s10.toNat Zsn).mono)) rfl ag47 rfl rfl rfl) (Zb 28 16777215) ?_))))
      refine Z7 24 (by decide) (by decide) (by kernel_rfl) (by kernel_rfl) rfl (Zj 14 33 rfl rfl hb10 ?_)
      refine Zk [.agg (ZAa (Zz8 .u8 ((a1.terms.getD ((Zu2.wrap (s10 - 1)).toNat) Zsn).mono))),.agg (ZAa (Zz8 .u8 ((a1.terms.getD s10.toNat Zsn).mono)))] _ ZBa rfl rfl rfl (Zhb ((a1.terms.getD ((Zu2.wrap (s10 - 1)).toNat) Zsn).mono) ((a1.terms.getD s10.toNat Zsn).mono) h _) (fun ret12 w16 hR12=>?_)
      obtain ⟨r12,rfl,h,hB12⟩:=hR12
      refine⟨_,rfl,?_⟩
      replace hC:=hC.grow hB12
      refine Zj 14 33 rfl rfl hb10 (Xc rfl (Zj 11 30 rfl rfl hb11 (Z3 (v:=.bool (!r12)) (b:=true) (tr rfl (congrArg _ hb10)) rfl (Z3 (v:=.bool (!r12)) (b:=false) (tr rfl (congrArg _ hb11)) rfl (done (Z8 (Zd ?_)))))))
      refine Zr rfl (fun hb14=>?_) (fun hb14=>?_)
      ·replace h:=ift h (Yw (Xg hb14))
       refine sr (Zc (v:=.bool false) rfl (dn ?_))
       refine ZAk (Z2 (Ze (Ze (Z2 (Ze ?_)))))
       refine Zg (fn:=Try.f31) rfl ?_ ⟨false,rfl,h,hC.below⟩ (.inl rfl)
       exact Zf rfl
      ·replace h:=Zh h (not_not_intro ((Xh hb14)))
       refine ZAg (Zt (Zd (Zn (Za (v:=.int .i64 s10) rfl (Zp rfl rfl (Zc (v:=.int .i64 (Zu2.wrap (s10+1))) rfl (done ?_)))))))
       replace hC:=hC.sM [1] (M':=[blk b5 44 [u1_0]]) (by decide) rfl
       exact hK10 (Zu2.wrap (s10+1)) _ _ ⟨(sl ⟨rfl,rfl,rfl,trivial⟩),hC⟩ h
     ·replace h:=Zh h (cf hb10)
      refine Zo Zu 15 undef rfl rfl (by kernel_rfl) (hM10 15 rfl) (fun w_=>.inr ⟨Z5 (b:=false) 14 33 rfl (tr rfl (congrArg _ hb10)) (by decide),rfl⟩) (l9:=(Zb 28 65535)) (by kernel_rfl) (Zo Zu 16 undef rfl rfl (by kernel_rfl) (hM10 16 rfl) (fun w_=>.inr ⟨Z5 (b:=false) 14 33 rfl (tr rfl (congrArg _ hb10)) (by decide),rfl⟩) (l9:=(Zb 28 131071)) (by kernel_rfl) (Zo Zu 17 undef rfl rfl (by kernel_rfl) (hM10 17 rfl) (fun w_=>.inr ⟨Z5 (b:=false) 14 33 rfl (tr rfl (congrArg _ hb10)) (by decide),rfl⟩) (l9:=(Zb 28 262143)) (by kernel_rfl) (Zo Zu 18 undef rfl rfl (by kernel_rfl) (hM10 18 rfl) (fun w_=>.inr ⟨Z5 (b:=false) 14 33 rfl (tr rfl (congrArg _ hb10)) (by decide),rfl⟩) (l9:=(Zb 28 524287)) (by kernel_rfl) (Zo Zu 19 undef rfl rfl (by kernel_rfl) (hM10 19 rfl) (fun w_=>.inr ⟨Z5 (b:=false) 14 33 rfl (tr rfl (congrArg _ hb10)) (by decide),rfl⟩) (l9:=(Zb 28 1048575)) (by kernel_rfl) (Zo Zu 20 undef rfl rfl (by kernel_rfl) (hM10 20 rfl) (fun w_=>.inr ⟨Z5 (b:=false) 14 33 rfl (tr rfl (congrArg _ hb10)) (by decide),rfl⟩) (l9:=(Zb 28 2097151)) (by kernel_rfl) (Zo Zu 21 undef rfl rfl (by kernel_rfl) (hM10 21 rfl) (fun w_=>.inr ⟨Z5 (b:=false) 14 33 rfl (tr rfl (congrArg _ hb10)) (by decide),rfl⟩) (l9:=(Zb 28 4194303)) (by kernel_rfl) (Zo Zu 22 undef rfl rfl (by kernel_rfl) (hM10 22 rfl) (fun w_=>.inr ⟨Z5 (b:=false) 14 33 rfl (tr rfl (congrArg _ hb10)) (by decide),rfl⟩) (l9:=(Zb 28 8388607)) (by kernel_rfl) ?_)))))))
      refine Zo Zu 23 undef rfl rfl (by kernel_rfl) (hM10 23 rfl) (fun w_=>.inr ⟨Z5 (b:=false) 14 33 rfl (tr rfl (congrArg _ hb10)) (by decide),rfl⟩) (l9:=(Zb 28 16777215)) (by kernel_rfl) (Z7 24 (by decide) (by decide) (by kernel_rfl) (by kernel_rfl) rfl (Zi (b:=false) 14 33 rfl (tr rfl (congrArg _ hb10)) (by decide) (Zi (b:=false) 14 33 rfl (tr rfl (congrArg _ hb10)) (by decide) (Zj 11 30 rfl rfl hb11 (Z3 (v:=.bool false) (b:=false) (tr rfl (congrArg _ hb10)) rfl (Z3 (v:=.bool false) (b:=false) (tr rfl (congrArg _ hb11)) rfl (done (Z8 (Zd (Yd rfl rfl (ZAg ?_)))))))))))
      refine Zt (Zd (Zn (Za (v:=.int .i64 s10) rfl (Zp rfl rfl (Zc (v:=.int .i64 (Zu2.wrap (s10+1))) rfl (done ?_))))))
      replace hC:=hC.sM [1] (M':=[blk b5 44 [u1_0]]) (by decide) rfl
      exact hK10 (Zu2.wrap (s10+1)) _ _ ⟨(sl ⟨rfl,rfl,rfl,trivial⟩),hC⟩ h
  ·replace h:=Zh h (cf hb13)
   refine ZAt (Zl (Zl (Z4 ?_)))
   refine Zd (sr (Zx 0 ZAh rfl sc42.size rfl rfl (Z0 hC 0 (u1_0) rfl sc42 rfl rfl ?_)))
   obtain ⟨Ad13,c13,hv13⟩:=Zw (hC.getP 0 rfl)
   refine Zv ZAj (tr rfl hv13) (Zbc rfl rfl (Zc (v:=.bool (decide ((a1.terms.length:Int)≤400))) rfl (dn (ZAk ?_))))
   refine Zg (fn:=Try.f31) rfl ?_ ⟨decide ((a1.terms.length:Int)≤400),rfl,h,hC.below⟩ (.inl rfl)
   exact Zf rfl
 ·skip
  exact⟨(sl ⟨rfl,rfl,rfl,trivial⟩),hC⟩
def Za2 (a0:List Int) (a1:A8) (K:Int→Prop):Prop :=
 Yh (fun i10 (s10:Int) nx10=>((0≤(i10:Int)∧(i10:Int) < 8)∧nx10 (Zu2.wrap (s10+(Zu2.wrap ((a0.getD i10 Zsn) * (Zu2.wrap (a1.get i10)))))))) (fun (s10:Int)=>K s10) a0.length 0 0
theorem Zhd (a0:List Int) (a1:A8) {u0_0:Value} {fp0:List Nat} {K:Int→Prop} (h:Za2 a0 a1 K) (w0:World) (q0:((EI .i64).ty.sl).rep a0 [u0_0] fp0 w0) :
  Calls ZAf 50 #[u0_0,.agg (ZAa (Zz8 .u8 a1))] w0 fun e w'=>∃ (r0:Int),
   e=.returned (.int .i64 r0)∧K r0∧Bel w0 w':=by
 unfold Za2 at h
 refine Zz (args:=[u0_0,.agg (ZAa (Zz8 .u8 a1))]) ZBf rfl 25 Try.ntmps50 (ZAe rfl) ?_
 have hC:=ZAv (X:=Nox) w0 [Zz9 ((EI .i64).ty.sl) a0 [u0_0] fp0] (by simp only [Zsj,Zur,or_false,forall_eq_or_imp,forall_eq]; exact q0)
 refine sr (Yg (v:=.agg (ZAa (Zz8 .u8 a1))) hC (Zz8 .u8 a1) rfl rfl fun b2 w4 hB_ hC=>Zc (v:=.int .i64 0) rfl (dn (sr (Zc (v:=.int .i64 0) rfl (dn (ZAc (sr (Zc (v:=.int .i64 0) rfl (dn (ZAl ?_))))))))))
 have hN10:a0.length≤9223372036854775807:=Y9 (hC.getP 0 rfl)
 refine Yp (S:=Int) _ _ (fun i10 s10 e_ w_=>Z1 e_ [(0,u0_0),(3,.pointer (some ⟨b2,0,none⟩)),(5,.int .i64 s10),(6,.int .i64 (i10:Int))]∧Ctx Nox w0 w_ [blk b2 47 (Zz8 .u8 a1)] [Zz9 ((EI .i64).ty.sl) a0 [u0_0] fp0]) a0.length ?_ ?_ (s0:=0) ?_ h
 ·clear hC h
  rintro i10 s10 e_ w10 nx10 K10 hi10 ⟨hS_,hC⟩ h hK10
  rw [ue hS_]
  refine ZAc (sr (Za (v:=.int .i64 (i10:Int)) rfl (Za (v:=u0_0) rfl ?_)))
  obtain ⟨Ad11,c10,hv11⟩:=Zw (hC.getP 0 rfl)
  refine Zv ZAu (tr rfl hv11) (Zq rfl rfl (dn (Yf rfl (decide_eq_true (by omega)) (ZAg (Zd (ZAc (ZAl ?_)))))))
  refine Yq 10 mixed [0,0,0,6,14,0,32,96,224,510,1023,2047] [3,4,6,7] [0,1,2,5,8,9] (by kernel_rfl) (by kernel_rfl) (by kernel_rfl) (fun hM11 hM10 w11 hB_=>?_)
  replace hC:=hC.grow hB_
  refine aF 0 (.int .i64 s10) rfl rfl (hM10 0 rfl) (rfl) (fun _=>by exact Zs (v:=.int .i64 s10) rfl) (Zb 12 1) (aF 1 (u0_0) rfl rfl (hM10 1 rfl) (rfl) (fun _=>by exact Zs (v:=u0_0) rfl) (Zb 12 3) (aF 2 (.int .i64 (i10:Int)) rfl rfl (hM10 2 rfl) (rfl) (fun _=>by exact Zs (v:=.int .i64 (i10:Int)) rfl) (Zb 12 7) ?_))
  obtain ⟨Ad10,c11,hv10⟩:=Z6 (hC.getP 0 rfl) i10 hi10
  refine aL 3 (.pointer (some (Ad10.add (i10 * 1)))) rfl rfl (hM11 3 rfl) (rfl) (fun _ hB_=>by exact Y2 (len:=a0.length) ZAu sc2.size (by exact tr rfl hv10) rfl (ZAx _) (ZBk.2 hi10)) (Zb 12 15) (aL 4 (.int .i64 (a0.getD i10 Zsn)) rfl rfl (hM11 4 rfl) (rfl) (fun _ hB_=>by exact J9 (.int .i64 (a0.getD i10 Zsn)) (Yj ((hC.grow hB_).getP 0 rfl) hv10 i10 hi10) sc2 rfl) (Zb 12 31) (aF 5 (.int .i64 (i10:Int)) rfl rfl (hM10 5 rfl) (rfl) (fun _=>by exact Zs (v:=.int .i64 (i10:Int)) rfl) (Zb 12 63) ?_))
  obtain ⟨⟨h10,h11⟩,h⟩:=h
  refine aL 6 (.pointer (some ⟨b2,i10,none⟩)) rfl rfl (hM11 6 rfl) (rfl) (fun _ hB_=>by exact X8 i10 ZAp sc5.size rfl rfl h10 h11 (by omega)) (Zb 12 127) (aL 7 (.int .u8 (a1.get i10)) rfl rfl (hM11 7 rfl) (rfl) (fun _ hB_=>by exact Yc (hC.grow hB_) 0 (.int .u8 (a1.get i10)) rfl sc5 rfl (ZAw _ _ (show i10 < 8 by omega))) (Zb 12 255) (aF 8 (.int .i64 (Zu2.wrap (a1.get i10))) rfl rfl (hM10 8 rfl) (rfl) (fun _=>by exact Zh5 ZA8 ZBg rfl) (Zb 12 511) (aF 9 (.int .i64 (Zu2.wrap ((a0.getD i10 Zsn) * (Zu2.wrap (a1.get i10))))) rfl rfl (hM10 9 rfl) (rfl) (fun _=>by exact Zc1 rfl rfl) (Zb 12 1023) (Z7 10 (by decide) (by decide) (by kernel_rfl) (by kernel_rfl) rfl (Zp rfl rfl (Zc (v:=.int .i64 (Zu2.wrap (s10+(Zu2.wrap ((a0.getD i10 Zsn) * (Zu2.wrap (a1.get i10))))))) rfl (done (Z8 (Zt (Zd (Zn ?_)))))))))))
  refine Za (v:=.int .i64 (i10:Int)) rfl (Zp rfl rfl (Zc (v:=.int .i64 (Zu2.wrap ((i10:Int)+1))) rfl (done ?_)))
  exact hK10 (Zu2.wrap (s10+(Zu2.wrap ((a0.getD i10 Zsn) * (Zu2.wrap (a1.get i10)))))) _ _ ⟨(sl ⟨rfl,rfl,rfl,(tr rfl (congrArg _ (Yb hi10 hN10))),trivial⟩),hC⟩ h
 ·clear hC h
  rintro s10 e_ w12 K10 ⟨hS_,hC⟩ h
  rw [ue hS_]
  refine ZAc (sr (Za (v:=.int .i64 (a0.length:Int)) rfl (Za (v:=u0_0) rfl ?_)))
  obtain ⟨Ad12,c12,hv12⟩:=Zw (hC.getP 0 rfl)
  refine Zv ZAu (tr rfl hv12) (Zq rfl rfl (dn (Yd rfl (decide_eq_false (by omega)) ?_)))
  refine ZAt (Zl (Zl (Z4 ?_)))
  refine Zd (sr (Za (v:=.int .i64 s10) rfl (Zc (v:=.int .i64 s10) rfl (dn (ZAk ?_)))))
  refine Zg (fn:=Try.f50) rfl ?_ ⟨s10,rfl,h,hC.below⟩ (.inl rfl)
  exact Zf rfl
 ·skip
  exact⟨(sl ⟨rfl,rfl,rfl,rfl,trivial⟩),hC⟩
def Zdg (a0:List Int) (a1:ZAd) (K:Int→Bool→Prop):Prop :=
 (if(a1.terms.length:Int)=0 then K (-1) true else((0≤(0:Int)∧(0:Int) < (a1.terms.length:Int))∧Za2 a0 ((a1.terms.getD 0 Zsn).mono) (fun r10=>Xa (fun (s10:Int) nx10=>(if s10 < (a1.terms.length:Int) then((0≤s10∧s10 < (a1.terms.length:Int))∧Za2 a0 ((a1.terms.getD s10.toNat Zsn).mono) (fun r11=>(if r11≠r10 then K 0 false else nx10 (Zu2.wrap (s10+1))))) else K r10 true)) 1)))
theorem Znr (a0:List Int) (a1:ZAd) {u0_0:Value} {u1_0:Value} {fp0:List Nat} {fp1:List Nat} {K:Int→Bool→Prop} (h:Zdg a0 a1 K) (w0:World) (q0:((EI .i64).ty.sl).rep a0 [u0_0] fp0 w0) (q1:ZAq.rep a1 [u1_0] fp1 w0) :
  Calls ZAf 32 #[u0_0,.agg #[u1_0]] w0 fun e w'=>∃ (r0:Int) (r1:Bool),
   e=.returned (.tuple #[.int .i64 r0,.bool r1])∧K r0 r1∧Bel w0 w':=by
 unfold Zdg at h
 refine Zz (args:=[u0_0,.agg #[u1_0]]) Try.func32 rfl 37 Try.ntmps32 (ZAe rfl) ?_
 have hC:=ZAv (X:=Nox) w0 [Zz9 ((EI .i64).ty.sl) a0 [u0_0] fp0,Zz9 TForm a1 [u1_0] fp1] (by simp only [Zsj,Zur,or_false,forall_eq_or_imp,forall_eq]; exact⟨q0,q1⟩)
 have hp3:=(hC.getP 1 rfl)
 replace hC:=hC.derive 1 rfl (Zz9 ZAb.ty.sl a1.terms [u1_0] fp1) (fun _=>(Yx hp3)) (fun _ hb_=>hb_)
 refine sr (Yg (v:=.agg #[u1_0]) hC [u1_0] rfl rfl fun b5 w7 hB_ hC=>Zc (v:=.int .i64 0) rfl (Zc (v:=.bool false) rfl (dn (ZAc (sr (Zx 0 ZAh rfl sc42.size rfl rfl (Z0 hC 0 (u1_0) rfl sc42 rfl rfl ?_)))))))
 obtain ⟨Ad8,c9,hv12⟩:=Zw (hC.getP 0 rfl)
 refine Zv ZAj (tr rfl hv12) (Ji rfl rfl (dn ?_))
 refine Zr rfl (fun hb10=>?_) (fun hb10=>?_)
 ·replace h:=ift h (ct hb10)
  refine sr (Zc (v:=.int .i64 (-1)) rfl (Zc (v:=.bool true) rfl (dn ?_)))
  refine ZAk (Ze ?_)
  refine Jj (fn:=Try.f32) rfl ?_ ?_ ⟨(-1),true,rfl,h,hC.below⟩ (.inl rfl)
  ·exact Zf rfl
  ·exact Zf rfl
 ·replace h:=Zh h (cf hb10)
  refine ZAg (Zd (sr (Za (v:=u0_0) rfl (Zx 0 ZAh rfl sc42.size rfl rfl (Z0 hC 0 (u1_0) rfl sc42 rfl rfl ?_)))))
  obtain ⟨⟨h10,h11⟩,h⟩:=h
  obtain ⟨Ad10,c10,hv10⟩:=Z6 (hC.getP 0 rfl) 0 (show 0 < a1.terms.length by omega)
  refine Yv (len:=a1.terms.length) ZAj ag49.size (tr rfl hv10) rfl h10 h11 (Zby (0 * 9+0) ZAr rfl ag47.size rfl rfl (Jh (Zz8 .u8 ((a1.terms.getD 0 Zsn).mono)) (X6 (o:=0) (k:=8) (Yj (hC.getP 0 rfl) hv10 0 (show 0 < a1.terms.length by omega)) rfl) ag47 rfl rfl ?_))
  refine Zk [u0_0,.agg (ZAa (Zz8 .u8 ((a1.terms.getD 0 Zsn).mono)))] _ ZBf rfl rfl rfl (Zhd a0 ((a1.terms.getD 0 Zsn).mono) h _ (hC.getP 1 rfl)) (fun ret10 w10 hR10=>?_)
  obtain ⟨r10,rfl,h,hB10⟩:=hR10
  refine⟨_,rfl,?_⟩
  replace hC:=hC.grow hB10
  refine Zc (v:=.int .i64 r10) rfl (dn (ZAc (sr (Zc (v:=.int .i64 1) rfl (dn (ZAl ?_))))))
  refine Xq (S:=Int) _ (fun s10 e_ w_=>Z1 e_ [(0,u0_0),(3,.pointer (some ⟨b5,0,none⟩)),(6,.int .i64 r10),(7,.int .i64 s10)]∧Ctx Nox w0 w_ [blk b5 44 [u1_0]] [Zz9 ZAb.ty.sl a1.terms [u1_0] fp1,Zz9 ((EI .i64).ty.sl) a0 [u0_0] fp0,Zz9 TForm a1 [u1_0] fp1]) ?_ (s0:=1) ?_ h
  ·clear hC h
   rintro s10 e_ w11 nx10 K10 ⟨hS_,hC⟩ h hK10
   rw [ue hS_]
   refine ZAc (sr (Za (v:=.int .i64 s10) rfl (Zx 0 ZAh rfl sc42.size rfl rfl (Z0 hC 0 (u1_0) rfl sc42 rfl rfl ?_))))
   obtain ⟨Ad11,c11,hv13⟩:=Zw (hC.getP 0 rfl)
   refine Zv ZAj (tr rfl hv13) (Zq rfl rfl (dn ?_))
   refine Zr rfl (fun hb11=>?_) (fun hb11=>?_)
   ·replace h:=ift h (ct hb11)
    refine ZAg (Zd (ZAc (ZAl (sr (Za (v:=u0_0) rfl (Zx 0 ZAh rfl sc42.size rfl rfl (Z0 hC 0 (u1_0) rfl sc42 rfl rfl (Za (v:=.int .i64 s10) rfl ?_))))))))
    obtain ⟨⟨h12,h13⟩,h⟩:=h
    obtain ⟨Ad12,c12,hv11⟩:=Z6 (hC.getP 0 rfl) s10.toNat (show s10.toNat < a1.terms.length by omega)
    refine Yv (len:=a1.terms.length) ZAj ag49.size (tr rfl hv11) rfl h12 h13 (Zby (s10.toNat * 9+0) ZAr rfl ag47.size rfl rfl (Jh (Zz8 .u8 ((a1.terms.getD s10.toNat Zsn).mono)) (X6 (o:=0) (k:=8) (Yj (hC.getP 0 rfl) hv11 s10.toNat (show s10.toNat < a1.terms.length by omega)) rfl) ag47 rfl rfl ?_))
    refine Zk [u0_0,.agg (ZAa (Zz8 .u8 ((a1.terms.getD s10.toNat Zsn).mono)))] _ ZBf rfl rfl rfl (Zhd a0 ((a1.terms.getD s10.toNat Zsn).mono) h _ (hC.getP 1 rfl)) (fun ret11 w12 hR11=>?_)
    obtain ⟨r11,rfl,h,hB11⟩:=hR11
    refine⟨_,rfl,?_⟩
    replace hC:=hC.grow hB11
    refine Za (v:=.int .i64 r10) rfl (Y0 rfl rfl (dn ?_))
    refine Zr rfl (fun hb12=>?_) (fun hb12=>?_)
    ·replace h:=ift h (ct hb12)
     refine sr (Zc (v:=.int .i64 0) rfl (Zc (v:=.bool false) rfl (dn ?_)))
     refine ZAk (Z2 (Ze (Ze (Z2 (Ze ?_)))))
     refine Jj (fn:=Try.f32) rfl ?_ ?_ ⟨0,false,rfl,h,hC.below⟩ (.inl rfl)
     ·exact Zf rfl
     ·exact Zf rfl
    ·replace h:=Zh h (cf hb12)
     refine ZAg (Zt (Zd (Zn (Za (v:=.int .i64 s10) rfl (Zp rfl rfl (Zc (v:=.int .i64 (Zu2.wrap (s10+1))) rfl (done ?_)))))))
     exact hK10 (Zu2.wrap (s10+1)) _ _ ⟨(sl ⟨rfl,rfl,rfl,rfl,trivial⟩),hC⟩ h
   ·replace h:=Zh h (cf hb11)
    refine ZAt (Zl (Zl (Z4 ?_)))
    refine Zd (sr (Za (v:=.int .i64 r10) rfl (Zc (v:=.int .i64 r10) rfl (Zc (v:=.bool true) rfl (dn (ZAk ?_))))))
    refine Jj (fn:=Try.f32) rfl ?_ ?_ ⟨r10,true,rfl,h,hC.below⟩ (.inl rfl)
    ·exact Zf rfl
    ·exact Zf rfl
  ·skip
   exact⟨(sl ⟨rfl,rfl,rfl,rfl,trivial⟩),hC⟩
def Zdh (a0:Alg) (a1:ZAd) (K:ZAd→Prop):Prop :=
 Xa (fun (s11:(List Term)×Int) nx12=>(if s11.2 < (a1.terms.length:Int) then((0≤s11.2∧s11.2 < (a1.terms.length:Int))∧Xa (fun (s10:(List Term)×Int) nx11=>(if s10.2 < (a0.degrees.length:Int) then((0≤s10.2∧s10.2 < 8)∧(if((a1.terms.getD s11.2.toNat Zsn).mono).get s10.2.toNat=0 then nx11 (s10.1,Zu2.wrap (s10.2+1)) else Yh (fun i10 (s12:A8×A8) nx10=>(if(i10:Int)≥s10.2 then(if(i10:Int)≤s10.2 then nx10 (s12.1.set i10 0,s12.2.set i10 0) else nx10 (s12.1.set i10 0,s12.2)) else(if(i10:Int)≤s10.2 then nx10 (s12.1,s12.2.set i10 0) else nx10 (s12.1,s12.2)))) (fun (s12:A8×A8)=>((0≤s10.2∧s10.2 < 8)∧((0≤s10.2∧s10.2 < 8)∧((0≤s11.2∧s11.2 < (a1.terms.length:Int))∧((0≤s10.2∧s10.2 < 8)∧Za2 a0.degrees s12.1 (fun r28=>(if Ztb r28 2≠0 then((0≤s10.2∧s10.2 < (a0.images.length:Int))∧Jd (s12.1.set s10.2.toNat (ZAm.wrap ((((a1.terms.getD s11.2.toNat Zsn).mono).get s10.2.toNat) - 1))) 1 (fun r18=>Je a0.degrees r18 (a0.images.getD s10.2.toNat Zsn) (fun r12=>Jd s12.2 1 (fun r13=>Je a0.degrees r12 r13 (fun r14=>Xu (Zu2.wrap (0 - (Zu2.wrap (((a1.terms.getD s11.2.toNat Zsn).factor) * (Zu2.wrap (((a1.terms.getD s11.2.toNat Zsn).mono).get s10.2.toNat)))))) (fun r20=>Jx (⟨s10.1⟩:ZAd) r14 r20 (fun r10=>nx11 (r10.terms,Zu2.wrap (s10.2+1))))))))) else((0≤s10.2∧s10.2 < (a0.images.length:Int))∧Jd (s12.1.set s10.2.toNat (ZAm.wrap ((((a1.terms.getD s11.2.toNat Zsn).mono).get s10.2.toNat) - 1))) 1 (fun r19=>Je a0.degrees r19 (a0.images.getD s10.2.toNat Zsn) (fun r15=>Jd s12.2 1 (fun r16=>Je a0.degrees r15 r16 (fun r17=>Xu (Zu2.wrap (((a1.terms.getD s11.2.toNat Zsn).factor) * (Zu2.wrap (((a1.terms.getD s11.2.toNat Zsn).mono).get s10.2.toNat)))) (fun r21=>Jx (⟨s10.1⟩:ZAd) r17 r21 (fun r11=>nx11 (r11.terms,Zu2.wrap (s10.2+1)))))))))))))))) 8 0 ((a1.terms.getD s11.2.toNat Zsn).mono,(a1.terms.getD s11.2.toNat Zsn).mono))) else nx12 (s10.1,Zu2.wrap (s11.2+1)))) (s11.1,0)) else K (⟨s11.1⟩:ZAd))) ([],0)
theorem Zns (a0 : Alg) (a1 : ZAd) {u0_0 : Value} {u0_1 : Value} {u1_0 : Value} {fp0 : List Nat} {fp1 : List Nat} {K : ZAd → Prop} (h : Zdh a0 a1 K) (w0 : World) (q0 : TAlg.rep a0 [u0_0, u0_1] fp0 w0) (q1 : ZAq.rep a1 [u1_0] fp1 w0) :
  Calls ZAf 33 #[.agg #[u0_0,u0_1],.agg #[u1_0]] w0 fun e w'=>∃ (r0:ZAd) (z0_0:Value) (fz0:List Nat),
   e=.returned (.agg #[z0_0])∧K r0∧(ZAo (Ya 49) r0 [z0_0] fz0).holds w'∧(∀ b,b∈fz0→w0.heap.size≤b)∧Bel w0 w':=by
 unfold Zdh at h
 refine Zz (args:=[.agg #[u0_0,u0_1],.agg #[u1_0]]) Try.func33 rfl 103 Try.ntmps33 (ZAe rfl) ?_
 have hC:=ZAv (X:=Nox) w0 [Zz9 TAlg a0 [u0_0,u0_1] fp0,Zz9 TForm a1 [u1_0] fp1] (by simp only [Zsj,Zur,or_false,forall_eq_or_imp,forall_eq]; exact⟨q0,q1⟩)
 have hp3:=(hC.getP 0 rfl)
 replace hC:=hC.derive 0 rfl (Zz9 ((EI .i64).ty.sl) a0.degrees [u0_0] fp0) (fun _=>(Y3 hp3).1) (fun _ hb_=>hb_)
 replace hC:=hC.derive 1 rfl (Zz9 ZAq.sl a0.images [u0_1] fp0) (fun _=>(Y3 hp3).2) (fun _ hb_=>hb_)
 have hp6:=(hC.getP 3 rfl)
 replace hC:=hC.derive 3 rfl (Zz9 ZAb.ty.sl a1.terms [u1_0] fp1) (fun _=>(Yx hp6)) (fun _ hb_=>hb_)
 refine sr (Yg (v:=.agg #[u0_0,u0_1]) hC [u0_0,u0_1] rfl rfl fun b8 w11 hB_ hC=>Yg (v:=.agg #[u1_0]) hC [u1_0] rfl rfl fun b10 w12 hB_ hC=>Ye hC [.slice none 0 0] z44 rfl fun b11 w13 hB_ hC=>dn (sr (Jl [] rfl (Zb8   _) (Ye hC [.slice none 0 0] z44 rfl fun b12 w14 hB_ hC=>Zy (v:=.agg #[.slice none 0 0]) hC 0 [.slice none 0 0] [.slice none 0 0] rfl ag44.size rfl rfl rfl rfl rfl (ZAe rfl) rfl fun w15 hC=>dn (ZAc (sr ?_))))))
 refine Zc (v:=.int .i64 0) rfl (dn (ZAl ?_))
 refine Xq (S:=(List Term)×Int) _ (fun s11 e_ w_=>∃ (v11:Value),Z1 e_ [(2,.pointer (some ⟨b8,0,none⟩)),(3,.pointer (some ⟨b10,0,none⟩)),(4,.pointer (some ⟨b11,0,none⟩)),(5,.pointer (some ⟨b12,0,none⟩)),(6,.int .i64 s11.2)]∧Ctx Nox w0 w_ [own 49 9 v11 s11.1.length (ZAb.encs s11.1),blk b12 44 [v11],blk b11 44 [.slice none 0 0],blk b10 44 [u1_0],blk b8 32 [u0_0,u0_1]] [Zz9 ZAb.ty.sl a1.terms [u1_0] fp1,Zz9 ZAq.sl a0.images [u0_1] fp0,Zz9 ((EI .i64).ty.sl) a0.degrees [u0_0] fp0,Zz9 TAlg a0 [u0_0,u0_1] fp0,Zz9 TForm a1 [u1_0] fp1]) ?_ (s0:=([],0)) ?_ h
 ·clear hC h
  rintro s11 e_ w16 nx12 K11 ⟨v11,hS_,hC⟩ h hK12
  rw [ue hS_]
  refine ZAc (sr (Za (v:=.int .i64 s11.2) rfl (Zx 0 ZAh rfl sc42.size rfl rfl (Z0 hC 3 (u1_0) rfl sc42 rfl rfl ?_))))
  obtain ⟨Ad13,c10,hv14⟩:=Zw (hC.getP 0 rfl)
  refine Zv ZAj (tr rfl hv14) (Zq rfl rfl (dn ?_))
  refine Zr rfl (fun hb10=>?_) (fun hb10=>?_)
  ·replace h := ift h (ct hb10)
   refine ZAg (Zd (ZAc (ZAl (sr (Zx 0 ZAh rfl sc42.size rfl rfl (Z0 hC 3 (u1_0) rfl sc42 rfl rfl (Za (v:=.int .i64 s11.2) rfl ?_)))))))
   obtain ⟨⟨h10,h11⟩,h⟩:=h
   obtain ⟨Ad14,c11,hv10⟩:=Z6 (hC.getP 0 rfl) s11.2.toNat (show s11.2.toNat < a1.terms.length by omega)
   refine Yv (len:=a1.terms.length) ZAj ag49.size (tr rfl hv10) rfl h10 h11 (Zby (s11.2.toNat * 9+0) ZAr rfl ag47.size rfl rfl (Jh (Zz8 .u8 ((a1.terms.getD s11.2.toNat Zsn).mono)) (X6 (o:=0) (k:=8) (Yj (hC.getP 0 rfl) hv10 s11.2.toNat (show s11.2.toNat < a1.terms.length by omega)) rfl) ag47 rfl rfl (Ye hC (Zz8 .u8 ZAi) z47 rfl fun b13 w17 hB_ hC=>Zy (v:=.agg (ZAa (Zz8 .u8 ((a1.terms.getD s11.2.toNat Zsn).mono)))) hC 0 (Zz8 .u8 ((a1.terms.getD s11.2.toNat Zsn).mono)) (Zz8 .u8 ((a1.terms.getD s11.2.toNat Zsn).mono)) rfl ag47.size rfl rfl rfl rfl rfl (ZAe rfl) rfl fun w18 hC=>dn (sr (Zc (v:=.int .i64 0) rfl (dn (ZAl ?_)))))))
   refine Xq (S:=(List Term)×Int) _ (fun s10 e_ w_=>∃ (v10:Value),Z1 e_ [(2,.pointer (some ⟨b8,0,none⟩)),(3,.pointer (some ⟨b10,0,none⟩)),(4,.pointer (some ⟨b11,0,none⟩)),(5,.pointer (some ⟨b12,0,none⟩)),(6,.int .i64 s11.2),(7,.pointer (some ⟨b13,0,none⟩)),(8,.int .i64 s10.2)]∧Ctx Nox w0 w_ [own 49 9 v10 s10.1.length (ZAb.encs s10.1),blk b13 47 (Zz8 .u8 ((a1.terms.getD s11.2.toNat Zsn).mono)),blk b12 44 [v10],blk b11 44 [.slice none 0 0],blk b10 44 [u1_0],blk b8 32 [u0_0,u0_1]] [Zz9 ZAb.ty.sl a1.terms [u1_0] fp1,Zz9 ZAq.sl a0.images [u0_1] fp0,Zz9 ((EI .i64).ty.sl) a0.degrees [u0_0] fp0,Zz9 TAlg a0 [u0_0,u0_1] fp0,Zz9 TForm a1 [u1_0] fp1]) ?_ (s0:=(s11.1,0)) ?_ h
   ·clear hC h
    rintro s10 e_ w19 nx11 K12 ⟨v10,hS_,hC⟩ h hK11
    rw [ue hS_]
    refine ZAc (sr (Za (v:=.int .i64 s10.2) rfl (Zx 0 ZAs rfl sc22.size rfl rfl (Z0 hC 5 (u0_0) rfl sc22 rfl rfl ?_))))
    obtain ⟨Ad15,c12,hv15⟩:=Zw (hC.getP 2 rfl)
    refine Zv ZAu (tr rfl hv15) (Zq rfl rfl (dn ?_))
    refine Zr rfl (fun hb11=>?_) (fun hb11=>?_)
    ·replace h:=ift h (ct hb11)
     refine ZAg (Zd (ZAc (ZAl (ZAc (sr (Za (v:=.int .i64 s10.2) rfl ?_))))))
     obtain ⟨⟨h12,h13⟩,h⟩:=h
     refine Y1 s10.2.toNat ZAp sc5.size rfl rfl h12 h13 (by omega) (Z0 hC 1 (.int .u8 (((a1.terms.getD s11.2.toNat Zsn).mono).get s10.2.toNat)) rfl sc5 rfl (ZAw _ _ (show s10.2.toNat < 8 by omega)) (Ji rfl rfl (dn ?_)))
     refine Zr rfl (fun hb12=>?_) (fun hb12=>?_)
     ·replace h:=ift h (ct hb12)
      refine ZAt (Zl (Z4 ?_))
      refine Zd (Zn (Za (v:=.int .i64 s10.2) rfl (Zp rfl rfl (Zc (v:=.int .i64 (Zu2.wrap (s10.2+1))) rfl (done ?_)))))
      exact hK11 (s10.1,Zu2.wrap (s10.2+1)) _ _ ⟨v10,(sl ⟨rfl,rfl,rfl,rfl,rfl,rfl,rfl,trivial⟩),hC⟩ h
     ·replace h:=Zh h (cf hb12)
      refine ZAg (Zd (ZAc ?_))
      refine Zil 5 mixed [0,0,0,0,13,31] [0,1] [] (by kernel_rfl) (by kernel_rfl) (by kernel_rfl) (fun hM18 hM21 w10 hB_=>?_)
      replace hC:=hC.grow hB_
      have hN_:w10.heap.size≤w10.heap.size:=Nat.le_refl _
      refine Zaq (Y6 _) 0 (.agg (ZAa (Zz8 .u8 ((a1.terms.getD s11.2.toNat Zsn).mono)))) rfl rfl (by kernel_rfl) (hM18 0 rfl) (fun w_ hB_=>.inl ⟨rfl,by exact Y8 (hC.grow (Zbh hB_)) 1 (Zz8 .u8 ((a1.terms.getD s11.2.toNat Zsn).mono)) rfl ag47 rfl rfl rfl⟩) (l9:=(Zb 6 1)) (by kernel_rfl) (Zaq (Y6 _) 1 (.agg (ZAa (Zz8 .u8 ((a1.terms.getD s11.2.toNat Zsn).mono)))) rfl rfl (by kernel_rfl) (hM18 1 rfl) (fun w_ hB_=>.inl ⟨rfl,by exact Y8 (hC.grow (Zbh hB_)) 1 (Zz8 .u8 ((a1.terms.getD s11.2.toNat Zsn).mono)) rfl ag47 rfl rfl rfl⟩) (l9:=(Zb 6 3)) (by kernel_rfl) ?_)
      refine Zc4 (fun e_ w_=>∃ (b14:Nat),∃ (b15:Nat),Z1 e_ [(2,.pointer (some ⟨b8,0,none⟩)),(3,.pointer (some ⟨b10,0,none⟩)),(4,.pointer (some ⟨b11,0,none⟩)),(5,.pointer (some ⟨b12,0,none⟩)),(6,.int .i64 s11.2),(7,.pointer (some ⟨b13,0,none⟩)),(8,.int .i64 s10.2),(9,.pointer (some ⟨b15,0,none⟩)),(10,.pointer (some ⟨b14,0,none⟩))]∧Ctx Nox w0 w_ [blk b14 47 (Zz8 .u8 ((a1.terms.getD s11.2.toNat Zsn).mono)),blk b15 47 (Zz8 .u8 ((a1.terms.getD s11.2.toNat Zsn).mono)),own 49 9 v10 s10.1.length (ZAb.encs s10.1),blk b13 47 (Zz8 .u8 ((a1.terms.getD s11.2.toNat Zsn).mono)),blk b12 44 [v10],blk b11 44 [.slice none 0 0],blk b10 44 [u1_0],blk b8 32 [u0_0,u0_1]] [Zz9 ZAb.ty.sl a1.terms [u1_0] fp1,Zz9 ZAq.sl a0.images [u0_1] fp0,Zz9 ((EI .i64).ty.sl) a0.degrees [u0_0] fp0,Zz9 TAlg a0 [u0_0,u0_1] fp0,Zz9 TForm a1 [u1_0] fp1]∧(Yh (fun i10 (s12:A8×A8) nx10=>(if(i10:Int)≥s10.2 then(if(i10:Int)≤s10.2 then nx10 (s12.1.set i10 0,s12.2.set i10 0) else nx10 (s12.1.set i10 0,s12.2)) else(if(i10:Int)≤s10.2 then nx10 (s12.1,s12.2.set i10 0) else nx10 (s12.1,s12.2)))) (fun (s12:A8×A8)=>((0≤s10.2∧s10.2 < 8)∧((0≤s10.2∧s10.2 < 8)∧((0≤s11.2∧s11.2 < (a1.terms.length:Int))∧((0≤s10.2∧s10.2 < 8)∧Za2 a0.degrees s12.1 (fun r28=>(if Ztb r28 2≠0 then((0≤s10.2∧s10.2 < (a0.images.length:Int))∧Jd (s12.1.set s10.2.toNat (ZAm.wrap ((((a1.terms.getD s11.2.toNat Zsn).mono).get s10.2.toNat) - 1))) 1 (fun r18=>Je a0.degrees r18 (a0.images.getD s10.2.toNat Zsn) (fun r12=>Jd s12.2 1 (fun r13=>Je a0.degrees r12 r13 (fun r14=>Xu (Zu2.wrap (0 - (Zu2.wrap (((a1.terms.getD s11.2.toNat Zsn).factor) * (Zu2.wrap (((a1.terms.getD s11.2.toNat Zsn).mono).get s10.2.toNat)))))) (fun r20=>Jx (⟨s10.1⟩:ZAd) r14 r20 (fun r10=>nx11 (r10.terms,Zu2.wrap (s10.2+1))))))))) else((0≤s10.2∧s10.2 < (a0.images.length:Int))∧Jd (s12.1.set s10.2.toNat (ZAm.wrap ((((a1.terms.getD s11.2.toNat Zsn).mono).get s10.2.toNat) - 1))) 1 (fun r19=>Je a0.degrees r19 (a0.images.getD s10.2.toNat Zsn) (fun r15=>Jd s12.2 1 (fun r16=>Je a0.degrees r15 r16 (fun r17=>Xu (Zu2.wrap (((a1.terms.getD s11.2.toNat Zsn).factor) * (Zu2.wrap (((a1.terms.getD s11.2.toNat Zsn).mono).get s10.2.toNat)))) (fun r21=>Jx (⟨s10.1⟩:ZAd) r17 r21 (fun r11=>nx11 (r11.terms,Zu2.wrap (s10.2+1)))))))))))))))) 8 0 ((a1.terms.getD s11.2.toNat Zsn).mono,(a1.terms.getD s11.2.toNat Zsn).mono))) ?_ ?_
      ·clear hC h
       rintro e_ w20 ⟨b14,b15,hS_,hC,h⟩
       rw [ue hS_]
       refine Zd (ZAc (sr (Zc (v:=.int .i64 0) rfl (dn (ZAl ?_)))))
       refine Yp (S:=A8×A8) _ _ (fun i10 s12 e_ w_=>Z1 e_ [(2,.pointer (some ⟨b8,0,none⟩)),(3,.pointer (some ⟨b10,0,none⟩)),(4,.pointer (some ⟨b11,0,none⟩)),(5,.pointer (some ⟨b12,0,none⟩)),(6,.int .i64 s11.2),(7,.pointer (some ⟨b13,0,none⟩)),(8,.int .i64 s10.2),(9,.pointer (some ⟨b15,0,none⟩)),(10,.pointer (some ⟨b14,0,none⟩)),(11,.int .i64 (i10:Int))]∧Ctx Nox w0 w_ [blk b14 47 (Zz8 .u8 s12.2),blk b15 47 (Zz8 .u8 s12.1),own 49 9 v10 s10.1.length (ZAb.encs s10.1),blk b13 47 (Zz8 .u8 ((a1.terms.getD s11.2.toNat Zsn).mono)),blk b12 44 [v10],blk b11 44 [.slice none 0 0],blk b10 44 [u1_0],blk b8 32 [u0_0,u0_1]] [Zz9 ZAb.ty.sl a1.terms [u1_0] fp1,Zz9 ZAq.sl a0.images [u0_1] fp0,Zz9 ((EI .i64).ty.sl) a0.degrees [u0_0] fp0,Zz9 TAlg a0 [u0_0,u0_1] fp0,Zz9 TForm a1 [u1_0] fp1]) 8 ?_ ?_ (s0:=((a1.terms.getD s11.2.toNat Zsn).mono,(a1.terms.getD s11.2.toNat Zsn).mono)) ?_ h
       ·clear hC h
        rintro i10 s12 e_ w21 nx10 K10 hi10 ⟨hS_,hC⟩ h hK10
        rw [ue hS_]
        refine ZAc (sr (Za (v:=.int .i64 (i10:Int)) rfl (Zq rfl rfl (dn (Yf rfl (decide_eq_true (by omega)) (ZAg (Zd (ZAc (ZAl (ZAc (sr ?_)))))))))))
        refine Za (v:=.int .i64 (i10:Int)) rfl (Za (v:=.int .i64 s10.2) rfl (Zao rfl rfl (dn ?_)))
        refine Zr rfl (fun hb13=>?_) (fun hb13=>?_)
        ·replace h:=ift h (ct hb13)
         refine Zn (Za (v:=.int .i64 (i10:Int)) rfl (Y1 i10 ZAp sc5.size rfl rfl (ZAx _) (by omega) (by omega) (Zy (v:=.int .u8 0) hC 1 [.int .u8 0] (Zz8 .u8 (s12.1.set i10 0)) rfl sc5.size rfl rfl rfl rfl rfl hi10 (ZA5 _ _ _ hi10) fun w22 hC=>dn (sr (Za (v:=.int .i64 (i10:Int)) rfl (Za (v:=.int .i64 s10.2) rfl (Zbc rfl rfl (dn ?_))))))))
         refine Zr rfl (fun hb14=>?_) (fun hb14=>?_)
         ·replace h:=ift h (ct hb14)
          refine Zn (Za (v:=.int .i64 (i10:Int)) rfl (Y1 i10 ZAp sc5.size rfl rfl (ZAx _) (by omega) (by omega) (Zy (v:=.int .u8 0) hC 0 [.int .u8 0] (Zz8 .u8 (s12.2.set i10 0)) rfl sc5.size rfl rfl rfl rfl rfl hi10 (ZA5 _ _ _ hi10) fun w23 hC=>done (Zt (Zd (Zn (Za (v:=.int .i64 (i10:Int)) rfl (Zp rfl rfl (Zc (v:=.int .i64 (Zu2.wrap ((i10:Int)+1))) rfl (done ?_))))))))))
          exact hK10 (s12.1.set i10 0,s12.2.set i10 0) _ _ ⟨(sl ⟨rfl,rfl,rfl,rfl,rfl,rfl,rfl,rfl,rfl,(tr rfl (congrArg _ (Yb hi10 (by decide)))),trivial⟩),hC⟩ h
         ·replace h:=Zh h (cf hb14)
          refine ZAg (Zt (Zd (Zn (Za (v:=.int .i64 (i10:Int)) rfl (Zp rfl rfl (Zc (v:=.int .i64 (Zu2.wrap ((i10:Int)+1))) rfl (done ?_)))))))
          exact hK10 (s12.1.set i10 0,s12.2) _ _ ⟨(sl ⟨rfl,rfl,rfl,rfl,rfl,rfl,rfl,rfl,rfl,(tr rfl (congrArg _ (Yb hi10 (by decide)))),trivial⟩),hC⟩ h
        ·replace h:=Zh h (cf hb13)
         refine ZAg (Zd (sr (Za (v:=.int .i64 (i10:Int)) rfl (Za (v:=.int .i64 s10.2) rfl (Zbc rfl rfl (dn ?_))))))
         refine Zr rfl (fun hb15=>?_) (fun hb15=>?_)
         ·replace h:=ift h (ct hb15)
          refine Zn (Za (v:=.int .i64 (i10:Int)) rfl (Y1 i10 ZAp sc5.size rfl rfl (ZAx _) (by omega) (by omega) (Zy (v:=.int .u8 0) hC 0 [.int .u8 0] (Zz8 .u8 (s12.2.set i10 0)) rfl sc5.size rfl rfl rfl rfl rfl hi10 (ZA5 _ _ _ hi10) fun w24 hC=>done (Zt (Zd (Zn (Za (v:=.int .i64 (i10:Int)) rfl (Zp rfl rfl (Zc (v:=.int .i64 (Zu2.wrap ((i10:Int)+1))) rfl (done ?_))))))))))
          exact hK10 (s12.1,s12.2.set i10 0) _ _ ⟨(sl ⟨rfl,rfl,rfl,rfl,rfl,rfl,rfl,rfl,rfl,(tr rfl (congrArg _ (Yb hi10 (by decide)))),trivial⟩),hC⟩ h
         ·replace h:=Zh h (cf hb15)
          refine ZAg (Zt (Zd (Zn (Za (v:=.int .i64 (i10:Int)) rfl (Zp rfl rfl (Zc (v:=.int .i64 (Zu2.wrap ((i10:Int)+1))) rfl (done ?_)))))))
          exact hK10 (s12.1,s12.2) _ _ ⟨(sl ⟨rfl,rfl,rfl,rfl,rfl,rfl,rfl,rfl,rfl,(tr rfl (congrArg _ (Yb hi10 (by decide)))),trivial⟩),hC⟩ h
       ·clear hC h
        rintro s12 e_ w25 K10 ⟨hS_,hC⟩ h
        rw [ue hS_]
        refine ZAc (sr (Za (v:=.int .i64 8) rfl (Zq rfl rfl (dn (Yd rfl (decide_eq_false (by omega)) ?_)))))
        refine ZAt (Zl (Zl (Z4 ?_)))
        refine Zd (sr (Yl hC 1 (Zz8 .u8 s12.1) rfl ag47 rfl rfl rfl (Ye hC (Zz8 .u8 ZAi) z47 rfl fun b28 w26 hB_ hC=>Zy (v:=.agg (ZAa (Zz8 .u8 s12.1))) hC 0 (Zz8 .u8 s12.1) (Zz8 .u8 s12.1) rfl ag47.size rfl rfl rfl rfl rfl (ZAe rfl) rfl fun w27 hC=>dn (sr (Za (v:=.int .i64 s10.2) rfl (Za (v:=.int .i64 s10.2) rfl ?_))))))
        obtain ⟨⟨h14,h15⟩,h⟩:=h
        refine Y1 s10.2.toNat ZAp sc5.size rfl rfl h14 h15 (by omega) (Z0 hC 4 (.int .u8 (((a1.terms.getD s11.2.toNat Zsn).mono).get s10.2.toNat)) rfl sc5 rfl (ZAw _ _ (show s10.2.toNat < 8 by omega)) (Zbv rfl rfl ?_))
        obtain ⟨⟨h16,h17⟩,h⟩:=h
        refine Y1 s10.2.toNat ZAp sc5.size rfl rfl h16 h17 (by omega) (Zy (v:=.int .u8 (ZAm.wrap ((((a1.terms.getD s11.2.toNat Zsn).mono).get s10.2.toNat) - 1))) hC 0 [.int .u8 (ZAm.wrap ((((a1.terms.getD s11.2.toNat Zsn).mono).get s10.2.toNat) - 1))] (Zz8 .u8 (s12.1.set s10.2.toNat (ZAm.wrap ((((a1.terms.getD s11.2.toNat Zsn).mono).get s10.2.toNat) - 1)))) rfl sc5.size rfl rfl rfl rfl rfl (show s10.2.toNat < 8 by omega) (ZA5 _ _ _ (show s10.2.toNat < 8 by omega)) fun w28 hC=>dn (ZAc ?_))
        refine Yq 10 mixed [0,1,0,7,15,31,0,64,192,448,1023,2047] [1,3,5,7,8] [0,2,4,6,9] (by kernel_rfl) (by kernel_rfl) (by kernel_rfl) (fun hM10 hM11 w29 hB_=>?_)
        replace hC:=hC.grow hB_
        refine aF 0 (.pointer (some ⟨b10,0,none⟩)) rfl rfl (hM11 0 rfl) (rfl) (fun _=>by exact Yi 0 ZAh rfl sc42.size rfl rfl) (Zb 12 1) (aL 1 (u1_0) rfl rfl (hM10 1 rfl) (rfl) (fun _ hB_=>by exact Yc (hC.grow hB_) 7 (u1_0) rfl sc42 rfl rfl) (Zb 12 3) (aF 2 (.int .i64 s11.2) rfl rfl (hM11 2 rfl) (rfl) (fun _=>by exact Zs (v:=.int .i64 s11.2) rfl) (Zb 12 7) ?_))
        obtain ⟨⟨h18,h19⟩,h⟩:=h
        obtain ⟨Ad10,c13,hv11⟩:=Z6 (hC.getP 0 rfl) s11.2.toNat (show s11.2.toNat < a1.terms.length by omega)
        refine aL 3 (.pointer (some (Ad10.add (s11.2.toNat * 9)))) rfl rfl (hM10 3 rfl) (rfl) (fun _ hB_=>by exact Y2 (len:=a1.terms.length) ZAj ag49.size (by exact tr rfl hv11) rfl h18 h19) (Zb 12 15) (aF 4 (.pointer (some (Ad10.add (s11.2.toNat * 9+8)))) rfl rfl (hM11 4 rfl) (rfl) (fun _=>by exact Jv (s11.2.toNat * 9+8) ZAr rfl sc2.size rfl rfl) (Zb 12 31) (aL 5 (.int .i64 ((a1.terms.getD s11.2.toNat Zsn).factor)) rfl rfl (hM10 5 rfl) (rfl) (fun _ hB_=>by exact J9 (.int .i64 ((a1.terms.getD s11.2.toNat Zsn).factor)) (X6 (o:=8) (k:=1) (Yj ((hC.grow hB_).getP 0 rfl) hv11 s11.2.toNat (show s11.2.toNat < a1.terms.length by omega)) rfl) sc2 rfl) (Zb 12 63) (aF 6 (.int .i64 s10.2) rfl rfl (hM11 6 rfl) (rfl) (fun _=>by exact Zs (v:=.int .i64 s10.2) rfl) (Zb 12 127) ?_)))
        obtain ⟨⟨h20,h21⟩,h⟩:=h
        refine aL 7 (.pointer (some ⟨b13,s10.2.toNat,none⟩)) rfl rfl (hM10 7 rfl) (rfl) (fun _ hB_=>by exact X8 s10.2.toNat ZAp sc5.size rfl rfl h20 h21 (by omega)) (Zb 12 255) (aL 8 (.int .u8 (((a1.terms.getD s11.2.toNat Zsn).mono).get s10.2.toNat)) rfl rfl (hM10 8 rfl) (rfl) (fun _ hB_=>by exact Yc (hC.grow hB_) 4 (.int .u8 (((a1.terms.getD s11.2.toNat Zsn).mono).get s10.2.toNat)) rfl sc5 rfl (ZAw _ _ (show s10.2.toNat < 8 by omega))) (Zb 12 511) (aF 9 (.int .i64 (Zu2.wrap (((a1.terms.getD s11.2.toNat Zsn).mono).get s10.2.toNat))) rfl rfl (hM11 9 rfl) (rfl) (fun _=>by exact Zh5 ZA8 ZBg rfl) (Zb 12 1023) (Z7 10 (by decide) (by decide) (by kernel_rfl) (by kernel_rfl) rfl (Zaw rfl rfl (Zc (v:=.int .i64 (Zu2.wrap (((a1.terms.getD s11.2.toNat Zsn).factor) * (Zu2.wrap (((a1.terms.getD s11.2.toNat Zsn).mono).get s10.2.toNat))))) rfl (done (Z8 (Zd (ZAc (sr (Zx 0 ZAs rfl sc22.size rfl rfl ?_)))))))))))
        refine Z0 hC 8 (u0_0) rfl sc22 rfl rfl (Yl hC 2 (Zz8 .u8 s12.1) rfl ag47 rfl rfl rfl ?_)
        refine Zk [u0_0,.agg (ZAa (Zz8 .u8 s12.1))] _ ZBf rfl rfl rfl (Zhd a0.degrees s12.1 h _ (hC.getP 2 rfl)) (fun ret10 w30 hR10=>?_)
        obtain ⟨r28,rfl,h,hB10⟩:=hR10
        refine⟨_,rfl,?_⟩
        replace hC:=hC.grow hB10
        refine Jf rfl rfl (by decide) (Y0 rfl rfl (dn ?_))
        refine Zr rfl (fun hb16=>?_) (fun hb16=>?_)
        ·replace h:=ift h (ct hb16)
         refine Zn (Za (v:=.int .i64 (Zu2.wrap (((a1.terms.getD s11.2.toNat Zsn).factor) * (Zu2.wrap (((a1.terms.getD s11.2.toNat Zsn).mono).get s10.2.toNat))))) rfl (Zep rfl (Zc (v:=.int .i64 (Zu2.wrap (0 - (Zu2.wrap (((a1.terms.getD s11.2.toNat Zsn).factor) * (Zu2.wrap (((a1.terms.getD s11.2.toNat Zsn).mono).get s10.2.toNat))))))) rfl (dn (ZAc ?_)))))
         refine Yq 11 mixed [0,1,0,4,0,16,0,112,240,511,0,2047] [1,2,5,7,8] [0,4,6] (by kernel_rfl) (by kernel_rfl) (by kernel_rfl) (fun hM12 hM16 w31 hB_=>?_)
         replace hC:=hC.grow hB_
         refine aF 0 (.pointer (some ⟨b8,0,none⟩)) rfl rfl (hM16 0 rfl) (rfl) (fun _=>by exact Yi 0 ZAs rfl sc22.size rfl rfl) (Zb 12 1) (aL 1 (u0_0) rfl rfl (hM12 1 rfl) (rfl) (fun _ hB_=>by exact Yc (hC.grow hB_) 8 (u0_0) rfl sc22 rfl rfl) (Zb 12 3) (aL 2 (.agg (ZAa (Zz8 .u8 (s12.1.set s10.2.toNat (ZAm.wrap ((((a1.terms.getD s11.2.toNat Zsn).mono).get s10.2.toNat) - 1)))))) rfl rfl (hM12 2 rfl) (rfl) (fun _ hB_=>by exact Y8 (hC.grow hB_) 0 (Zz8 .u8 (s12.1.set s10.2.toNat (ZAm.wrap ((((a1.terms.getD s11.2.toNat Zsn).mono).get s10.2.toNat) - 1)))) rfl ag47 rfl rfl rfl) (Zb 12 7) (aF 4 (.pointer (some ⟨b8,1,none⟩)) rfl rfl (hM16 4 rfl) (rfl) (fun _=>by exact Yi 1 ZAs rfl sc30.size rfl rfl) (Zb 12 23) (aL 5 (u0_1) rfl rfl (hM12 5 rfl) (rfl) (fun _ hB_=>by exact Yc (hC.grow hB_) 8 (u0_1) rfl sc30 rfl rfl) (Zb 12 55) (aF 6 (.int .i64 s10.2) rfl rfl (hM16 6 rfl) (rfl) (fun _=>by exact Zs (v:=.int .i64 s10.2) rfl) (Zb 12 119) ?_)))))
         obtain ⟨⟨h22,h23⟩,h⟩:=h
         obtain ⟨Ad11,c14,hv12⟩:=Z6 (hC.getP 1 rfl) s10.2.toNat (show s10.2.toNat < a0.images.length by omega)
         refine aL 7 (.pointer (some (Ad11.add (s10.2.toNat * 1)))) rfl rfl (hM12 7 rfl) (rfl) (fun _ hB_=>by exact Y2 (len:=a0.images.length) ZAy ag44.size (by exact tr rfl hv12) rfl h22 h23) (Zb 12 247) ?_
         obtain ⟨cs_,hl10,hc10,hr10⟩:=Ja (hC.getP 1 rfl) hv12 s10.2.toNat (show s10.2.toNat < a0.images.length by omega)
         obtain ⟨u18,rfl⟩:=ZA6.1 hl10
         clear hl10
         rw [X3 _ _ (show s10.2.toNat < a0.images.length by omega)] at hr10
         have hp10:=hr10
         replace hC:=hC.derive 1 rfl (Zz9 ZAb.ty.sl ((a0.images.getD s10.2.toNat Zsn).terms) [u18] fp0) (fun _=>(Yx hp10)) (fun _ hb_=>hb_)
         refine aL 8 (.agg #[u18]) rfl rfl (hM12 8 rfl) (rfl) (fun _ hB_=>by exact Xs [u18] (Zas hB_ hc10) ag44 rfl rfl) (Zb 12 503) ?_
         refine Zc4 (fun e_ w_=>∃ (b16:Nat),∃ (u20:Value),∃ (r26:ZAd),Z1 e_ [(2,.pointer (some ⟨b8,0,none⟩)),(3,.pointer (some ⟨b10,0,none⟩)),(4,.pointer (some ⟨b11,0,none⟩)),(5,.pointer (some ⟨b12,0,none⟩)),(6,.int .i64 s11.2),(7,.pointer (some ⟨b13,0,none⟩)),(8,.int .i64 s10.2),(10,.pointer (some ⟨b14,0,none⟩)),(13,.int .i64 (Zu2.wrap (0 - (Zu2.wrap (((a1.terms.getD s11.2.toNat Zsn).factor) * (Zu2.wrap (((a1.terms.getD s11.2.toNat Zsn).mono).get s10.2.toNat))))))),(14,.pointer (some ⟨b16,0,none⟩))]∧Ctx Nox w0 w_ [blk b16 44 [u20],own 49 9 u20 r26.terms.length (ZAb.encs r26.terms),blk b14 47 (Zz8 .u8 s12.2),own 49 9 v10 s10.1.length (ZAb.encs s10.1),blk b13 47 (Zz8 .u8 ((a1.terms.getD s11.2.toNat Zsn).mono)),blk b12 44 [v10],blk b11 44 [.slice none 0 0],blk b10 44 [u1_0],blk b8 32 [u0_0,u0_1]] [Zz9 ZAb.ty.sl ((a0.images.getD s10.2.toNat Zsn).terms) [u18] fp0,Zz9 ZAb.ty.sl a1.terms [u1_0] fp1,Zz9 ZAq.sl a0.images [u0_1] fp0,Zz9 ((EI .i64).ty.sl) a0.degrees [u0_0] fp0,Zz9 TAlg a0 [u0_0,u0_1] fp0,Zz9 TForm a1 [u1_0] fp1]∧(Jd s12.2 1 (fun r13=>Je a0.degrees r26 r13 (fun r14=>Xu (Zu2.wrap (0 - (Zu2.wrap (((a1.terms.getD s11.2.toNat Zsn).factor) * (Zu2.wrap (((a1.terms.getD s11.2.toNat Zsn).mono).get s10.2.toNat)))))) (fun r20=>Jx (⟨s10.1⟩:ZAd) r14 r20 (fun r10=>nx11 (r10.terms,Zu2.wrap (s10.2+1)))))))) ?_ ?_
         ·clear hC h
          rintro e_ w32 ⟨b16,u20,r26,hS_,hC,h⟩
          rw [ue hS_]
          refine Zd ?_
          refine Yq 9 mixed [0,0,2,0,0,16,62,0,254,511,1023] [0,2,3,4] [1,7] (by kernel_rfl) (by kernel_rfl) (by kernel_rfl) (fun hM14 hM19 w33 hB_=>?_)
          replace hC:=hC.grow hB_
          refine aL 0 (.agg #[v10]) rfl rfl (hM14 0 rfl) (rfl) (fun _ hB_=>by exact Y8 (hC.grow hB_) 5 [v10] rfl ag44 rfl rfl rfl) (Zb 11 1) (aF 1 (.pointer (some ⟨b8,0,none⟩)) rfl rfl (hM19 1 rfl) (rfl) (fun _=>by exact Yi 0 ZAs rfl sc22.size rfl rfl) (Zb 11 3) (aL 2 (u0_0) rfl rfl (hM14 2 rfl) (rfl) (fun _ hB_=>by exact Yc (hC.grow hB_) 8 (u0_0) rfl sc22 rfl rfl) (Zb 11 7) (aL 3 (.agg #[u20]) rfl rfl (hM14 3 rfl) (rfl) (fun _ hB_=>by exact Y8 (hC.grow hB_) 0 [u20] rfl ag44 rfl rfl rfl) (Zb 11 15) (aL 4 (.agg (ZAa (Zz8 .u8 s12.2))) rfl rfl (hM14 4 rfl) (rfl) (fun _ hB_=>by exact Y8 (hC.grow hB_) 2 (Zz8 .u8 s12.2) rfl ag47 rfl rfl rfl) (Zb 11 31) (aF 7 (.int .i64 (Zu2.wrap (0 - (Zu2.wrap (((a1.terms.getD s11.2.toNat Zsn).factor) * (Zu2.wrap (((a1.terms.getD s11.2.toNat Zsn).mono).get s10.2.toNat))))))) rfl rfl (hM19 7 rfl) (rfl) (fun _=>by exact Zs (v:=.int .i64 (Zu2.wrap (0 - (Zu2.wrap (((a1.terms.getD s11.2.toNat Zsn).factor) * (Zu2.wrap (((a1.terms.getD s11.2.toNat Zsn).mono).get s10.2.toNat))))))) rfl) (Zb 11 159) (aO 5 rfl ?_))))))
          refine Zk [.agg (ZAa (Zz8 .u8 s12.2)),.int .i64 1] _ ZA2 rfl rfl rfl (Zcc s12.2 1 h _) (fun ret11 w34 hR11=>?_)
          obtain ⟨r13,u24,f10,rfl,h,hr12,hf10,hB11⟩:=hR11
          refine⟨_,rfl,?_⟩
          replace hC:=hC.push hB11 (ZAo (Ya 49) r13 [u24] f10) hr12 hf10
          obtain ⟨ho10,hf11⟩:=X0 (hC.getM 0 rfl)
          subst hf11
          replace hC:=hC.recast (c:=own 49 9 u24 r13.terms.length (ZAb.encs r13.terms)) (fun _ h_=>h_) (fun _=>ho10)
          refine done (aK (by assumption) (Zb 11 191) (aO 6 rfl ?_))
          refine Zk [u0_0,.agg #[u20],.agg #[u24]] _ ZA0 rfl rfl rfl (Za1 a0.degrees r26 r13 h _ (hC.getP 3 rfl) (Ys (Xr (hC.getM 2 rfl))) (Ys (Xr (hC.getM 0 rfl)))) (fun ret12 w35 hR12=>?_)
          obtain ⟨r14,u25,f11,rfl,h,hr13,hf12,hB12⟩:=hR12
          refine⟨_,rfl,?_⟩
          replace hC:=hC.push hB12 (ZAo (Ya 49) r14 [u25] f11) hr13 hf12
          obtain ⟨ho11,hf13⟩:=X0 (hC.getM 0 rfl)
          subst hf13
          replace hC:=hC.recast (c:=own 49 9 u25 r14.terms.length (ZAb.encs r14.terms)) (fun _ h_=>h_) (fun _=>ho11)
          refine done (aK (by assumption) (Zb 11 255) (aO 8 rfl ?_))
          refine Zk [.int .i64 (Zu2.wrap (0 - (Zu2.wrap (((a1.terms.getD s11.2.toNat Zsn).factor) * (Zu2.wrap (((a1.terms.getD s11.2.toNat Zsn).mono).get s10.2.toNat))))))] _ ZAz rfl rfl rfl (Za0 (Zu2.wrap (0 - (Zu2.wrap (((a1.terms.getD s11.2.toNat Zsn).factor) * (Zu2.wrap (((a1.terms.getD s11.2.toNat Zsn).mono).get s10.2.toNat)))))) h _) (fun ret13 w36 hR13=>?_)
          obtain ⟨r20,rfl,h,hB13⟩:=hR13
          refine⟨_,rfl,?_⟩
          replace hC:=hC.grow hB13
          refine done (aK (by assumption) (Zb 11 511) (Z7 9 (by decide) (by decide) (by kernel_rfl) (by kernel_rfl) rfl ?_))
          refine Zk [.agg #[v10],.agg #[u25],.int .i64 r20] _ ZBb rfl rfl rfl (Zhc (⟨s10.1⟩:ZAd) r14 r20 h _ (Ys (Xr (hC.getM 5 rfl))) (Ys (Xr (hC.getM 0 rfl)))) (fun ret14 w37 hR14=>?_)
          obtain ⟨r10,u10,f12,rfl,h,hr14,hf14,hB14⟩:=hR14
          refine⟨_,rfl,?_⟩
          replace hC:=hC.push hB14 (ZAo (Ya 49) r10 [u10] f12) hr14 hf14
          obtain ⟨ho12,hf15⟩:=X0 (hC.getM 0 rfl)
          subst hf15
          replace hC:=hC.recast (c:=own 49 9 u10 r10.terms.length (ZAb.encs r10.terms)) (fun _ h_=>h_) (fun _=>ho12)
          refine Zy (v:=.agg #[u10]) hC 8 [u10] [u10] rfl ag44.size rfl rfl rfl rfl (Y4 (Xe (hC.getM 0 rfl)) rfl) (ZAe rfl) rfl fun w38 hC=>done (Z8 (Zt (Zd (Zn (Za (v:=.int .i64 s10.2) rfl (Zp rfl rfl (Zc (v:=.int .i64 (Zu2.wrap (s10.2+1))) rfl (done ?_))))))))
          replace hC:=hC.sM [0,7,8,9,10,11] (M':=[own 49 9 u10 r10.terms.length (ZAb.encs r10.terms),blk b13 47 (Zz8 .u8 ((a1.terms.getD s11.2.toNat Zsn).mono)),blk b12 44 [u10],blk b11 44 [.slice none 0 0],blk b10 44 [u1_0],blk b8 32 [u0_0,u0_1]]) (by decide) rfl
          replace hC:=hC.sP [1,2,3,4,5] (Ps':=[Zz9 ZAb.ty.sl a1.terms [u1_0] fp1,Zz9 ZAq.sl a0.images [u0_1] fp0,Zz9 ((EI .i64).ty.sl) a0.degrees [u0_0] fp0,Zz9 TAlg a0 [u0_0,u0_1] fp0,Zz9 TForm a1 [u1_0] fp1]) rfl
          exact hK11 (r10.terms,Zu2.wrap (s10.2+1)) _ _ ⟨u10,(sl ⟨rfl,rfl,rfl,rfl,rfl,rfl,rfl,trivial⟩),hC⟩ h
         refine Jm 3 10 rfl rfl (by kernel_rfl) ?_ ?_
         ·skip
          refine Zk [.agg (ZAa (Zz8 .u8 (s12.1.set s10.2.toNat (ZAm.wrap ((((a1.terms.getD s11.2.toNat Zsn).mono).get s10.2.toNat) - 1))))),.int .i64 1] _ ZA2 rfl rfl rfl (Zcc (s12.1.set s10.2.toNat (ZAm.wrap ((((a1.terms.getD s11.2.toNat Zsn).mono).get s10.2.toNat) - 1))) 1 h _) (fun ret15 w39 hR15=>?_)
          obtain ⟨r18,u22,f13,rfl,h,hr15,hf16,hB15⟩:=hR15
          refine⟨_,rfl,?_⟩
          replace hC:=hC.push hB15 (ZAo (Ya 49) r18 [u22] f13) hr15 hf16
          obtain ⟨ho13,hf17⟩:=X0 (hC.getM 0 rfl)
          subst hf17
          replace hC:=hC.recast (c:=own 49 9 u22 r18.terms.length (ZAb.encs r18.terms)) (fun _ h_=>h_) (fun _=>ho13)
          refine done (aK (by assumption) (Zb 12 511) ?_)
          refine Jm 9 10 rfl rfl (by kernel_rfl) ?_ ?_
          ·skip
           refine Zk [u0_0,.agg #[u22],.agg #[u18]] _ ZA0 rfl rfl rfl (Za1 a0.degrees r18 (a0.images.getD s10.2.toNat Zsn) h _ (hC.getP 3 rfl) (Ys (Xr (hC.getM 0 rfl))) (Ys (hC.getP 0 rfl))) (fun ret16 w40 hR16=>?_)
           obtain ⟨r12,u11,f14,rfl,h,hr16,hf18,hB16⟩:=hR16
           refine⟨_,rfl,?_⟩
           replace hC:=hC.push hB16 (ZAo (Ya 49) r12 [u11] f14) hr16 hf18
           obtain ⟨ho14,hf19⟩:=X0 (hC.getM 0 rfl)
           subst hf19
           replace hC:=hC.recast (c:=own 49 9 u11 r12.terms.length (ZAb.encs r12.terms)) (fun _ h_=>h_) (fun _=>ho14)
           refine done (aK (by assumption) (Zb 12 1023) (aO 10 rfl (Ye hC [.slice none 0 0] z44 rfl fun b18 w41 hB_ hC=>done (aK (by assumption) (Zb 12 2047) (Z7 11 (by decide) (by decide) (by kernel_rfl) (by kernel_rfl) rfl (Zy (v:=.agg #[u11]) hC 0 [u11] [u11] rfl ag44.size rfl rfl rfl rfl (Y4 (Xe (hC.getM 1 rfl)) rfl) (ZAe rfl) rfl fun w42 hC=>done (Z8 ?_)))))))
           replace hC:=hC.sM [0,1,4,6,7,8,9,10,11] (M':=[blk b18 44 [u11],own 49 9 u11 r12.terms.length (ZAb.encs r12.terms),blk b14 47 (Zz8 .u8 s12.2),own 49 9 v10 s10.1.length (ZAb.encs s10.1),blk b13 47 (Zz8 .u8 ((a1.terms.getD s11.2.toNat Zsn).mono)),blk b12 44 [v10],blk b11 44 [.slice none 0 0],blk b10 44 [u1_0],blk b8 32 [u0_0,u0_1]]) (by decide) rfl
           exact⟨rfl,_,rfl,⟨b18,u11,r12,(sl ⟨rfl,rfl,rfl,rfl,rfl,rfl,rfl,rfl,rfl,rfl,trivial⟩),hC,h⟩⟩
          ·skip
           refine Ye hC [.slice none 0 0] z44 rfl fun b19 w43 hB_ hC=>done (aK (by assumption) (Zb 12 1535) (aO 9 rfl ?_))
           refine Zk [u0_0,.agg #[u22],.agg #[u18]] _ ZA0 rfl rfl rfl (Za1 a0.degrees r18 (a0.images.getD s10.2.toNat Zsn) h _ (hC.getP 3 rfl) (Ys (Xr (hC.getM 1 rfl))) (Ys (hC.getP 0 rfl))) (fun ret17 w44 hR17=>?_)
           obtain ⟨r22,u12,f15,rfl,h,hr17,hf20,hB17⟩:=hR17
           refine⟨_,rfl,?_⟩
           replace hC:=hC.push hB17 (ZAo (Ya 49) r22 [u12] f15) hr17 hf20
           obtain ⟨ho15,hf21⟩:=X0 (hC.getM 0 rfl)
           subst hf21
           replace hC:=hC.recast (c:=own 49 9 u12 r22.terms.length (ZAb.encs r22.terms)) (fun _ h_=>h_) (fun _=>ho15)
           refine done (aK (by assumption) (Zb 12 2047) (Z7 11 (by decide) (by decide) (by kernel_rfl) (by kernel_rfl) rfl (Zy (v:=.agg #[u12]) hC 1 [u12] [u12] rfl ag44.size rfl rfl rfl rfl (Y4 (Xe (hC.getM 0 rfl)) rfl) (ZAe rfl) rfl fun w45 hC=>done (Z8 ?_))))
           replace hC:=hC.sM [1,0,4,6,7,8,9,10,11] (M':=[blk b19 44 [u12],own 49 9 u12 r22.terms.length (ZAb.encs r22.terms),blk b14 47 (Zz8 .u8 s12.2),own 49 9 v10 s10.1.length (ZAb.encs s10.1),blk b13 47 (Zz8 .u8 ((a1.terms.getD s11.2.toNat Zsn).mono)),blk b12 44 [v10],blk b11 44 [.slice none 0 0],blk b10 44 [u1_0],blk b8 32 [u0_0,u0_1]]) (by decide) rfl
           exact⟨rfl,_,rfl,⟨b19,u12,r22,(sl ⟨rfl,rfl,rfl,rfl,rfl,rfl,rfl,rfl,rfl,rfl,trivial⟩),hC,h⟩⟩
         ·skip
          refine Ye hC [.slice none 0 0] z44 rfl fun b20 w46 hB_ hC=>done (aK (by assumption) (Zb 12 1527) (aO 3 rfl ?_))
          refine Zk [.agg (ZAa (Zz8 .u8 (s12.1.set s10.2.toNat (ZAm.wrap ((((a1.terms.getD s11.2.toNat Zsn).mono).get s10.2.toNat) - 1))))),.int .i64 1] _ ZA2 rfl rfl rfl (Zcc (s12.1.set s10.2.toNat (ZAm.wrap ((((a1.terms.getD s11.2.toNat Zsn).mono).get s10.2.toNat) - 1))) 1 h _) (fun ret18 w47 hR18=>?_)
          obtain ⟨r29,u26,f16,rfl,h,hr18,hf22,hB18⟩:=hR18
          refine⟨_,rfl,?_⟩
          replace hC:=hC.push hB18 (ZAo (Ya 49) r29 [u26] f16) hr18 hf22
          obtain ⟨ho16,hf23⟩:=X0 (hC.getM 0 rfl)
          subst hf23
          replace hC:=hC.recast (c:=own 49 9 u26 r29.terms.length (ZAb.encs r29.terms)) (fun _ h_=>h_) (fun _=>ho16)
          refine done (aK (by assumption) (Zb 12 1535) (aO 9 rfl ?_))
          refine Zk [u0_0,.agg #[u26],.agg #[u18]] _ ZA0 rfl rfl rfl (Za1 a0.degrees r29 (a0.images.getD s10.2.toNat Zsn) h _ (hC.getP 3 rfl) (Ys (Xr (hC.getM 0 rfl))) (Ys (hC.getP 0 rfl))) (fun ret19 w48 hR19=>?_)
          obtain ⟨r23,u13,f17,rfl,h,hr19,hf24,hB19⟩:=hR19
          refine⟨_,rfl,?_⟩
          replace hC:=hC.push hB19 (ZAo (Ya 49) r23 [u13] f17) hr19 hf24
          obtain ⟨ho17,hf25⟩:=X0 (hC.getM 0 rfl)
          subst hf25
          replace hC:=hC.recast (c:=own 49 9 u13 r23.terms.length (ZAb.encs r23.terms)) (fun _ h_=>h_) (fun _=>ho17)
          refine done (aK (by assumption) (Zb 12 2047) (Z7 11 (by decide) (by decide) (by kernel_rfl) (by kernel_rfl) rfl (Zy (v:=.agg #[u13]) hC 2 [u13] [u13] rfl ag44.size rfl rfl rfl rfl (Y4 (Xe (hC.getM 0 rfl)) rfl) (ZAe rfl) rfl fun w49 hC=>done (Z8 ?_))))
          replace hC:=hC.sM [2,0,4,6,7,8,9,10,11] (M':=[blk b20 44 [u13],own 49 9 u13 r23.terms.length (ZAb.encs r23.terms),blk b14 47 (Zz8 .u8 s12.2),own 49 9 v10 s10.1.length (ZAb.encs s10.1),blk b13 47 (Zz8 .u8 ((a1.terms.getD s11.2.toNat Zsn).mono)),blk b12 44 [v10],blk b11 44 [.slice none 0 0],blk b10 44 [u1_0],blk b8 32 [u0_0,u0_1]]) (by decide) rfl
          exact⟨rfl,_,rfl,⟨b20,u13,r23,(sl ⟨rfl,rfl,rfl,rfl,rfl,rfl,rfl,rfl,rfl,rfl,trivial⟩),hC,h⟩⟩
        ·replace h:=Zh h (cf hb16)
         refine ZAg (Zd (ZAc ?_))
         refine Yq 11 mixed [0,1,0,4,0,16,0,112,240,511,0,2047] [1,2,5,7,8] [0,4,6] (by kernel_rfl) (by kernel_rfl) (by kernel_rfl) (fun hM13 hM17 w50 hB_=>?_)
         replace hC:=hC.grow hB_
         refine aF 0 (.pointer (some ⟨b8,0,none⟩)) rfl rfl (hM17 0 rfl) (rfl) (fun _=>by exact Yi 0 ZAs rfl sc22.size rfl rfl) (Zb 12 1) (aL 1 (u0_0) rfl rfl (hM13 1 rfl) (rfl) (fun _ hB_=>by exact Yc (hC.grow hB_) 8 (u0_0) rfl sc22 rfl rfl) (Zb 12 3) (aL 2 (.agg (ZAa (Zz8 .u8 (s12.1.set s10.2.toNat (ZAm.wrap ((((a1.terms.getD s11.2.toNat Zsn).mono).get s10.2.toNat) - 1)))))) rfl rfl (hM13 2 rfl) (rfl) (fun _ hB_=>by exact Y8 (hC.grow hB_) 0 (Zz8 .u8 (s12.1.set s10.2.toNat (ZAm.wrap ((((a1.terms.getD s11.2.toNat Zsn).mono).get s10.2.toNat) - 1)))) rfl ag47 rfl rfl rfl) (Zb 12 7) (aF 4 (.pointer (some ⟨b8,1,none⟩)) rfl rfl (hM17 4 rfl) (rfl) (fun _=>by exact Yi 1 ZAs rfl sc30.size rfl rfl) (Zb 12 23) (aL 5 (u0_1) rfl rfl (hM13 5 rfl) (rfl) (fun _ hB_=>by exact Yc (hC.grow hB_) 8 (u0_1) rfl sc30 rfl rfl) (Zb 12 55) (aF 6 (.int .i64 s10.2) rfl rfl (hM17 6 rfl) (rfl) (fun _=>by exact Zs (v:=.int .i64 s10.2) rfl) (Zb 12 119) ?_)))))
         obtain ⟨⟨h24,h25⟩,h⟩:=h
         obtain ⟨Ad12,c15,hv13⟩:=Z6 (hC.getP 1 rfl) s10.2.toNat (show s10.2.toNat < a0.images.length by omega)
         refine aL 7 (.pointer (some (Ad12.add (s10.2.toNat * 1)))) rfl rfl (hM13 7 rfl) (rfl) (fun _ hB_=>by exact Y2 (len:=a0.images.length) ZAy ag44.size (by exact tr rfl hv13) rfl h24 h25) (Zb 12 247) ?_
         obtain ⟨cs_,hl11,hc11,hr11⟩:=Ja (hC.getP 1 rfl) hv13 s10.2.toNat (show s10.2.toNat < a0.images.length by omega)
         obtain ⟨u19,rfl⟩:=ZA6.1 hl11
         clear hl11
         rw [X3 _ _ (show s10.2.toNat < a0.images.length by omega)] at hr11
         have hp11:=hr11
         replace hC:=hC.derive 1 rfl (Zz9 ZAb.ty.sl ((a0.images.getD s10.2.toNat Zsn).terms) [u19] fp0) (fun _=>(Yx hp11)) (fun _ hb_=>hb_)
         refine aL 8 (.agg #[u19]) rfl rfl (hM13 8 rfl) (rfl) (fun _ hB_=>by exact Xs [u19] (Zas hB_ hc11) ag44 rfl rfl) (Zb 12 503) ?_
         refine Zc4 (fun e_ w_=>∃ (b17:Nat),∃ (u21:Value),∃ (r27:ZAd),Z1 e_ [(2,.pointer (some ⟨b8,0,none⟩)),(3,.pointer (some ⟨b10,0,none⟩)),(4,.pointer (some ⟨b11,0,none⟩)),(5,.pointer (some ⟨b12,0,none⟩)),(6,.int .i64 s11.2),(7,.pointer (some ⟨b13,0,none⟩)),(8,.int .i64 s10.2),(10,.pointer (some ⟨b14,0,none⟩)),(13,.int .i64 (Zu2.wrap (((a1.terms.getD s11.2.toNat Zsn).factor) * (Zu2.wrap (((a1.terms.getD s11.2.toNat Zsn).mono).get s10.2.toNat))))),(14,.pointer (some ⟨b17,0,none⟩))]∧Ctx Nox w0 w_ [blk b17 44 [u21],own 49 9 u21 r27.terms.length (ZAb.encs r27.terms),blk b14 47 (Zz8 .u8 s12.2),own 49 9 v10 s10.1.length (ZAb.encs s10.1),blk b13 47 (Zz8 .u8 ((a1.terms.getD s11.2.toNat Zsn).mono)),blk b12 44 [v10],blk b11 44 [.slice none 0 0],blk b10 44 [u1_0],blk b8 32 [u0_0,u0_1]] [Zz9 ZAb.ty.sl ((a0.images.getD s10.2.toNat Zsn).terms) [u19] fp0,Zz9 ZAb.ty.sl a1.terms [u1_0] fp1,Zz9 ZAq.sl a0.images [u0_1] fp0,Zz9 ((EI .i64).ty.sl) a0.degrees [u0_0] fp0,Zz9 TAlg a0 [u0_0,u0_1] fp0,Zz9 TForm a1 [u1_0] fp1]∧(Jd s12.2 1 (fun r16=>Je a0.degrees r27 r16 (fun r17=>Xu (Zu2.wrap (((a1.terms.getD s11.2.toNat Zsn).factor) * (Zu2.wrap (((a1.terms.getD s11.2.toNat Zsn).mono).get s10.2.toNat)))) (fun r21=>Jx (⟨s10.1⟩:ZAd) r17 r21 (fun r11=>nx11 (r11.terms,Zu2.wrap (s10.2+1)))))))) ?_ ?_
         ·clear hC h
          rintro e_ w51 ⟨b17,u21,r27,hS_,hC,h⟩
          rw [ue hS_]
          refine Zd ?_
          refine Yq 9 mixed [0,0,2,0,0,16,62,0,254,511,1023] [0,2,3,4] [1,7] (by kernel_rfl) (by kernel_rfl) (by kernel_rfl) (fun hM15 hM20 w52 hB_=>?_)
          replace hC:=hC.grow hB_
          refine aL 0 (.agg #[v10]) rfl rfl (hM15 0 rfl) (rfl) (fun _ hB_=>by exact Y8 (hC.grow hB_) 5 [v10] rfl ag44 rfl rfl rfl) (Zb 11 1) (aF 1 (.pointer (some ⟨b8,0,none⟩)) rfl rfl (hM20 1 rfl) (rfl) (fun _=>by exact Yi 0 ZAs rfl sc22.size rfl rfl) (Zb 11 3) (aL 2 (u0_0) rfl rfl (hM15 2 rfl) (rfl) (fun _ hB_=>by exact Yc (hC.grow hB_) 8 (u0_0) rfl sc22 rfl rfl) (Zb 11 7) (aL 3 (.agg #[u21]) rfl rfl (hM15 3 rfl) (rfl) (fun _ hB_=>by exact Y8 (hC.grow hB_) 0 [u21] rfl ag44 rfl rfl rfl) (Zb 11 15) (aL 4 (.agg (ZAa (Zz8 .u8 s12.2))) rfl rfl (hM15 4 rfl) (rfl) (fun _ hB_=>by exact Y8 (hC.grow hB_) 2 (Zz8 .u8 s12.2) rfl ag47 rfl rfl rfl) (Zb 11 31) (aF 7 (.int .i64 (Zu2.wrap (((a1.terms.getD s11.2.toNat Zsn).factor) * (Zu2.wrap (((a1.terms.getD s11.2.toNat Zsn).mono).get s10.2.toNat))))) rfl rfl (hM20 7 rfl) (rfl) (fun _=>by exact Zs (v:=.int .i64 (Zu2.wrap (((a1.terms.getD s11.2.toNat Zsn).factor) * (Zu2.wrap (((a1.terms.getD s11.2.toNat Zsn).mono).get s10.2.toNat))))) rfl) (Zb 11 159) (aO 5 rfl ?_))))))
          refine Zk [.agg (ZAa (Zz8 .u8 s12.2)),.int .i64 1] _ ZA2 rfl rfl rfl (Zcc s12.2 1 h _) (fun ret20 w53 hR20=>?_)
          obtain ⟨r16,u27,f18,rfl,h,hr20,hf26,hB20⟩:=hR20
          refine⟨_,rfl,?_⟩
          replace hC:=hC.push hB20 (ZAo (Ya 49) r16 [u27] f18) hr20 hf26
          obtain ⟨ho18,hf27⟩:=X0 (hC.getM 0 rfl)
          subst hf27
          replace hC:=hC.recast (c:=own 49 9 u27 r16.terms.length (ZAb.encs r16.terms)) (fun _ h_=>h_) (fun _=>ho18)
          refine done (aK (by assumption) (Zb 11 191) (aO 6 rfl ?_))
          refine Zk [u0_0,.agg #[u21],.agg #[u27]] _ ZA0 rfl rfl rfl (Za1 a0.degrees r27 r16 h _ (hC.getP 3 rfl) (Ys (Xr (hC.getM 2 rfl))) (Ys (Xr (hC.getM 0 rfl)))) (fun ret21 w54 hR21=>?_)
          obtain ⟨r17,u28,f19,rfl,h,hr21,hf28,hB21⟩:=hR21
          refine⟨_,rfl,?_⟩
          replace hC:=hC.push hB21 (ZAo (Ya 49) r17 [u28] f19) hr21 hf28
          obtain ⟨ho19,hf29⟩:=X0 (hC.getM 0 rfl)
          subst hf29
          replace hC:=hC.recast (c:=own 49 9 u28 r17.terms.length (ZAb.encs r17.terms)) (fun _ h_=>h_) (fun _=>ho19)
          refine done (aK (by assumption) (Zb 11 255) (aO 8 rfl ?_))
          refine Zk [.int .i64 (Zu2.wrap (((a1.terms.getD s11.2.toNat Zsn).factor) * (Zu2.wrap (((a1.terms.getD s11.2.toNat Zsn).mono).get s10.2.toNat))))] _ ZAz rfl rfl rfl (Za0 (Zu2.wrap (((a1.terms.getD s11.2.toNat Zsn).factor) * (Zu2.wrap (((a1.terms.getD s11.2.toNat Zsn).mono).get s10.2.toNat)))) h _) (fun ret22 w55 hR22=>?_)
          obtain ⟨r21,rfl,h,hB22⟩:=hR22
          refine⟨_,rfl,?_⟩
          replace hC:=hC.grow hB22
          refine done (aK (by assumption) (Zb 11 511) (Z7 9 (by decide) (by decide) (by kernel_rfl) (by kernel_rfl) rfl ?_))
          refine Zk [.agg #[v10],.agg #[u28],.int .i64 r21] _ ZBb rfl rfl rfl (Zhc (⟨s10.1⟩:ZAd) r17 r21 h _ (Ys (Xr (hC.getM 5 rfl))) (Ys (Xr (hC.getM 0 rfl)))) (fun ret23 w56 hR23=>?_)
          obtain ⟨r11,u14,f20,rfl,h,hr22,hf30,hB23⟩:=hR23
          refine⟨_,rfl,?_⟩
          replace hC:=hC.push hB23 (ZAo (Ya 49) r11 [u14] f20) hr22 hf30
          obtain ⟨ho20,hf31⟩:=X0 (hC.getM 0 rfl)
          subst hf31
          replace hC:=hC.recast (c:=own 49 9 u14 r11.terms.length (ZAb.encs r11.terms)) (fun _ h_=>h_) (fun _=>ho20)
          refine Zy (v:=.agg #[u14]) hC 8 [u14] [u14] rfl ag44.size rfl rfl rfl rfl (Y4 (Xe (hC.getM 0 rfl)) rfl) (ZAe rfl) rfl fun w57 hC=>done (Z8 (Zt (Zd (Zn (Za (v:=.int .i64 s10.2) rfl (Zp rfl rfl (Zc (v:=.int .i64 (Zu2.wrap (s10.2+1))) rfl (done ?_))))))))
          replace hC:=hC.sM [0,7,8,9,10,11] (M':=[own 49 9 u14 r11.terms.length (ZAb.encs r11.terms),blk b13 47 (Zz8 .u8 ((a1.terms.getD s11.2.toNat Zsn).mono)),blk b12 44 [u14],blk b11 44 [.slice none 0 0],blk b10 44 [u1_0],blk b8 32 [u0_0,u0_1]]) (by decide) rfl
          replace hC:=hC.sP [1,2,3,4,5] (Ps':=[Zz9 ZAb.ty.sl a1.terms [u1_0] fp1,Zz9 ZAq.sl a0.images [u0_1] fp0,Zz9 ((EI .i64).ty.sl) a0.degrees [u0_0] fp0,Zz9 TAlg a0 [u0_0,u0_1] fp0,Zz9 TForm a1 [u1_0] fp1]) rfl
          exact hK11 (r11.terms,Zu2.wrap (s10.2+1)) _ _ ⟨u14,(sl ⟨rfl,rfl,rfl,rfl,rfl,rfl,rfl,trivial⟩),hC⟩ h
         refine Jm 3 10 rfl rfl (by kernel_rfl) ?_ ?_
         ·skip
          refine Zk [.agg (ZAa (Zz8 .u8 (s12.1.set s10.2.toNat (ZAm.wrap ((((a1.terms.getD s11.2.toNat Zsn).mono).get s10.2.toNat) - 1))))),.int .i64 1] _ ZA2 rfl rfl rfl (Zcc (s12.1.set s10.2.toNat (ZAm.wrap ((((a1.terms.getD s11.2.toNat Zsn).mono).get s10.2.toNat) - 1))) 1 h _) (fun ret24 w58 hR24=>?_)
          obtain ⟨r19,u23,f21,rfl,h,hr23,hf32,hB24⟩:=hR24
          refine⟨_,rfl,?_⟩
          replace hC:=hC.push hB24 (ZAo (Ya 49) r19 [u23] f21) hr23 hf32
          obtain ⟨ho21,hf33⟩:=X0 (hC.getM 0 rfl)
          subst hf33
          replace hC:=hC.recast (c:=own 49 9 u23 r19.terms.length (ZAb.encs r19.terms)) (fun _ h_=>h_) (fun _=>ho21)
          refine done (aK (by assumption) (Zb 12 511) ?_)
          refine Jm 9 10 rfl rfl (by kernel_rfl) ?_ ?_
          ·skip
           refine Zk [u0_0,.agg #[u23],.agg #[u19]] _ ZA0 rfl rfl rfl (Za1 a0.degrees r19 (a0.images.getD s10.2.toNat Zsn) h _ (hC.getP 3 rfl) (Ys (Xr (hC.getM 0 rfl))) (Ys (hC.getP 0 rfl))) (fun ret25 w59 hR25=>?_)
           obtain ⟨r15,u15,f22,rfl,h,hr24,hf34,hB25⟩:=hR25
           refine⟨_,rfl,?_⟩
           replace hC:=hC.push hB25 (ZAo (Ya 49) r15 [u15] f22) hr24 hf34
           obtain ⟨ho22,hf35⟩:=X0 (hC.getM 0 rfl)
           subst hf35
           replace hC:=hC.recast (c:=own 49 9 u15 r15.terms.length (ZAb.encs r15.terms)) (fun _ h_=>h_) (fun _=>ho22)
           refine done (aK (by assumption) (Zb 12 1023) (aO 10 rfl (Ye hC [.slice none 0 0] z44 rfl fun b21 w60 hB_ hC=>done (aK (by assumption) (Zb 12 2047) (Z7 11 (by decide) (by decide) (by kernel_rfl) (by kernel_rfl) rfl (Zy (v:=.agg #[u15]) hC 0 [u15] [u15] rfl ag44.size rfl rfl rfl rfl (Y4 (Xe (hC.getM 1 rfl)) rfl) (ZAe rfl) rfl fun w61 hC=>done (Z8 ?_)))))))
           replace hC:=hC.sM [0,1,4,6,7,8,9,10,11] (M':=[blk b21 44 [u15],own 49 9 u15 r15.terms.length (ZAb.encs r15.terms),blk b14 47 (Zz8 .u8 s12.2),own 49 9 v10 s10.1.length (ZAb.encs s10.1),blk b13 47 (Zz8 .u8 ((a1.terms.getD s11.2.toNat Zsn).mono)),blk b12 44 [v10],blk b11 44 [.slice none 0 0],blk b10 44 [u1_0],blk b8 32 [u0_0,u0_1]]) (by decide) rfl
           exact⟨rfl,_,rfl,⟨b21,u15,r15,(sl ⟨rfl,rfl,rfl,rfl,rfl,rfl,rfl,rfl,rfl,rfl,trivial⟩),hC,h⟩⟩
          ·skip
           refine Ye hC [.slice none 0 0] z44 rfl fun b22 w62 hB_ hC=>done (aK (by assumption) (Zb 12 1535) (aO 9 rfl ?_))
           refine Zk [u0_0,.agg #[u23],.agg #[u19]] _ ZA0 rfl rfl rfl (Za1 a0.degrees r19 (a0.images.getD s10.2.toNat Zsn) h _ (hC.getP 3 rfl) (Ys (Xr (hC.getM 1 rfl))) (Ys (hC.getP 0 rfl))) (fun ret26 w63 hR26=>?_)
           obtain ⟨r24,u16,f23,rfl,h,hr25,hf36,hB26⟩:=hR26
           refine⟨_,rfl,?_⟩
           replace hC:=hC.push hB26 (ZAo (Ya 49) r24 [u16] f23) hr25 hf36
           obtain ⟨ho23,hf37⟩:=X0 (hC.getM 0 rfl)
           subst hf37
           replace hC:=hC.recast (c:=own 49 9 u16 r24.terms.length (ZAb.encs r24.terms)) (fun _ h_=>h_) (fun _=>ho23)
           refine done (aK (by assumption) (Zb 12 2047) (Z7 11 (by decide) (by decide) (by kernel_rfl) (by kernel_rfl) rfl (Zy (v:=.agg #[u16]) hC 1 [u16] [u16] rfl ag44.size rfl rfl rfl rfl (Y4 (Xe (hC.getM 0 rfl)) rfl) (ZAe rfl) rfl fun w64 hC=>done (Z8 ?_))))
           replace hC:=hC.sM [1,0,4,6,7,8,9,10,11] (M':=[blk b22 44 [u16],own 49 9 u16 r24.terms.length (ZAb.encs r24.terms),blk b14 47 (Zz8 .u8 s12.2),own 49 9 v10 s10.1.length (ZAb.encs s10.1),blk b13 47 (Zz8 .u8 ((a1.terms.getD s11.2.toNat Zsn).mono)),blk b12 44 [v10],blk b11 44 [.slice none 0 0],blk b10 44 [u1_0],blk b8 32 [u0_0,u0_1]]) (by decide) rfl
           exact⟨rfl,_,rfl,⟨b22,u16,r24,(sl ⟨rfl,rfl,rfl,rfl,rfl,rfl,rfl,rfl,rfl,rfl,trivial⟩),hC,h⟩⟩
         ·skip
          refine Ye hC [.slice none 0 0] z44 rfl fun b23 w65 hB_ hC=>done (aK (by assumption) (Zb 12 1527) (aO 3 rfl ?_))
          refine Zk [.agg (ZAa (Zz8 .u8 (s12.1.set s10.2.toNat (ZAm.wrap ((((a1.terms.getD s11.2.toNat Zsn).mono).get s10.2.toNat) - 1))))),.int .i64 1] _ ZA2 rfl rfl rfl (Zcc (s12.1.set s10.2.toNat (ZAm.wrap ((((a1.terms.getD s11.2.toNat Zsn).mono).get s10.2.toNat) - 1))) 1 h _) (fun ret27 w66 hR27=>?_)
          obtain ⟨r30,u29,f24,rfl,h,hr26,hf38,hB27⟩:=hR27
          refine⟨_,rfl,?_⟩
          replace hC:=hC.push hB27 (ZAo (Ya 49) r30 [u29] f24) hr26 hf38
          obtain ⟨ho24,hf39⟩:=X0 (hC.getM 0 rfl)
          subst hf39
          replace hC:=hC.recast (c:=own 49 9 u29 r30.terms.length (ZAb.encs r30.terms)) (fun _ h_=>h_) (fun _=>ho24)
          refine done (aK (by assumption) (Zb 12 1535) (aO 9 rfl ?_))
          refine Zk [u0_0,.agg #[u29],.agg #[u19]] _ ZA0 rfl rfl rfl (Za1 a0.degrees r30 (a0.images.getD s10.2.toNat Zsn) h _ (hC.getP 3 rfl) (Ys (Xr (hC.getM 0 rfl))) (Ys (hC.getP 0 rfl))) (fun ret28 w67 hR28=>?_)
          obtain ⟨r25,u17,f25,rfl,h,hr27,hf40,hB28⟩:=hR28
          refine⟨_,rfl,?_⟩
          replace hC:=hC.push hB28 (ZAo (Ya 49) r25 [u17] f25) hr27 hf40
          obtain ⟨ho25,hf41⟩:=X0 (hC.getM 0 rfl)
          subst hf41
          replace hC:=hC.recast (c:=own 49 9 u17 r25.terms.length (ZAb.encs r25.terms)) (fun _ h_=>h_) (fun _=>ho25)
          refine done (aK (by assumption) (Zb 12 2047) (Z7 11 (by decide) (by decide) (by kernel_rfl) (by kernel_rfl) rfl (Zy (v:=.agg #[u17]) hC 2 [u17] [u17] rfl ag44.size rfl rfl rfl rfl (Y4 (Xe (hC.getM 0 rfl)) rfl) (ZAe rfl) rfl fun w68 hC=>done (Z8 ?_))))
          replace hC:=hC.sM [2,0,4,6,7,8,9,10,11] (M':=[blk b23 44 [u17],own 49 9 u17 r25.terms.length (ZAb.encs r25.terms),blk b14 47 (Zz8 .u8 s12.2),own 49 9 v10 s10.1.length (ZAb.encs s10.1),blk b13 47 (Zz8 .u8 ((a1.terms.getD s11.2.toNat Zsn).mono)),blk b12 44 [v10],blk b11 44 [.slice none 0 0],blk b10 44 [u1_0],blk b8 32 [u0_0,u0_1]]) (by decide) rfl
          exact⟨rfl,_,rfl,⟨b23,u17,r25,(sl ⟨rfl,rfl,rfl,rfl,rfl,rfl,rfl,rfl,rfl,rfl,trivial⟩),hC,h⟩⟩
       ·skip
        exact⟨(sl ⟨rfl,rfl,rfl,rfl,rfl,rfl,rfl,rfl,rfl,rfl,trivial⟩),hC⟩
      refine Jm 2 3 rfl rfl (by kernel_rfl) ?_ ?_
      ·skip
       refine Zfj hC (Zz8 .u8 ZAi) z47 rfl fun b26 w69 hn_ hB_ hC=>?_
       have hnb_b13099:=Zso hN_ hn_
       refine done ?_
       refine Yr (X1 hN_ (by assumption)) hN_ (l9:=(Zb 6 7)) (by kernel_rfl) (fun hN_=>?_)
       refine aO 3 rfl (Zfj hC (Zz8 .u8 ZAi) z47 rfl fun b27 w70 hn_ hB_ hC=>?_)
       have hnb_b13102:=Zso hN_ hn_
       refine done ?_
       refine Yr (X1 hN_ (by assumption)) hN_ (l9:=(Zb 6 15)) (by kernel_rfl) (fun hN_=>?_)
       refine aO 4 rfl (Zjc (v:=.agg (ZAa (Zz8 .u8 ((a1.terms.getD s11.2.toNat Zsn).mono)))) hC 1 (Zz8 .u8 ((a1.terms.getD s11.2.toNat Zsn).mono)) (Zz8 .u8 ((a1.terms.getD s11.2.toNat Zsn).mono)) rfl ag47.size rfl rfl rfl rfl rfl (ZAe rfl) rfl fun w71 hBB_ hC=>done ?_)
       refine Yr (Jc hN_ hnb_b13099 hBB_) hN_ (l9:=(Zb 6 31)) (by kernel_rfl) (fun hN_=>?_)
       refine Z7 5 (by decide) (by decide) (by kernel_rfl) (by kernel_rfl) rfl (Zy (v:=.agg (ZAa (Zz8 .u8 ((a1.terms.getD s11.2.toNat Zsn).mono)))) hC 0 (Zz8 .u8 ((a1.terms.getD s11.2.toNat Zsn).mono)) (Zz8 .u8 ((a1.terms.getD s11.2.toNat Zsn).mono)) rfl ag47.size rfl rfl rfl rfl rfl (ZAe rfl) rfl fun w72 hC=>done (Z8 ?_))
       exact⟨rfl,_,rfl,⟨b27,b26,(sl ⟨rfl,rfl,rfl,rfl,rfl,rfl,rfl,rfl,rfl,trivial⟩),hC,h⟩⟩
      ·skip
       refine Zfj hC (Zz8 .u8 ZAi) z47 rfl fun b24 w73 hn_ hB_ hC=>?_
       have hnb_b13107:=Zso hN_ hn_
       refine done ?_
       refine Yr (X1 hN_ (by assumption)) hN_ (l9:=(Zb 6 11)) (by kernel_rfl) (fun hN_=>?_)
       refine aO 2 rfl (Zfj hC (Zz8 .u8 ZAi) z47 rfl fun b25 w74 hn_ hB_ hC=>?_)
       have hnb_b13110:=Zso hN_ hn_
       refine done ?_
       refine Yr (X1 hN_ (by assumption)) hN_ (l9:=(Zb 6 15)) (by kernel_rfl) (fun hN_=>?_)
       refine aO 4 rfl (Zjc (v:=.agg (ZAa (Zz8 .u8 ((a1.terms.getD s11.2.toNat Zsn).mono)))) hC 0 (Zz8 .u8 ((a1.terms.getD s11.2.toNat Zsn).mono)) (Zz8 .u8 ((a1.terms.getD s11.2.toNat Zsn).mono)) rfl ag47.size rfl rfl rfl rfl rfl (ZAe rfl) rfl fun w75 hBB_ hC=>done ?_)
       refine Yr (Jc hN_ hnb_b13110 hBB_) hN_ (l9:=(Zb 6 31)) (by kernel_rfl) (fun hN_=>?_)
       refine Z7 5 (by decide) (by decide) (by kernel_rfl) (by kernel_rfl) rfl (Zy (v:=.agg (ZAa (Zz8 .u8 ((a1.terms.getD s11.2.toNat Zsn).mono)))) hC 1 (Zz8 .u8 ((a1.terms.getD s11.2.toNat Zsn).mono)) (Zz8 .u8 ((a1.terms.getD s11.2.toNat Zsn).mono)) rfl ag47.size rfl rfl rfl rfl rfl (ZAe rfl) rfl fun w76 hC=>done (Z8 ?_))
       replace hC:=hC.sM [1,0,2,3,4,5,6,7] (M':=[blk b24 47 (Zz8 .u8 ((a1.terms.getD s11.2.toNat Zsn).mono)),blk b25 47 (Zz8 .u8 ((a1.terms.getD s11.2.toNat Zsn).mono)),own 49 9 v10 s10.1.length (ZAb.encs s10.1),blk b13 47 (Zz8 .u8 ((a1.terms.getD s11.2.toNat Zsn).mono)),blk b12 44 [v10],blk b11 44 [.slice none 0 0],blk b10 44 [u1_0],blk b8 32 [u0_0,u0_1]]) (by decide) rfl
       exact⟨rfl,_,rfl,⟨b24,b25,(sl ⟨rfl,rfl,rfl,rfl,rfl,rfl,rfl,rfl,rfl,trivial⟩),hC,h⟩⟩
    ·replace h:=Zh h (cf hb11)
     refine ZAt (Zl (Zl (Z4 ?_)))
     refine Zt (Zd (Zn (Za (v:=.int .i64 s11.2) rfl (Zp rfl rfl (Zc (v:=.int .i64 (Zu2.wrap (s11.2+1))) rfl (done ?_))))))
     replace hC:=hC.sM [0,2,3,4,5] (M':=[own 49 9 v10 s10.1.length (ZAb.encs s10.1),blk b12 44 [v10],blk b11 44 [.slice none 0 0],blk b10 44 [u1_0],blk b8 32 [u0_0,u0_1]]) (by decide) rfl
     exact hK12 (s10.1,Zu2.wrap (s11.2+1)) _ _ ⟨v10,(sl ⟨rfl,rfl,rfl,rfl,rfl,trivial⟩),hC⟩ h
   ·skip
    replace hC:=hC.sM [1,0,2,3,4,5] (M':=[own 49 9 v11 s11.1.length (ZAb.encs s11.1),blk b13 47 (Zz8 .u8 ((a1.terms.getD s11.2.toNat Zsn).mono)),blk b12 44 [v11],blk b11 44 [.slice none 0 0],blk b10 44 [u1_0],blk b8 32 [u0_0,u0_1]]) (by decide) rfl
    exact⟨v11,(sl ⟨rfl,rfl,rfl,rfl,rfl,rfl,rfl,trivial⟩),hC⟩
  ·replace h:=Zh h (cf hb10)
   refine ZAt (Zl (Zl (Z4 ?_)))
   refine Zd (sr (Yl hC 1 [v11] rfl ag44 rfl rfl rfl (Zy (v:=.agg #[v11]) hC 2 [v11] [v11] rfl ag44.size rfl rfl rfl rfl (Y4 (Xe (hC.getM 0 rfl)) rfl) (ZAe rfl) rfl fun w77 hC=>dn (ZAk ?_))))
   refine Zg (fn:=Try.f33) rfl ?_ ⟨(⟨s11.1⟩:ZAd),v11,(ZA7 (Zth v11)),rfl,h,(Zaj (Jw (hC.getM 0 rfl))),(Zaf hC 0 rfl),hC.below⟩ (.inl rfl)
   exact X9 hC 2 rfl ag44 rfl rfl
 ·skip
  replace hC:=hC.pushNil 49 9
  exact⟨.slice none 0 0,(sl ⟨rfl,rfl,rfl,rfl,rfl,trivial⟩),hC⟩
def Zdi (a0:Alg) (K:Bool→Prop):Prop :=
 Zdb a0.degrees (fun r13=>(if¬ (r13=true) then K false else(if(a0.images.length:Int)≠(a0.degrees.length:Int) then K false else Xa (fun (s10:Int) nx10=>(if s10 < (a0.images.length:Int) then((0≤s10∧s10 < (a0.images.length:Int))∧Zdf a0.degrees (a0.images.getD s10.toNat Zsn) (fun r14=>(if¬ (r14=true) then K false else((0≤s10∧s10 < (a0.images.length:Int))∧Zdg a0.degrees (a0.images.getD s10.toNat Zsn) (fun r10 r11=>(if¬ (r11=true) then K false else((0≤s10∧s10 < (a0.images.length:Int))∧(if(((a0.images.getD s10.toNat Zsn).terms).length:Int) > 0 then((0≤s10∧s10 < (a0.degrees.length:Int))∧(if r10≠Zu2.wrap ((a0.degrees.getD s10.toNat Zsn)+1) then K false else nx10 (Zu2.wrap (s10+1)))) else nx10 (Zu2.wrap (s10+1)))))))))) else Xa (fun (s11:Int) nx11=>(if s11 < (a0.images.length:Int) then((0≤s11∧s11 < (a0.images.length:Int))∧Zdh a0 (a0.images.getD s11.toNat Zsn) (fun r12=>(if(r12.terms.length:Int) > 0 then K false else nx11 (Zu2.wrap (s11+1))))) else K true)) 0)) 0)))
theorem Znt (a0 : Alg) {u0_0 : Value} {u0_1 : Value} {fp0 : List Nat} {K : Bool → Prop} (h : Zdi a0 K) (w0 : World) (q0 : TAlg.rep a0 [u0_0, u0_1] fp0 w0) :
  Calls ZAf 15 #[.agg #[u0_0,u0_1]] w0 fun e w'=>∃ (r0:Bool),
   e=.returned (.bool r0)∧K r0∧Bel w0 w':=by
 unfold Zdi at h
 refine Zz (args:=[.agg #[u0_0,u0_1]]) Try.func15 rfl 86 Try.ntmps15 (ZAe rfl) ?_
 have hC:=ZAv (X:=Nox) w0 [Zz9 TAlg a0 [u0_0,u0_1] fp0] (by simp only [Zsj,Zur,or_false,forall_eq_or_imp,forall_eq]; exact q0)
 have hp2:=(hC.getP 0 rfl)
 replace hC:=hC.derive 0 rfl (Zz9 ((EI .i64).ty.sl) a0.degrees [u0_0] fp0) (fun _=>(Y3 hp2).1) (fun _ hb_=>hb_)
 replace hC:=hC.derive 1 rfl (Zz9 ZAq.sl a0.images [u0_1] fp0) (fun _=>(Y3 hp2).2) (fun _ hb_=>hb_)
 refine sr (Yg (v:=.agg #[u0_0,u0_1]) hC [u0_0,u0_1] rfl rfl fun b5 w7 hB_ hC=>Zc (v:=.bool false) rfl (dn (ZAc (sr (Zx 0 ZAs rfl sc22.size rfl rfl (Z0 hC 0 (u0_0) rfl sc22 rfl rfl ?_))))))
 refine Zk [u0_0] _ Try.func30 rfl rfl rfl (Znn a0.degrees h _ (hC.getP 1 rfl)) (fun ret8 w10 hR9=>?_)
 obtain ⟨r13,rfl,h,hB10⟩:=hR9
 refine⟨_,rfl,?_⟩
 replace hC:=hC.grow hB10
 refine Xc rfl (Za (v:=.bool (!r13)) rfl ?_)
 refine Yy (!r13) (fun hb12=>?_) (fun hb12=>?_)
 ·replace h:=ift h (Yw (Xg hb12))
  refine Zi (b:=true) 4 11 rfl (tr rfl (congrArg _ hb12)) (by decide) (Zi (b:=true) 4 11 rfl (tr rfl (congrArg _ hb12)) (by decide) (Zi (b:=true) 4 11 rfl (tr rfl (congrArg _ hb12)) (by decide) (Zi (b:=true) 4 11 rfl (tr rfl (congrArg _ hb12)) (by decide) (Zi (b:=true) 4 11 rfl (tr rfl (congrArg _ hb12)) (by decide) (Zi (b:=true) 4 11 rfl (tr rfl (congrArg _ hb12)) (by decide) (Zi (b:=true) 4 11 rfl (tr rfl (congrArg _ hb12)) (by decide) (Z3 (v:=.bool true) (b:=true) (tr rfl (congrArg _ hb12)) rfl (dn (Yf rfl rfl (sr (Zc (v:=.bool false) rfl ?_)))))))))))
  refine dn ?_
  refine ZAk (Ze ?_)
  refine Zg (fn:=ZA3) rfl ?_ ⟨false,rfl,h,hC.below⟩ (.inl rfl)
  exact Zf rfl
 ·replace h:=Zh h (not_not_intro ((Xh hb12)))
  refine Zj 4 11 rfl rfl hb12 (Zx 1 ZAs rfl sc30.size rfl rfl (Zj 4 11 rfl rfl hb12 (Z0 hC 0 (u0_1) rfl sc30 rfl rfl (Zj 4 11 rfl rfl hb12 ?_))))
  obtain ⟨Ad13,c10,hv15⟩:=Zw (hC.getP 0 rfl)
  refine Zv ZAy (tr rfl hv15) (Zj 4 11 rfl rfl hb12 (Zx 0 ZAs rfl sc22.size rfl rfl (Zj 4 11 rfl rfl hb12 (Z0 hC 0 (u0_0) rfl sc22 rfl rfl (Zj 4 11 rfl rfl hb12 ?_)))))
  obtain ⟨Ad14,c11,hv16⟩:=Zw (hC.getP 1 rfl)
  refine Zv ZAu (tr rfl hv16) (Zj 4 11 rfl rfl hb12 (Y0 rfl rfl (Z3 (v:=.bool (decide ((a0.images.length:Int)≠(a0.degrees.length:Int)))) (b:=false) (tr rfl (congrArg _ hb12)) rfl (dn ?_))))
  refine Zr rfl (fun hb13=>?_) (fun hb13=>?_)
  ·replace h:=ift h (ct hb13)
   refine sr (Zc (v:=.bool false) rfl (dn ?_))
   refine ZAk (Ze ?_)
   refine Zg (fn:=ZA3) rfl ?_ ⟨false,rfl,h,hC.below⟩ (.inl rfl)
   exact Zf rfl
  ·replace h:=Zh h (cf hb13)
   refine ZAg (Zd (ZAc (sr (Zc (v:=.int .i64 0) rfl (dn (ZAl ?_))))))
   refine Xq (S:=Int) _ (fun s10 e_ w_=>Z1 e_ [(1,.pointer (some ⟨b5,0,none⟩)),(3,.int .i64 s10)]∧Ctx Nox w0 w_ [blk b5 32 [u0_0,u0_1]] [Zz9 ZAq.sl a0.images [u0_1] fp0,Zz9 ((EI .i64).ty.sl) a0.degrees [u0_0] fp0,Zz9 TAlg a0 [u0_0,u0_1] fp0]) ?_ (s0:=0) ?_ h
   ·clear hC h
    rintro s10 e_ w11 nx10 K10 ⟨hS_,hC⟩ h hK10
    rw [ue hS_]
    refine ZAc (sr (Za (v:=.int .i64 s10) rfl (Zx 1 ZAs rfl sc30.size rfl rfl (Z0 hC 0 (u0_1) rfl sc30 rfl rfl ?_))))
    obtain ⟨Ad15,c12,hv17⟩:=Zw (hC.getP 0 rfl)
    refine Zv ZAy (tr rfl hv17) (Zq rfl rfl (dn ?_))
    refine Zr rfl (fun hb14=>?_) (fun hb14=>?_)
    ·replace h:=ift h (ct hb14)
     refine ZAg (Zd (ZAc (ZAl (ZAc (ZAc ?_)))))
     refine Yq 7 mixed [0,1,0,4,0,28,60,127,255] [1,3,5,6] [0,2,4] (by kernel_rfl) (by kernel_rfl) (by kernel_rfl) (fun hM11 hM14 w12 hB_=>?_)
     replace hC:=hC.grow hB_
     refine aF 0 (.pointer (some ⟨b5,0,none⟩)) rfl rfl (hM14 0 rfl) (rfl) (fun _=>by exact Yi 0 ZAs rfl sc22.size rfl rfl) (Zb 9 1) (aL 1 (u0_0) rfl rfl (hM11 1 rfl) (rfl) (fun _ hB_=>by exact Yc (hC.grow hB_) 0 (u0_0) rfl sc22 rfl rfl) (Zb 9 3) (aF 2 (.pointer (some ⟨b5,1,none⟩)) rfl rfl (hM14 2 rfl) (rfl) (fun _=>by exact Yi 1 ZAs rfl sc30.size rfl rfl) (Zb 9 7) (aL 3 (u0_1) rfl rfl (hM11 3 rfl) (rfl) (fun _ hB_=>by exact Yc (hC.grow hB_) 0 (u0_1) rfl sc30 rfl rfl) (Zb 9 15) (aF 4 (.int .i64 s10) rfl rfl (hM14 4 rfl) (rfl) (fun _=>by exact Zs (v:=.int .i64 s10) rfl) (Zb 9 31) ?_))))
     obtain ⟨⟨h10,h11⟩,h⟩:=h
     obtain ⟨Ad10,c13,hv10⟩:=Z6 (hC.getP 0 rfl) s10.toNat (show s10.toNat < a0.images.length by omega)
     refine aL 5 (.pointer (some (Ad10.add (s10.toNat * 1)))) rfl rfl (hM11 5 rfl) (rfl) (fun _ hB_=>by exact Y2 (len:=a0.images.length) ZAy ag44.size (by exact tr rfl hv10) rfl h10 h11) (Zb 9 63) ?_
     obtain ⟨cs_,hl10,hc10,hr10⟩:=Ja (hC.getP 0 rfl) hv10 s10.toNat (show s10.toNat < a0.images.length by omega)
     obtain ⟨u10,rfl⟩:=ZA6.1 hl10
     clear hl10
     rw [X3 _ _ (show s10.toNat < a0.images.length by omega)] at hr10
     have hp10:=hr10
     replace hC:=hC.derive 0 rfl (Zz9 ZAb.ty.sl ((a0.images.getD s10.toNat Zsn).terms) [u10] fp0) (fun _=>(Yx hp10)) (fun _ hb_=>hb_)
     refine aL 6 (.agg #[u10]) rfl rfl (hM11 6 rfl) (rfl) (fun _ hB_=>by exact Xs [u10] (Zas hB_ hc10) ag44 rfl rfl) (Zb 9 127) (Z7 7 (by decide) (by decide) (by kernel_rfl) (by kernel_rfl) rfl ?_)
     refine Zk [u0_0,.agg #[u10]] _ Try.func31 rfl rfl rfl (Znq a0.degrees (a0.images.getD s10.toNat Zsn) h _ (hC.getP 2 rfl) (Ys (hC.getP 0 rfl))) (fun ret10 w13 hR10=>?_)
     obtain ⟨r14,rfl,h,hB11⟩:=hR10
     refine⟨_,rfl,?_⟩
     replace hC:=hC.grow hB11
     refine Xc rfl (done (Z8 (Zd ?_)))
     refine Zr rfl (fun hb15=>?_) (fun hb15=>?_)
     ·replace h:=ift h (Yw (Xg hb15))
      refine sr (Zc (v:=.bool false) rfl (dn ?_))
      refine ZAk (Ze (Z2 (Ze (Ze (Z2 (Ze ?_))))))
      refine Zg (fn:=ZA3) rfl ?_ ⟨false,rfl,h,hC.below⟩ (.inl rfl)
      exact Zf rfl
     ·replace h:=Zh h (not_not_intro ((Xh hb15)))
      refine ZAg (Zd (ZAc ?_))
      refine Yq 12 mixed [0,1,0,4,0,28,60,127,255,511,511,1023,4095] [1,3,5,6] [0,2,4,8,9,10,11] (by kernel_rfl) (by kernel_rfl) (by kernel_rfl) (fun hM12 hM10 w14 hB_=>?_)
      replace hC:=hC.grow hB_
      refine aF 0 (.pointer (some ⟨b5,0,none⟩)) rfl rfl (hM10 0 rfl) (rfl) (fun _=>by exact Yi 0 ZAs rfl sc22.size rfl rfl) (Zb 13 1) (aL 1 (u0_0) rfl rfl (hM12 1 rfl) (rfl) (fun _ hB_=>by exact Yc (hC.grow hB_) 0 (u0_0) rfl sc22 rfl rfl) (Zb 13 3) (aF 2 (.pointer (some ⟨b5,1,none⟩)) rfl rfl (hM10 2 rfl) (rfl) (fun _=>by exact Yi 1 ZAs rfl sc30.size rfl rfl) (Zb 13 7) (aL 3 (u0_1) rfl rfl (hM12 3 rfl) (rfl) (fun _ hB_=>by exact Yc (hC.grow hB_) 0 (u0_1) rfl sc30 rfl rfl) (Zb 13 15) (aF 4 (.int .i64 s10) rfl rfl (hM10 4 rfl) (rfl) (fun _=>by exact Zs (v:=.int .i64 s10) rfl) (Zb 13 31) ?_))))
      obtain ⟨⟨h12,h13⟩,h⟩:=h
      obtain ⟨Ad11,c14,hv11⟩:=Z6 (hC.getP 1 rfl) s10.toNat (show s10.toNat < a0.images.length by omega)
      refine aL 5 (.pointer (some (Ad11.add (s10.toNat * 1)))) rfl rfl (hM12 5 rfl) (rfl) (fun _ hB_=>by exact Y2 (len:=a0.images.length) ZAy ag44.size (by exact tr rfl hv11) rfl h12 h13) (Zb 13 63) ?_
      obtain ⟨cs_,hl11,hc11,hr11⟩:=Ja (hC.getP 1 rfl) hv11 s10.toNat (show s10.toNat < a0.images.length by omega)
      obtain ⟨u11,rfl⟩:=ZA6.1 hl11
      clear hl11
      rw [X3 _ _ (show s10.toNat < a0.images.length by omega)] at hr11
      have hp11:=hr11
      replace hC:=hC.derive 1 rfl (Zz9 ZAb.ty.sl ((a0.images.getD s10.toNat Zsn).terms) [u11] fp0) (fun _=>(Yx hp11)) (fun _ hb_=>hb_)
      refine aL 6 (.agg #[u11]) rfl rfl (hM12 6 rfl) (rfl) (fun _ hB_=>by exact Xs [u11] (Zas hB_ hc11) ag44 rfl rfl) (Zb 13 127) (aO 7 rfl ?_)
      refine Zk [u0_0,.agg #[u11]] _ Try.func32 rfl rfl rfl (Znr a0.degrees (a0.images.getD s10.toNat Zsn) h _ (hC.getP 3 rfl) (Ys (hC.getP 0 rfl))) (fun ret11 w15 hR11=>?_)
      obtain ⟨r10,r11,rfl,h,hB12⟩:=hR11
      refine⟨_,rfl,?_⟩
      replace hC:=hC.grow hB12
      refine done (aK (by assumption) (Zb 13 255) (aF 8 (.tuple #[.int .i64 r10,.bool r11]) rfl rfl (hM10 8 rfl) (rfl) (fun _=>by exact Zs (v:=.tuple #[.int .i64 r10,.bool r11]) rfl) (Zb 13 511) (aF 9 (.int .i64 r10) rfl rfl (hM10 9 rfl) (rfl) (fun _=>by exact Zbw (v:=.int .i64 r10) rfl rfl) (Zb 13 1023) (aF 10 (.bool r11) rfl rfl (hM10 10 rfl) (rfl) (fun _=>by exact Zbw (v:=.bool r11) rfl rfl) (Zb 13 2047) (aF 11 (.int .i64 r10) rfl rfl (hM10 11 rfl) (rfl) (fun _=>by exact Zli (v:=.int .i64 r10) rfl) (Zb 13 4095) (Z7 12 (by decide) (by decide) (by kernel_rfl) (by kernel_rfl) rfl (Zc (v:=.bool r11) rfl (done (Z8 (Zd (sr ?_)))))))))))
      refine Za (v:=.bool r11) rfl (Xc rfl (Za (v:=.bool (!r11)) rfl ?_))
      refine Yy (!r11) (fun hb10=>?_) (fun hb10=>?_)
      ·replace h:=ift h (Yw (Xg hb10))
       refine Zi (b:=true) 2 49 rfl (tr rfl (congrArg _ hb10)) (by decide) (Zi (b:=true) 2 49 rfl (tr rfl (congrArg _ hb10)) (by decide) (Zi (b:=true) 2 49 rfl (tr rfl (congrArg _ hb10)) (by decide) (Zi (b:=true) 2 49 rfl (tr rfl (congrArg _ hb10)) (by decide) (Zi (b:=true) 2 49 rfl (tr rfl (congrArg _ hb10)) (by decide) (Zi (b:=true) 2 49 rfl (tr rfl (congrArg _ hb10)) (by decide) (Zi (b:=true) 2 49 rfl (tr rfl (congrArg _ hb10)) (by decide) (Zi (b:=true) 2 49 rfl (tr rfl (congrArg _ hb10)) (by decide) (Zi (b:=true) 2 49 rfl (tr rfl (congrArg _ hb10)) (by decide) (X2 11 58 rfl rfl (X2 11 58 rfl rfl (X2 11 58 rfl rfl ?_)))))))))))
       refine X2 11 58 rfl rfl (X2 11 58 rfl rfl (X2 11 58 rfl rfl (X2 11 58 rfl rfl (X2 11 58 rfl rfl (Zi (b:=true) 2 49 rfl (tr rfl (congrArg _ hb10)) (by decide) (Z3 (v:=.bool true) (b:=true) (tr rfl (congrArg _ hb10)) rfl (dn (Yf rfl rfl (sr (Zc (v:=.bool false) rfl (dn ?_)))))))))))
       refine ZAk (Z2 (Ze (Ze (Z2 (Ze ?_)))))
       refine Zg (fn:=ZA3) rfl ?_ ⟨false,rfl,h,hC.below⟩ (.inl rfl)
       exact Zf rfl
      ·replace h:=Zh h (not_not_intro ((Xh hb10)))
       refine Zj 2 49 rfl rfl hb10 (Zx 1 ZAs rfl sc30.size rfl rfl (Zj 2 49 rfl rfl hb10 (Z0 hC 0 (u0_1) rfl sc30 rfl rfl (Zj 2 49 rfl rfl hb10 (Za (v:=.int .i64 s10) rfl (Zj 2 49 rfl rfl hb10 ?_))))))
       obtain ⟨⟨h14,h15⟩,h⟩:=h
       obtain ⟨Ad16,c15,hv12⟩:=Z6 (hC.getP 2 rfl) s10.toNat (show s10.toNat < a0.images.length by omega)
       refine Yv (len:=a0.images.length) ZAy ag44.size (tr rfl hv12) rfl h14 h15 (Zj 2 49 rfl rfl hb10 (Zby (s10.toNat * 1+0) ZAh rfl sc42.size rfl rfl (Zj 2 49 rfl rfl hb10 ?_)))
       obtain ⟨cs_,hl12,hc12,hr12⟩:=Ja (hC.getP 2 rfl) hv12 s10.toNat (show s10.toNat < a0.images.length by omega)
       obtain ⟨u14,rfl⟩:=ZA6.1 hl12
       clear hl12
       rw [X3 _ _ (show s10.toNat < a0.images.length by omega)] at hr12
       have hp12:=hr12
       replace hC:=hC.derive 2 rfl (Zz9 ZAb.ty.sl ((a0.images.getD s10.toNat Zsn).terms) [u14] fp0) (fun _=>(Yx hp12)) (fun _ hb_=>hb_)
       refine Xy (u14) (X6 (o:=0) (k:=1) hc12 rfl) sc42 rfl (Zj 2 49 rfl rfl hb10 ?_)
       obtain ⟨Ad17,c16,hv18⟩:=Zw (hC.getP 0 rfl)
       refine Zv ZAj (tr rfl hv18) (Zj 2 49 rfl rfl hb10 (Jg rfl rfl (Zj 2 49 rfl rfl hb10 (Za (v:=.bool (decide ((((a0.images.getD s10.toNat Zsn).terms).length:Int) > 0))) rfl ?_))))
       refine Yy (decide ((((a0.images.getD s10.toNat Zsn).terms).length:Int) > 0)) (fun hb11=>?_) (fun hb11=>?_)
       ·replace h:=ift h (ct hb11)
        refine Zj 11 58 rfl rfl hb11 (Za (v:=.int .i64 r10) rfl (Zj 11 58 rfl rfl hb11 (Zx 0 ZAs rfl sc22.size rfl rfl (Zj 11 58 rfl rfl hb11 (Z0 hC 0 (u0_0) rfl sc22 rfl rfl (Zj 11 58 rfl rfl hb11 (Za (v:=.int .i64 s10) rfl (Zj 11 58 rfl rfl hb11 ?_))))))))
        obtain ⟨⟨h16,h17⟩,h⟩:=h
        obtain ⟨Ad18,c17,hv13⟩:=Z6 (hC.getP 4 rfl) s10.toNat (show s10.toNat < a0.degrees.length by omega)
        refine Yv (len:=a0.degrees.length) ZAu sc2.size (tr rfl hv13) rfl h16 h17 (Zj 11 58 rfl rfl hb11 (Xy (.int .i64 (a0.degrees.getD s10.toNat Zsn)) (Yj (hC.getP 4 rfl) hv13 s10.toNat (show s10.toNat < a0.degrees.length by omega)) sc2 rfl (Zj 11 58 rfl rfl hb11 (Zp rfl rfl (Zj 11 58 rfl rfl hb11 (Y0 rfl rfl (Zj 2 49 rfl rfl hb10 (Z3 (v:=.bool (decide (r10≠Zu2.wrap ((a0.degrees.getD s10.toNat Zsn)+1)))) (b:=true) (tr rfl (congrArg _ hb11)) rfl (Z3 (v:=.bool (decide (r10≠Zu2.wrap ((a0.degrees.getD s10.toNat Zsn)+1)))) (b:=false) (tr rfl (congrArg _ hb10)) rfl (dn ?_))))))))))
        refine Zr rfl (fun hb16=>?_) (fun hb16=>?_)
        ·replace h:=ift h (ct hb16)
         refine sr (Zc (v:=.bool false) rfl (dn ?_))
         refine ZAk (Z2 (Ze (Ze (Z2 (Ze ?_)))))
         refine Zg (fn:=ZA3) rfl ?_ ⟨false,rfl,h,hC.below⟩ (.inl rfl)
         exact Zf rfl
        ·replace h:=Zh h (cf hb16)
         refine ZAg (Zt (Zd (Zn (Za (v:=.int .i64 s10) rfl (Zp rfl rfl (Zc (v:=.int .i64 (Zu2.wrap (s10+1))) rfl (done ?_)))))))
         replace hC:=hC.sP [3,4,5] (Ps':=[Zz9 ZAq.sl a0.images [u0_1] fp0,Zz9 ((EI .i64).ty.sl) a0.degrees [u0_0] fp0,Zz9 TAlg a0 [u0_0,u0_1] fp0]) rfl
         exact hK10 (Zu2.wrap (s10+1)) _ _ ⟨(sl ⟨rfl,rfl,trivial⟩),hC⟩ h
       ·replace h:=Zh h (cf hb11)
        refine Zi (b:=false) 11 58 rfl (tr rfl (congrArg _ hb11)) (by decide) (Zi (b:=false) 11 58 rfl (tr rfl (congrArg _ hb11)) (by decide) (Zi (b:=false) 11 58 rfl (tr rfl (congrArg _ hb11)) (by decide) (Zi (b:=false) 11 58 rfl (tr rfl (congrArg _ hb11)) (by decide) (Zi (b:=false) 11 58 rfl (tr rfl (congrArg _ hb11)) (by decide) (Zi (b:=false) 11 58 rfl (tr rfl (congrArg _ hb11)) (by decide) (Zi (b:=false) 11 58 rfl (tr rfl (congrArg _ hb11)) (by decide) (Zi (b:=false) 11 58 rfl (tr rfl (congrArg _ hb11)) (by decide) (Zj 2 49 rfl rfl hb10 (Z3 (v:=.bool false) (b:=false) (tr rfl (congrArg _ hb11)) rfl (Z3 (v:=.bool false) (b:=false) (tr rfl (congrArg _ hb10)) rfl (dn ?_)))))))))))
        refine Yd rfl rfl (ZAg (Zt (Zd (Zn (Za (v:=.int .i64 s10) rfl (Zp rfl rfl (Zc (v:=.int .i64 (Zu2.wrap (s10+1))) rfl (done ?_))))))))
        replace hC:=hC.sP [3,4,5] (Ps':=[Zz9 ZAq.sl a0.images [u0_1] fp0,Zz9 ((EI .i64).ty.sl) a0.degrees [u0_0] fp0,Zz9 TAlg a0 [u0_0,u0_1] fp0]) rfl
        exact hK10 (Zu2.wrap (s10+1)) _ _ ⟨(sl ⟨rfl,rfl,trivial⟩),hC⟩ h
    ·replace h:=Zh h (cf hb14)
     refine ZAt (Zl (Zl (Z4 ?_)))
     refine Zd (ZAc (sr (Zc (v:=.int .i64 0) rfl (dn (ZAl ?_)))))
     refine Xq (S:=Int) _ (fun s11 e_ w_=>Z1 e_ [(1,.pointer (some ⟨b5,0,none⟩)),(6,.int .i64 s11)]∧Ctx Nox w0 w_ [blk b5 32 [u0_0,u0_1]] [Zz9 ZAq.sl a0.images [u0_1] fp0,Zz9 ((EI .i64).ty.sl) a0.degrees [u0_0] fp0,Zz9 TAlg a0 [u0_0,u0_1] fp0]) ?_ (s0:=0) ?_ h
     ·clear hC h
      rintro s11 e_ w16 nx11 K11 ⟨hS_,hC⟩ h hK11
      rw [ue hS_]
      refine ZAc (sr (Za (v:=.int .i64 s11) rfl (Zx 1 ZAs rfl sc30.size rfl rfl (Z0 hC 0 (u0_1) rfl sc30 rfl rfl ?_))))
      obtain ⟨Ad19,c18,hv19⟩:=Zw (hC.getP 0 rfl)
      refine Zv ZAy (tr rfl hv19) (Zq rfl rfl (dn ?_))
      refine Zr rfl (fun hb17=>?_) (fun hb17=>?_)
      ·replace h:=ift h (ct hb17)
       refine ZAg (Zd (ZAc (ZAl (ZAc ?_))))
       refine Yq 6 mixed [0,0,2,0,14,30,63,127,255,511] [0,2,4,5] [1,3] (by kernel_rfl) (by kernel_rfl) (by kernel_rfl) (fun hM13 hM15 w17 hB_=>?_)
       replace hC:=hC.grow hB_
       refine aL 0 (.agg #[u0_0,u0_1]) rfl rfl (hM13 0 rfl) (rfl) (fun _ hB_=>by exact Y8 (hC.grow hB_) 0 [u0_0,u0_1] rfl ag32 rfl rfl rfl) (Zb 10 1) (aF 1 (.pointer (some ⟨b5,1,none⟩)) rfl rfl (hM15 1 rfl) (rfl) (fun _=>by exact Yi 1 ZAs rfl sc30.size rfl rfl) (Zb 10 3) (aL 2 (u0_1) rfl rfl (hM13 2 rfl) (rfl) (fun _ hB_=>by exact Yc (hC.grow hB_) 0 (u0_1) rfl sc30 rfl rfl) (Zb 10 7) (aF 3 (.int .i64 s11) rfl rfl (hM15 3 rfl) (rfl) (fun _=>by exact Zs (v:=.int .i64 s11) rfl) (Zb 10 15) ?_)))
       obtain ⟨⟨h18,h19⟩,h⟩:=h
       obtain ⟨Ad12,c19,hv14⟩:=Z6 (hC.getP 0 rfl) s11.toNat (show s11.toNat < a0.images.length by omega)
       refine aL 4 (.pointer (some (Ad12.add (s11.toNat * 1)))) rfl rfl (hM13 4 rfl) (rfl) (fun _ hB_=>by exact Y2 (len:=a0.images.length) ZAy ag44.size (by exact tr rfl hv14) rfl h18 h19) (Zb 10 31) ?_
       obtain ⟨cs_,hl13,hc13,hr13⟩:=Ja (hC.getP 0 rfl) hv14 s11.toNat (show s11.toNat < a0.images.length by omega)
       obtain ⟨u12,rfl⟩:=ZA6.1 hl13
       clear hl13
       rw [X3 _ _ (show s11.toNat < a0.images.length by omega)] at hr13
       have hp13:=hr13
       replace hC:=hC.derive 0 rfl (Zz9 ZAb.ty.sl ((a0.images.getD s11.toNat Zsn).terms) [u12] fp0) (fun _=>(Yx hp13)) (fun _ hb_=>hb_)
       refine aL 5 (.agg #[u12]) rfl rfl (hM13 5 rfl) (rfl) (fun _ hB_=>by exact Xs [u12] (Zas hB_ hc13) ag44 rfl rfl) (Zb 10 63) (Z7 6 (by decide) (by decide) (by kernel_rfl) (by kernel_rfl) rfl ?_)
       refine Zk [.agg #[u0_0,u0_1],.agg #[u12]] _ Try.func33 rfl rfl rfl (Zns a0 (a0.images.getD s11.toNat Zsn) h _ (Jb (hC.getP 2 rfl) (hC.getP 1 rfl)) (Ys (hC.getP 0 rfl))) (fun ret12 w18 hR12=>?_)
       obtain ⟨r12,u13,f10,rfl,h,hr14,hf10,hB13⟩:=hR12
       refine⟨_,rfl,?_⟩
       replace hC:=hC.push hB13 (ZAo (Ya 49) r12 [u13] f10) hr14 hf10
       obtain ⟨ho10,hf11⟩:=X0 (hC.getM 0 rfl)
       subst hf11
       replace hC:=hC.recast (c:=own 49 9 u13 r12.terms.length (ZAb.encs r12.terms)) (fun _ h_=>h_) (fun _=>ho10)
       refine Zm5 (u13) ZAh rfl sc42 rfl rfl ?_
       obtain ⟨Ad20,c20,hv20⟩:=Zax (hC.getM 0 rfl)
       refine Zv ZAj (tr rfl hv20) (Jg rfl rfl (done (Z8 (Zd ?_))))
       refine Zr rfl (fun hb18=>?_) (fun hb18=>?_)
       ·replace h:=ift h (ct hb18)
        refine sr (Zc (v:=.bool false) rfl (dn ?_))
        refine ZAk (Z2 (Ze (Ze (Z2 (Ze ?_)))))
        refine Zg (fn:=ZA3) rfl ?_ ⟨false,rfl,h,hC.below⟩ (.inl rfl)
        exact Zf rfl
       ·replace h:=Zh h (cf hb18)
        refine ZAg (Zt (Zd (Zn (Za (v:=.int .i64 s11) rfl (Zp rfl rfl (Zc (v:=.int .i64 (Zu2.wrap (s11+1))) rfl (done ?_)))))))
        replace hC:=hC.sM [1] (M':=[blk b5 32 [u0_0,u0_1]]) (by decide) rfl
        replace hC:=hC.sP [1,2,3] (Ps':=[Zz9 ZAq.sl a0.images [u0_1] fp0,Zz9 ((EI .i64).ty.sl) a0.degrees [u0_0] fp0,Zz9 TAlg a0 [u0_0,u0_1] fp0]) rfl
        exact hK11 (Zu2.wrap (s11+1)) _ _ ⟨(sl ⟨rfl,rfl,trivial⟩),hC⟩ h
      ·replace h:=Zh h (cf hb17)
       refine ZAt (Zl (Zl (Z4 ?_)))
       refine Zd (sr (Zc (v:=.bool true) rfl (dn (ZAk ?_))))
       refine Zg (fn:=ZA3) rfl ?_ ⟨true,rfl,h,hC.below⟩ (.inl rfl)
       exact Zf rfl
     ·skip
      exact⟨(sl ⟨rfl,rfl,trivial⟩),hC⟩
   ·skip
    exact⟨(sl ⟨rfl,rfl,trivial⟩),hC⟩
def Za3 (a0:Int) (K:Int→Prop):Prop :=
 K (Ztb (Zu2.wrap ((Ztb a0 10007)+10007)) 10007)
theorem Zjf (a0:Int)  {K:Int→Prop} (h:Za3 a0 K) (w0:World)  :
  Calls ZAf 86 #[.int .i64 a0] w0 fun e w'=>∃ (r0:Int),
   e=.returned (.int .i64 r0)∧K r0∧Bel w0 w':=by
 unfold Za3 at h
 refine Zz (args:=[.int .i64 a0]) Try.func86 rfl 7 Try.ntmps86 (ZAe rfl) ?_
 have hC:=ZAv (X:=Nox) w0 [] (by simp)
 refine sr (Zc (v:=.int .i64 0) rfl (dn (sr (Za (v:=.int .i64 a0) rfl (Jf rfl rfl (by decide) (Zp rfl rfl (Jf rfl rfl (by decide) (Zc (v:=.int .i64 (Ztb (Zu2.wrap ((Ztb a0 10007)+10007)) 10007)) rfl (dn (ZAk ?_))))))))))
 refine Zg (fn:=Try.f86) rfl ?_ ⟨Ztb (Zu2.wrap ((Ztb a0 10007)+10007)) 10007,rfl,h,hC.below⟩ (.inl rfl)
 exact Zf rfl
def Zak (a0:A8) (K:A8→Prop):Prop :=
 Yh (fun i10 (s10:A8) nx10=>nx10 (s10.set i10 (Zu2.wrap (a0.get i10)))) (fun (s10:A8)=>K s10) 8 0 ZAi
theorem Zdj (a0:A8)  {K:A8→Prop} (h:Zak a0 K) (w0:World)  :
  Calls ZAf 20 #[.agg (ZAa (Zz8 .u8 a0))] w0 fun e w'=>∃ (r0:A8),
   e=.returned (.agg (ZAa (Zz8 .i64 r0)))∧K r0∧Bel w0 w':=by
 unfold Zak at h
 refine Zz (args:=[.agg (ZAa (Zz8 .u8 a0))]) Try.func20 rfl 18 Try.ntmps20 (ZAe rfl) ?_
 have hC:=ZAv (X:=Nox) w0 [] (by simp)
 refine sr (Yg (v:=.agg (ZAa (Zz8 .u8 a0))) hC (Zz8 .u8 a0) rfl rfl fun b1 w3 hB_ hC=>Ye hC (Zz8 .i64 ZAi) z55 rfl fun b4 w6 hB_ hC=>dn (sr (Jl [] rfl (Zg9   _) (Ye hC (Zz8 .i64 ZAi) z55 rfl fun b7 w9 hB_ hC=>Zy (v:=.agg (ZAa (Zz8 .i64 ZAi))) hC 0 (Zz8 .i64 ZAi) (Zz8 .i64 ZAi) rfl ag55.size rfl rfl rfl rfl rfl (ZAe rfl) rfl fun w10 hC=>dn (ZAc (sr (Yl hC 2 (Zz8 .u8 a0) rfl ag47 rfl rfl rfl ?_)))))))
 refine Za (v:=.int .i64 0) rfl (dn (ZAl ?_))
 refine Yp (S:=A8) _ _ (fun i10 s10 e_ w_=>Z1 e_ [(2,.pointer (some ⟨b4,0,none⟩)),(3,.pointer (some ⟨b7,0,none⟩)),(7,.agg (ZAa (Zz8 .u8 a0))),(8,.int .i64 (i10:Int))]∧Ctx Nox w0 w_ [blk b7 55 (Zz8 .i64 s10),blk b4 55 (Zz8 .i64 ZAi)] []) 8 ?_ ?_ (s0:=ZAi) ?_ h
 ·clear hC h
  rintro i10 s10 e_ w11 nx10 K10 hi10 ⟨hS_,hC⟩ h hK10
  rw [ue hS_]
  refine sr (Zq rfl rfl (dn (ZAc (Yf rfl (decide_eq_true (by omega)) (ZAg (Zd (ZAc (ZAl (sr (Za (v:=.int .i64 (i10:Int)) rfl (Zc2 (.int .u8 (a0.get i10)) ZAp rfl rfl (ZAx _) (by omega) sc5 (ZAw _ _ hi10) ?_)))))))))))
  refine Zc (v:=.int .i64 (i10:Int)) rfl (Zc (v:=.int .u8 (a0.get i10)) rfl (dn (Zn (Za (v:=.int .i64 (i10:Int)) rfl (Za (v:=.int .u8 (a0.get i10)) rfl (Zgh ZA8 ZBi rfl (Y1 i10 ZBh sc3.size rfl rfl (ZAx _) (by omega) (by omega) (Zy (v:=.int .i64 (Zu2.wrap (a0.get i10))) hC 0 [.int .i64 (Zu2.wrap (a0.get i10))] (Zz8 .i64 (s10.set i10 (Zu2.wrap (a0.get i10)))) rfl sc3.size rfl rfl rfl rfl rfl hi10 (ZA5 _ _ _ hi10) fun w12 hC=>done (Zt (Zd ?_))))))))))
  refine Zn (Zp rfl rfl (Za (v:=.int .i64 (Zu2.wrap ((i10:Int)+1))) rfl (done ?_)))
  exact hK10 (s10.set i10 (Zu2.wrap (a0.get i10))) _ _ ⟨(sl ⟨rfl,rfl,rfl,(tr rfl (congrArg _ (Yb hi10 (by decide)))),trivial⟩),hC⟩ h
 ·clear hC h
  rintro s10 e_ w13 K10 ⟨hS_,hC⟩ h
  rw [ue hS_]
  refine sr (Zq rfl rfl (dn (ZAc (Yd rfl (decide_eq_false (by omega)) ?_))))
  refine ZAt (Zl (Zl (Z4 ?_)))
  refine Zd (sr (Yl hC 0 (Zz8 .i64 s10) rfl ag55 rfl rfl rfl (Zy (v:=.agg (ZAa (Zz8 .i64 s10))) hC 1 (Zz8 .i64 s10) (Zz8 .i64 s10) rfl ag55.size rfl rfl rfl rfl rfl (ZAe rfl) rfl fun w14 hC=>dn (ZAk ?_))))
  refine Zg (fn:=Try.f20) rfl ?_ ⟨s10,rfl,h,hC.below⟩ (.inl rfl)
  exact X9 hC 1 rfl ag55 rfl rfl
 ·skip
  replace hC:=hC.sM [0,1] (M':=[blk b7 55 (Zz8 .i64 ZAi),blk b4 55 (Zz8 .i64 ZAi)]) (by decide) rfl
  exact⟨(sl ⟨rfl,rfl,rfl,rfl,trivial⟩),hC⟩
end Go.Proofs.Ytheenipahifleaa
