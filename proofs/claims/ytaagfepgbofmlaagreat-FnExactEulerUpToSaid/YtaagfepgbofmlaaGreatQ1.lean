import Derived.Test.YtaagfepgbofmlaaGreatQ0
set_option linter.unusedSectionVars false
set_option linter.unusedSimpArgs false
set_option linter.unusedVariables false
open Go renaming wp_seq→ZMn,wp_skip→ZMr,wp_block→ZMt,wp_ret→ZMv,wp_exit→ZM1
open Go.Instr renaming build→ZNi
open Go.IntKind renaming i64→ZHd,u8→ZMz
open Go.Proofs.Tryz renaming prog→ZMq,underlying55→ZMu,underlying53→ZMx,underlying162→ZM2,underlying136→ZM5,underlying22→ZM6,underlying32→ZM7,underlying73→ZNa,underlying30→ZNb,func125→ZNd,func123→ZNe,func95→ZNg,underlying115→ZNk,underlying5→ZNn,func174→ZNo,func124→ZNp,func121→ZNs,underlying2→ZNt,underlying3→ZNu,func196→ZNw
open Go.Value renaming ownBlock→ZFq
open Inhabited renaming default→ZEx
open Int renaming tmod→ZFo,natCast_nonneg→ZM3,ofNat_lt→ZNl
open List renaming toArray→ZMl,length_eq_one_iff→ZNj
open Nat renaming le_of_ble_eq_true→ZMw,le_trans→ZEy
open Option renaming toList→ZNm
open Vc renaming ETerm→ZMo,Form→ZMp,TForm→ZM9
open Vc.A8 renaming enc→ZMk,zero→ZMs,enc_get→ZM0,enc_set→ZNh
open Vc.Ctx renaming start→ZM8
open Vc.Enc renaming encs_append→ZNf,encs_one'→ZNq
open Vc.Term renaming enc→ZMy
open Vc.Tr renaming item→ZM4
open Vc.Ty renaming item→ZMm
set_option maxRecDepth 4000
set_option maxHeartbeats 4000000
namespace Go.Proofs.YtaagfepgbofmlaaGreat
open Go Go.RowKit Vc
variable {b0 bp0 b1 bp1 b2 bp2 b3 bp3 b4 bp4 b5 bp5 b6 bp6 b7 bp7 mb0:Nat} {u0_0 u0_1 u0_2 u0_3 u0_4 u0_5 u1_0 u1_1 u1_2 u1_3 u1_4 u1_5 u2_0 u2_1 u2_2 u2_3 u2_4 u2_5 u3_0 u3_1 u3_2 u3_3 u3_4 u3_5 u4_0 u4_1 u4_2 u4_3 u4_4 u4_5 u5_0 u5_1 u5_2 u5_3 u5_4 u5_5 u6_0 u6_1 u6_2 u6_3 u6_4 u6_5 u7_0 u7_1 u7_2 u7_3 u7_4 u7_5:Value} {fp0 fp1 fp2 fp3 fp4 fp5 fp6 fp7 fp0_0 fp0_1 fp0_2 fp0_3 fp0_4 fp0_5 fp1_0 fp1_1 fp1_2 fp1_3 fp1_4 fp1_5 F0:List Nat}
theorem sc2:ScaT ZMq 2:=⟨⟨_,ZNt,rfl⟩,by kernel_rfl⟩
theorem sc5:ScaT ZMq 5:=⟨⟨_,ZNn,rfl⟩,by kernel_rfl⟩
theorem z55:Xt ZMq 55 (.agg #[.slice none 0 0]):=by unfold Xt; kernel_rfl
theorem Zgj  (w:World):(ZNi 55 #[]).run ZMq w=.ok (.agg #[.slice none 0 0]) w:=by kernel_rfl
theorem ag55:AggT ZMq 55 1:=⟨⟨_,ZMu,rfl⟩,by kernel_rfl⟩
theorem Yi:ZMq.follows .mixedOrders=true:=by kernel_rfl
theorem ag136:AggT ZMq 136 8:=⟨⟨_,ZM5,rfl⟩,by kernel_rfl⟩
theorem Zi7 (x0:A8) (x1:Int) (w:World):(ZNi 162 #[(0,.agg (ZMl (ZMk .u8 x0))),(1,.int .i64 x1)]).run ZMq w=.ok (.agg (ZMl (ZMy (⟨x0,x1⟩:Term)))) w:=by kernel_rfl
theorem Zgk (x0:Term) (w:World):(Instr.buildSlice 53 1 #[(0,.agg (ZMl (ZMy x0)))]).run ZMq w=.ok (.slice (some ⟨w.heap.size,0,none⟩) 1 1) (w.alloc (.cells (ZMl (ZMo.encs [x0])) 162)):=by kernel_rfl
theorem Zvx (x0:Value) (hx0:Zd2 x0) (w:World):(ZNi 55 #[(0,x0)]).run ZMq w=.ok (.agg #[x0]) w:=by obtain ⟨_,_,_,rfl⟩:=hx0; kernel_rfl
theorem sc53:ScaT ZMq 53:=⟨⟨_,ZMx,rfl⟩,by kernel_rfl⟩
theorem ag162:AggT ZMq 162 9:=⟨⟨_,ZM2,rfl⟩,by kernel_rfl⟩
theorem Zgl:Zaf ZMq 162 (.agg (ZMl (ZMy (⟨ZMs,0⟩:Term)))) 9 16:=by unfold Zaf; kernel_rfl
theorem Zbb:Xt ZMq 136 (.agg (ZMl (ZMk .u8 ZMs))):=by unfold Xt; kernel_rfl
theorem Zlv  (w:World):(ZNi 136 #[]).run ZMq w=.ok (.agg (ZMl (ZMk .u8 ZMs))) w:=by kernel_rfl
theorem Ze8:Xt ZMq 162 (.agg (ZMl (ZMy (⟨ZMs,0⟩:Term)))):=by unfold Xt; kernel_rfl
theorem sc22:ScaT ZMq 22:=⟨⟨_,ZM6,rfl⟩,by kernel_rfl⟩
theorem sc30:ScaT ZMq 30:=⟨⟨_,ZNb,rfl⟩,by kernel_rfl⟩
theorem ag32:AggT ZMq 32 2:=⟨⟨_,ZM7,rfl⟩,by kernel_rfl⟩
theorem z73:Xt ZMq 73 (.agg (ZMl (ZMk .i64 ZMs))):=by unfold Xt; kernel_rfl
theorem Zi8  (w:World):(ZNi 73 #[]).run ZMq w=.ok (.agg (ZMl (ZMk .i64 ZMs))) w:=by kernel_rfl
theorem ag73:AggT ZMq 73 8:=⟨⟨_,ZNa,rfl⟩,by kernel_rfl⟩
theorem sc3:ScaT ZMq 3:=⟨⟨_,ZNu,rfl⟩,by kernel_rfl⟩
theorem Jl:KeyT ZMq 73 (kvA .i64):=Zli ZNa ZNu sc3
theorem z2:Xt ZMq 2 (.int .i64 0):=by unfold Xt; kernel_rfl
theorem Zvy (x0:A8) (w:World):(Instr.buildSlice 122 1 #[(0,.agg (ZMl (ZMk .i64 x0)))]).run ZMq w=.ok (.slice (some ⟨w.heap.size,0,none⟩) 1 1) (w.alloc (.cells (ZMl ((EA .i64).encs [x0])) 73)):=by kernel_rfl
theorem Zvz:Zaf ZMq 73 (.agg (ZMl (ZMk .i64 ZMs))) 8 64:=by unfold Zaf; kernel_rfl
theorem Zlw:Xt ZMq 211 (.agg (ZMl (List.replicate 8 (Value.map none)))):=by unfold Xt; kernel_rfl
theorem Zv0 (w:World):(ZNi 211 #[]).run ZMq w=.ok (.agg (ZMl (List.replicate 8 (Value.map none)))) w:=by kernel_rfl
theorem ag211:AggT ZMq 211 8:=⟨⟨_,Tryz.underlying211,rfl⟩,by kernel_rfl⟩
theorem sc115:ScaT ZMq 115:=⟨⟨_,ZNk,rfl⟩,by kernel_rfl⟩
theorem el2:Zaf ZMq 2 (.int .i64 0) 1 8:=by unfold Zaf; kernel_rfl
theorem ag135:AggT ZMq 135 8:=⟨⟨_,Tryz.underlying135,rfl⟩,by kernel_rfl⟩
theorem ag170:AggT ZMq 170 9:=⟨⟨_,Tryz.underlying170,rfl⟩,by kernel_rfl⟩
theorem sc48:ScaT ZMq 48:=⟨⟨_,Tryz.underlying48,rfl⟩,by kernel_rfl⟩
def Zd3 (a0:Int) (a1:Int) (a2:Int) (K:Bool→Prop):Prop :=
 (if a0≥a1 then K (decide (a0≤a2)) else K false)
theorem Zlx (a0:Int) (a1:Int) (a2:Int)  {K:Bool→Prop} (h:Zd3 a0 a1 a2 K) (w0:World)  :
  Calls ZMq 59 #[vI a0,vI a1,vI a2] w0 fun e w'=>∃ (r0:Bool),
   e=.returned (.bool r0)∧K r0∧Bel w0 w':=by
 unfold Zd3 at h
 refine cof Tryz.func59 rfl 15 Tryz.ntmps59 ?_
 have hC:=ZM8 (X:=Nox) w0 [] (by simp)
 refine sr (Zc (v:=.bool false) rfl (dn (sr (Za (v:=vI a0) rfl (Za (v:=vI a1) rfl (Zay rfl rfl (Za (v:=.bool (decide (a0≥a1))) rfl ?_)))))))
 refine Y5 (decide (a0≥a1)) (fun hb1=>?_) (fun hb1=>?_)
 ·replace h:=ift h (ct hb1)
  refine Zl 3 10 rfl rfl hb1 (Za (v:=vI a0) rfl (Zl 3 10 rfl rfl hb1 (Za (v:=vI a2) rfl (Zl 3 10 rfl rfl hb1 (Zbt rfl rfl (Z3 (v:=.bool (decide (a0≤a2))) (b:=true) (tr rfl (congrArg _ hb1)) rfl (Zc (v:=.bool (decide (a0≤a2))) rfl (dn (ZMv ?_)))))))))
  exact Zi rfl (Ze rfl) ⟨decide (a0≤a2),rfl,h,hC.below⟩ (.inl rfl)
 ·replace h:=Zj h (cf hb1)
  refine Zm (b:=false) 3 10 rfl (tr rfl (congrArg _ hb1)) (by decide) (Zm (b:=false) 3 10 rfl (tr rfl (congrArg _ hb1)) (by decide) (Zm (b:=false) 3 10 rfl (tr rfl (congrArg _ hb1)) (by decide) (Z3 (v:=.bool false) (b:=false) (tr rfl (congrArg _ hb1)) rfl (Zc (v:=.bool false) rfl (dn (ZMv ?_))))))
  exact Zi rfl (Ze rfl) ⟨false,rfl,h,hC.below⟩ (.inl rfl)
def Zgm (a0:List Int) (K:Bool→Prop):Prop :=
 Yb (fun i10 (s10:Unit) nx10=>Zd3 (a0.getD i10 ZEx) 1 12 (fun r10=>(if¬ (r10=true) then K false else nx10 ()))) (fun (s10:Unit)=>K (decide ((a0.length:Int)≤8))) a0.length 0 ()
theorem Zv1 (a0:List Int)  {K:Bool→Prop} (h:Zgm a0 K) (w0:World) (q0:TInts.rep a0 [u0_0] fp0 w0) :
  Calls ZMq 149 #[u0_0] w0 fun e w'=>∃ (r0:Bool),
   e=.returned (.bool r0)∧K r0∧Bel w0 w':=by
 unfold Zgm at h
 refine cof Tryz.func149 rfl 19 Tryz.ntmps149 ?_
 have hC:=ZM8 (X:=Nox) w0 [ZMm TInts a0 [u0_0] fp0] (al1 q0)
 refine sr (Zc (v:=.bool false) rfl (dn (ZMn (sr (Zc (v:=vI 0) rfl (dn (ZMt ?_)))))))
 have hN10:a0.length≤9223372036854775807:=Yx (hC.getP 0 rfl)
 refine Yn (S:=Unit) _ _ (fun i10 s10 e_ w_=>Zt e_ [(0,u0_0),(3,vI (i10:Int))]∧Ctx Nox w0 w_ [] [ZMm TInts a0 [u0_0] fp0]) a0.length ?_ ?_ (s0:=()) ?_ h
 ·clear hC h
  rintro i10 s10 e_ w10 nx10 K10 hi10 ⟨hS_,hC⟩ h hK10
  rw [ue hS_]
  refine ZMn (sr (Za (v:=vI (i10:Int)) rfl (Za (v:=u0_0) rfl (Zv hC 0 rfl ZM6 rfl (Zn rfl rfl (dn (Yc rfl (decide_eq_true (by omega)) (ZMr (Zd (ZMn (ZMt (sr (Za (v:=u0_0) rfl (Za (v:=vI (i10:Int)) rfl ?_))))))))))))))
  obtain ⟨Ad10,c10,hv10⟩:=Zw (hC.getP 0 rfl) i10 hi10
  refine Yo (len:=a0.length) ZM6 sc2.size (tr rfl hv10) rfl (ZM3 _) (ZNl.2 hi10) (Yl (vI (a0.getD i10 ZEx)) (Ye (hC.getP 0 rfl) hv10 i10 hi10) sc2 rfl (Zf [vI (a0.getD i10 ZEx),vI 1,vI 12] _ Tryz.func59 rfl rfl rfl (Zlx (a0.getD i10 ZEx) 1 12 h _) ?_))
  rintro _ w11 ⟨r10,rfl,h,hB10⟩
  refine rt ?_
  replace hC:=hC.grow hB10
  refine Xu rfl (dn ?_)
  refine Zp rfl (fun hb10=>?_) (fun hb10=>?_)
  ·replace h:=ift h (Xa (X3 hb10))
   refine sr (Zc (v:=.bool false) rfl (dn ?_))
   refine ZMv (Z4 (Zk (Zk (Z4 (Zk ?_)))))
   exact Zi rfl (Ze rfl) ⟨false,rfl,h,hC.below⟩ (.inl rfl)
  ·replace h:=Zj h (not_not_intro ((X4 hb10)))
   refine ZMr (Zq (Zd (Zg (Za (v:=vI (i10:Int)) rfl (Zo rfl rfl (Zc (v:=vI (ZHd.wrap ((i10:Int)+1))) rfl (done ?_)))))))
   exact hK10 () _ _ ⟨(sl ⟨rfl,(tr rfl (congrArg _ (Z6 hi10 hN10))),trivial⟩),hC⟩ h
 ·clear hC h
  rintro s10 e_ w12 K10 ⟨hS_,hC⟩ h
  rw [ue hS_]
  refine ZMn (sr (Za (v:=vI (a0.length:Int)) rfl (Za (v:=u0_0) rfl (Zv hC 0 rfl ZM6 rfl (Zn rfl rfl (dn (Z2 rfl (decide_eq_false (by omega)) ?_)))))))
  refine ZM1 (Zh (Zh (Zy ?_)))
  refine Zd (sr (Za (v:=u0_0) rfl (Zv hC 0 rfl ZM6 rfl (Zbt rfl rfl (Zc (v:=.bool (decide ((a0.length:Int)≤8))) rfl (dn (ZMv ?_)))))))
  exact Zi rfl (Ze rfl) ⟨decide ((a0.length:Int)≤8),rfl,h,hC.below⟩ (.inl rfl)
 ·skip
  exact⟨(slq rfl),hC⟩
def Zgn (a0:List Int) (a1:A8) (K:Bool→Prop):Prop :=
 Yb (fun i10 (s10:Unit) nx10=>(if(i10:Int)≥(a0.length:Int) then(if a1.get i10≠0 then K false else nx10 ()) else(if a1.get i10 > 20 then K false else((0≤(i10:Int)∧(i10:Int) < (a0.length:Int))∧(if ZFo (a0.getD i10 ZEx) 2≠0 then(if a1.get i10 > 1 then K false else nx10 ()) else nx10 ()))))) (fun (s10:Unit)=>K true) 8 0 ()
theorem Zv2 (a0:List Int) (a1:A8)  {K:Bool→Prop} (h:Zgn a0 a1 K) (w0:World) (q0:TInts.rep a0 [u0_0] fp0 w0) :
  Calls ZMq 173 #[u0_0,.agg (ZMl (ZMk .u8 a1))] w0 fun e w'=>∃ (r0:Bool),
   e=.returned (.bool r0)∧K r0∧Bel w0 w':=by
 unfold Zgn at h
 refine cof Tryz.func173 rfl 38 Tryz.ntmps173 ?_
 have hC:=ZM8 (X:=Nox) w0 [ZMm TInts a0 [u0_0] fp0] (al1 q0)
 refine sr (Yg (v:=.agg (ZMl (ZMk .u8 a1))) hC (ZMk .u8 a1) rfl rfl fun b2 w4 hB_ hC=>Zc (v:=.bool false) rfl (dn (ZMn (sr (Zc (v:=vI 0) rfl (dn (ZMt ?_)))))))
 refine Yn (S:=Unit) _ _ (fun i10 s10 e_ w_=>Zt e_ [(0,u0_0),(3,vQ b2),(5,vI (i10:Int))]∧Ctx Nox w0 w_ [blk b2 136 (ZMk .u8 a1)] [ZMm TInts a0 [u0_0] fp0]) 8 ?_ ?_ (s0:=()) ?_ h
 ·clear hC h
  rintro i10 s10 e_ w10 nx10 K10 hi10 ⟨hS_,hC⟩ h hK10
  rw [ue hS_]
  refine ZMn (sr (Za (v:=vI (i10:Int)) rfl (Zn rfl rfl (dn (Yc rfl (decide_eq_true (by omega)) (ZMr (Zd (ZMn (ZMt (ZMt (sr (Za (v:=vI (i10:Int)) rfl (Za (v:=u0_0) rfl (Zv hC 0 rfl ZM6 rfl (Zay rfl rfl (Zc (v:=.bool (decide ((i10:Int)≥(a0.length:Int)))) rfl (dn ?_)))))))))))))))))
  refine Zp rfl (fun hb12=>?_) (fun hb12=>?_)
  ·replace h:=ift h (ct hb12)
   refine sr (Za (v:=vI (i10:Int)) rfl (Xm i10 ZM5 sc5.size rfl rfl (ZM3 _) (by omega) (by omega) (Z5 hC 0 (.int .u8 (a1.get i10)) rfl sc5 rfl (ZM0 _ _ hi10) (Y2 rfl rfl (dn ?_)))))
   refine Zp rfl (fun hb13=>?_) (fun hb13=>?_)
   ·replace h:=ift h (ct hb13)
    refine sr (Zc (v:=.bool false) rfl (dn ?_))
    refine ZMv (Z4 (Z4 (Zk (Zk (Z4 (Zk ?_))))))
    exact Zi rfl (Ze rfl) ⟨false,rfl,h,hC.below⟩ (.inl rfl)
   ·replace h:=Zj h (cf hb13)
    refine ZMr (Zq (Zq (Zd (Zg (Za (v:=vI (i10:Int)) rfl (Zo rfl rfl (Zc (v:=vI (ZHd.wrap ((i10:Int)+1))) rfl (done ?_))))))))
    exact hK10 () _ _ ⟨(sl ⟨rfl,rfl,(tr rfl (congrArg _ (Z6 hi10 (by decide)))),trivial⟩),hC⟩ h
  ·replace h:=Zj h (cf hb12)
   refine sr (Za (v:=vI (i10:Int)) rfl (Xm i10 ZM5 sc5.size rfl rfl (ZM3 _) (by omega) (by omega) (Z5 hC 0 (.int .u8 (a1.get i10)) rfl sc5 rfl (ZM0 _ _ hi10) (Jh rfl rfl (Za (v:=.bool (decide (a1.get i10 > 20))) rfl ?_)))))
   refine Y5 (decide (a1.get i10 > 20)) (fun hb10=>?_) (fun hb10=>?_)
   ·replace h:=ift h (ct hb10)
    refine Zm (b:=true) 4 24 rfl (tr rfl (congrArg _ hb10)) (by decide) (Zm (b:=true) 4 24 rfl (tr rfl (congrArg _ hb10)) (by decide) (Zm (b:=true) 4 24 rfl (tr rfl (congrArg _ hb10)) (by decide) (Zm (b:=true) 4 24 rfl (tr rfl (congrArg _ hb10)) (by decide) (Zm (b:=true) 4 24 rfl (tr rfl (congrArg _ hb10)) (by decide) (Zm (b:=true) 4 24 rfl (tr rfl (congrArg _ hb10)) (by decide) (Zm (b:=true) 4 24 rfl (tr rfl (congrArg _ hb10)) (by decide) (Jr 11 31 rfl rfl (Jr 11 31 rfl rfl (Jr 11 31 rfl rfl (Jr 11 31 rfl rfl (Zm (b:=true) 4 24 rfl (tr rfl (congrArg _ hb10)) (by decide) (Z3 (v:=.bool true) (b:=true) (tr rfl (congrArg _ hb10)) rfl (Zc (v:=.bool true) rfl (dn (Yc rfl rfl (sr (Zc (v:=.bool false) rfl (dn ?_))))))))))))))))))
    refine ZMv (Z4 (Z4 (Zk (Zk (Z4 (Zk ?_))))))
    exact Zi rfl (Ze rfl) ⟨false,rfl,h,hC.below⟩ (.inl rfl)
   ·replace h:=Zj h (cf hb10)
    refine Zl 4 24 rfl rfl hb10 (Za (v:=u0_0) rfl (Zl 4 24 rfl rfl hb10 (Za (v:=vI (i10:Int)) rfl (Zl 4 24 rfl rfl hb10 ?_))))
    obtain ⟨⟨h10,h11⟩,h⟩:=h
    obtain ⟨Ad10,c10,hv10⟩:=Zw (hC.getP 0 rfl) i10 (show i10 < a0.length by omega)
    refine Yo (len:=a0.length) ZM6 sc2.size (tr rfl hv10) rfl h10 h11 (Zl 4 24 rfl rfl hb10 (Yl (vI (a0.getD i10 ZEx)) (Ye (hC.getP 0 rfl) hv10 i10 (show i10 < a0.length by omega)) sc2 rfl (Zl 4 24 rfl rfl hb10 (Xr rfl rfl (by decide) (Zl 4 24 rfl rfl hb10 (Y2 rfl rfl (Zl 4 24 rfl rfl hb10 (Za (v:=.bool (decide (ZFo (a0.getD i10 ZEx) 2≠0))) rfl ?_))))))))
    refine Y5 (decide (ZFo (a0.getD i10 ZEx) 2≠0)) (fun hb11=>?_) (fun hb11=>?_)
    ·replace h:=ift h (ct hb11)
     refine Zl 11 31 rfl rfl hb11 (Za (v:=vI (i10:Int)) rfl (Zl 11 31 rfl rfl hb11 (Xm i10 ZM5 sc5.size rfl rfl (ZM3 _) (by omega) (by omega) (Zl 11 31 rfl rfl hb11 (Z5 hC 0 (.int .u8 (a1.get i10)) rfl sc5 rfl (ZM0 _ _ hi10) (Zl 11 31 rfl rfl hb11 (Jh rfl rfl (Zl 4 24 rfl rfl hb10 (Z3 (v:=.bool (decide (a1.get i10 > 1))) (b:=true) (tr rfl (congrArg _ hb11)) rfl (Z3 (v:=.bool (decide (a1.get i10 > 1))) (b:=false) (tr rfl (congrArg _ hb10)) rfl (Zc (v:=.bool (decide (a1.get i10 > 1))) rfl (dn ?_))))))))))))
     refine Zp rfl (fun hb14=>?_) (fun hb14=>?_)
     ·replace h:=ift h (ct hb14)
      refine sr (Zc (v:=.bool false) rfl (dn ?_))
      refine ZMv (Z4 (Z4 (Zk (Zk (Z4 (Zk ?_))))))
      exact Zi rfl (Ze rfl) ⟨false,rfl,h,hC.below⟩ (.inl rfl)
     ·replace h:=Zj h (cf hb14)
      refine ZMr (Zq (Zq (Zd (Zg (Za (v:=vI (i10:Int)) rfl (Zo rfl rfl (Zc (v:=vI (ZHd.wrap ((i10:Int)+1))) rfl (done ?_))))))))
      exact hK10 () _ _ ⟨(sl ⟨rfl,rfl,(tr rfl (congrArg _ (Z6 hi10 (by decide)))),trivial⟩),hC⟩ h
    ·replace h:=Zj h (cf hb11)
     refine Zm (b:=false) 11 31 rfl (tr rfl (congrArg _ hb11)) (by decide) (Zm (b:=false) 11 31 rfl (tr rfl (congrArg _ hb11)) (by decide) (Zm (b:=false) 11 31 rfl (tr rfl (congrArg _ hb11)) (by decide) (Zm (b:=false) 11 31 rfl (tr rfl (congrArg _ hb11)) (by decide) (Zl 4 24 rfl rfl hb10 (Z3 (v:=.bool false) (b:=false) (tr rfl (congrArg _ hb11)) rfl (Z3 (v:=.bool false) (b:=false) (tr rfl (congrArg _ hb10)) rfl (Zc (v:=.bool false) rfl (dn (Z2 rfl rfl (ZMr (Zq (Zq (Zd (Zg (Za (v:=vI (i10:Int)) rfl (Zo rfl rfl (Zc (v:=vI (ZHd.wrap ((i10:Int)+1))) rfl (done ?_))))))))))))))))))
     exact hK10 () _ _ ⟨(sl ⟨rfl,rfl,(tr rfl (congrArg _ (Z6 hi10 (by decide)))),trivial⟩),hC⟩ h
 ·clear hC h
  rintro s10 e_ w11 K10 ⟨hS_,hC⟩ h
  rw [ue hS_]
  refine ZMn (sr (Za (v:=vI 8) rfl (Zn rfl rfl (dn (Z2 rfl (decide_eq_false (by omega)) ?_)))))
  refine ZM1 (Zh (Zh (Zy ?_)))
  refine Zd (sr (Zc (v:=.bool true) rfl (dn (ZMv ?_))))
  exact Zi rfl (Ze rfl) ⟨true,rfl,h,hC.below⟩ (.inl rfl)
 ·skip
  exact⟨(slq rfl),hC⟩
def Xz (a0:Int) (K:Int→Prop):Prop :=
 K (ZFo (ZHd.wrap ((ZFo a0 10007)+10007)) 10007)
theorem Zbc (a0:Int)  {K:Int→Prop} (h:Xz a0 K) (w0:World)  :
  Calls ZMq 125 #[vI a0] w0 fun e w'=>∃ (r0:Int),
   e=.returned (vI r0)∧K r0∧Bel w0 w':=by
 unfold Xz at h
 refine cof ZNd rfl 7 Tryz.ntmps125 ?_
 have hC:=ZM8 (X:=Nox) w0 [] (by simp)
 refine sr (Zc (v:=vI 0) rfl (dn (sr (Za (v:=vI a0) rfl (Xr rfl rfl (by decide) (Zo rfl rfl (Xr rfl rfl (by decide) (Zc (v:=vI (ZFo (ZHd.wrap ((ZFo a0 10007)+10007)) 10007)) rfl (dn (ZMv ?_))))))))))
 exact Zi rfl (Ze rfl) ⟨ZFo (ZHd.wrap ((ZFo a0 10007)+10007)) 10007,rfl,h,hC.below⟩ (.inl rfl)
def Ju (a0:A8) (a1:Int) (K:ZMp→Prop):Prop :=
 Xz a1 (fun r11=>(if r11=0 then K (⟨[]⟩:ZMp) else Xz a1 (fun r10=>K (⟨[(⟨a0,r10⟩:Term)]⟩:ZMp))))
theorem Zd4 (a0:A8) (a1:Int)  {K:ZMp→Prop} (h:Ju a0 a1 K) (w0:World)  :
  Calls ZMq 95 #[.agg (ZMl (ZMk .u8 a0)),vI a1] w0 fun e w'=>∃ (r0:ZMp) (z0_0:Value) (fz0:List Nat),
   e=.returned (.agg #[z0_0])∧K r0∧(ZM4 (Yt 162) r0 [z0_0] fz0).holds w'∧(∀ b,b∈fz0→w0.heap.size≤b)∧Bel w0 w':=by
 unfold Ju at h
 refine cof ZNg rfl 15 Tryz.ntmps95 ?_
 have hC:=ZM8 (X:=Nox) w0 [] (by simp)
 refine sr (Yg (v:=.agg (ZMl (ZMk .u8 a0))) hC (ZMk .u8 a0) rfl rfl fun b1 w3 hB_ hC=>Yk hC [.slice none 0 0] z55 rfl fun b4 w6 hB_ hC=>dn (ZMn (sr (Za (v:=vI a1) rfl (Zf [vI a1] _ ZNd rfl rfl rfl (Zbc a1 h _) ?_)))))
 rintro _ w9 ⟨r11,rfl,h,hB10⟩
 refine rt ?_
 replace hC:=hC.grow hB10
 refine Jg rfl rfl (dn ?_)
 refine Zp rfl (fun hb10=>?_) (fun hb10=>?_)
 ·replace h:=ift h (ct hb10)
  refine sr (J6 [] rfl (Zgj   _) (Zx (v:=.agg #[.slice none 0 0]) hC 0 [.slice none 0 0] [.slice none 0 0] rfl ag55.size rfl rfl rfl rfl rfl (ZMw rfl) rfl fun w10 hC=>dn ?_))
  refine ZMv (Zk ?_)
  exact Zi rfl (Zaa hC 0 rfl ag55 rfl rfl) ⟨(⟨[]⟩:ZMp),.slice none 0 0,[],rfl,h,(Zco (Zda _ _ _)),(fun b hb=>absurd hb (by simp)),hC.below⟩ (.inl rfl)
 ·replace h:=Zj h (cf hb10)
  refine ZMr (Zd (ZMn ?_))
  refine cwd 3 Yi [0,0,2,7,15,31,63] [0] [1] (fun hM10 hM11 w11 hB_=>?_)
  replace hC:=hC.grow hB_
  refine bL 0 (.agg (ZMl (ZMk .u8 a0))) rfl rfl hM10 (fun _ hB_=>by exact Xf (hC.grow hB_) 1 (ZMk .u8 a0) rfl ag136 rfl rfl rfl) (Zb 7 1) (bM 1 (vI a1) rfl hM11 (Zb 7 3) (aO 2 rfl (Zf [vI a1] _ ZNd rfl rfl rfl (Zbc a1 h _) ?_)))
  rintro _ w12 ⟨r10,rfl,h,hB11⟩
  refine rt ?_
  replace hC:=hC.grow hB11
  refine done (aK (by assumption) (Zb 7 7) (Zz 3 (by decide) (by decide) (by kernel_rfl) (by kernel_rfl) rfl (J6 [(0,.agg (ZMl (ZMk .u8 a0))),(1,vI r10)] rfl (Zi7 a0 r10  _) (Y4 (sz:=9) hC [(0,.agg (ZMl (ZMy (⟨a0,r10⟩:Term))))] (ZMo.encs [(⟨a0,r10⟩:Term)]) rfl (fun _=>Zgk (⟨a0,r10⟩:Term) _) rfl (by decide) fun b10 w13 hB_ hC=>J6 [(0,.slice (some ⟨b10,0,none⟩) 1 1)] rfl (Zvx (.slice (some ⟨b10,0,none⟩) 1 1) (Ze7 (hC.getM 0 rfl)) _) (Zx (v:=.agg #[.slice (some ⟨b10,0,none⟩) 1 1]) hC 1 [.slice (some ⟨b10,0,none⟩) 1 1] [.slice (some ⟨b10,0,none⟩) 1 1] rfl ag55.size rfl rfl rfl rfl (Xk (Xx (hC.getM 0 rfl)) rfl) (ZMw rfl) rfl fun w14 hC=>done (Z0 (Zd (ZMv ?_))))))))
  exact Zi rfl (Zaa hC 1 rfl ag55 rfl rfl) ⟨(⟨[(⟨a0,r10⟩:Term)]⟩:ZMp),.slice (some ⟨b10,0,none⟩) 1 1,(ZNm (ZFq (.slice (some ⟨b10,0,none⟩) 1 1))),rfl,h,(Zco (Xy (hC.getM 0 rfl))),(Yz hC 0 rfl),hC.below⟩ (.inl rfl)
def Zd5 (a0:A8) (a1:A8) (K:Bool→Prop):Prop :=
 Yb (fun i10 (s10:Unit) nx10=>(if a0.get i10≠a1.get i10 then K (decide (a0.get i10 > a1.get i10)) else nx10 ())) (fun (s10:Unit)=>K false) 8 0 ()
theorem Zly (a0:A8) (a1:A8)  {K:Bool→Prop} (h:Zd5 a0 a1 K) (w0:World)  :
  Calls ZMq 174 #[.agg (ZMl (ZMk .u8 a0)),.agg (ZMl (ZMk .u8 a1))] w0 fun e w'=>∃ (r0:Bool),
   e=.returned (.bool r0)∧K r0∧Bel w0 w':=by
 unfold Zd5 at h
 refine cof ZNo rfl 24 Tryz.ntmps174 ?_
 have hC:=ZM8 (X:=Nox) w0 [] (by simp)
 refine sr (Yg (v:=.agg (ZMl (ZMk .u8 a0))) hC (ZMk .u8 a0) rfl rfl fun b1 w3 hB_ hC=>Yg (v:=.agg (ZMl (ZMk .u8 a1))) hC (ZMk .u8 a1) rfl rfl fun b4 w6 hB_ hC=>Zc (v:=.bool false) rfl (dn (ZMn (sr (Zc (v:=vI 0) rfl (dn (ZMt ?_)))))))
 refine Yn (S:=Unit) _ _ (fun i10 s10 e_ w_=>Zt e_ [(2,vQ b1),(3,vQ b4),(5,vI (i10:Int))]∧Ctx Nox w0 w_ [blk b4 136 (ZMk .u8 a1),blk b1 136 (ZMk .u8 a0)] []) 8 ?_ ?_ (s0:=()) ?_ h
 ·clear hC h
  rintro i10 s10 e_ w10 nx10 K10 hi10 ⟨hS_,hC⟩ h hK10
  rw [ue hS_]
  refine ZMn (sr (Za (v:=vI (i10:Int)) rfl (Zn rfl rfl (dn (Yc rfl (decide_eq_true (by omega)) (ZMr (Zd (ZMn (ZMt (ZMn ?_))))))))))
  refine cwd 6 Yi [0,1,3,0,8,24,63] [1,2,4,5] [0,3] (fun hM10 hM12 w11 hB_=>?_)
  replace hC:=hC.grow hB_
  refine bM 0 (vI (i10:Int)) rfl hM12 (Zb 7 1) (bL 1 (.pointer (some ⟨b1,i10,none⟩)) rfl rfl hM10 (fun _ hB_=>by exact J5 i10 ZM5 sc5.size rfl rfl (ZM3 _) (by omega) (by omega)) (Zb 7 3) (bL 2 (.int .u8 (a0.get i10)) rfl rfl hM10 (fun _ hB_=>by exact Ya (hC.grow hB_) 1 (.int .u8 (a0.get i10)) rfl sc5 rfl (ZM0 _ _ hi10)) (Zb 7 7) (bM 3 (vI (i10:Int)) rfl hM12 (Zb 7 15) (bL 4 (.pointer (some ⟨b4,i10,none⟩)) rfl rfl hM10 (fun _ hB_=>by exact J5 i10 ZM5 sc5.size rfl rfl (ZM3 _) (by omega) (by omega)) (Zb 7 31) (bL 5 (.int .u8 (a1.get i10)) rfl rfl hM10 (fun _ hB_=>by exact Ya (hC.grow hB_) 0 (.int .u8 (a1.get i10)) rfl sc5 rfl (ZM0 _ _ hi10)) (Zb 7 63) (Zz 6 (by decide) (by decide) (by kernel_rfl) (by kernel_rfl) rfl (Y2 rfl rfl (done (Z0 (Zd ?_))))))))))
  refine Zp rfl (fun hb10=>?_) (fun hb10=>?_)
  ·replace h:=ift h (ct hb10)
   refine ZMn ?_
   refine cwd 6 Yi [0,1,3,0,8,24,63,127] [1,2,4,5] [0,3] (fun hM11 hM13 w12 hB_=>?_)
   replace hC:=hC.grow hB_
   refine bM 0 (vI (i10:Int)) rfl hM13 (Zb 8 1) (bL 1 (.pointer (some ⟨b1,i10,none⟩)) rfl rfl hM11 (fun _ hB_=>by exact J5 i10 ZM5 sc5.size rfl rfl (ZM3 _) (by omega) (by omega)) (Zb 8 3) (bL 2 (.int .u8 (a0.get i10)) rfl rfl hM11 (fun _ hB_=>by exact Ya (hC.grow hB_) 1 (.int .u8 (a0.get i10)) rfl sc5 rfl (ZM0 _ _ hi10)) (Zb 8 7) (bM 3 (vI (i10:Int)) rfl hM13 (Zb 8 15) (bL 4 (.pointer (some ⟨b4,i10,none⟩)) rfl rfl hM11 (fun _ hB_=>by exact J5 i10 ZM5 sc5.size rfl rfl (ZM3 _) (by omega) (by omega)) (Zb 8 31) (bL 5 (.int .u8 (a1.get i10)) rfl rfl hM11 (fun _ hB_=>by exact Ya (hC.grow hB_) 0 (.int .u8 (a1.get i10)) rfl sc5 rfl (ZM0 _ _ hi10)) (Zb 8 63) (Zz 6 (by decide) (by decide) (by kernel_rfl) (by kernel_rfl) rfl (Jh rfl rfl (Zc (v:=.bool (decide (a0.get i10 > a1.get i10))) rfl (done (Z0 (Zd ?_)))))))))))
   refine ZMv (Z4 (Zk (Zk (Z4 (Zk ?_)))))
   exact Zi rfl (Ze rfl) ⟨decide (a0.get i10 > a1.get i10),rfl,h,hC.below⟩ (.inl rfl)
  ·replace h:=Zj h (cf hb10)
   refine ZMr (Zq (Zd (Zg (Za (v:=vI (i10:Int)) rfl (Zo rfl rfl (Zc (v:=vI (ZHd.wrap ((i10:Int)+1))) rfl (done ?_)))))))
   exact hK10 () _ _ ⟨(sl ⟨rfl,rfl,(tr rfl (congrArg _ (Z6 hi10 (by decide)))),trivial⟩),hC⟩ h
 ·clear hC h
  rintro s10 e_ w13 K10 ⟨hS_,hC⟩ h
  rw [ue hS_]
  refine ZMn (sr (Za (v:=vI 8) rfl (Zn rfl rfl (dn (Z2 rfl (decide_eq_false (by omega)) ?_)))))
  refine ZM1 (Zh (Zh (Zy ?_)))
  refine Zd (sr (Zc (v:=.bool false) rfl (dn (ZMv ?_))))
  exact Zi rfl (Ze rfl) ⟨false,rfl,h,hC.below⟩ (.inl rfl)
 ·skip
  exact⟨(slq rfl),hC⟩
def Za2 (a0:ZMp) (a1:ZMp) (a2:Int) (K:ZMp→Prop):Prop :=
 Xh (fun (s10:(List Term)×Int×Int) nx10=>joinP (fun (jn11:Bool→Prop)=>(if s10.2.1 < (a0.terms.length:Int) then jn11 true else jn11 (decide (s10.2.2 < (a1.terms.length:Int))))) (fun (x10:Bool)=>(if x10=true then joinP (fun (jn10:Bool→Prop)=>(if s10.2.2=(a1.terms.length:Int) then jn10 true else(if s10.2.1 < (a0.terms.length:Int) then((0≤s10.2.1∧s10.2.1 < (a0.terms.length:Int))∧((0≤s10.2.2∧s10.2.2 < (a1.terms.length:Int))∧Zd5 ((a0.terms.getD s10.2.1.toNat ZEx).mono) ((a1.terms.getD s10.2.2.toNat ZEx).mono) (fun r12=>jn10 r12))) else jn10 false))) (fun (x11:Bool)=>(if x11=true then((0≤s10.2.1∧s10.2.1 < (a0.terms.length:Int))∧(Z7 (s10.1.length+1) 16∧nx10 (s10.1++[a0.terms.getD s10.2.1.toNat ZEx],ZHd.wrap (s10.2.1+1),s10.2.2))) else joinP (fun (jn12:Bool→Prop)=>(if s10.2.1=(a0.terms.length:Int) then jn12 true else((0≤s10.2.2∧s10.2.2 < (a1.terms.length:Int))∧((0≤s10.2.1∧s10.2.1 < (a0.terms.length:Int))∧Zd5 ((a1.terms.getD s10.2.2.toNat ZEx).mono) ((a0.terms.getD s10.2.1.toNat ZEx).mono) (fun r13=>jn12 r13))))) (fun (x12:Bool)=>(if x12=true then((0≤s10.2.2∧s10.2.2 < (a1.terms.length:Int))∧Xz (ZHd.wrap (a2 * ((a1.terms.getD s10.2.2.toNat ZEx).factor))) (fun r10=>(if r10≠0 then((0≤s10.2.2∧s10.2.2 < (a1.terms.length:Int))∧(Z7 (s10.1.length+1) 16∧nx10 (s10.1++[(⟨(a1.terms.getD s10.2.2.toNat ZEx).mono,r10⟩:Term)],s10.2.1,ZHd.wrap (s10.2.2+1)))) else nx10 (s10.1,s10.2.1,ZHd.wrap (s10.2.2+1))))) else((0≤s10.2.1∧s10.2.1 < (a0.terms.length:Int))∧((0≤s10.2.2∧s10.2.2 < (a1.terms.length:Int))∧Xz (ZHd.wrap (a2 * ((a1.terms.getD s10.2.2.toNat ZEx).factor))) (fun r14=>Xz (ZHd.wrap (((a0.terms.getD s10.2.1.toNat ZEx).factor)+r14)) (fun r11=>(if r11≠0 then((0≤s10.2.1∧s10.2.1 < (a0.terms.length:Int))∧(Z7 (s10.1.length+1) 16∧nx10 (s10.1++[(⟨(a0.terms.getD s10.2.1.toNat ZEx).mono,r11⟩:Term)],ZHd.wrap (s10.2.1+1),ZHd.wrap (s10.2.2+1)))) else nx10 (s10.1,ZHd.wrap (s10.2.1+1),ZHd.wrap (s10.2.2+1))))))))))) else K (⟨s10.1⟩:ZMp)))) ([],0,0)
theorem Zlz (a0 : ZMp) (a1 : ZMp) (a2 : Int)  {K : ZMp → Prop} (h : Za2 a0 a1 a2 K) (w0 : World) (q0 : ZM9.rep a0 [u0_0] fp0 w0) (q1 : ZM9.rep a1 [u1_0] fp1 w0) :
  Calls ZMq 124 #[.agg #[u0_0],.agg #[u1_0],vI a2] w0 fun e w'=>∃ (r0:ZMp) (z0_0:Value) (fz0:List Nat),
   e=.returned (.agg #[z0_0])∧K r0∧(ZM4 (Yt 162) r0 [z0_0] fz0).holds w'∧(∀ b,b∈fz0→w0.heap.size≤b)∧Bel w0 w':=by
 unfold Za2 at h
 refine cof ZNp rfl 149 Tryz.ntmps124 ?_
 have hC:=ZM8 (X:=Nox) w0 [ZMm TForm a0 [u0_0] fp0,ZMm TForm a1 [u1_0] fp1] (alc q0 (al1 q1))
 have hp3:=(hC.getP 0 rfl)
 replace hC:=hC.derive 0 rfl (ZMm ZMo.ty.sl a0.terms [u0_0] fp0) (fun _=>(Xi hp3)) (fun _ hb_=>hb_)
 have hp5:=(hC.getP 2 rfl)
 replace hC:=hC.derive 2 rfl (ZMm ZMo.ty.sl a1.terms [u1_0] fp1) (fun _=>(Xi hp5)) (fun _ hb_=>hb_)
 refine sr (Yg (v:=.agg #[u0_0]) hC [u0_0] rfl rfl fun b7 w9 hB_ hC=>Yg (v:=.agg #[u1_0]) hC [u1_0] rfl rfl fun b10 w10 hB_ hC=>Yk hC [.slice none 0 0] z55 rfl fun b12 w11 hB_ hC=>dn (sr (J6 [] rfl (Zgj   _) (Yk hC [.slice none 0 0] z55 rfl fun b11 w12 hB_ hC=>Zx (v:=.agg #[.slice none 0 0]) hC 0 [.slice none 0 0] [.slice none 0 0] rfl ag55.size rfl rfl rfl rfl rfl (ZMw rfl) rfl fun w13 hC=>dn (sr (Zc (v:=vI 0) rfl (Zc (v:=vI 0) rfl (dn (ZMn (ZMt ?_))))))))))
 refine X2 (S:=(List Term)×Int×Int) _ (fun s10 e_ w_=>∃ (v10:Value),Zt e_ [(2,vI a2),(3,vQ b7),(4,vQ b10),(6,vQ b12),(7,vQ b11),(8,vI s10.2.1),(9,vI s10.2.2)]∧Ctx Nox w0 w_ [own 162 9 v10 s10.1.length (ZMo.encs s10.1),blk b11 55 [v10],blk b12 55 [.slice none 0 0],blk b10 55 [u1_0],blk b7 55 [u0_0]] [ZMm ZMo.ty.sl a1.terms [u1_0] fp1,ZMm ZMo.ty.sl a0.terms [u0_0] fp0,ZMm TForm a0 [u0_0] fp0,ZMm TForm a1 [u1_0] fp1]) ?_ (s0:=([],0,0)) ?_ h
 ·clear hC h
  rintro s10 e_ w14 nx10 K10 ⟨v10,hS_,hC⟩ h hK10
  rw [ue hS_]
  refine ZMn (ZMn ?_)
  obtain ⟨jn11,hj10,h⟩:=Zk5 h
  refine Zld (fun e_ w_=>∃ (x10:Bool),Zt e_ [(2,vI a2),(3,vQ b7),(4,vQ b10),(6,vQ b12),(7,vQ b11),(8,vI s10.2.1),(9,vI s10.2.2),(24,.bool x10)]∧Ctx Nox w0 w_ [own 162 9 v10 s10.1.length (ZMo.encs s10.1),blk b11 55 [v10],blk b12 55 [.slice none 0 0],blk b10 55 [u1_0],blk b7 55 [u0_0]] [ZMm ZMo.ty.sl a1.terms [u1_0] fp1,ZMm ZMo.ty.sl a0.terms [u0_0] fp0,ZMm TForm a0 [u0_0] fp0,ZMm TForm a1 [u1_0] fp1]∧jn11 x10) ?_ ?_
  ·skip
   refine Zg (Za (v:=vI s10.2.1) rfl (Zu 0 ZMu rfl sc53.size rfl rfl (Z5 hC 4 (u0_0) rfl sc53 rfl rfl (Zv hC 1 rfl ZMx rfl (Zn rfl rfl (Za (v:=.bool (decide (s10.2.1 < (a0.terms.length:Int)))) rfl ?_))))))
   refine Y5 (decide (s10.2.1 < (a0.terms.length:Int))) (fun hb13=>?_) (fun hb13=>?_)
   ·replace h:=ift h (ct hb13)
    refine Zm (b:=true) 5 18 rfl (tr rfl (congrArg _ hb13)) (by decide) (Zm (b:=true) 5 18 rfl (tr rfl (congrArg _ hb13)) (by decide) (Zm (b:=true) 5 18 rfl (tr rfl (congrArg _ hb13)) (by decide) (Zm (b:=true) 5 18 rfl (tr rfl (congrArg _ hb13)) (by decide) (Zm (b:=true) 5 18 rfl (tr rfl (congrArg _ hb13)) (by decide) (Z3 (v:=.bool true) (b:=true) (tr rfl (congrArg _ hb13)) rfl (done ?_))))))
    exact⟨rfl,_,rfl,true,(slq rfl),hC,h⟩
   ·replace h:=Zj h (cf hb13)
    refine Zl 5 18 rfl rfl hb13 (Za (v:=vI s10.2.2) rfl (Zl 5 18 rfl rfl hb13 (Zu 0 ZMu rfl sc53.size rfl rfl (Zl 5 18 rfl rfl hb13 (Z5 hC 3 (u1_0) rfl sc53 rfl rfl (Zl 5 18 rfl rfl hb13 (Zv hC 0 rfl ZMx rfl (Zl 5 18 rfl rfl hb13 (Zn rfl rfl (Z3 (v:=.bool (decide (s10.2.2 < (a1.terms.length:Int)))) (b:=false) (tr rfl (congrArg _ hb13)) rfl (done ?_)))))))))))
    exact⟨rfl,_,rfl,decide (s10.2.2 < (a1.terms.length:Int)),(slq rfl),hC,h⟩
  ·clear hC h
   rintro e_ w15 ⟨x10,hS_,hC,h⟩
   replace h:=hj10 _ h
   rw [ue hS_]
   refine Zd ?_
   refine Zp rfl (fun hb14=>?_) (fun hb14=>?_)
   ·replace h:=ift h (hb14)
    refine ZMr (Zd (ZMt (ZMt (ZMn ?_))))
    obtain ⟨jn10,hj11,h⟩:=Zk5 h
    refine Zld (fun e_ w_=>∃ (x11:Bool),Zt e_ [(2,vI a2),(3,vQ b7),(4,vQ b10),(6,vQ b12),(7,vQ b11),(8,vI s10.2.1),(9,vI s10.2.2),(61,.bool x11)]∧Ctx Nox w0 w_ [own 162 9 v10 s10.1.length (ZMo.encs s10.1),blk b11 55 [v10],blk b12 55 [.slice none 0 0],blk b10 55 [u1_0],blk b7 55 [u0_0]] [ZMm ZMo.ty.sl a1.terms [u1_0] fp1,ZMm ZMo.ty.sl a0.terms [u0_0] fp0,ZMm TForm a0 [u0_0] fp0,ZMm TForm a1 [u1_0] fp1]∧jn10 x11) ?_ ?_
    ·skip
     refine cwd 24 Yi [0,0,2,6,15,31,63,63,191,447,1023,2047,4095,8191,4095,32767,65535,131071,4095,266239,4095,1839103,3936255,8130559,16777215,33554431,67108863,134217727] [2,3,8,9,13,15,17,19,21,23] [0,1,4,5,6,7,8,9,10,11,12,13,14,15,16,17,18,19,20,21,22,23] (fun hM12 hM10 w16 hB_=>?_)
     replace hC:=hC.grow hB_
     refine bM 0 (vI s10.2.2) rfl hM10 (Zb 28 1) (bF 1 (vQ b10) rfl rfl hM10 (fun _=>by exact Yf 0 ZMu rfl sc53.size rfl rfl) (Zb 28 3) (bL 2 (u1_0) rfl rfl hM12 (fun _ hB_=>by exact Ya (hC.grow hB_) 3 (u1_0) rfl sc53 rfl rfl) (Zb 28 7) (bL 3 (vI (a1.terms.length:Int)) rfl rfl hM12 (fun _ hB_=>by exact Zi6 (hC.grow hB_) 0 rfl ZMx rfl) (Zb 28 15) (bF 4 (.bool (decide (s10.2.2=(a1.terms.length:Int)))) rfl rfl hM10 (fun _=>by exact Zog rfl rfl) (Zb 28 31) (bM 5 (.bool (decide (s10.2.2=(a1.terms.length:Int)))) rfl hM10 (Zb 28 63) ?_)))))
     refine Y5 (decide (s10.2.2=(a1.terms.length:Int))) (fun hb12=>?_) (fun hb12=>?_)
     ·replace h:=ift h (ct hb12)
      refine Zr Zs 6 undef rfl rfl (by kernel_rfl) (hM10 6 rfl) (fun w_=>.inr ⟨Z8 (b:=true) 5 67 rfl (tr rfl (congrArg _ hb12)) (by decide),rfl⟩) (l9:=(Zb 28 127)) (by kernel_rfl) (Zr Zs 7 undef rfl rfl (by kernel_rfl) (hM10 7 rfl) (fun w_=>.inr ⟨Z8 (b:=true) 5 67 rfl (tr rfl (congrArg _ hb12)) (by decide),rfl⟩) (l9:=(Zb 28 255)) (by kernel_rfl) (Zr Zs 8 undef rfl rfl (by kernel_rfl) (hM10 8 rfl) (fun w_=>.inr ⟨Z8 (b:=true) 5 67 rfl (tr rfl (congrArg _ hb12)) (by decide),rfl⟩) (l9:=(Zb 28 511)) (by kernel_rfl) (Zr Zs 9 undef rfl rfl (by kernel_rfl) (hM10 9 rfl) (fun w_=>.inr ⟨Z8 (b:=true) 5 67 rfl (tr rfl (congrArg _ hb12)) (by decide),rfl⟩) (l9:=(Zb 28 1023)) (by kernel_rfl) (Zr Zs 10 undef rfl rfl (by kernel_rfl) (hM10 10 rfl) (fun w_=>.inr ⟨Z8 (b:=true) 5 67 rfl (tr rfl (congrArg _ hb12)) (by decide),rfl⟩) (l9:=(Zb 28 2047)) (by kernel_rfl) (Zr Zs 11 undef rfl rfl (by kernel_rfl) (hM10 11 rfl) (fun w_=>.inr ⟨Z8 (b:=true) 5 67 rfl (tr rfl (congrArg _ hb12)) (by decide),rfl⟩) (l9:=(Zb 28 4095)) (by kernel_rfl) (Zr Zs 12 undef rfl rfl (by kernel_rfl) (hM10 12 rfl) (fun w_=>.inr ⟨Xo 11 73 rfl rfl,rfl⟩) (l9:=(Zb 28 8191)) (by kernel_rfl) (Zr Zs 13 undef rfl rfl (by kernel_rfl) (hM10 13 rfl) (fun w_=>.inr ⟨Xo 11 73 rfl rfl,rfl⟩) (l9:=(Zb 28 16383)) (by kernel_rfl) (Zr Zs 14 undef rfl rfl (by kernel_rfl) (hM10 14 rfl) (fun w_=>.inr ⟨Xo 11 73 rfl rfl,rfl⟩) (l9:=(Zb 28 32767)) (by kernel_rfl) (Zr Zs 15 undef rfl rfl (by kernel_rfl) (hM10 15 rfl) (fun w_=>.inr ⟨Xo 11 73 rfl rfl,rfl⟩) (l9:=(Zb 28 65535)) (by kernel_rfl) (Zr Zs 16 undef rfl rfl (by kernel_rfl) (hM10 16 rfl) (fun w_=>.inr ⟨Xo 11 73 rfl rfl,rfl⟩) (l9:=(Zb 28 131071)) (by kernel_rfl) (Zr Zs 17 undef rfl rfl (by kernel_rfl) (hM10 17 rfl) (fun w_=>.inr ⟨Xo 11 73 rfl rfl,rfl⟩) (l9:=(Zb 28 262143)) (by kernel_rfl) (Zr Zs 18 undef rfl rfl (by kernel_rfl) (hM10 18 rfl) (fun w_=>.inr ⟨Xo 11 73 rfl rfl,rfl⟩) (l9:=(Zb 28 524287)) (by kernel_rfl) (Zr Zs 19 undef rfl rfl (by kernel_rfl) (hM10 19 rfl) (fun w_=>.inr ⟨Xo 11 73 rfl rfl,rfl⟩) (l9:=(Zb 28 1048575)) (by kernel_rfl) (Zr Zs 20 undef rfl rfl (by kernel_rfl) (hM10 20 rfl) (fun w_=>.inr ⟨Xo 11 73 rfl rfl,rfl⟩) (l9:=(Zb 28 2097151)) (by kernel_rfl) (Zr Zs 21 undef rfl rfl (by kernel_rfl) (hM10 21 rfl) (fun w_=>.inr ⟨Xo 11 73 rfl rfl,rfl⟩) (l9:=(Zb 28 4194303)) (by kernel_rfl) (Zr Zs 22 undef rfl rfl (by kernel_rfl) (hM10 22 rfl) (fun w_=>.inr ⟨Xo 11 73 rfl rfl,rfl⟩) (l9:=(Zb 28 8388607)) (by kernel_rfl) (Zr Zs 23 undef rfl rfl (by kernel_rfl) (hM10 23 rfl) (fun w_=>.inr ⟨Xo 11 73 rfl rfl,rfl⟩) (l9:=(Zb 28 16777215)) (by kernel_rfl) (Zz 24 (by decide) (by decide) (by kernel_rfl) (by kernel_rfl) rfl (Jr 11 73 rfl rfl (Zm (b:=true) 5 67 rfl (tr rfl (congrArg _ hb12)) (by decide) (Z3 (v:=.bool true) (b:=true) (tr rfl (congrArg _ hb12)) rfl (Zc (v:=.bool true) rfl (done (Z0 ?_))))))))))))))))))))))))
      exact⟨rfl,_,rfl,true,(slq rfl),hC,h⟩
     ·replace h:=Zj h (cf hb12)
      refine aF 6 (vI s10.2.1) rfl rfl (hM10 6 rfl) (Yd 5 67 rfl rfl hb12) (fun _=>by exact Zaj (v:=vI s10.2.1) rfl) (Zb 28 127) (aF 7 (vQ b7) rfl rfl (hM10 7 rfl) (Yd 5 67 rfl rfl hb12) (fun _=>by exact Yf 0 ZMu rfl sc53.size rfl rfl) (Zb 28 255) (aL 8 (u0_0) rfl rfl (hM12 8 rfl) (Yd 5 67 rfl rfl hb12) (fun _ hB_=>by exact Ya (hC.grow hB_) 4 (u0_0) rfl sc53 rfl rfl) (Zb 28 511) (aL 9 (vI (a0.terms.length:Int)) rfl rfl (hM12 9 rfl) (Yd 5 67 rfl rfl hb12) (fun _ hB_=>by exact Zi6 (hC.grow hB_) 1 rfl ZMx rfl) (Zb 28 1023) (aF 10 (.bool (decide (s10.2.1 < (a0.terms.length:Int)))) rfl rfl (hM10 10 rfl) (Yd 5 67 rfl rfl hb12) (fun _=>by exact Zoh rfl rfl) (Zb 28 2047) (aF 11 (.bool (decide (s10.2.1 < (a0.terms.length:Int)))) rfl rfl (hM10 11 rfl) (Yd 5 67 rfl rfl hb12) (fun _=>by exact Zaj (v:=.bool (decide (s10.2.1 < (a0.terms.length:Int)))) rfl) (Zb 28 4095) ?_)))))
      refine Y5 (decide (s10.2.1 < (a0.terms.length:Int))) (fun hb10=>?_) (fun hb10=>?_)
      ·replace h:=ift h (ct hb10)
       refine aF 12 (vQ b7) rfl rfl (hM10 12 rfl) (Yd 11 73 rfl rfl hb10) (fun _=>by exact Yf 0 ZMu rfl sc53.size rfl rfl) (Zb 28 8191) (aL 13 (u0_0) rfl rfl (hM12 13 rfl) (Yd 11 73 rfl rfl hb10) (fun _ hB_=>by exact Ya (hC.grow hB_) 4 (u0_0) rfl sc53 rfl rfl) (Zb 28 16383) (aF 14 (vI s10.2.1) rfl rfl (hM10 14 rfl) (Yd 11 73 rfl rfl hb10) (fun _=>by exact Zaj (v:=vI s10.2.1) rfl) (Zb 28 32767) ?_))
       obtain ⟨⟨h10,h11⟩,h⟩:=h
       obtain ⟨Ad10,c10,hv10⟩:=Zw (hC.getP 1 rfl) s10.2.1.toNat (show s10.2.1.toNat < a0.terms.length by omega)
       refine aL 15 (.pointer (some (Ad10.add (s10.2.1.toNat * 9)))) rfl rfl (hM12 15 rfl) (Yd 11 73 rfl rfl hb10) (fun _ hB_=>by exact Yq (len:=a0.terms.length) ZMx ag162.size (by exact tr rfl hv10) rfl h10 h11) (Zb 28 65535) (aF 16 (.pointer (some (Ad10.add (s10.2.1.toNat * 9+0)))) rfl rfl (hM10 16 rfl) (Yd 11 73 rfl rfl hb10) (fun _=>by exact Zao (s10.2.1.toNat * 9+0) ZM2 rfl ag136.size rfl rfl) (Zb 28 131071) (aL 17 (.agg (ZMl (ZMk .u8 ((a0.terms.getD s10.2.1.toNat ZEx).mono)))) rfl rfl (hM12 17 rfl) (Yd 11 73 rfl rfl hb10) (fun _ hB_=>by exact Ji (ZMk .u8 ((a0.terms.getD s10.2.1.toNat ZEx).mono)) (Jt (o:=0) (k:=8) (Ye ((hC.grow hB_).getP 1 rfl) hv10 s10.2.1.toNat (show s10.2.1.toNat < a0.terms.length by omega)) rfl) ag136 rfl rfl) (Zb 28 262143) (aF 18 (vQ b10) rfl rfl (hM10 18 rfl) (Yd 11 73 rfl rfl hb10) (fun _=>by exact Yf 0 ZMu rfl sc53.size rfl rfl) (Zb 28 524287) (aL 19 (u1_0) rfl rfl (hM12 19 rfl) (Yd 11 73 rfl rfl hb10) (fun _ hB_=>by exact Ya (hC.grow hB_) 3 (u1_0) rfl sc53 rfl rfl) (Zb 28 1048575) (aF 20 (vI s10.2.2) rfl rfl (hM10 20 rfl) (Yd 11 73 rfl rfl hb10) (fun _=>by exact Zaj (v:=vI s10.2.2) rfl) (Zb 28 2097151) ?_)))))
       obtain ⟨⟨h12,h13⟩,h⟩:=h
       obtain ⟨Ad11,c11,hv11⟩:=Zw (hC.getP 0 rfl) s10.2.2.toNat (show s10.2.2.toNat < a1.terms.length by omega)
       refine aL 21 (.pointer (some (Ad11.add (s10.2.2.toNat * 9)))) rfl rfl (hM12 21 rfl) (Yd 11 73 rfl rfl hb10) (fun _ hB_=>by exact Yq (len:=a1.terms.length) ZMx ag162.size (by exact tr rfl hv11) rfl h12 h13) (Zb 28 4194303) (aF 22 (.pointer (some (Ad11.add (s10.2.2.toNat * 9+0)))) rfl rfl (hM10 22 rfl) (Yd 11 73 rfl rfl hb10) (fun _=>by exact Zao (s10.2.2.toNat * 9+0) ZM2 rfl ag136.size rfl rfl) (Zb 28 8388607) (aL 23 (.agg (ZMl (ZMk .u8 ((a1.terms.getD s10.2.2.toNat ZEx).mono)))) rfl rfl (hM12 23 rfl) (Yd 11 73 rfl rfl hb10) (fun _ hB_=>by exact Ji (ZMk .u8 ((a1.terms.getD s10.2.2.toNat ZEx).mono)) (Jt (o:=0) (k:=8) (Ye ((hC.grow hB_).getP 0 rfl) hv11 s10.2.2.toNat (show s10.2.2.toNat < a1.terms.length by omega)) rfl) ag136 rfl rfl) (Zb 28 16777215) (Zz 24 (by decide) (by decide) (by kernel_rfl) (by kernel_rfl) rfl (Zl 11 73 rfl rfl hb10 (Zf [.agg (ZMl (ZMk .u8 ((a0.terms.getD s10.2.1.toNat ZEx).mono))),.agg (ZMl (ZMk .u8 ((a1.terms.getD s10.2.2.toNat ZEx).mono)))] _ ZNo rfl rfl rfl (Zly ((a0.terms.getD s10.2.1.toNat ZEx).mono) ((a1.terms.getD s10.2.2.toNat ZEx).mono) h _) ?_)))))
       rintro _ w17 ⟨r12,rfl,h,hB10⟩
       refine rt ?_
       replace hC:=hC.grow hB10
       refine Zl 5 67 rfl rfl hb12 (Z3 (v:=.bool r12) (b:=true) (tr rfl (congrArg _ hb10)) rfl (Z3 (v:=.bool r12) (b:=false) (tr rfl (congrArg _ hb12)) rfl (Zc (v:=.bool r12) rfl (done (Z0 ?_)))))
       exact⟨rfl,_,rfl,r12,(slq rfl),hC,h⟩
      ·replace h:=Zj h (cf hb10)
       refine Zr Zs 12 undef rfl rfl (by kernel_rfl) (hM10 12 rfl) (fun w_=>.inr ⟨Z8 (b:=false) 11 73 rfl (tr rfl (congrArg _ hb10)) (by decide),rfl⟩) (l9:=(Zb 28 8191)) (by kernel_rfl) (Zr Zs 13 undef rfl rfl (by kernel_rfl) (hM10 13 rfl) (fun w_=>.inr ⟨Z8 (b:=false) 11 73 rfl (tr rfl (congrArg _ hb10)) (by decide),rfl⟩) (l9:=(Zb 28 16383)) (by kernel_rfl) (Zr Zs 14 undef rfl rfl (by kernel_rfl) (hM10 14 rfl) (fun w_=>.inr ⟨Z8 (b:=false) 11 73 rfl (tr rfl (congrArg _ hb10)) (by decide),rfl⟩) (l9:=(Zb 28 32767)) (by kernel_rfl) (Zr Zs 15 undef rfl rfl (by kernel_rfl) (hM10 15 rfl) (fun w_=>.inr ⟨Z8 (b:=false) 11 73 rfl (tr rfl (congrArg _ hb10)) (by decide),rfl⟩) (l9:=(Zb 28 65535)) (by kernel_rfl) (Zr Zs 16 undef rfl rfl (by kernel_rfl) (hM10 16 rfl) (fun w_=>.inr ⟨Z8 (b:=false) 11 73 rfl (tr rfl (congrArg _ hb10)) (by decide),rfl⟩) (l9:=(Zb 28 131071)) (by kernel_rfl) (Zr Zs 17 undef rfl rfl (by kernel_rfl) (hM10 17 rfl) (fun w_=>.inr ⟨Z8 (b:=false) 11 73 rfl (tr rfl (congrArg _ hb10)) (by decide),rfl⟩) (l9:=(Zb 28 262143)) (by kernel_rfl) (Zr Zs 18 undef rfl rfl (by kernel_rfl) (hM10 18 rfl) (fun w_=>.inr ⟨Z8 (b:=false) 11 73 rfl (tr rfl (congrArg _ hb10)) (by decide),rfl⟩) (l9:=(Zb 28 524287)) (by kernel_rfl) (Zr Zs 19 undef rfl rfl (by kernel_rfl) (hM10 19 rfl) (fun w_=>.inr ⟨Z8 (b:=false) 11 73 rfl (tr rfl (congrArg _ hb10)) (by decide),rfl⟩) (l9:=(Zb 28 1048575)) (by kernel_rfl) (Zr Zs 20 undef rfl rfl (by kernel_rfl) (hM10 20 rfl) (fun w_=>.inr ⟨Z8 (b:=false) 11 73 rfl (tr rfl (congrArg _ hb10)) (by decide),rfl⟩) (l9:=(Zb 28 2097151)) (by kernel_rfl) (Zr Zs 21 undef rfl rfl (by kernel_rfl) (hM10 21 rfl) (fun w_=>.inr ⟨Z8 (b:=false) 11 73 rfl (tr rfl (congrArg _ hb10)) (by decide),rfl⟩) (l9:=(Zb 28 4194303)) (by kernel_rfl) (Zr Zs 22 undef rfl rfl (by kernel_rfl) (hM10 22 rfl) (fun w_=>.inr ⟨Z8 (b:=false) 11 73 rfl (tr rfl (congrArg _ hb10)) (by decide),rfl⟩) (l9:=(Zb 28 8388607)) (by kernel_rfl) (Zr Zs 23 undef rfl rfl (by kernel_rfl) (hM10 23 rfl) (fun w_=>.inr ⟨Z8 (b:=false) 11 73 rfl (tr rfl (congrArg _ hb10)) (by decide),rfl⟩) (l9:=(Zb 28 16777215)) (by kernel_rfl) (Zz 24 (by decide) (by decide) (by kernel_rfl) (by kernel_rfl) rfl (Zm (b:=false) 11 73 rfl (tr rfl (congrArg _ hb10)) (by decide) (Zl 5 67 rfl rfl hb12 (Z3 (v:=.bool false) (b:=false) (tr rfl (congrArg _ hb10)) rfl (Z3 (v:=.bool false) (b:=false) (tr rfl (congrArg _ hb12)) rfl (Zc (v:=.bool false) rfl (done (Z0 ?_)))))))))))))))))))
       exact⟨rfl,_,rfl,false,(slq rfl),hC,h⟩
    ·clear hC h
     rintro e_ w18 ⟨x11,hS_,hC,h⟩
     replace h:=hj11 _ h
     rw [ue hS_]
     refine Zd ?_
     refine Zp rfl (fun hb15=>?_) (fun hb15=>?_)
     ·replace h:=ift h (hb15)
      refine ZMn ?_
      refine cwd 8 Yi [0,1,0,4,0,28,60,124,255,511,1023] [1,3,5,6] [0,2,4] (fun hM20 hM21 w19 hB_=>?_)
      replace hC:=hC.grow hB_
      refine bF 0 (vQ b11) rfl rfl hM21 (fun _=>by exact Yf 0 ZMu rfl sc53.size rfl rfl) (Zb 11 1) (bL 1 (v10) rfl rfl hM20 (fun _ hB_=>by exact Ya (hC.grow hB_) 1 (v10) rfl sc53 rfl rfl) (Zb 11 3) (bF 2 (vQ b7) rfl rfl hM21 (fun _=>by exact Yf 0 ZMu rfl sc53.size rfl rfl) (Zb 11 7) (bL 3 (u0_0) rfl rfl hM20 (fun _ hB_=>by exact Ya (hC.grow hB_) 4 (u0_0) rfl sc53 rfl rfl) (Zb 11 15) (bM 4 (vI s10.2.1) rfl hM21 (Zb 11 31) ?_))))
      obtain ⟨⟨h14,h15⟩,h⟩:=h
      obtain ⟨Ad18,c12,hv12⟩:=Zw (hC.getP 1 rfl) s10.2.1.toNat (show s10.2.1.toNat < a0.terms.length by omega)
      refine bL 5 (.pointer (some (Ad18.add (s10.2.1.toNat * 9)))) rfl rfl hM20 (fun _ hB_=>by exact Yq (len:=a0.terms.length) ZMx ag162.size (by exact tr rfl hv12) rfl h14 h15) (Zb 11 63) (bL 6 (.agg (ZMl (ZMy (a0.terms.getD s10.2.1.toNat ZEx)))) rfl rfl hM20 (fun _ hB_=>by exact Ji (ZMy (a0.terms.getD s10.2.1.toNat ZEx)) (Ye ((hC.grow hB_).getP 1 rfl) hv12 s10.2.1.toNat (show s10.2.1.toNat < a0.terms.length by omega)) ag162 rfl rfl) (Zb 11 127) (aO 7 rfl (Y4 (sz:=9) hC [(0,.agg (ZMl (ZMy (a0.terms.getD s10.2.1.toNat ZEx))))] (ZMo.encs [a0.terms.getD s10.2.1.toNat ZEx]) rfl (fun _=>Zgk (a0.terms.getD s10.2.1.toNat ZEx) _) rfl (by decide) fun b13 w20 hB_ hC=>done (aK (by assumption) (Zb 11 255) (Zz 8 (by decide) (by decide) (by kernel_rfl) (by kernel_rfl) rfl ?_)))))
      obtain ⟨hm10,h⟩:=h
      refine J7 hC 1 ZMx Zgl rfl (by decide) (by decide) rfl (Za7 (hC.getM 0 rfl)) (fun q hq=>ZNq (E:=ETerm) _ q hq) rfl rfl hm10 fun v11 w21 hC=>?_
      replace hC:=Xb hC 1 ((s10.1++[a0.terms.getD s10.2.1.toNat ZEx]).length) (ZMo.encs (s10.1++[a0.terms.getD s10.2.1.toNat ZEx])) rfl (by simp) (by first | (simp [ZNf]; done) | simp [ZNf,Enc.encs])
      refine Zu 0 ZMu rfl sc53.size rfl rfl (Zx (v:=v11) hC 2 [v11] [v11] rfl sc53.size rfl rfl (Zb4 (hC.getM 1 rfl)) rfl (Xk (Xx (hC.getM 1 rfl)) rfl) (ZMw rfl) rfl fun w22 hC=>done (Z0 (Zd (Zg (Za (v:=vI s10.2.1) rfl (Zo rfl rfl (Zc (v:=vI (ZHd.wrap (s10.2.1+1))) rfl (done (Zq (Zq ?_))))))))))
      exact hK10 (s10.1++[a0.terms.getD s10.2.1.toNat ZEx],ZHd.wrap (s10.2.1+1),s10.2.2) _ _ ⟨v11,(slq rfl),(hC.xM [1,2,3,4,5] rfl)⟩ h
     ·replace h:=Zj h (Xa hb15)
      refine ZMn ?_
      obtain ⟨jn12,hj12,h⟩:=Zk5 h
      refine Zld (fun e_ w_=>∃ (x12:Bool),Zt e_ [(2,vI a2),(3,vQ b7),(4,vQ b10),(6,vQ b12),(7,vQ b11),(8,vI s10.2.1),(9,vI s10.2.2),(101,.bool x12)]∧Ctx Nox w0 w_ [own 162 9 v10 s10.1.length (ZMo.encs s10.1),blk b11 55 [v10],blk b12 55 [.slice none 0 0],blk b10 55 [u1_0],blk b7 55 [u0_0]] [ZMm ZMo.ty.sl a1.terms [u1_0] fp1,ZMm ZMo.ty.sl a0.terms [u0_0] fp0,ZMm TForm a0 [u0_0] fp0,ZMm TForm a1 [u1_0] fp1]∧jn12 x12) ?_ ?_
      ·skip
       refine cwd 18 Yi [0,0,2,6,15,31,63,127,63,511,1023,2047,63,4159,63,28735,61503,127039,262143,524287,1048575] [2,3,7,9,11,13,15,17] [0,1,4,5,6,7,8,9,10,11,12,13,14,15,16,17] (fun hM13 hM11 w23 hB_=>?_)
       replace hC:=hC.grow hB_
       refine bM 0 (vI s10.2.1) rfl hM11 (Zb 21 1) (bF 1 (vQ b7) rfl rfl hM11 (fun _=>by exact Yf 0 ZMu rfl sc53.size rfl rfl) (Zb 21 3) (bL 2 (u0_0) rfl rfl hM13 (fun _ hB_=>by exact Ya (hC.grow hB_) 4 (u0_0) rfl sc53 rfl rfl) (Zb 21 7) (bL 3 (vI (a0.terms.length:Int)) rfl rfl hM13 (fun _ hB_=>by exact Zi6 (hC.grow hB_) 1 rfl ZMx rfl) (Zb 21 15) (bF 4 (.bool (decide (s10.2.1=(a0.terms.length:Int)))) rfl rfl hM11 (fun _=>by exact Zog rfl rfl) (Zb 21 31) (bM 5 (.bool (decide (s10.2.1=(a0.terms.length:Int)))) rfl hM11 (Zb 21 63) ?_)))))
       refine Y5 (decide (s10.2.1=(a0.terms.length:Int))) (fun hb11=>?_) (fun hb11=>?_)
       ·replace h:=ift h (ct hb11)
        refine Zr Zs 6 undef rfl rfl (by kernel_rfl) (hM11 6 rfl) (fun w_=>.inr ⟨Z8 (b:=true) 5 107 rfl (tr rfl (congrArg _ hb11)) (by decide),rfl⟩) (l9:=(Zb 21 127)) (by kernel_rfl) (Zr Zs 7 undef rfl rfl (by kernel_rfl) (hM11 7 rfl) (fun w_=>.inr ⟨Z8 (b:=true) 5 107 rfl (tr rfl (congrArg _ hb11)) (by decide),rfl⟩) (l9:=(Zb 21 255)) (by kernel_rfl) (Zr Zs 8 undef rfl rfl (by kernel_rfl) (hM11 8 rfl) (fun w_=>.inr ⟨Z8 (b:=true) 5 107 rfl (tr rfl (congrArg _ hb11)) (by decide),rfl⟩) (l9:=(Zb 21 511)) (by kernel_rfl) (Zr Zs 9 undef rfl rfl (by kernel_rfl) (hM11 9 rfl) (fun w_=>.inr ⟨Z8 (b:=true) 5 107 rfl (tr rfl (congrArg _ hb11)) (by decide),rfl⟩) (l9:=(Zb 21 1023)) (by kernel_rfl) (Zr Zs 10 undef rfl rfl (by kernel_rfl) (hM11 10 rfl) (fun w_=>.inr ⟨Z8 (b:=true) 5 107 rfl (tr rfl (congrArg _ hb11)) (by decide),rfl⟩) (l9:=(Zb 21 2047)) (by kernel_rfl) (Zr Zs 11 undef rfl rfl (by kernel_rfl) (hM11 11 rfl) (fun w_=>.inr ⟨Z8 (b:=true) 5 107 rfl (tr rfl (congrArg _ hb11)) (by decide),rfl⟩) (l9:=(Zb 21 4095)) (by kernel_rfl) (Zr Zs 12 undef rfl rfl (by kernel_rfl) (hM11 12 rfl) (fun w_=>.inr ⟨Z8 (b:=true) 5 107 rfl (tr rfl (congrArg _ hb11)) (by decide),rfl⟩) (l9:=(Zb 21 8191)) (by kernel_rfl) (Zr Zs 13 undef rfl rfl (by kernel_rfl) (hM11 13 rfl) (fun w_=>.inr ⟨Z8 (b:=true) 5 107 rfl (tr rfl (congrArg _ hb11)) (by decide),rfl⟩) (l9:=(Zb 21 16383)) (by kernel_rfl) (Zr Zs 14 undef rfl rfl (by kernel_rfl) (hM11 14 rfl) (fun w_=>.inr ⟨Z8 (b:=true) 5 107 rfl (tr rfl (congrArg _ hb11)) (by decide),rfl⟩) (l9:=(Zb 21 32767)) (by kernel_rfl) (Zr Zs 15 undef rfl rfl (by kernel_rfl) (hM11 15 rfl) (fun w_=>.inr ⟨Z8 (b:=true) 5 107 rfl (tr rfl (congrArg _ hb11)) (by decide),rfl⟩) (l9:=(Zb 21 65535)) (by kernel_rfl) (Zr Zs 16 undef rfl rfl (by kernel_rfl) (hM11 16 rfl) (fun w_=>.inr ⟨Z8 (b:=true) 5 107 rfl (tr rfl (congrArg _ hb11)) (by decide),rfl⟩) (l9:=(Zb 21 131071)) (by kernel_rfl) (Zr Zs 17 undef rfl rfl (by kernel_rfl) (hM11 17 rfl) (fun w_=>.inr ⟨Z8 (b:=true) 5 107 rfl (tr rfl (congrArg _ hb11)) (by decide),rfl⟩) (l9:=(Zb 21 262143)) (by kernel_rfl) (Zz 18 (by decide) (by decide) (by kernel_rfl) (by kernel_rfl) rfl (Zm (b:=true) 5 107 rfl (tr rfl (congrArg _ hb11)) (by decide) (Z3 (v:=.bool true) (b:=true) (tr rfl (congrArg _ hb11)) rfl (Zc (v:=.bool true) rfl (done (Z0 ?_)))))))))))))))))
        exact⟨rfl,_,rfl,true,(slq rfl),hC,h⟩
       ·replace h:=Zj h (cf hb11)
        refine aF 6 (vQ b10) rfl rfl (hM11 6 rfl) (Yd 5 107 rfl rfl hb11) (fun _=>by exact Yf 0 ZMu rfl sc53.size rfl rfl) (Zb 21 127) (aL 7 (u1_0) rfl rfl (hM13 7 rfl) (Yd 5 107 rfl rfl hb11) (fun _ hB_=>by exact Ya (hC.grow hB_) 3 (u1_0) rfl sc53 rfl rfl) (Zb 21 255) (aF 8 (vI s10.2.2) rfl rfl (hM11 8 rfl) (Yd 5 107 rfl rfl hb11) (fun _=>by exact Zaj (v:=vI s10.2.2) rfl) (Zb 21 511) ?_))
        obtain ⟨⟨h16,h17⟩,h⟩:=h
        obtain ⟨Ad12,c13,hv13⟩:=Zw (hC.getP 0 rfl) s10.2.2.toNat (show s10.2.2.toNat < a1.terms.length by omega)
        refine aL 9 (.pointer (some (Ad12.add (s10.2.2.toNat * 9)))) rfl rfl (hM13 9 rfl) (Yd 5 107 rfl rfl hb11) (fun _ hB_=>by exact Yq (len:=a1.terms.length) ZMx ag162.size (by exact tr rfl hv13) rfl h16 h17) (Zb 21 1023) (aF 10 (.pointer (some (Ad12.add (s10.2.2.toNat * 9+0)))) rfl rfl (hM11 10 rfl) (Yd 5 107 rfl rfl hb11) (fun _=>by exact Zao (s10.2.2.toNat * 9+0) ZM2 rfl ag136.size rfl rfl) (Zb 21 2047) (aL 11 (.agg (ZMl (ZMk .u8 ((a1.terms.getD s10.2.2.toNat ZEx).mono)))) rfl rfl (hM13 11 rfl) (Yd 5 107 rfl rfl hb11) (fun _ hB_=>by exact Ji (ZMk .u8 ((a1.terms.getD s10.2.2.toNat ZEx).mono)) (Jt (o:=0) (k:=8) (Ye ((hC.grow hB_).getP 0 rfl) hv13 s10.2.2.toNat (show s10.2.2.toNat < a1.terms.length by omega)) rfl) ag136 rfl rfl) (Zb 21 4095) (aF 12 (vQ b7) rfl rfl (hM11 12 rfl) (Yd 5 107 rfl rfl hb11) (fun _=>by exact Yf 0 ZMu rfl sc53.size rfl rfl) (Zb 21 8191) (aL 13 (u0_0) rfl rfl (hM13 13 rfl) (Yd 5 107 rfl rfl hb11) (fun _ hB_=>by exact Ya (hC.grow hB_) 4 (u0_0) rfl sc53 rfl rfl) (Zb 21 16383) (aF 14 (vI s10.2.1) rfl rfl (hM11 14 rfl) (Yd 5 107 rfl rfl hb11) (fun _=>by exact Zaj (v:=vI s10.2.1) rfl) (Zb 21 32767) ?_)))))
        obtain ⟨⟨h18,h19⟩,h⟩:=h
        obtain ⟨Ad13,c14,hv14⟩:=Zw (hC.getP 1 rfl) s10.2.1.toNat (show s10.2.1.toNat < a0.terms.length by omega)
        refine aL 15 (.pointer (some (Ad13.add (s10.2.1.toNat * 9)))) rfl rfl (hM13 15 rfl) (Yd 5 107 rfl rfl hb11) (fun _ hB_=>by exact Yq (len:=a0.terms.length) ZMx ag162.size (by exact tr rfl hv14) rfl h18 h19) (Zb 21 65535) (aF 16 (.pointer (some (Ad13.add (s10.2.1.toNat * 9+0)))) rfl rfl (hM11 16 rfl) (Yd 5 107 rfl rfl hb11) (fun _=>by exact Zao (s10.2.1.toNat * 9+0) ZM2 rfl ag136.size rfl rfl) (Zb 21 131071) (aL 17 (.agg (ZMl (ZMk .u8 ((a0.terms.getD s10.2.1.toNat ZEx).mono)))) rfl rfl (hM13 17 rfl) (Yd 5 107 rfl rfl hb11) (fun _ hB_=>by exact Ji (ZMk .u8 ((a0.terms.getD s10.2.1.toNat ZEx).mono)) (Jt (o:=0) (k:=8) (Ye ((hC.grow hB_).getP 1 rfl) hv14 s10.2.1.toNat (show s10.2.1.toNat < a0.terms.length by omega)) rfl) ag136 rfl rfl) (Zb 21 262143) (Zz 18 (by decide) (by decide) (by kernel_rfl) (by kernel_rfl) rfl (Zl 5 107 rfl rfl hb11 (Zf [.agg (ZMl (ZMk .u8 ((a1.terms.getD s10.2.2.toNat ZEx).mono))),.agg (ZMl (ZMk .u8 ((a0.terms.getD s10.2.1.toNat ZEx).mono)))] _ ZNo rfl rfl rfl (Zly ((a1.terms.getD s10.2.2.toNat ZEx).mono) ((a0.terms.getD s10.2.1.toNat ZEx).mono) h _) ?_)))))
        rintro _ w24 ⟨r13,rfl,h,hB11⟩
        refine rt ?_
        replace hC:=hC.grow hB11
        refine Z3 (v:=.bool r13) (b:=false) (tr rfl (congrArg _ hb11)) rfl (Zc (v:=.bool r13) rfl (done (Z0 ?_)))
        exact⟨rfl,_,rfl,r13,(slq rfl),hC,h⟩
      ·clear hC h
       rintro e_ w25 ⟨x12,hS_,hC,h⟩
       replace h:=hj12 _ h
       rw [ue hS_]
       refine Zd ?_
       refine Zp rfl (fun hb16=>?_) (fun hb16=>?_)
       ·replace h:=ift h (hb16)
        refine ZMn (sr (Za (v:=vI a2) rfl (Zu 0 ZMu rfl sc53.size rfl rfl (Z5 hC 3 (u1_0) rfl sc53 rfl rfl (Za (v:=vI s10.2.2) rfl ?_)))))
        obtain ⟨⟨h20,h21⟩,h⟩:=h
        obtain ⟨Ad19,c15,hv15⟩:=Zw (hC.getP 0 rfl) s10.2.2.toNat (show s10.2.2.toNat < a1.terms.length by omega)
        refine Yo (len:=a1.terms.length) ZMx ag162.size (tr rfl hv15) rfl h20 h21 (Zew (s10.2.2.toNat * 9+8) ZM2 rfl sc2.size rfl rfl (Yl (vI ((a1.terms.getD s10.2.2.toNat ZEx).factor)) (Jt (o:=8) (k:=1) (Ye (hC.getP 0 rfl) hv15 s10.2.2.toNat (show s10.2.2.toNat < a1.terms.length by omega)) rfl) sc2 rfl (Js rfl rfl (Zf [vI (ZHd.wrap (a2 * ((a1.terms.getD s10.2.2.toNat ZEx).factor)))] _ ZNd rfl rfl rfl (Zbc (ZHd.wrap (a2 * ((a1.terms.getD s10.2.2.toNat ZEx).factor))) h _) ?_))))
        rintro _ w26 ⟨r10,rfl,h,hB12⟩
        refine rt ?_
        replace hC:=hC.grow hB12
        refine Zc (v:=vI r10) rfl (dn (sr (Za (v:=vI r10) rfl (Y2 rfl rfl (dn ?_)))))
        refine Zp rfl (fun hb17=>?_) (fun hb17=>?_)
        ·replace h:=ift h (ct hb17)
         refine cwd 11 Yi [0,1,0,4,0,28,60,124,0,508,1020,2047,4095,8191] [1,3,5,7,9] [0,2,4,6,8] (fun hM16 hM17 w27 hB_=>?_)
         replace hC:=hC.grow hB_
         refine bF 0 (vQ b11) rfl rfl hM17 (fun _=>by exact Yf 0 ZMu rfl sc53.size rfl rfl) (Zb 14 1) (bL 1 (v10) rfl rfl hM16 (fun _ hB_=>by exact Ya (hC.grow hB_) 1 (v10) rfl sc53 rfl rfl) (Zb 14 3) (bF 2 (vQ b10) rfl rfl hM17 (fun _=>by exact Yf 0 ZMu rfl sc53.size rfl rfl) (Zb 14 7) (bL 3 (u1_0) rfl rfl hM16 (fun _ hB_=>by exact Ya (hC.grow hB_) 3 (u1_0) rfl sc53 rfl rfl) (Zb 14 15) (bM 4 (vI s10.2.2) rfl hM17 (Zb 14 31) ?_))))
         obtain ⟨⟨h22,h23⟩,h⟩:=h
         obtain ⟨Ad14,c16,hv16⟩:=Zw (hC.getP 0 rfl) s10.2.2.toNat (show s10.2.2.toNat < a1.terms.length by omega)
         refine bL 5 (.pointer (some (Ad14.add (s10.2.2.toNat * 9)))) rfl rfl hM16 (fun _ hB_=>by exact Yq (len:=a1.terms.length) ZMx ag162.size (by exact tr rfl hv16) rfl h22 h23) (Zb 14 63) (bF 6 (.pointer (some (Ad14.add (s10.2.2.toNat * 9+0)))) rfl rfl hM17 (fun _=>by exact Zao (s10.2.2.toNat * 9+0) ZM2 rfl ag136.size rfl rfl) (Zb 14 127) (bL 7 (.agg (ZMl (ZMk .u8 ((a1.terms.getD s10.2.2.toNat ZEx).mono)))) rfl rfl hM16 (fun _ hB_=>by exact Ji (ZMk .u8 ((a1.terms.getD s10.2.2.toNat ZEx).mono)) (Jt (o:=0) (k:=8) (Ye ((hC.grow hB_).getP 0 rfl) hv16 s10.2.2.toNat (show s10.2.2.toNat < a1.terms.length by omega)) rfl) ag136 rfl rfl) (Zb 14 255) (bM 8 (vI r10) rfl hM17 (Zb 14 511) (bL 9 (.agg (ZMl (ZMy (⟨(a1.terms.getD s10.2.2.toNat ZEx).mono,r10⟩:Term)))) rfl rfl hM16 (fun _ hB_=>by exact Zk4 [(0,.agg (ZMl (ZMk .u8 ((a1.terms.getD s10.2.2.toNat ZEx).mono)))),(1,vI r10)] rfl (Zi7 ((a1.terms.getD s10.2.2.toNat ZEx).mono) r10  _)) (Zb 14 1023) (aO 10 rfl (Y4 (sz:=9) hC [(0,.agg (ZMl (ZMy (⟨(a1.terms.getD s10.2.2.toNat ZEx).mono,r10⟩:Term))))] (ZMo.encs [(⟨(a1.terms.getD s10.2.2.toNat ZEx).mono,r10⟩:Term)]) rfl (fun _=>Zgk (⟨(a1.terms.getD s10.2.2.toNat ZEx).mono,r10⟩:Term) _) rfl (by decide) fun b14 w28 hB_ hC=>done (aK (by assumption) (Zb 14 2047) (Zz 11 (by decide) (by decide) (by kernel_rfl) (by kernel_rfl) rfl ?_))))))))
         obtain ⟨hm11,h⟩:=h
         refine J7 hC 1 ZMx Zgl rfl (by decide) (by decide) rfl (Za7 (hC.getM 0 rfl)) (fun q hq=>ZNq (E:=ETerm) _ q hq) rfl rfl hm11 fun v12 w29 hC=>?_
         replace hC:=Xb hC 1 ((s10.1++[(⟨(a1.terms.getD s10.2.2.toNat ZEx).mono,r10⟩:Term)]).length) (ZMo.encs (s10.1++[(⟨(a1.terms.getD s10.2.2.toNat ZEx).mono,r10⟩:Term)])) rfl (by simp) (by first | (simp [ZNf]; done) | simp [ZNf,Enc.encs])
         refine Zu 0 ZMu rfl sc53.size rfl rfl (Zx (v:=v12) hC 2 [v12] [v12] rfl sc53.size rfl rfl (Zb4 (hC.getM 1 rfl)) rfl (Xk (Xx (hC.getM 1 rfl)) rfl) (ZMw rfl) rfl fun w30 hC=>done (Z0 (Zd (Zg (Za (v:=vI s10.2.2) rfl (Zo rfl rfl (Zc (v:=vI (ZHd.wrap (s10.2.2+1))) rfl (done (Zq (Zq ?_))))))))))
         exact hK10 (s10.1++[(⟨(a1.terms.getD s10.2.2.toNat ZEx).mono,r10⟩:Term)],s10.2.1,ZHd.wrap (s10.2.2+1)) _ _ ⟨v12,(slq rfl),(hC.xM [1,2,3,4,5] rfl)⟩ h
        ·replace h:=Zj h (cf hb17)
         refine ZMr (Zd (Zg (Za (v:=vI s10.2.2) rfl (Zo rfl rfl (Zc (v:=vI (ZHd.wrap (s10.2.2+1))) rfl (done (Zq (Zq ?_))))))))
         exact hK10 (s10.1,s10.2.1,ZHd.wrap (s10.2.2+1)) _ _ ⟨v10,(slq rfl),hC⟩ h
       ·replace h:=Zj h (Xa hb16)
        refine ZMn (ZMn ?_)
        refine cwd 15 Yi [0,1,0,7,15,31,0,0,128,0,896,1920,3968,8128,16320,32767,65535,131071] [1,3,5,8,10,12] [0,2,4,6,7,9,11,13] (fun hM15 hM14 w31 hB_=>?_)
        replace hC:=hC.grow hB_
        refine bF 0 (vQ b7) rfl rfl hM14 (fun _=>by exact Yf 0 ZMu rfl sc53.size rfl rfl) (Zb 18 1) (bL 1 (u0_0) rfl rfl hM15 (fun _ hB_=>by exact Ya (hC.grow hB_) 4 (u0_0) rfl sc53 rfl rfl) (Zb 18 3) (bM 2 (vI s10.2.1) rfl hM14 (Zb 18 7) ?_))
        obtain ⟨⟨h24,h25⟩,h⟩:=h
        obtain ⟨Ad15,c17,hv17⟩:=Zw (hC.getP 1 rfl) s10.2.1.toNat (show s10.2.1.toNat < a0.terms.length by omega)
        refine bL 3 (.pointer (some (Ad15.add (s10.2.1.toNat * 9)))) rfl rfl hM15 (fun _ hB_=>by exact Yq (len:=a0.terms.length) ZMx ag162.size (by exact tr rfl hv17) rfl h24 h25) (Zb 18 15) (bF 4 (.pointer (some (Ad15.add (s10.2.1.toNat * 9+8)))) rfl rfl hM14 (fun _=>by exact Zao (s10.2.1.toNat * 9+8) ZM2 rfl sc2.size rfl rfl) (Zb 18 31) (bL 5 (vI ((a0.terms.getD s10.2.1.toNat ZEx).factor)) rfl rfl hM15 (fun _ hB_=>by exact Y7 (vI ((a0.terms.getD s10.2.1.toNat ZEx).factor)) (Jt (o:=8) (k:=1) (Ye ((hC.grow hB_).getP 1 rfl) hv17 s10.2.1.toNat (show s10.2.1.toNat < a0.terms.length by omega)) rfl) sc2 rfl) (Zb 18 63) (bM 6 (vI a2) rfl hM14 (Zb 18 127) (bF 7 (vQ b10) rfl rfl hM14 (fun _=>by exact Yf 0 ZMu rfl sc53.size rfl rfl) (Zb 18 255) (bL 8 (u1_0) rfl rfl hM15 (fun _ hB_=>by exact Ya (hC.grow hB_) 3 (u1_0) rfl sc53 rfl rfl) (Zb 18 511) (bM 9 (vI s10.2.2) rfl hM14 (Zb 18 1023) ?_))))))
        obtain ⟨⟨h26,h27⟩,h⟩:=h
        obtain ⟨Ad16,c18,hv18⟩:=Zw (hC.getP 0 rfl) s10.2.2.toNat (show s10.2.2.toNat < a1.terms.length by omega)
        refine bL 10 (.pointer (some (Ad16.add (s10.2.2.toNat * 9)))) rfl rfl hM15 (fun _ hB_=>by exact Yq (len:=a1.terms.length) ZMx ag162.size (by exact tr rfl hv18) rfl h26 h27) (Zb 18 2047) (bF 11 (.pointer (some (Ad16.add (s10.2.2.toNat * 9+8)))) rfl rfl hM14 (fun _=>by exact Zao (s10.2.2.toNat * 9+8) ZM2 rfl sc2.size rfl rfl) (Zb 18 4095) (bL 12 (vI ((a1.terms.getD s10.2.2.toNat ZEx).factor)) rfl rfl hM15 (fun _ hB_=>by exact Y7 (vI ((a1.terms.getD s10.2.2.toNat ZEx).factor)) (Jt (o:=8) (k:=1) (Ye ((hC.grow hB_).getP 0 rfl) hv18 s10.2.2.toNat (show s10.2.2.toNat < a1.terms.length by omega)) rfl) sc2 rfl) (Zb 18 8191) (bF 13 (vI (ZHd.wrap (a2 * ((a1.terms.getD s10.2.2.toNat ZEx).factor)))) rfl rfl hM14 (fun _=>by exact Zcj rfl rfl) (Zb 18 16383) (aO 14 rfl (Zf [vI (ZHd.wrap (a2 * ((a1.terms.getD s10.2.2.toNat ZEx).factor)))] _ ZNd rfl rfl rfl (Zbc (ZHd.wrap (a2 * ((a1.terms.getD s10.2.2.toNat ZEx).factor))) h _) ?_)))))
        rintro _ w32 ⟨r14,rfl,h,hB13⟩
        refine rt ?_
        replace hC:=hC.grow hB13
        refine done (aK (by assumption) (Zb 18 32767) (Zz 15 (by decide) (by decide) (by kernel_rfl) (by kernel_rfl) rfl (Zo rfl rfl (Zf [vI (ZHd.wrap (((a0.terms.getD s10.2.1.toNat ZEx).factor)+r14))] _ ZNd rfl rfl rfl (Zbc (ZHd.wrap (((a0.terms.getD s10.2.1.toNat ZEx).factor)+r14)) h _) ?_))))
        rintro _ w33 ⟨r11,rfl,h,hB14⟩
        refine rt ?_
        replace hC:=hC.grow hB14
        refine Zc (v:=vI r11) rfl (done (Z0 (Zd (sr (Za (v:=vI r11) rfl (Y2 rfl rfl (dn ?_)))))))
        refine Zp rfl (fun hb18=>?_) (fun hb18=>?_)
        ·replace h:=ift h (ct hb18)
         refine cwd 11 Yi [0,1,0,4,0,28,60,124,0,508,1020,2047,4095,8191] [1,3,5,7,9] [0,2,4,6,8] (fun hM18 hM19 w34 hB_=>?_)
         replace hC:=hC.grow hB_
         refine bF 0 (vQ b11) rfl rfl hM19 (fun _=>by exact Yf 0 ZMu rfl sc53.size rfl rfl) (Zb 14 1) (bL 1 (v10) rfl rfl hM18 (fun _ hB_=>by exact Ya (hC.grow hB_) 1 (v10) rfl sc53 rfl rfl) (Zb 14 3) (bF 2 (vQ b7) rfl rfl hM19 (fun _=>by exact Yf 0 ZMu rfl sc53.size rfl rfl) (Zb 14 7) (bL 3 (u0_0) rfl rfl hM18 (fun _ hB_=>by exact Ya (hC.grow hB_) 4 (u0_0) rfl sc53 rfl rfl) (Zb 14 15) (bM 4 (vI s10.2.1) rfl hM19 (Zb 14 31) ?_))))
         obtain ⟨⟨h28,h29⟩,h⟩:=h
         obtain ⟨Ad17,c19,hv19⟩:=Zw (hC.getP 1 rfl) s10.2.1.toNat (show s10.2.1.toNat < a0.terms.length by omega)
         refine bL 5 (.pointer (some (Ad17.add (s10.2.1.toNat * 9)))) rfl rfl hM18 (fun _ hB_=>by exact Yq (len:=a0.terms.length) ZMx ag162.size (by exact tr rfl hv19) rfl h28 h29) (Zb 14 63) (bF 6 (.pointer (some (Ad17.add (s10.2.1.toNat * 9+0)))) rfl rfl hM19 (fun _=>by exact Zao (s10.2.1.toNat * 9+0) ZM2 rfl ag136.size rfl rfl) (Zb 14 127) (bL 7 (.agg (ZMl (ZMk .u8 ((a0.terms.getD s10.2.1.toNat ZEx).mono)))) rfl rfl hM18 (fun _ hB_=>by exact Ji (ZMk .u8 ((a0.terms.getD s10.2.1.toNat ZEx).mono)) (Jt (o:=0) (k:=8) (Ye ((hC.grow hB_).getP 1 rfl) hv19 s10.2.1.toNat (show s10.2.1.toNat < a0.terms.length by omega)) rfl) ag136 rfl rfl) (Zb 14 255) (bM 8 (vI r11) rfl hM19 (Zb 14 511) (bL 9 (.agg (ZMl (ZMy (⟨(a0.terms.getD s10.2.1.toNat ZEx).mono,r11⟩:Term)))) rfl rfl hM18 (fun _ hB_=>by exact Zk4 [(0,.agg (ZMl (ZMk .u8 ((a0.terms.getD s10.2.1.toNat ZEx).mono)))),(1,vI r11)] rfl (Zi7 ((a0.terms.getD s10.2.1.toNat ZEx).mono) r11  _)) (Zb 14 1023) (aO 10 rfl (Y4 (sz:=9) hC [(0,.agg (ZMl (ZMy (⟨(a0.terms.getD s10.2.1.toNat ZEx).mono,r11⟩:Term))))] (ZMo.encs [(⟨(a0.terms.getD s10.2.1.toNat ZEx).mono,r11⟩:Term)]) rfl (fun _=>Zgk (⟨(a0.terms.getD s10.2.1.toNat ZEx).mono,r11⟩:Term) _) rfl (by decide) fun b15 w35 hB_ hC=>done (aK (by assumption) (Zb 14 2047) (Zz 11 (by decide) (by decide) (by kernel_rfl) (by kernel_rfl) rfl ?_))))))))
         obtain ⟨hm12,h⟩:=h
         refine J7 hC 1 ZMx Zgl rfl (by decide) (by decide) rfl (Za7 (hC.getM 0 rfl)) (fun q hq=>ZNq (E:=ETerm) _ q hq) rfl rfl hm12 fun v13 w36 hC=>?_
         replace hC:=Xb hC 1 ((s10.1++[(⟨(a0.terms.getD s10.2.1.toNat ZEx).mono,r11⟩:Term)]).length) (ZMo.encs (s10.1++[(⟨(a0.terms.getD s10.2.1.toNat ZEx).mono,r11⟩:Term)])) rfl (by simp) (by first | (simp [ZNf]; done) | simp [ZNf,Enc.encs])
         refine Zu 0 ZMu rfl sc53.size rfl rfl (Zx (v:=v13) hC 2 [v13] [v13] rfl sc53.size rfl rfl (Zb4 (hC.getM 1 rfl)) rfl (Xk (Xx (hC.getM 1 rfl)) rfl) (ZMw rfl) rfl fun w37 hC=>done (Z0 (Zd (sr (Za (v:=vI s10.2.1) rfl (Zo rfl rfl (Zc (v:=vI (ZHd.wrap (s10.2.1+1))) rfl (dn (Zg (Za (v:=vI s10.2.2) rfl (Zo rfl rfl (Zc (v:=vI (ZHd.wrap (s10.2.2+1))) rfl (done (Zq (Zq ?_)))))))))))))))
         exact hK10 (s10.1++[(⟨(a0.terms.getD s10.2.1.toNat ZEx).mono,r11⟩:Term)],ZHd.wrap (s10.2.1+1),ZHd.wrap (s10.2.2+1)) _ _ ⟨v13,(slq rfl),(hC.xM [1,2,3,4,5] rfl)⟩ h
        ·replace h:=Zj h (cf hb18)
         refine ZMr (Zd (sr (Za (v:=vI s10.2.1) rfl (Zo rfl rfl (Zc (v:=vI (ZHd.wrap (s10.2.1+1))) rfl (dn (Zg (Za (v:=vI s10.2.2) rfl (Zo rfl rfl (Zc (v:=vI (ZHd.wrap (s10.2.2+1))) rfl (done (Zq (Zq ?_)))))))))))))
         exact hK10 (s10.1,ZHd.wrap (s10.2.1+1),ZHd.wrap (s10.2.2+1)) _ _ ⟨v10,(slq rfl),hC⟩ h
   ·replace h:=Zj h (Xa hb14)
    refine ZM1 (Zh (Zh (Zy ?_)))
    refine Zd (sr (Yp hC 1 [v10] rfl ag55 rfl rfl rfl (Zx (v:=.agg #[v10]) hC 2 [v10] [v10] rfl ag55.size rfl rfl rfl rfl (Xk (Xx (hC.getM 0 rfl)) rfl) (ZMw rfl) rfl fun w38 hC=>dn (ZMv ?_))))
    exact Zi rfl (Zaa hC 2 rfl ag55 rfl rfl) ⟨(⟨s10.1⟩:ZMp),v10,(ZNm (ZFq v10)),rfl,h,(Zco (Xy (hC.getM 0 rfl))),(Yz hC 0 rfl),hC.below⟩ (.inl rfl)
 ·skip
  replace hC:=hC.pushNil 162 9
  exact⟨.slice none 0 0,(slq rfl),hC⟩
def Zgo (a0:List Int) (a1:A8) (a2:A8) (K:A8→Int→Prop):Prop :=
 Yb (fun i10 (s11:A8×Int) nx10=>((0≤(i10:Int)∧(i10:Int) < 8)∧((0≤(i10:Int)∧(i10:Int) < 8)∧((0≤(i10:Int)∧(i10:Int) < 8)∧(if ZFo (a0.getD i10 ZEx) 2=0 then nx10 (s11.1.set i10 (ZMz.wrap ((a1.get i10)+(a2.get i10))),s11.2) else((0≤(i10:Int)∧(i10:Int) < 8)∧(if(s11.1.set i10 (ZMz.wrap ((a1.get i10)+(a2.get i10)))).get i10 > 1 then K ZMs 0 else Xh (fun (s10:Int×Int) nx11=>(if s10.1 < (a0.length:Int) then((0≤(i10:Int)∧(i10:Int) < 8)∧(if a2.get i10=1 then((0≤s10.1∧s10.1 < (a0.length:Int))∧(if ZFo (a0.getD s10.1.toNat ZEx) 2≠0 then((0≤s10.1∧s10.1 < 8)∧(if a1.get s10.1.toNat=1 then nx11 (ZHd.wrap (s10.1+1),ZHd.wrap (0 - s10.2)) else nx11 (ZHd.wrap (s10.1+1),s10.2))) else nx11 (ZHd.wrap (s10.1+1),s10.2))) else nx10 (s11.1.set i10 (ZMz.wrap ((a1.get i10)+(a2.get i10))),s10.2))) else nx10 (s11.1.set i10 (ZMz.wrap ((a1.get i10)+(a2.get i10))),s10.2))) (ZHd.wrap ((i10:Int)+1),s11.2)))))))) (fun (s11:A8×Int)=>K s11.1 s11.2) a0.length 0 (ZMs,1)
theorem Zpl (a0 : List Int) (a1 : A8) (a2 : A8)  {K : A8 → Int → Prop} (h : Zgo a0 a1 a2 K) (w0 : World) (q0 : TInts.rep a0 [u0_0] fp0 w0) :
  Calls ZMq 196 #[u0_0,.agg (ZMl (ZMk .u8 a1)),.agg (ZMl (ZMk .u8 a2))] w0 fun e w'=>∃ (r0:A8) (r1:Int),
   e=.returned (.tuple #[.agg (ZMl (ZMk .u8 r0)),vI r1])∧K r0 r1∧Bel w0 w':=by
 unfold Zgo at h
 refine cof ZNw rfl 69 Tryz.ntmps196 ?_
 have hC:=ZM8 (X:=Nox) w0 [ZMm TInts a0 [u0_0] fp0] (al1 q0)
 refine sr (Yg (v:=.agg (ZMl (ZMk .u8 a1))) hC (ZMk .u8 a1) rfl rfl fun b2 w4 hB_ hC=>Yg (v:=.agg (ZMl (ZMk .u8 a2))) hC (ZMk .u8 a2) rfl rfl fun b5 w7 hB_ hC=>Yk hC (ZMk .u8 ZMs) Zbb rfl fun b8 w10 hB_ hC=>Zc (v:=vI 0) rfl (dn (sr (J6 [] rfl (Zlv   _) (Yk hC (ZMk .u8 ZMs) Zbb rfl fun b10 w11 hB_ hC=>Zx (v:=.agg (ZMl (ZMk .u8 ZMs))) hC 0 (ZMk .u8 ZMs) (ZMk .u8 ZMs) rfl ag136.size rfl rfl rfl rfl rfl (ZMw rfl) rfl fun w12 hC=>Zc (v:=vI 1) rfl (dn (ZMn (sr (Zc (v:=vI 0) rfl (dn (ZMt ?_)))))))))))
 have hN10:a0.length≤9223372036854775807:=Yx (hC.getP 0 rfl)
 refine Yn (S:=A8×Int) _ _ (fun i10 s11 e_ w_=>Zt e_ [(0,u0_0),(4,vQ b2),(5,vQ b5),(6,vQ b8),(8,vQ b10),(9,vI s11.2),(10,vI (i10:Int))]∧Ctx Nox w0 w_ [blk b10 136 (ZMk .u8 s11.1),blk b8 136 (ZMk .u8 ZMs),blk b5 136 (ZMk .u8 a2),blk b2 136 (ZMk .u8 a1)] [ZMm TInts a0 [u0_0] fp0]) a0.length ?_ ?_ (s0:=(ZMs,1)) ?_ h
 ·clear hC h
  rintro i10 s11 e_ w13 nx10 K10 hi10 ⟨hS_,hC⟩ h hK10
  rw [ue hS_]
  refine ZMn (sr (Za (v:=vI (i10:Int)) rfl (Za (v:=u0_0) rfl (Zv hC 0 rfl ZM6 rfl (Zn rfl rfl (dn (Yc rfl (decide_eq_true (by omega)) (ZMr (Zd (ZMn (ZMt (ZMn ?_))))))))))))
  refine cwd 8 Yi [0,0,2,6,0,16,48,126,255,511] [2,3,5,6] [0,1,4,7] (fun hM10 hM11 w14 hB_=>?_)
  replace hC:=hC.grow hB_
  refine bM 0 (vI (i10:Int)) rfl hM11 (Zb 10 1) (bM 1 (vI (i10:Int)) rfl hM11 (Zb 10 3) ?_)
  obtain ⟨⟨h10,h11⟩,h⟩:=h
  refine bL 2 (.pointer (some ⟨b2,i10,none⟩)) rfl rfl hM10 (fun _ hB_=>by exact J5 i10 ZM5 sc5.size rfl rfl h10 h11 (by omega)) (Zb 10 7) (bL 3 (.int .u8 (a1.get i10)) rfl rfl hM10 (fun _ hB_=>by exact Ya (hC.grow hB_) 3 (.int .u8 (a1.get i10)) rfl sc5 rfl (ZM0 _ _ (show i10 < 8 by omega))) (Zb 10 15) (bM 4 (vI (i10:Int)) rfl hM11 (Zb 10 31) ?_))
  obtain ⟨⟨h12,h13⟩,h⟩:=h
  refine bL 5 (.pointer (some ⟨b5,i10,none⟩)) rfl rfl hM10 (fun _ hB_=>by exact J5 i10 ZM5 sc5.size rfl rfl h12 h13 (by omega)) (Zb 10 63) (bL 6 (.int .u8 (a2.get i10)) rfl rfl hM10 (fun _ hB_=>by exact Ya (hC.grow hB_) 2 (.int .u8 (a2.get i10)) rfl sc5 rfl (ZM0 _ _ (show i10 < 8 by omega))) (Zb 10 127) (bF 7 (.int .u8 (ZMz.wrap ((a1.get i10)+(a2.get i10)))) rfl rfl hM11 (fun _=>by exact Zc4 rfl rfl) (Zb 10 255) (Zz 8 (by decide) (by decide) (by kernel_rfl) (by kernel_rfl) rfl ?_)))
  obtain ⟨⟨h14,h15⟩,h⟩:=h
  refine Xm i10 ZM5 sc5.size rfl rfl h14 h15 (by omega) (Zx (v:=.int .u8 (ZMz.wrap ((a1.get i10)+(a2.get i10)))) hC 0 [.int .u8 (ZMz.wrap ((a1.get i10)+(a2.get i10)))] (ZMk .u8 (s11.1.set i10 (ZMz.wrap ((a1.get i10)+(a2.get i10))))) rfl sc5.size rfl rfl rfl rfl rfl (show i10 < 8 by omega) (ZNh _ _ _ (show i10 < 8 by omega)) fun w15 hC=>done (Z0 (Zd (ZMn (sr (Za (v:=u0_0) rfl (Za (v:=vI (i10:Int)) rfl ?_)))))))
  obtain ⟨Ad10,c10,hv10⟩:=Zw (hC.getP 0 rfl) i10 hi10
  refine Yo (len:=a0.length) ZM6 sc2.size (tr rfl hv10) rfl (ZM3 _) (ZNl.2 hi10) (Yl (vI (a0.getD i10 ZEx)) (Ye (hC.getP 0 rfl) hv10 i10 hi10) sc2 rfl (Xr rfl rfl (by decide) (Jg rfl rfl (dn ?_))))
  refine Zp rfl (fun hb12=>?_) (fun hb12=>?_)
  ·replace h:=ift h (ct hb12)
   refine ZM1 (Zh (Zy ?_))
   refine Zd (Zg (Za (v:=vI (i10:Int)) rfl (Zo rfl rfl (Zc (v:=vI (ZHd.wrap ((i10:Int)+1))) rfl (done ?_)))))
   exact hK10 (s11.1.set i10 (ZMz.wrap ((a1.get i10)+(a2.get i10))),s11.2) _ _ ⟨(sl ⟨rfl,rfl,rfl,rfl,rfl,rfl,(tr rfl (congrArg _ (Z6 hi10 hN10))),trivial⟩),hC⟩ h
  ·replace h:=Zj h (cf hb12)
   refine ZMr (Zd (ZMn (sr (Za (v:=vI (i10:Int)) rfl ?_))))
   obtain ⟨⟨h16,h17⟩,h⟩:=h
   refine Xm i10 ZM5 sc5.size rfl rfl h16 h17 (by omega) (Z5 hC 0 (.int .u8 ((s11.1.set i10 (ZMz.wrap ((a1.get i10)+(a2.get i10)))).get i10)) rfl sc5 rfl (ZM0 _ _ (show i10 < 8 by omega)) (Jh rfl rfl (dn ?_)))
   refine Zp rfl (fun hb13=>?_) (fun hb13=>?_)
   ·replace h:=ift h (ct hb13)
    refine sr (J6 [] rfl (Zlv   _) (Zx (v:=.agg (ZMl (ZMk .u8 ZMs))) hC 1 (ZMk .u8 ZMs) (ZMk .u8 ZMs) rfl ag136.size rfl rfl rfl rfl rfl (ZMw rfl) rfl fun w16 hC=>Zc (v:=vI 0) rfl (dn ?_)))
    refine ZMv (Zk (Z4 (Zk (Zk (Z4 (Zk ?_))))))
    exact Ja rfl (Zaa hC 1 rfl ag136 rfl rfl) (Ze rfl) ⟨ZMs,0,rfl,h,hC.below⟩ (.inl rfl)
   ·replace h:=Zj h (cf hb13)
    refine ZMr (Zd (sr (Za (v:=vI (i10:Int)) rfl (Zo rfl rfl (Zc (v:=vI (ZHd.wrap ((i10:Int)+1))) rfl (dn (ZMt ?_)))))))
    refine X2 (S:=Int×Int) _ (fun s10 e_ w_=>Zt e_ [(0,u0_0),(4,vQ b2),(5,vQ b5),(6,vQ b8),(8,vQ b10),(9,vI s10.2),(10,vI (i10:Int)),(11,vI s10.1)]∧Ctx Nox w0 w_ [blk b10 136 (ZMk .u8 (s11.1.set i10 (ZMz.wrap ((a1.get i10)+(a2.get i10))))),blk b8 136 (ZMk .u8 ZMs),blk b5 136 (ZMk .u8 a2),blk b2 136 (ZMk .u8 a1)] [ZMm TInts a0 [u0_0] fp0]) ?_ (s0:=(ZHd.wrap ((i10:Int)+1),s11.2)) ?_ h
    ·clear hC h
     rintro s10 e_ w17 nx11 K11 ⟨hS_,hC⟩ h hK11
     rw [ue hS_]
     refine ZMn (sr (Za (v:=vI s10.1) rfl (Za (v:=u0_0) rfl (Zv hC 0 rfl ZM6 rfl (Zn rfl rfl (Za (v:=.bool (decide (s10.1 < (a0.length:Int)))) rfl ?_))))))
     refine Y5 (decide (s10.1 < (a0.length:Int))) (fun hb10=>?_) (fun hb10=>?_)
     ·replace h:=ift h (ct hb10)
      refine Zl 4 45 rfl rfl hb10 (Za (v:=vI (i10:Int)) rfl (Zl 4 45 rfl rfl hb10 ?_))
      obtain ⟨⟨h18,h19⟩,h⟩:=h
      refine Xm i10 ZM5 sc5.size rfl rfl h18 h19 (by omega) (Zl 4 45 rfl rfl hb10 (Z5 hC 2 (.int .u8 (a2.get i10)) rfl sc5 rfl (ZM0 _ _ (show i10 < 8 by omega)) (Zl 4 45 rfl rfl hb10 (Jg rfl rfl (Z3 (v:=.bool (decide (a2.get i10=1))) (b:=true) (tr rfl (congrArg _ hb10)) rfl (dn ?_))))))
      refine Zp rfl (fun hb14=>?_) (fun hb14=>?_)
      ·replace h:=ift h (ct hb14)
       refine ZMr (Zd (ZMn (ZMt (sr (Za (v:=u0_0) rfl (Za (v:=vI s10.1) rfl ?_))))))
       obtain ⟨⟨h20,h21⟩,h⟩:=h
       obtain ⟨Ad11,c11,hv11⟩:=Zw (hC.getP 0 rfl) s10.1.toNat (show s10.1.toNat < a0.length by omega)
       refine Yo (len:=a0.length) ZM6 sc2.size (tr rfl hv11) rfl h20 h21 (Yl (vI (a0.getD s10.1.toNat ZEx)) (Ye (hC.getP 0 rfl) hv11 s10.1.toNat (show s10.1.toNat < a0.length by omega)) sc2 rfl (Xr rfl rfl (by decide) (Y2 rfl rfl (Za (v:=.bool (decide (ZFo (a0.getD s10.1.toNat ZEx) 2≠0))) rfl ?_))))
       refine Y5 (decide (ZFo (a0.getD s10.1.toNat ZEx) 2≠0)) (fun hb11=>?_) (fun hb11=>?_)
       ·replace h:=ift h (ct hb11)
        refine Zl 6 59 rfl rfl hb11 (Za (v:=vI s10.1) rfl (Zl 6 59 rfl rfl hb11 ?_))
        obtain ⟨⟨h22,h23⟩,h⟩:=h
        refine Xm s10.1.toNat ZM5 sc5.size rfl rfl h22 h23 (by omega) (Zl 6 59 rfl rfl hb11 (Z5 hC 3 (.int .u8 (a1.get s10.1.toNat)) rfl sc5 rfl (ZM0 _ _ (show s10.1.toNat < 8 by omega)) (Zl 6 59 rfl rfl hb11 (Jg rfl rfl (Z3 (v:=.bool (decide (a1.get s10.1.toNat=1))) (b:=true) (tr rfl (congrArg _ hb11)) rfl (dn ?_))))))
        refine Zp rfl (fun hb15=>?_) (fun hb15=>?_)
        ·replace h:=ift h (ct hb15)
         refine Zg (Za (v:=vI s10.2) rfl (Zf4 rfl (Zc (v:=vI (ZHd.wrap (0 - s10.2))) rfl (done (Zq (Zd (Zg (Za (v:=vI s10.1) rfl (Zo rfl rfl (Zc (v:=vI (ZHd.wrap (s10.1+1))) rfl (done ?_)))))))))))
         exact hK11 (ZHd.wrap (s10.1+1),ZHd.wrap (0 - s10.2)) _ _ ⟨(slq rfl),hC⟩ h
        ·replace h:=Zj h (cf hb15)
         refine ZMr (Zq (Zd (Zg (Za (v:=vI s10.1) rfl (Zo rfl rfl (Zc (v:=vI (ZHd.wrap (s10.1+1))) rfl (done ?_)))))))
         exact hK11 (ZHd.wrap (s10.1+1),s10.2) _ _ ⟨(slq rfl),hC⟩ h
       ·replace h:=Zj h (cf hb11)
        refine Zm (b:=false) 6 59 rfl (tr rfl (congrArg _ hb11)) (by decide) (Zm (b:=false) 6 59 rfl (tr rfl (congrArg _ hb11)) (by decide) (Zm (b:=false) 6 59 rfl (tr rfl (congrArg _ hb11)) (by decide) (Zm (b:=false) 6 59 rfl (tr rfl (congrArg _ hb11)) (by decide) (Z3 (v:=.bool false) (b:=false) (tr rfl (congrArg _ hb11)) rfl (dn (Z2 rfl rfl (ZMr (Zq (Zd (Zg (Za (v:=vI s10.1) rfl (Zo rfl rfl (Zc (v:=vI (ZHd.wrap (s10.1+1))) rfl (done ?_))))))))))))))
        exact hK11 (ZHd.wrap (s10.1+1),s10.2) _ _ ⟨(slq rfl),hC⟩ h
      ·replace h:=Zj h (cf hb14)
       refine ZM1 (Zh (Zh (Zy ?_)))
       refine Zq (Zd (Zg (Za (v:=vI (i10:Int)) rfl (Zo rfl rfl (Zc (v:=vI (ZHd.wrap ((i10:Int)+1))) rfl (done ?_))))))
       exact hK10 (s11.1.set i10 (ZMz.wrap ((a1.get i10)+(a2.get i10))),s10.2) _ _ ⟨(sl ⟨rfl,rfl,rfl,rfl,rfl,rfl,(tr rfl (congrArg _ (Z6 hi10 hN10))),trivial⟩),hC⟩ h
     ·replace h:=Zj h (cf hb10)
      refine Zm (b:=false) 4 45 rfl (tr rfl (congrArg _ hb10)) (by decide) (Zm (b:=false) 4 45 rfl (tr rfl (congrArg _ hb10)) (by decide) (Zm (b:=false) 4 45 rfl (tr rfl (congrArg _ hb10)) (by decide) (Zm (b:=false) 4 45 rfl (tr rfl (congrArg _ hb10)) (by decide) (Z3 (v:=.bool false) (b:=false) (tr rfl (congrArg _ hb10)) rfl (dn (Z2 rfl rfl ?_))))))
      refine ZM1 (Zh (Zh (Zy ?_)))
      refine Zq (Zd (Zg (Za (v:=vI (i10:Int)) rfl (Zo rfl rfl (Zc (v:=vI (ZHd.wrap ((i10:Int)+1))) rfl (done ?_))))))
      exact hK10 (s11.1.set i10 (ZMz.wrap ((a1.get i10)+(a2.get i10))),s10.2) _ _ ⟨(sl ⟨rfl,rfl,rfl,rfl,rfl,rfl,(tr rfl (congrArg _ (Z6 hi10 hN10))),trivial⟩),hC⟩ h
    ·skip
     exact⟨(slq rfl),hC⟩
 ·clear hC h
  rintro s11 e_ w18 K10 ⟨hS_,hC⟩ h
  rw [ue hS_]
  refine ZMn (sr (Za (v:=vI (a0.length:Int)) rfl (Za (v:=u0_0) rfl (Zv hC 0 rfl ZM6 rfl (Zn rfl rfl (dn (Z2 rfl (decide_eq_false (by omega)) ?_)))))))
  refine ZM1 (Zh (Zh (Zy ?_)))
  refine Zd (sr (Yp hC 0 (ZMk .u8 s11.1) rfl ag136 rfl rfl rfl (Za (v:=vI s11.2) rfl (Zx (v:=.agg (ZMl (ZMk .u8 s11.1))) hC 1 (ZMk .u8 s11.1) (ZMk .u8 s11.1) rfl ag136.size rfl rfl rfl rfl rfl (ZMw rfl) rfl fun w19 hC=>Zc (v:=vI s11.2) rfl (dn (ZMv ?_))))))
  exact Ja rfl (Zaa hC 1 rfl ag136 rfl rfl) (Ze rfl) ⟨s11.1,s11.2,rfl,h,hC.below⟩ (.inl rfl)
 ·skip
  exact⟨(slq rfl),hC⟩
def Zgp (a0:List Int) (a1:Term) (a2:ZMp) (K:ZMp→Prop):Prop :=
 Xh (fun (s10:(List Term)×Int) nx10=>(if s10.2 < (a2.terms.length:Int) then((0≤s10.2∧s10.2 < (a2.terms.length:Int))∧Zgo a0 a1.mono ((a2.terms.getD s10.2.toNat ZEx).mono) (fun r13 r14=>(if r14≠0 then((0≤s10.2∧s10.2 < (a2.terms.length:Int))∧Xz (ZHd.wrap ((ZHd.wrap (r14 * a1.factor)) * ((a2.terms.getD s10.2.toNat ZEx).factor))) (fun r11=>(Z7 (s10.1.length+1) 16∧nx10 (s10.1++[(⟨r13,r11⟩:Term)],ZHd.wrap (s10.2+1))))) else nx10 (s10.1,ZHd.wrap (s10.2+1))))) else K (⟨s10.1⟩:ZMp))) ([],0)
theorem Zv3 (a0:List Int) (a1:Term) (a2:ZMp)  {K:ZMp→Prop} (h:Zgp a0 a1 a2 K) (w0:World) (q0:TInts.rep a0 [u0_0] fp0 w0) (q2:ZM9.rep a2 [u2_0] fp2 w0) :
  Calls ZMq 175 #[u0_0,.agg (ZMl (ZMy a1)),.agg #[u2_0]] w0 fun e w'=>∃ (r0:ZMp) (z0_0:Value) (fz0:List Nat),
   e=.returned (.agg #[z0_0])∧K r0∧(ZM4 (Yt 162) r0 [z0_0] fz0).holds w'∧(∀ b,b∈fz0→w0.heap.size≤b)∧Bel w0 w':=by
 unfold Zgp at h
 refine cof Tryz.func175 rfl 54 Tryz.ntmps175 ?_
 have hC:=ZM8 (X:=Nox) w0 [ZMm TInts a0 [u0_0] fp0,ZMm TForm a2 [u2_0] fp2] (alc q0 (al1 q2))
 have hp3:=(hC.getP 1 rfl)
 replace hC:=hC.derive 1 rfl (ZMm ZMo.ty.sl a2.terms [u2_0] fp2) (fun _=>(Xi hp3)) (fun _ hb_=>hb_)
 refine sr (Yg (v:=.agg (ZMl (ZMy a1))) hC (ZMy a1) rfl rfl fun b5 w7 hB_ hC=>Yg (v:=.agg #[u2_0]) hC [u2_0] rfl rfl fun b8 w10 hB_ hC=>Yk hC [.slice none 0 0] z55 rfl fun b11 w11 hB_ hC=>dn (sr (J6 [] rfl (Zgj   _) (Yk hC [.slice none 0 0] z55 rfl fun b10 w12 hB_ hC=>Zx (v:=.agg #[.slice none 0 0]) hC 0 [.slice none 0 0] [.slice none 0 0] rfl ag55.size rfl rfl rfl rfl rfl (ZMw rfl) rfl fun w13 hC=>dn (ZMn (sr (Zc (v:=vI 0) rfl (dn (ZMt ?_)))))))))
 refine X2 (S:=(List Term)×Int) _ (fun s10 e_ w_=>∃ (v10:Value),Zt e_ [(0,u0_0),(4,vQ b5),(5,vQ b8),(6,vQ b11),(7,vQ b10),(8,vI s10.2)]∧Ctx Nox w0 w_ [own 162 9 v10 s10.1.length (ZMo.encs s10.1),blk b10 55 [v10],blk b11 55 [.slice none 0 0],blk b8 55 [u2_0],blk b5 162 (ZMy a1)] [ZMm ZMo.ty.sl a2.terms [u2_0] fp2,ZMm TInts a0 [u0_0] fp0,ZMm TForm a2 [u2_0] fp2]) ?_ (s0:=([],0)) ?_ h
 ·clear hC h
  rintro s10 e_ w14 nx10 K10 ⟨v10,hS_,hC⟩ h hK10
  rw [ue hS_]
  refine ZMn (sr (Za (v:=vI s10.2) rfl (Zu 0 ZMu rfl sc53.size rfl rfl (Z5 hC 3 (u2_0) rfl sc53 rfl rfl (Zv hC 0 rfl ZMx rfl (Zn rfl rfl (dn ?_)))))))
  refine Zp rfl (fun hb10=>?_) (fun hb10=>?_)
  ·replace h:=ift h (ct hb10)
   refine ZMr (Zd (ZMn (ZMt (ZMn ?_))))
   refine cwd 14 Yi [0,0,2,0,8,0,56,120,248,511,1023,2047,2047,0,12287,32767] [2,4,6,8] [0,1,3,5,7,10,11,12] (fun hM13 hM10 w15 hB_=>?_)
   replace hC:=hC.grow hB_
   refine bM 0 (u0_0) rfl hM10 (Zb 16 1) (bF 1 (vQ b5) rfl rfl hM10 (fun _=>by exact Yf 0 ZM2 rfl ag136.size rfl rfl) (Zb 16 3) (bL 2 (.agg (ZMl (ZMk .u8 a1.mono))) rfl rfl hM13 (fun _ hB_=>by exact Xf (hC.grow hB_) 4 (ZMk .u8 a1.mono) rfl ag136 rfl rfl rfl) (Zb 16 7) (bF 3 (vQ b8) rfl rfl hM10 (fun _=>by exact Yf 0 ZMu rfl sc53.size rfl rfl) (Zb 16 15) (bL 4 (u2_0) rfl rfl hM13 (fun _ hB_=>by exact Ya (hC.grow hB_) 3 (u2_0) rfl sc53 rfl rfl) (Zb 16 31) (bM 5 (vI s10.2) rfl hM10 (Zb 16 63) ?_)))))
   obtain ⟨⟨h10,h11⟩,h⟩:=h
   obtain ⟨Ad10,c10,hv10⟩:=Zw (hC.getP 0 rfl) s10.2.toNat (show s10.2.toNat < a2.terms.length by omega)
   refine bL 6 (.pointer (some (Ad10.add (s10.2.toNat * 9)))) rfl rfl hM13 (fun _ hB_=>by exact Yq (len:=a2.terms.length) ZMx ag162.size (by exact tr rfl hv10) rfl h10 h11) (Zb 16 127) (bF 7 (.pointer (some (Ad10.add (s10.2.toNat * 9+0)))) rfl rfl hM10 (fun _=>by exact Zao (s10.2.toNat * 9+0) ZM2 rfl ag136.size rfl rfl) (Zb 16 255) (bL 8 (.agg (ZMl (ZMk .u8 ((a2.terms.getD s10.2.toNat ZEx).mono)))) rfl rfl hM13 (fun _ hB_=>by exact Ji (ZMk .u8 ((a2.terms.getD s10.2.toNat ZEx).mono)) (Jt (o:=0) (k:=8) (Ye ((hC.grow hB_).getP 0 rfl) hv10 s10.2.toNat (show s10.2.toNat < a2.terms.length by omega)) rfl) ag136 rfl rfl) (Zb 16 511) ?_))
   refine Zdw (fun e_ w_=>∃ (b12:Nat),∃ (r10:A8),∃ (r12:Int),Zt e_ [(0,u0_0),(4,vQ b5),(5,vQ b8),(6,vQ b11),(7,vQ b10),(8,vI s10.2),(9,vQ b12),(10,vI r12)]∧Ctx Nox w0 w_ [blk b12 136 (ZMk .u8 r10),own 162 9 v10 s10.1.length (ZMo.encs s10.1),blk b10 55 [v10],blk b11 55 [.slice none 0 0],blk b8 55 [u2_0],blk b5 162 (ZMy a1)] [ZMm ZMo.ty.sl a2.terms [u2_0] fp2,ZMm TInts a0 [u0_0] fp0,ZMm TForm a2 [u2_0] fp2]∧(if r12≠0 then((0≤s10.2∧s10.2 < (a2.terms.length:Int))∧Xz (ZHd.wrap ((ZHd.wrap (r12 * a1.factor)) * ((a2.terms.getD s10.2.toNat ZEx).factor))) (fun r11=>(Z7 (s10.1.length+1) 16∧nx10 (s10.1++[(⟨r10,r11⟩:Term)],ZHd.wrap (s10.2+1))))) else nx10 (s10.1,ZHd.wrap (s10.2+1)))) ?_ ?_
   ·clear hC h
    rintro e_ w16 ⟨b12,r10,r12,hS_,hC,h⟩
    rw [ue hS_]
    refine Zd (sr (Za (v:=vI r12) rfl (Y2 rfl rfl (dn ?_))))
    refine Zp rfl (fun hb11=>?_) (fun hb11=>?_)
    ·replace h:=ift h (ct hb11)
     refine cwd 17 Yi [0,1,0,0,0,16,56,0,128,0,896,1920,3968,8184,16376,32764,65532,131071,262143,524287] [1,2,5,8,10,12,15] [0,3,4,6,7,9,11,13] (fun hM12 hM11 w17 hB_=>?_)
     replace hC:=hC.grow hB_
     refine bF 0 (vQ b10) rfl rfl hM11 (fun _=>by exact Yf 0 ZMu rfl sc53.size rfl rfl) (Zb 20 1) (bL 1 (v10) rfl rfl hM12 (fun _ hB_=>by exact Ya (hC.grow hB_) 2 (v10) rfl sc53 rfl rfl) (Zb 20 3) (bL 2 (.agg (ZMl (ZMk .u8 r10))) rfl rfl hM12 (fun _ hB_=>by exact Xf (hC.grow hB_) 0 (ZMk .u8 r10) rfl ag136 rfl rfl rfl) (Zb 20 7) (bM 3 (vI r12) rfl hM11 (Zb 20 15) (bF 4 (.pointer (some ⟨b5,8,none⟩)) rfl rfl hM11 (fun _=>by exact Yf 8 ZM2 rfl sc2.size rfl rfl) (Zb 20 31) (bL 5 (vI a1.factor) rfl rfl hM12 (fun _ hB_=>by exact Ya (hC.grow hB_) 5 (vI a1.factor) rfl sc2 rfl rfl) (Zb 20 63) (bF 6 (vI (ZHd.wrap (r12 * a1.factor))) rfl rfl hM11 (fun _=>by exact Zcj rfl rfl) (Zb 20 127) (bF 7 (vQ b8) rfl rfl hM11 (fun _=>by exact Yf 0 ZMu rfl sc53.size rfl rfl) (Zb 20 255) (bL 8 (u2_0) rfl rfl hM12 (fun _ hB_=>by exact Ya (hC.grow hB_) 4 (u2_0) rfl sc53 rfl rfl) (Zb 20 511) (bM 9 (vI s10.2) rfl hM11 (Zb 20 1023) ?_)))))))))
     obtain ⟨⟨h12,h13⟩,h⟩:=h
     obtain ⟨Ad11,c11,hv11⟩:=Zw (hC.getP 0 rfl) s10.2.toNat (show s10.2.toNat < a2.terms.length by omega)
     refine bL 10 (.pointer (some (Ad11.add (s10.2.toNat * 9)))) rfl rfl hM12 (fun _ hB_=>by exact Yq (len:=a2.terms.length) ZMx ag162.size (by exact tr rfl hv11) rfl h12 h13) (Zb 20 2047) (bF 11 (.pointer (some (Ad11.add (s10.2.toNat * 9+8)))) rfl rfl hM11 (fun _=>by exact Zao (s10.2.toNat * 9+8) ZM2 rfl sc2.size rfl rfl) (Zb 20 4095) (bL 12 (vI ((a2.terms.getD s10.2.toNat ZEx).factor)) rfl rfl hM12 (fun _ hB_=>by exact Y7 (vI ((a2.terms.getD s10.2.toNat ZEx).factor)) (Jt (o:=8) (k:=1) (Ye ((hC.grow hB_).getP 0 rfl) hv11 s10.2.toNat (show s10.2.toNat < a2.terms.length by omega)) rfl) sc2 rfl) (Zb 20 8191) (bF 13 (vI (ZHd.wrap ((ZHd.wrap (r12 * a1.factor)) * ((a2.terms.getD s10.2.toNat ZEx).factor)))) rfl rfl hM11 (fun _=>by exact Zcj rfl rfl) (Zb 20 16383) (aO 14 rfl (Zf [vI (ZHd.wrap ((ZHd.wrap (r12 * a1.factor)) * ((a2.terms.getD s10.2.toNat ZEx).factor)))] _ ZNd rfl rfl rfl (Zbc (ZHd.wrap ((ZHd.wrap (r12 * a1.factor)) * ((a2.terms.getD s10.2.toNat ZEx).factor))) h _) ?_)))))
     rintro _ w18 ⟨r11,rfl,h,hB10⟩
     refine rt ?_
     replace hC:=hC.grow hB10
     refine done (aK (by assumption) (Zb 20 32767) (bL 15 (.agg (ZMl (ZMy (⟨r10,r11⟩:Term)))) rfl rfl hM12 (fun _ hB_=>by exact Zk4 [(0,.agg (ZMl (ZMk .u8 r10))),(1,vI r11)] rfl (Zi7 r10 r11  _)) (Zb 20 65535) (aO 16 rfl (Y4 (sz:=9) hC [(0,.agg (ZMl (ZMy (⟨r10,r11⟩:Term))))] (ZMo.encs [(⟨r10,r11⟩:Term)]) rfl (fun _=>Zgk (⟨r10,r11⟩:Term) _) rfl (by decide) fun b15 w19 hB_ hC=>done (aK (by assumption) (Zb 20 131071) (Zz 17 (by decide) (by decide) (by kernel_rfl) (by kernel_rfl) rfl ?_))))))
     obtain ⟨hm10,h⟩:=h
     refine J7 hC 2 ZMx Zgl rfl (by decide) (by decide) rfl (Za7 (hC.getM 0 rfl)) (fun q hq=>ZNq (E:=ETerm) _ q hq) rfl rfl hm10 fun v11 w20 hC=>?_
     replace hC:=Xb hC 2 ((s10.1++[(⟨r10,r11⟩:Term)]).length) (ZMo.encs (s10.1++[(⟨r10,r11⟩:Term)])) rfl (by simp) (by first | (simp [ZNf]; done) | simp [ZNf,Enc.encs])
     refine Zu 0 ZMu rfl sc53.size rfl rfl (Zx (v:=v11) hC 3 [v11] [v11] rfl sc53.size rfl rfl (Zb4 (hC.getM 2 rfl)) rfl (Xk (Xx (hC.getM 2 rfl)) rfl) (ZMw rfl) rfl fun w21 hC=>done (Z0 (Zq (Zd (Zg (Za (v:=vI s10.2) rfl (Zo rfl rfl (Zc (v:=vI (ZHd.wrap (s10.2+1))) rfl (done ?_)))))))))
     exact hK10 (s10.1++[(⟨r10,r11⟩:Term)],ZHd.wrap (s10.2+1)) _ _ ⟨v11,(slq rfl),(hC.xM [2,3,4,5,6] rfl)⟩ h
    ·replace h:=Zj h (cf hb11)
     refine ZMr (Zq (Zd (Zg (Za (v:=vI s10.2) rfl (Zo rfl rfl (Zc (v:=vI (ZHd.wrap (s10.2+1))) rfl (done ?_)))))))
     exact hK10 (s10.1,ZHd.wrap (s10.2+1)) _ _ ⟨v10,(slq rfl),(hC.xM [1,2,3,4,5] rfl)⟩ h
   refine Jy 9 13 rfl rfl (by kernel_rfl) ?_ ?_
   ·skip
    refine Zf [u0_0,.agg (ZMl (ZMk .u8 a1.mono)),.agg (ZMl (ZMk .u8 ((a2.terms.getD s10.2.toNat ZEx).mono)))] _ ZNw rfl rfl rfl (Zpl a0 a1.mono ((a2.terms.getD s10.2.toNat ZEx).mono) h _ (hC.getP 1 rfl)) ?_
    rintro _ w22 ⟨r13,r14,rfl,h,hB11⟩
    refine rt ?_
    replace hC:=hC.grow hB11
    refine done (aK (by assumption) (Zb 16 1023) (bM 10 (.tuple #[.agg (ZMl (ZMk .u8 r13)),vI r14]) rfl hM10 (Zb 16 2047) (bF 11 (.agg (ZMl (ZMk .u8 r13))) rfl rfl hM10 (fun _=>by exact Zev (v:=.agg (ZMl (ZMk .u8 r13))) rfl rfl) (Zb 16 4095) (bF 12 (vI r14) rfl rfl hM10 (fun _=>by exact Zev (v:=vI r14) rfl rfl) (Zb 16 8191) (aO 13 rfl (Yk hC (ZMk .u8 ZMs) Zbb rfl fun b13 w23 hB_ hC=>done (aK (by assumption) (Zb 16 16383) (aO 14 rfl (Zx (v:=.agg (ZMl (ZMk .u8 r13))) hC 0 (ZMk .u8 r13) (ZMk .u8 r13) rfl ag136.size rfl rfl rfl rfl rfl (ZMw rfl) rfl fun w24 hC=>done (Zf6 (by decide) (l9:=(Zb 16 32767)) (by kernel_rfl) (Zz 15 (by decide) (by decide) (by kernel_rfl) (by kernel_rfl) rfl (Zc (v:=vI r14) rfl (done (Z0 ?_))))))))))))))
    exact⟨rfl,_,rfl,⟨b13,r13,r14,(slq rfl),hC,h⟩⟩
   ·skip
    refine Yk hC (ZMk .u8 ZMs) Zbb rfl fun b14 w25 hB_ hC=>done (aK (by assumption) (Zb 16 8703) (aO 9 rfl (Zf [u0_0,.agg (ZMl (ZMk .u8 a1.mono)),.agg (ZMl (ZMk .u8 ((a2.terms.getD s10.2.toNat ZEx).mono)))] _ ZNw rfl rfl rfl (Zpl a0 a1.mono ((a2.terms.getD s10.2.toNat ZEx).mono) h _ (hC.getP 1 rfl)) ?_)))
    rintro _ w26 ⟨r15,r16,rfl,h,hB12⟩
    refine rt ?_
    replace hC:=hC.grow hB12
    refine done (aK (by assumption) (Zb 16 9215) (bM 10 (.tuple #[.agg (ZMl (ZMk .u8 r15)),vI r16]) rfl hM10 (Zb 16 10239) (bF 11 (.agg (ZMl (ZMk .u8 r15))) rfl rfl hM10 (fun _=>by exact Zev (v:=.agg (ZMl (ZMk .u8 r15))) rfl rfl) (Zb 16 12287) (bF 12 (vI r16) rfl rfl hM10 (fun _=>by exact Zev (v:=vI r16) rfl rfl) (Zb 16 16383) (aO 14 rfl (Zx (v:=.agg (ZMl (ZMk .u8 r15))) hC 0 (ZMk .u8 r15) (ZMk .u8 r15) rfl ag136.size rfl rfl rfl rfl rfl (ZMw rfl) rfl fun w27 hC=>done (Zf6 (by decide) (l9:=(Zb 16 32767)) (by kernel_rfl) (Zz 15 (by decide) (by decide) (by kernel_rfl) (by kernel_rfl) rfl (Zc (v:=vI r16) rfl (done (Z0 ?_)))))))))))
    exact⟨rfl,_,rfl,⟨b14,r15,r16,(slq rfl),hC,h⟩⟩
  ·replace h:=Zj h (cf hb10)
   refine ZM1 (Zh (Zh (Zy ?_)))
   refine Zd (sr (Yp hC 1 [v10] rfl ag55 rfl rfl rfl (Zx (v:=.agg #[v10]) hC 2 [v10] [v10] rfl ag55.size rfl rfl rfl rfl (Xk (Xx (hC.getM 0 rfl)) rfl) (ZMw rfl) rfl fun w28 hC=>dn (ZMv ?_))))
   exact Zi rfl (Zaa hC 2 rfl ag55 rfl rfl) ⟨(⟨s10.1⟩:ZMp),v10,(ZNm (ZFq v10)),rfl,h,(Zco (Xy (hC.getM 0 rfl))),(Yz hC 0 rfl),hC.below⟩ (.inl rfl)
 ·skip
  replace hC:=hC.pushNil 162 9
  exact⟨.slice none 0 0,(slq rfl),hC⟩
def J8 (a0:List Int) (a1:ZMp) (a2:ZMp) (K:ZMp→Prop):Prop :=
 Xh (fun (s10:(List Term)×Int) nx10=>(if s10.2 < (a1.terms.length:Int) then((0≤s10.2∧s10.2 < (a1.terms.length:Int))∧Zgp a0 (a1.terms.getD s10.2.toNat ZEx) a2 (fun r10=>Za2 (⟨s10.1⟩:ZMp) r10 1 (fun r11=>nx10 (r11.terms,ZHd.wrap (s10.2+1))))) else K (⟨s10.1⟩:ZMp))) ([],0)
theorem Zdc (a0:List Int) (a1:ZMp) (a2:ZMp)  {K:ZMp→Prop} (h:J8 a0 a1 a2 K) (w0:World) (q0:TInts.rep a0 [u0_0] fp0 w0) (q1:ZM9.rep a1 [u1_0] fp1 w0) (q2:ZM9.rep a2 [u2_0] fp2 w0) :
  Calls ZMq 123 #[u0_0,.agg #[u1_0],.agg #[u2_0]] w0 fun e w'=>∃ (r0:ZMp) (z0_0:Value) (fz0:List Nat),
   e=.returned (.agg #[z0_0])∧K r0∧(ZM4 (Yt 162) r0 [z0_0] fz0).holds w'∧(∀ b,b∈fz0→w0.heap.size≤b)∧Bel w0 w':=by
 unfold J8 at h
 refine cof ZNe rfl 28 Tryz.ntmps123 ?_
 have hC:=ZM8 (X:=Nox) w0 [ZMm TInts a0 [u0_0] fp0,ZMm TForm a1 [u1_0] fp1,ZMm TForm a2 [u2_0] fp2] (alc q0 (alc q1 (al1 q2)))
 have hp4:=(hC.getP 1 rfl)
 replace hC:=hC.derive 1 rfl (ZMm ZMo.ty.sl a1.terms [u1_0] fp1) (fun _=>(Xi hp4)) (fun _ hb_=>hb_)
 have hp6:=(hC.getP 3 rfl)
 replace hC:=hC.derive 3 rfl (ZMm ZMo.ty.sl a2.terms [u2_0] fp2) (fun _=>(Xi hp6)) (fun _ hb_=>hb_)
 refine sr (Yg (v:=.agg #[u1_0]) hC [u1_0] rfl rfl fun b8 w10 hB_ hC=>Yg (v:=.agg #[u2_0]) hC [u2_0] rfl rfl fun b10 w11 hB_ hC=>Yk hC [.slice none 0 0] z55 rfl fun b11 w12 hB_ hC=>dn (sr (J6 [] rfl (Zgj   _) (Yk hC [.slice none 0 0] z55 rfl fun b12 w13 hB_ hC=>Zx (v:=.agg #[.slice none 0 0]) hC 0 [.slice none 0 0] [.slice none 0 0] rfl ag55.size rfl rfl rfl rfl rfl (ZMw rfl) rfl fun w14 hC=>dn (ZMn (sr (Zc (v:=vI 0) rfl (dn (ZMt ?_)))))))))
 refine X2 (S:=(List Term)×Int) _ (fun s10 e_ w_=>∃ (v10:Value),Zt e_ [(0,u0_0),(4,vQ b8),(5,vQ b10),(6,vQ b11),(7,vQ b12),(8,vI s10.2)]∧Ctx Nox w0 w_ [own 162 9 v10 s10.1.length (ZMo.encs s10.1),blk b12 55 [v10],blk b11 55 [.slice none 0 0],blk b10 55 [u2_0],blk b8 55 [u1_0]] [ZMm ZMo.ty.sl a2.terms [u2_0] fp2,ZMm ZMo.ty.sl a1.terms [u1_0] fp1,ZMm TInts a0 [u0_0] fp0,ZMm TForm a1 [u1_0] fp1,ZMm TForm a2 [u2_0] fp2]) ?_ (s0:=([],0)) ?_ h
 ·clear hC h
  rintro s10 e_ w15 nx10 K10 ⟨v10,hS_,hC⟩ h hK10
  rw [ue hS_]
  refine ZMn (sr (Za (v:=vI s10.2) rfl (Zu 0 ZMu rfl sc53.size rfl rfl (Z5 hC 4 (u1_0) rfl sc53 rfl rfl (Zv hC 1 rfl ZMx rfl (Zn rfl rfl (dn ?_)))))))
  refine Zp rfl (fun hb10=>?_) (fun hb10=>?_)
  ·replace h:=ift h (ct hb10)
   refine ZMr (Zd (ZMn (ZMt ?_)))
   refine cwd 9 Yi [0,0,0,4,0,28,60,0,254,511,1023] [0,3,5,6,7] [1,2,4] (fun hM10 hM11 w16 hB_=>?_)
   replace hC:=hC.grow hB_
   refine bL 0 (.agg #[v10]) rfl rfl hM10 (fun _ hB_=>by exact Xf (hC.grow hB_) 1 [v10] rfl ag55 rfl rfl rfl) (Zb 11 1) (bM 1 (u0_0) rfl hM11 (Zb 11 3) (bF 2 (vQ b8) rfl rfl hM11 (fun _=>by exact Yf 0 ZMu rfl sc53.size rfl rfl) (Zb 11 7) (bL 3 (u1_0) rfl rfl hM10 (fun _ hB_=>by exact Ya (hC.grow hB_) 4 (u1_0) rfl sc53 rfl rfl) (Zb 11 15) (bM 4 (vI s10.2) rfl hM11 (Zb 11 31) ?_))))
   obtain ⟨⟨h10,h11⟩,h⟩:=h
   obtain ⟨Ad10,c10,hv10⟩:=Zw (hC.getP 1 rfl) s10.2.toNat (show s10.2.toNat < a1.terms.length by omega)
   refine bL 5 (.pointer (some (Ad10.add (s10.2.toNat * 9)))) rfl rfl hM10 (fun _ hB_=>by exact Yq (len:=a1.terms.length) ZMx ag162.size (by exact tr rfl hv10) rfl h10 h11) (Zb 11 63) (bL 6 (.agg (ZMl (ZMy (a1.terms.getD s10.2.toNat ZEx)))) rfl rfl hM10 (fun _ hB_=>by exact Ji (ZMy (a1.terms.getD s10.2.toNat ZEx)) (Ye ((hC.grow hB_).getP 1 rfl) hv10 s10.2.toNat (show s10.2.toNat < a1.terms.length by omega)) ag162 rfl rfl) (Zb 11 127) (bL 7 (.agg #[u2_0]) rfl rfl hM10 (fun _ hB_=>by exact Xf (hC.grow hB_) 3 [u2_0] rfl ag55 rfl rfl rfl) (Zb 11 255) (aO 8 rfl (Zf [u0_0,.agg (ZMl (ZMy (a1.terms.getD s10.2.toNat ZEx))),.agg #[u2_0]] _ Tryz.func175 rfl rfl rfl (Zv3 a0 (a1.terms.getD s10.2.toNat ZEx) a2 h _ (hC.getP 2 rfl) (Yy (hC.getP 0 rfl))) ?_))))
   rintro _ w17 ⟨r10,u11,f10,rfl,h,hr10,hf10,hB10⟩
   refine rt ?_
   replace hC:=hC.push hB10 (ZM4 (Yt 162) r10 [u11] f10) hr10 hf10
   obtain ⟨ho10,hf11⟩:=Jk (hC.getM 0 rfl)
   subst hf11
   replace hC:=hC.recast (c:=own 162 9 u11 r10.terms.length (ZMo.encs r10.terms)) (fun _ h_=>h_) (fun _=>ho10)
   refine done (aK (by assumption) (Zb 11 511) (Zz 9 (by decide) (by decide) (by kernel_rfl) (by kernel_rfl) rfl (Zf [.agg #[v10],.agg #[u11],vI 1] _ ZNp rfl rfl rfl (Zlz (⟨s10.1⟩:ZMp) r10 1 h _ (Yy (Y3 (hC.getM 1 rfl))) (Yy (Y3 (hC.getM 0 rfl)))) ?_)))
   rintro _ w18 ⟨r11,u10,f11,rfl,h,hr11,hf12,hB11⟩
   refine rt ?_
   replace hC:=hC.push hB11 (ZM4 (Yt 162) r11 [u10] f11) hr11 hf12
   obtain ⟨ho11,hf13⟩:=Jk (hC.getM 0 rfl)
   subst hf13
   replace hC:=hC.recast (c:=own 162 9 u10 r11.terms.length (ZMo.encs r11.terms)) (fun _ h_=>h_) (fun _=>ho11)
   refine Zx (v:=.agg #[u10]) hC 3 [u10] [u10] rfl ag55.size rfl rfl rfl rfl (Xk (Xx (hC.getM 0 rfl)) rfl) (ZMw rfl) rfl fun w19 hC=>done (Z0 (Zq (Zd (Zg (Za (v:=vI s10.2) rfl (Zo rfl rfl (Zc (v:=vI (ZHd.wrap (s10.2+1))) rfl (done ?_))))))))
   exact hK10 (r11.terms,ZHd.wrap (s10.2+1)) _ _ ⟨u10,(slq rfl),(hC.xM [0,3,4,5,6] rfl)⟩ h
  ·replace h:=Zj h (cf hb10)
   refine ZM1 (Zh (Zh (Zy ?_)))
   refine Zd (sr (Yp hC 1 [v10] rfl ag55 rfl rfl rfl (Zx (v:=.agg #[v10]) hC 2 [v10] [v10] rfl ag55.size rfl rfl rfl rfl (Xk (Xx (hC.getM 0 rfl)) rfl) (ZMw rfl) rfl fun w20 hC=>dn (ZMv ?_))))
   exact Zi rfl (Zaa hC 2 rfl ag55 rfl rfl) ⟨(⟨s10.1⟩:ZMp),v10,(ZNm (ZFq v10)),rfl,h,(Zco (Xy (hC.getM 0 rfl))),(Yz hC 0 rfl),hC.below⟩ (.inl rfl)
 ·skip
  replace hC:=hC.pushNil 162 9
  exact⟨.slice none 0 0,(slq rfl),hC⟩
def Zgq (a0:List Int) (a1:ZMp) (K:Bool→Prop):Prop :=
 Xh (fun (s10:Int) nx10=>(if s10 < (a1.terms.length:Int) then((0≤s10∧s10 < (a1.terms.length:Int))∧Zgn a0 ((a1.terms.getD s10.toNat ZEx).mono) (fun r11=>(if¬ (r11=true) then K false else Zd3 ((a1.terms.getD s10.toNat ZEx).factor) 1 10006 (fun r10=>(if¬ (r10=true) then K false else(if s10 > 0 then((0≤ZHd.wrap (s10 - 1)∧ZHd.wrap (s10 - 1) < (a1.terms.length:Int))∧Zd5 ((a1.terms.getD ((ZHd.wrap (s10 - 1)).toNat) ZEx).mono) ((a1.terms.getD s10.toNat ZEx).mono) (fun r12=>(if¬ (r12=true) then K false else nx10 (ZHd.wrap (s10+1))))) else nx10 (ZHd.wrap (s10+1)))))))) else K (decide ((a1.terms.length:Int)≤400)))) 0
theorem Zv4 (a0:List Int) (a1:ZMp)  {K:Bool→Prop} (h:Zgq a0 a1 K) (w0:World) (q0:TInts.rep a0 [u0_0] fp0 w0) (q1:ZM9.rep a1 [u1_0] fp1 w0) :
  Calls ZMq 120 #[u0_0,.agg #[u1_0]] w0 fun e w'=>∃ (r0:Bool),
   e=.returned (.bool r0)∧K r0∧Bel w0 w':=by
 unfold Zgq at h
 refine cof Tryz.func120 rfl 51 Tryz.ntmps120 ?_
 have hC:=ZM8 (X:=Nox) w0 [ZMm TInts a0 [u0_0] fp0,ZMm TForm a1 [u1_0] fp1] (alc q0 (al1 q1))
 have hp3:=(hC.getP 1 rfl)
 replace hC:=hC.derive 1 rfl (ZMm ZMo.ty.sl a1.terms [u1_0] fp1) (fun _=>(Xi hp3)) (fun _ hb_=>hb_)
 refine sr (Yg (v:=.agg #[u1_0]) hC [u1_0] rfl rfl fun b5 w7 hB_ hC=>Zc (v:=.bool false) rfl (dn (ZMn (sr (Zc (v:=vI 0) rfl (dn (ZMt ?_)))))))
 refine X2 (S:=Int) _ (fun s10 e_ w_=>Zt e_ [(0,u0_0),(3,vQ b5),(5,vI s10)]∧Ctx Nox w0 w_ [blk b5 55 [u1_0]] [ZMm ZMo.ty.sl a1.terms [u1_0] fp1,ZMm TInts a0 [u0_0] fp0,ZMm TForm a1 [u1_0] fp1]) ?_ (s0:=0) ?_ h
 ·clear hC h
  rintro s10 e_ w10 nx10 K10 ⟨hS_,hC⟩ h hK10
  rw [ue hS_]
  refine ZMn (sr (Za (v:=vI s10) rfl (Zu 0 ZMu rfl sc53.size rfl rfl (Z5 hC 0 (u1_0) rfl sc53 rfl rfl (Zv hC 0 rfl ZMx rfl (Zn rfl rfl (dn ?_)))))))
  refine Zp rfl (fun hb13=>?_) (fun hb13=>?_)
  ·replace h:=ift h (ct hb13)
   refine ZMr (Zd (ZMn (ZMt (sr (Zu 0 ZMu rfl sc53.size rfl rfl (Z5 hC 0 (u1_0) rfl sc53 rfl rfl (Za (v:=vI s10) rfl ?_)))))))
   obtain ⟨⟨h10,h11⟩,h⟩:=h
   obtain ⟨Ad11,c10,hv10⟩:=Zw (hC.getP 0 rfl) s10.toNat (show s10.toNat < a1.terms.length by omega)
   refine Yo (len:=a1.terms.length) ZMx ag162.size (tr rfl hv10) rfl h10 h11 (Zak (ZMy (a1.terms.getD s10.toNat ZEx)) (Ye (hC.getP 0 rfl) hv10 s10.toNat (show s10.toNat < a1.terms.length by omega)) ag162 rfl rfl (Yk hC (ZMy (⟨ZMs,0⟩:Term)) Ze8 rfl fun b10 w11 hB_ hC=>Zx (v:=.agg (ZMl (ZMy (a1.terms.getD s10.toNat ZEx)))) hC 0 (ZMy (a1.terms.getD s10.toNat ZEx)) (ZMy (a1.terms.getD s10.toNat ZEx)) rfl ag162.size rfl rfl rfl rfl rfl (ZMw rfl) rfl fun w12 hC=>dn (ZMn ?_)))
   refine cwd 24 Yi [0,0,2,7,15,31,63,127,255,511,1023,2047,4095,8191,16383,32767,65535,32767,163839,524287,1048575,2097151,32767,4227071,16777215,33554431,67108863,134217727] [2,7,16,19,21,23] [0,1,4,5,6,7,8,9,10,11,12,13,14,15,16,17,18,19,20,21,22,23] (fun hM11 hM10 w13 hB_=>?_)
   replace hC:=hC.grow hB_
   refine bM 0 (u0_0) rfl hM10 (Zb 28 1) (bF 1 (vQ b10) rfl rfl hM10 (fun _=>by exact Yf 0 ZM2 rfl ag136.size rfl rfl) (Zb 28 3) (bL 2 (.agg (ZMl (ZMk .u8 ((a1.terms.getD s10.toNat ZEx).mono)))) rfl rfl hM11 (fun _ hB_=>by exact Xf (hC.grow hB_) 0 (ZMk .u8 ((a1.terms.getD s10.toNat ZEx).mono)) rfl ag136 rfl rfl rfl) (Zb 28 7) (aO 3 rfl (Zf [u0_0,.agg (ZMl (ZMk .u8 ((a1.terms.getD s10.toNat ZEx).mono)))] _ Tryz.func173 rfl rfl rfl (Zv2 a0 ((a1.terms.getD s10.toNat ZEx).mono) h _ (hC.getP 1 rfl)) ?_))))
   rintro _ w14 ⟨r11,rfl,h,hB10⟩
   refine rt ?_
   replace hC:=hC.grow hB10
   refine done (aK (by assumption) (Zb 28 15) (bF 4 (.bool (!r11)) rfl rfl hM10 (fun _=>by exact Zk1 rfl) (Zb 28 31) (bM 5 (.bool (!r11)) rfl hM10 (Zb 28 63) ?_)))
   refine Y5 (!r11) (fun hb12=>?_) (fun hb12=>?_)
   ·replace h:=ift h (Xa (X3 hb12))
    refine Zr Zs 6 undef rfl rfl (by kernel_rfl) (hM10 6 rfl) (fun w_=>.inr ⟨Z8 (b:=true) 5 24 rfl (tr rfl (congrArg _ hb12)) (by decide),rfl⟩) (l9:=(Zb 28 127)) (by kernel_rfl) (Zr Zs 7 undef rfl rfl (by kernel_rfl) (hM10 7 rfl) (fun w_=>.inr ⟨Z8 (b:=true) 5 24 rfl (tr rfl (congrArg _ hb12)) (by decide),rfl⟩) (l9:=(Zb 28 255)) (by kernel_rfl) (Zr Zs 8 undef rfl rfl (by kernel_rfl) (hM10 8 rfl) (fun w_=>.inr ⟨Z8 (b:=true) 5 24 rfl (tr rfl (congrArg _ hb12)) (by decide),rfl⟩) (l9:=(Zb 28 511)) (by kernel_rfl) (Zr Zs 9 undef rfl rfl (by kernel_rfl) (hM10 9 rfl) (fun w_=>.inr ⟨Z8 (b:=true) 5 24 rfl (tr rfl (congrArg _ hb12)) (by decide),rfl⟩) (l9:=(Zb 28 1023)) (by kernel_rfl) (bF 10 (.bool true) rfl rfl hM10 (fun _=>by exact Zoe (v:=.bool true) (b:=true) (by exact tr rfl (congrArg _ hb12)) rfl) (Zb 28 2047) (bM 11 (.bool true) rfl hM10 (Zb 28 4095) (Zr Zs 12 undef rfl rfl (by kernel_rfl) (hM10 12 rfl) (fun w_=>.inr ⟨Z8 (b:=true) 11 30 rfl (tr rfl (congrArg _ rfl)) (by decide),rfl⟩) (l9:=(Zb 28 8191)) (by kernel_rfl) (Zr Zs 13 undef rfl rfl (by kernel_rfl) (hM10 13 rfl) (fun w_=>.inr ⟨Z8 (b:=true) 11 30 rfl (tr rfl (congrArg _ rfl)) (by decide),rfl⟩) (l9:=(Zb 28 16383)) (by kernel_rfl) (Zr Zs 14 undef rfl rfl (by kernel_rfl) (hM10 14 rfl) (fun w_=>.inr ⟨Z8 (b:=true) 11 30 rfl (tr rfl (congrArg _ rfl)) (by decide),rfl⟩) (l9:=(Zb 28 32767)) (by kernel_rfl) (Zr Zs 15 undef rfl rfl (by kernel_rfl) (hM10 15 rfl) (fun w_=>.inr ⟨Xo 14 33 rfl rfl,rfl⟩) (l9:=(Zb 28 65535)) (by kernel_rfl) (Zr Zs 16 undef rfl rfl (by kernel_rfl) (hM10 16 rfl) (fun w_=>.inr ⟨Xo 14 33 rfl rfl,rfl⟩) (l9:=(Zb 28 131071)) (by kernel_rfl) (Zr Zs 17 undef rfl rfl (by kernel_rfl) (hM10 17 rfl) (fun w_=>.inr ⟨Xo 14 33 rfl rfl,rfl⟩) (l9:=(Zb 28 262143)) (by kernel_rfl) (Zr Zs 18 undef rfl rfl (by kernel_rfl) (hM10 18 rfl) (fun w_=>.inr ⟨Xo 14 33 rfl rfl,rfl⟩) (l9:=(Zb 28 524287)) (by kernel_rfl) (Zr Zs 19 undef rfl rfl (by kernel_rfl) (hM10 19 rfl) (fun w_=>.inr ⟨Xo 14 33 rfl rfl,rfl⟩) (l9:=(Zb 28 1048575)) (by kernel_rfl) (Zr Zs 20 undef rfl rfl (by kernel_rfl) (hM10 20 rfl) (fun w_=>.inr ⟨Xo 14 33 rfl rfl,rfl⟩) (l9:=(Zb 28 2097151)) (by kernel_rfl) (Zr Zs 21 undef rfl rfl (by kernel_rfl) (hM10 21 rfl) (fun w_=>.inr ⟨Xo 14 33 rfl rfl,rfl⟩) (l9:=(Zb 28 4194303)) (by kernel_rfl) (Zr Zs 22 undef rfl rfl (by kernel_rfl) (hM10 22 rfl) (fun w_=>.inr ⟨Xo 14 33 rfl rfl,rfl⟩) (l9:=(Zb 28 8388607)) (by kernel_rfl) (Zr Zs 23 undef rfl rfl (by kernel_rfl) (hM10 23 rfl) (fun w_=>.inr ⟨Xo 14 33 rfl rfl,rfl⟩) (l9:=(Zb 28 16777215)) (by kernel_rfl) (Zz 24 (by decide) (by decide) (by kernel_rfl) (by kernel_rfl) rfl (Jr 14 33 rfl rfl (Jr 14 33 rfl rfl (Zm (b:=true) 11 30 rfl (tr rfl (congrArg _ rfl)) (by decide) (Z3 (v:=.bool true) (b:=true) rfl rfl (done (Z0 (Zd (Yc rfl rfl (sr (Zc (v:=.bool false) rfl (dn ?_)))))))))))))))))))))))))))))
    refine ZMv (Z4 (Zk (Zk (Z4 (Zk ?_)))))
    exact Zi rfl (Ze rfl) ⟨false,rfl,h,hC.below⟩ (.inl rfl)
   ·replace h:=Zj h (not_not_intro ((X4 hb12)))
    refine aF 6 (.pointer (some ⟨b10,8,none⟩)) rfl rfl (hM10 6 rfl) (Yd 5 24 rfl rfl hb12) (fun _=>by exact Yf 8 ZM2 rfl sc2.size rfl rfl) (Zb 28 127) (aL 7 (vI ((a1.terms.getD s10.toNat ZEx).factor)) rfl rfl (hM11 7 rfl) (Yd 5 24 rfl rfl hb12) (fun _ hB_=>by exact Ya (hC.grow hB_) 0 (vI ((a1.terms.getD s10.toNat ZEx).factor)) rfl sc2 rfl rfl) (Zb 28 255) (aO 8 rfl (Zl 5 24 rfl rfl hb12 (Zf [vI ((a1.terms.getD s10.toNat ZEx).factor),vI 1,vI 10006] _ Tryz.func59 rfl rfl rfl (Zlx ((a1.terms.getD s10.toNat ZEx).factor) 1 10006 h _) ?_))))
    rintro _ w15 ⟨r10,rfl,h,hB11⟩
    refine rt ?_
    replace hC:=hC.grow hB11
    refine done (aK (by assumption) (Zb 28 511) (aF 9 (.bool (!r10)) rfl rfl (hM10 9 rfl) (Yd 5 24 rfl rfl hb12) (fun _=>by exact Zk1 rfl) (Zb 28 1023) (bF 10 (.bool (!r10)) rfl rfl hM10 (fun _=>by exact Zoe (v:=.bool (!r10)) (b:=false) (by exact tr rfl (congrArg _ hb12)) rfl) (Zb 28 2047) (bM 11 (.bool (!r10)) rfl hM10 (Zb 28 4095) ?_))))
    refine Y5 (!r10) (fun hb11=>?_) (fun hb11=>?_)
    ·replace h:=ift h (Xa (X3 hb11))
     refine Zr Zs 12 undef rfl rfl (by kernel_rfl) (hM10 12 rfl) (fun w_=>.inr ⟨Z8 (b:=true) 11 30 rfl (tr rfl (congrArg _ hb11)) (by decide),rfl⟩) (l9:=(Zb 28 8191)) (by kernel_rfl) (Zr Zs 13 undef rfl rfl (by kernel_rfl) (hM10 13 rfl) (fun w_=>.inr ⟨Z8 (b:=true) 11 30 rfl (tr rfl (congrArg _ hb11)) (by decide),rfl⟩) (l9:=(Zb 28 16383)) (by kernel_rfl) (Zr Zs 14 undef rfl rfl (by kernel_rfl) (hM10 14 rfl) (fun w_=>.inr ⟨Z8 (b:=true) 11 30 rfl (tr rfl (congrArg _ hb11)) (by decide),rfl⟩) (l9:=(Zb 28 32767)) (by kernel_rfl) (Zr Zs 15 undef rfl rfl (by kernel_rfl) (hM10 15 rfl) (fun w_=>.inr ⟨Xo 14 33 rfl rfl,rfl⟩) (l9:=(Zb 28 65535)) (by kernel_rfl) (Zr Zs 16 undef rfl rfl (by kernel_rfl) (hM10 16 rfl) (fun w_=>.inr ⟨Xo 14 33 rfl rfl,rfl⟩) (l9:=(Zb 28 131071)) (by kernel_rfl) (Zr Zs 17 undef rfl rfl (by kernel_rfl) (hM10 17 rfl) (fun w_=>.inr ⟨Xo 14 33 rfl rfl,rfl⟩) (l9:=(Zb 28 262143)) (by kernel_rfl) (Zr Zs 18 undef rfl rfl (by kernel_rfl) (hM10 18 rfl) (fun w_=>.inr ⟨Xo 14 33 rfl rfl,rfl⟩) (l9:=(Zb 28 524287)) (by kernel_rfl) (Zr Zs 19 undef rfl rfl (by kernel_rfl) (hM10 19 rfl) (fun w_=>.inr ⟨Xo 14 33 rfl rfl,rfl⟩) (l9:=(Zb 28 1048575)) (by kernel_rfl) (Zr Zs 20 undef rfl rfl (by kernel_rfl) (hM10 20 rfl) (fun w_=>.inr ⟨Xo 14 33 rfl rfl,rfl⟩) (l9:=(Zb 28 2097151)) (by kernel_rfl) (Zr Zs 21 undef rfl rfl (by kernel_rfl) (hM10 21 rfl) (fun w_=>.inr ⟨Xo 14 33 rfl rfl,rfl⟩) (l9:=(Zb 28 4194303)) (by kernel_rfl) (Zr Zs 22 undef rfl rfl (by kernel_rfl) (hM10 22 rfl) (fun w_=>.inr ⟨Xo 14 33 rfl rfl,rfl⟩) (l9:=(Zb 28 8388607)) (by kernel_rfl) (Zr Zs 23 undef rfl rfl (by kernel_rfl) (hM10 23 rfl) (fun w_=>.inr ⟨Xo 14 33 rfl rfl,rfl⟩) (l9:=(Zb 28 16777215)) (by kernel_rfl) (Zz 24 (by decide) (by decide) (by kernel_rfl) (by kernel_rfl) rfl (Jr 14 33 rfl rfl (Jr 14 33 rfl rfl (Zm (b:=true) 11 30 rfl (tr rfl (congrArg _ hb11)) (by decide) (Z3 (v:=.bool true) (b:=true) (tr rfl (congrArg _ hb11)) rfl (done (Z0 (Zd (Yc rfl rfl (sr (Zc (v:=.bool false) rfl (dn ?_)))))))))))))))))))))))
     refine ZMv (Z4 (Zk (Zk (Z4 (Zk ?_)))))
     exact Zi rfl (Ze rfl) ⟨false,rfl,h,hC.below⟩ (.inl rfl)
    ·replace h:=Zj h (not_not_intro ((X4 hb11)))
     refine aF 12 (vI s10) rfl rfl (hM10 12 rfl) (Yd 11 30 rfl rfl hb11) (fun _=>by exact Zaj (v:=vI s10) rfl) (Zb 28 8191) (aF 13 (.bool (decide (s10 > 0))) rfl rfl (hM10 13 rfl) (Yd 11 30 rfl rfl hb11) (fun _=>by exact Zoj rfl rfl) (Zb 28 16383) (aF 14 (.bool (decide (s10 > 0))) rfl rfl (hM10 14 rfl) (Yd 11 30 rfl rfl hb11) (fun _=>by exact Zaj (v:=.bool (decide (s10 > 0))) rfl) (Zb 28 32767) ?_))
     refine Y5 (decide (s10 > 0)) (fun hb10=>?_) (fun hb10=>?_)
     ·replace h:=ift h (ct hb10)
      refine aF 15 (vQ b5) rfl rfl (hM10 15 rfl) (Yd 14 33 rfl rfl hb10) (fun _=>by exact Yf 0 ZMu rfl sc53.size rfl rfl) (Zb 28 65535) (aL 16 (u1_0) rfl rfl (hM11 16 rfl) (Yd 14 33 rfl rfl hb10) (fun _ hB_=>by exact Ya (hC.grow hB_) 1 (u1_0) rfl sc53 rfl rfl) (Zb 28 131071) (aF 17 (vI s10) rfl rfl (hM10 17 rfl) (Yd 14 33 rfl rfl hb10) (fun _=>by exact Zaj (v:=vI s10) rfl) (Zb 28 262143) (aF 18 (vI (ZHd.wrap (s10 - 1))) rfl rfl (hM10 18 rfl) (Yd 14 33 rfl rfl hb10) (fun _=>by exact Zf3 rfl rfl) (Zb 28 524287) ?_)))
      obtain ⟨⟨h12,h13⟩,h⟩:=h
      obtain ⟨Ad10,c11,hv11⟩:=Zw (hC.getP 0 rfl) ((ZHd.wrap (s10 - 1)).toNat) (show (ZHd.wrap (s10 - 1)).toNat < a1.terms.length by omega)
      refine aL 19 (.pointer (some (Ad10.add ((ZHd.wrap (s10 - 1)).toNat * 9)))) rfl rfl (hM11 19 rfl) (Yd 14 33 rfl rfl hb10) (fun _ hB_=>by exact Yq (len:=a1.terms.length) ZMx ag162.size (by exact tr rfl hv11) rfl h12 h13) (Zb 28 1048575) (aF 20 (.pointer (some (Ad10.add ((ZHd.wrap (s10 - 1)).toNat * 9+0)))) rfl rfl (hM10 20 rfl) (Yd 14 33 rfl rfl hb10) (fun _=>by exact Zao ((ZHd.wrap (s10 - 1)).toNat * 9+0) ZM2 rfl ag136.size rfl rfl) (Zb 28 2097151) (aL 21 (.agg (ZMl (ZMk .u8 ((a1.terms.getD ((ZHd.wrap (s10 - 1)).toNat) ZEx).mono)))) rfl rfl (hM11 21 rfl) (Yd 14 33 rfl rfl hb10) (fun _ hB_=>by exact Ji (ZMk .u8 ((a1.terms.getD ((ZHd.wrap (s10 - 1)).toNat) ZEx).mono)) (Jt (o:=0) (k:=8) (Ye ((hC.grow hB_).getP 0 rfl) hv11 ((ZHd.wrap (s10 - 1)).toNat) (show (ZHd.wrap (s10 - 1)).toNat < a1.terms.length by omega)) rfl) ag136 rfl rfl) (Zb 28 4194303) (aF 22 (vQ b10) rfl rfl (hM10 22 rfl) (Yd 14 33 rfl rfl hb10) (fun _=>by exact Yf 0 ZM2 rfl ag136.size rfl rfl) (Zb 28 8388607) (aL 23 (.agg (ZMl (ZMk .u8 ((a1.terms.getD s10.toNat ZEx).mono)))) rfl rfl (hM11 23 rfl) (Yd 14 33 rfl rfl hb10) (fun _ hB_=>by exact Xf (hC.grow hB_) 0 (ZMk .u8 ((a1.terms.getD s10.toNat ZEx).mono)) rfl ag136 rfl rfl rfl) (Zb 28 16777215) (Zz 24 (by decide) (by decide) (by kernel_rfl) (by kernel_rfl) rfl (Zl 14 33 rfl rfl hb10 (Zf [.agg (ZMl (ZMk .u8 ((a1.terms.getD ((ZHd.wrap (s10 - 1)).toNat) ZEx).mono))),.agg (ZMl (ZMk .u8 ((a1.terms.getD s10.toNat ZEx).mono)))] _ ZNo rfl rfl rfl (Zly ((a1.terms.getD ((ZHd.wrap (s10 - 1)).toNat) ZEx).mono) ((a1.terms.getD s10.toNat ZEx).mono) h _) ?_)))))))
      rintro _ w16 ⟨r12,rfl,h,hB12⟩
      refine rt ?_
      replace hC:=hC.grow hB12
      refine Zl 14 33 rfl rfl hb10 (Xu rfl (Zl 11 30 rfl rfl hb11 (Z3 (v:=.bool (!r12)) (b:=true) (tr rfl (congrArg _ hb10)) rfl (Z3 (v:=.bool (!r12)) (b:=false) (tr rfl (congrArg _ hb11)) rfl (done (Z0 (Zd ?_)))))))
      refine Zp rfl (fun hb14=>?_) (fun hb14=>?_)
      ·replace h:=ift h (Xa (X3 hb14))
       refine sr (Zc (v:=.bool false) rfl (dn ?_))
       refine ZMv (Z4 (Zk (Zk (Z4 (Zk ?_)))))
       exact Zi rfl (Ze rfl) ⟨false,rfl,h,hC.below⟩ (.inl rfl)
      ·replace h:=Zj h (not_not_intro ((X4 hb14)))
       refine ZMr (Zq (Zd (Zg (Za (v:=vI s10) rfl (Zo rfl rfl (Zc (v:=vI (ZHd.wrap (s10+1))) rfl (done ?_)))))))
       exact hK10 (ZHd.wrap (s10+1)) _ _ ⟨(slq rfl),(hC.xM [1] rfl)⟩ h
     ·replace h:=Zj h (cf hb10)
      refine Zr Zs 15 undef rfl rfl (by kernel_rfl) (hM10 15 rfl) (fun w_=>.inr ⟨Z8 (b:=false) 14 33 rfl (tr rfl (congrArg _ hb10)) (by decide),rfl⟩) (l9:=(Zb 28 65535)) (by kernel_rfl) (Zr Zs 16 undef rfl rfl (by kernel_rfl) (hM10 16 rfl) (fun w_=>.inr ⟨Z8 (b:=false) 14 33 rfl (tr rfl (congrArg _ hb10)) (by decide),rfl⟩) (l9:=(Zb 28 131071)) (by kernel_rfl) (Zr Zs 17 undef rfl rfl (by kernel_rfl) (hM10 17 rfl) (fun w_=>.inr ⟨Z8 (b:=false) 14 33 rfl (tr rfl (congrArg _ hb10)) (by decide),rfl⟩) (l9:=(Zb 28 262143)) (by kernel_rfl) (Zr Zs 18 undef rfl rfl (by kernel_rfl) (hM10 18 rfl) (fun w_=>.inr ⟨Z8 (b:=false) 14 33 rfl (tr rfl (congrArg _ hb10)) (by decide),rfl⟩) (l9:=(Zb 28 524287)) (by kernel_rfl) (Zr Zs 19 undef rfl rfl (by kernel_rfl) (hM10 19 rfl) (fun w_=>.inr ⟨Z8 (b:=false) 14 33 rfl (tr rfl (congrArg _ hb10)) (by decide),rfl⟩) (l9:=(Zb 28 1048575)) (by kernel_rfl) (Zr Zs 20 undef rfl rfl (by kernel_rfl) (hM10 20 rfl) (fun w_=>.inr ⟨Z8 (b:=false) 14 33 rfl (tr rfl (congrArg _ hb10)) (by decide),rfl⟩) (l9:=(Zb 28 2097151)) (by kernel_rfl) (Zr Zs 21 undef rfl rfl (by kernel_rfl) (hM10 21 rfl) (fun w_=>.inr ⟨Z8 (b:=false) 14 33 rfl (tr rfl (congrArg _ hb10)) (by decide),rfl⟩) (l9:=(Zb 28 4194303)) (by kernel_rfl) (Zr Zs 22 undef rfl rfl (by kernel_rfl) (hM10 22 rfl) (fun w_=>.inr ⟨Z8 (b:=false) 14 33 rfl (tr rfl (congrArg _ hb10)) (by decide),rfl⟩) (l9:=(Zb 28 8388607)) (by kernel_rfl) (Zr Zs 23 undef rfl rfl (by kernel_rfl) (hM10 23 rfl) (fun w_=>.inr ⟨Z8 (b:=false) 14 33 rfl (tr rfl (congrArg _ hb10)) (by decide),rfl⟩) (l9:=(Zb 28 16777215)) (by kernel_rfl) (Zz 24 (by decide) (by decide) (by kernel_rfl) (by kernel_rfl) rfl (Zm (b:=false) 14 33 rfl (tr rfl (congrArg _ hb10)) (by decide) (Zm (b:=false) 14 33 rfl (tr rfl (congrArg _ hb10)) (by decide) (Zl 11 30 rfl rfl hb11 (Z3 (v:=.bool false) (b:=false) (tr rfl (congrArg _ hb10)) rfl (Z3 (v:=.bool false) (b:=false) (tr rfl (congrArg _ hb11)) rfl (done (Z0 (Zd (Z2 rfl rfl (ZMr (Zq (Zd (Zg (Za (v:=vI s10) rfl (Zo rfl rfl (Zc (v:=vI (ZHd.wrap (s10+1))) rfl (done ?_))))))))))))))))))))))))))
      exact hK10 (ZHd.wrap (s10+1)) _ _ ⟨(slq rfl),(hC.xM [1] rfl)⟩ h
  ·replace h:=Zj h (cf hb13)
   refine ZM1 (Zh (Zh (Zy ?_)))
   refine Zd (sr (Zu 0 ZMu rfl sc53.size rfl rfl (Z5 hC 0 (u1_0) rfl sc53 rfl rfl (Zv hC 0 rfl ZMx rfl (Zbt rfl rfl (Zc (v:=.bool (decide ((a1.terms.length:Int)≤400))) rfl (dn (ZMv ?_))))))))
   exact Zi rfl (Ze rfl) ⟨decide ((a1.terms.length:Int)≤400),rfl,h,hC.below⟩ (.inl rfl)
 ·skip
  exact⟨(slq rfl),hC⟩
def Zdd (a0:List Int) (a1:A8) (K:Int→Prop):Prop :=
 Yb (fun i10 (s10:Int) nx10=>((0≤(i10:Int)∧(i10:Int) < 8)∧nx10 (ZHd.wrap (s10+(ZHd.wrap ((a0.getD i10 ZEx) * (ZHd.wrap (a1.get i10)))))))) (fun (s10:Int)=>K s10) a0.length 0 0
theorem Zl0 (a0:List Int) (a1:A8)  {K:Int→Prop} (h:Zdd a0 a1 K) (w0:World) (q0:TInts.rep a0 [u0_0] fp0 w0) :
  Calls ZMq 121 #[u0_0,.agg (ZMl (ZMk .u8 a1))] w0 fun e w'=>∃ (r0:Int),
   e=.returned (vI r0)∧K r0∧Bel w0 w':=by
 unfold Zdd at h
 refine cof ZNs rfl 25 Tryz.ntmps121 ?_
 have hC:=ZM8 (X:=Nox) w0 [ZMm TInts a0 [u0_0] fp0] (al1 q0)
 refine sr (Yg (v:=.agg (ZMl (ZMk .u8 a1))) hC (ZMk .u8 a1) rfl rfl fun b2 w4 hB_ hC=>Zc (v:=vI 0) rfl (dn (sr (Zc (v:=vI 0) rfl (dn (ZMn (sr (Zc (v:=vI 0) rfl (dn (ZMt ?_))))))))))
 have hN10:a0.length≤9223372036854775807:=Yx (hC.getP 0 rfl)
 refine Yn (S:=Int) _ _ (fun i10 s10 e_ w_=>Zt e_ [(0,u0_0),(3,vQ b2),(5,vI s10),(6,vI (i10:Int))]∧Ctx Nox w0 w_ [blk b2 136 (ZMk .u8 a1)] [ZMm TInts a0 [u0_0] fp0]) a0.length ?_ ?_ (s0:=0) ?_ h
 ·clear hC h
  rintro i10 s10 e_ w10 nx10 K10 hi10 ⟨hS_,hC⟩ h hK10
  rw [ue hS_]
  refine ZMn (sr (Za (v:=vI (i10:Int)) rfl (Za (v:=u0_0) rfl (Zv hC 0 rfl ZM6 rfl (Zn rfl rfl (dn (Yc rfl (decide_eq_true (by omega)) (ZMr (Zd (ZMn (ZMt ?_)))))))))))
  refine cwd 10 Yi [0,0,0,6,14,0,32,96,224,510,1023,2047] [3,4,6,7] [0,1,2,5,8,9] (fun hM11 hM10 w11 hB_=>?_)
  replace hC:=hC.grow hB_
  refine bM 0 (vI s10) rfl hM10 (Zb 12 1) (bM 1 (u0_0) rfl hM10 (Zb 12 3) (bM 2 (vI (i10:Int)) rfl hM10 (Zb 12 7) ?_))
  obtain ⟨Ad10,c10,hv10⟩:=Zw (hC.getP 0 rfl) i10 hi10
  refine bL 3 (.pointer (some (Ad10.add (i10 * 1)))) rfl rfl hM11 (fun _ hB_=>by exact Yq (len:=a0.length) ZM6 sc2.size (by exact tr rfl hv10) rfl (ZM3 _) (ZNl.2 hi10)) (Zb 12 15) (bL 4 (vI (a0.getD i10 ZEx)) rfl rfl hM11 (fun _ hB_=>by exact Y7 (vI (a0.getD i10 ZEx)) (Ye ((hC.grow hB_).getP 0 rfl) hv10 i10 hi10) sc2 rfl) (Zb 12 31) (bM 5 (vI (i10:Int)) rfl hM10 (Zb 12 63) ?_))
  obtain ⟨⟨h10,h11⟩,h⟩:=h
  refine bL 6 (.pointer (some ⟨b2,i10,none⟩)) rfl rfl hM11 (fun _ hB_=>by exact J5 i10 ZM5 sc5.size rfl rfl h10 h11 (by omega)) (Zb 12 127) (bL 7 (.int .u8 (a1.get i10)) rfl rfl hM11 (fun _ hB_=>by exact Ya (hC.grow hB_) 0 (.int .u8 (a1.get i10)) rfl sc5 rfl (ZM0 _ _ (show i10 < 8 by omega))) (Zb 12 255) (bF 8 (vI (ZHd.wrap (a1.get i10))) rfl rfl hM10 (fun _=>by exact Zol ZNn ZNt rfl) (Zb 12 511) (bF 9 (vI (ZHd.wrap ((a0.getD i10 ZEx) * (ZHd.wrap (a1.get i10))))) rfl rfl hM10 (fun _=>by exact Zcj rfl rfl) (Zb 12 1023) (Zz 10 (by decide) (by decide) (by kernel_rfl) (by kernel_rfl) rfl (Zo rfl rfl (Zc (v:=vI (ZHd.wrap (s10+(ZHd.wrap ((a0.getD i10 ZEx) * (ZHd.wrap (a1.get i10))))))) rfl (done (Z0 (Zq (Zd (Zg (Za (v:=vI (i10:Int)) rfl (Zo rfl rfl (Zc (v:=vI (ZHd.wrap ((i10:Int)+1))) rfl (done ?_)))))))))))))))
  exact hK10 (ZHd.wrap (s10+(ZHd.wrap ((a0.getD i10 ZEx) * (ZHd.wrap (a1.get i10)))))) _ _ ⟨(sl ⟨rfl,rfl,rfl,(tr rfl (congrArg _ (Z6 hi10 hN10))),trivial⟩),hC⟩ h
 ·clear hC h
  rintro s10 e_ w12 K10 ⟨hS_,hC⟩ h
  rw [ue hS_]
  refine ZMn (sr (Za (v:=vI (a0.length:Int)) rfl (Za (v:=u0_0) rfl (Zv hC 0 rfl ZM6 rfl (Zn rfl rfl (dn (Z2 rfl (decide_eq_false (by omega)) ?_)))))))
  refine ZM1 (Zh (Zh (Zy ?_)))
  refine Zd (sr (Za (v:=vI s10) rfl (Zc (v:=vI s10) rfl (dn (ZMv ?_)))))
  exact Zi rfl (Ze rfl) ⟨s10,rfl,h,hC.below⟩ (.inl rfl)
 ·skip
  exact⟨(slq rfl),hC⟩
def Zgr (a0:List Int) (a1:ZMp) (K:Int→Bool→Prop):Prop :=
 (if(a1.terms.length:Int)=0 then K (-1) true else((0≤(0:Int)∧(0:Int) < (a1.terms.length:Int))∧Zdd a0 ((a1.terms.getD 0 ZEx).mono) (fun r10=>Xh (fun (s10:Int) nx10=>(if s10 < (a1.terms.length:Int) then((0≤s10∧s10 < (a1.terms.length:Int))∧Zdd a0 ((a1.terms.getD s10.toNat ZEx).mono) (fun r11=>(if r11≠r10 then K 0 false else nx10 (ZHd.wrap (s10+1))))) else K r10 true)) 1)))
theorem Zv5 (a0:List Int) (a1:ZMp)  {K:Int→Bool→Prop} (h:Zgr a0 a1 K) (w0:World) (q0:TInts.rep a0 [u0_0] fp0 w0) (q1:ZM9.rep a1 [u1_0] fp1 w0) :
  Calls ZMq 69 #[u0_0,.agg #[u1_0]] w0 fun e w'=>∃ (r0:Int) (r1:Bool),
   e=.returned (.tuple #[vI r0,.bool r1])∧K r0 r1∧Bel w0 w':=by
 unfold Zgr at h
 refine cof Tryz.func69 rfl 37 Tryz.ntmps69 ?_
 have hC:=ZM8 (X:=Nox) w0 [ZMm TInts a0 [u0_0] fp0,ZMm TForm a1 [u1_0] fp1] (alc q0 (al1 q1))
 have hp3:=(hC.getP 1 rfl)
 replace hC:=hC.derive 1 rfl (ZMm ZMo.ty.sl a1.terms [u1_0] fp1) (fun _=>(Xi hp3)) (fun _ hb_=>hb_)
 refine sr (Yg (v:=.agg #[u1_0]) hC [u1_0] rfl rfl fun b5 w7 hB_ hC=>Zc (v:=vI 0) rfl (Zc (v:=.bool false) rfl (dn (ZMn (sr (Zu 0 ZMu rfl sc53.size rfl rfl (Z5 hC 0 (u1_0) rfl sc53 rfl rfl (Zv hC 0 rfl ZMx rfl (Jg rfl rfl (dn ?_))))))))))
 refine Zp rfl (fun hb10=>?_) (fun hb10=>?_)
 ·replace h:=ift h (ct hb10)
  refine sr (Zc (v:=vI (-1)) rfl (Zc (v:=.bool true) rfl (dn ?_)))
  refine ZMv (Zk ?_)
  exact Ja rfl (Ze rfl) (Ze rfl) ⟨(-1),true,rfl,h,hC.below⟩ (.inl rfl)
 ·replace h:=Zj h (cf hb10)
  refine ZMr (Zd (sr (Za (v:=u0_0) rfl (Zu 0 ZMu rfl sc53.size rfl rfl (Z5 hC 0 (u1_0) rfl sc53 rfl rfl ?_)))))
  obtain ⟨⟨h10,h11⟩,h⟩:=h
  obtain ⟨Ad10,c10,hv10⟩:=Zw (hC.getP 0 rfl) 0 (show 0 < a1.terms.length by omega)
  refine Yo (len:=a1.terms.length) ZMx ag162.size (tr rfl hv10) rfl h10 h11 (Zew (0 * 9+0) ZM2 rfl ag136.size rfl rfl (Zak (ZMk .u8 ((a1.terms.getD 0 ZEx).mono)) (Jt (o:=0) (k:=8) (Ye (hC.getP 0 rfl) hv10 0 (show 0 < a1.terms.length by omega)) rfl) ag136 rfl rfl (Zf [u0_0,.agg (ZMl (ZMk .u8 ((a1.terms.getD 0 ZEx).mono)))] _ ZNs rfl rfl rfl (Zl0 a0 ((a1.terms.getD 0 ZEx).mono) h _ (hC.getP 1 rfl)) ?_)))
  rintro _ w10 ⟨r10,rfl,h,hB10⟩
  refine rt ?_
  replace hC:=hC.grow hB10
  refine Zc (v:=vI r10) rfl (dn (ZMn (sr (Zc (v:=vI 1) rfl (dn (ZMt ?_))))))
  refine X2 (S:=Int) _ (fun s10 e_ w_=>Zt e_ [(0,u0_0),(3,vQ b5),(6,vI r10),(7,vI s10)]∧Ctx Nox w0 w_ [blk b5 55 [u1_0]] [ZMm ZMo.ty.sl a1.terms [u1_0] fp1,ZMm TInts a0 [u0_0] fp0,ZMm TForm a1 [u1_0] fp1]) ?_ (s0:=1) ?_ h
  ·clear hC h
   rintro s10 e_ w11 nx10 K10 ⟨hS_,hC⟩ h hK10
   rw [ue hS_]
   refine ZMn (sr (Za (v:=vI s10) rfl (Zu 0 ZMu rfl sc53.size rfl rfl (Z5 hC 0 (u1_0) rfl sc53 rfl rfl (Zv hC 0 rfl ZMx rfl (Zn rfl rfl (dn ?_)))))))
   refine Zp rfl (fun hb11=>?_) (fun hb11=>?_)
   ·replace h:=ift h (ct hb11)
    refine ZMr (Zd (ZMn (ZMt (sr (Za (v:=u0_0) rfl (Zu 0 ZMu rfl sc53.size rfl rfl (Z5 hC 0 (u1_0) rfl sc53 rfl rfl (Za (v:=vI s10) rfl ?_))))))))
    obtain ⟨⟨h12,h13⟩,h⟩:=h
    obtain ⟨Ad11,c11,hv11⟩:=Zw (hC.getP 0 rfl) s10.toNat (show s10.toNat < a1.terms.length by omega)
    refine Yo (len:=a1.terms.length) ZMx ag162.size (tr rfl hv11) rfl h12 h13 (Zew (s10.toNat * 9+0) ZM2 rfl ag136.size rfl rfl (Zak (ZMk .u8 ((a1.terms.getD s10.toNat ZEx).mono)) (Jt (o:=0) (k:=8) (Ye (hC.getP 0 rfl) hv11 s10.toNat (show s10.toNat < a1.terms.length by omega)) rfl) ag136 rfl rfl (Zf [u0_0,.agg (ZMl (ZMk .u8 ((a1.terms.getD s10.toNat ZEx).mono)))] _ ZNs rfl rfl rfl (Zl0 a0 ((a1.terms.getD s10.toNat ZEx).mono) h _ (hC.getP 1 rfl)) ?_)))
    rintro _ w12 ⟨r11,rfl,h,hB11⟩
    refine rt ?_
    replace hC:=hC.grow hB11
    refine Za (v:=vI r10) rfl (Y2 rfl rfl (dn ?_))
    refine Zp rfl (fun hb12=>?_) (fun hb12=>?_)
    ·replace h:=ift h (ct hb12)
     refine sr (Zc (v:=vI 0) rfl (Zc (v:=.bool false) rfl (dn ?_)))
     refine ZMv (Z4 (Zk (Zk (Z4 (Zk ?_)))))
     exact Ja rfl (Ze rfl) (Ze rfl) ⟨0,false,rfl,h,hC.below⟩ (.inl rfl)
    ·replace h:=Zj h (cf hb12)
     refine ZMr (Zq (Zd (Zg (Za (v:=vI s10) rfl (Zo rfl rfl (Zc (v:=vI (ZHd.wrap (s10+1))) rfl (done ?_)))))))
     exact hK10 (ZHd.wrap (s10+1)) _ _ ⟨(slq rfl),hC⟩ h
   ·replace h:=Zj h (cf hb11)
    refine ZM1 (Zh (Zh (Zy ?_)))
    refine Zd (sr (Za (v:=vI r10) rfl (Zc (v:=vI r10) rfl (Zc (v:=.bool true) rfl (dn (ZMv ?_))))))
    exact Ja rfl (Ze rfl) (Ze rfl) ⟨r10,true,rfl,h,hC.below⟩ (.inl rfl)
  ·skip
   exact⟨(slq rfl),hC⟩
def Zde (a0:Alg) (a1:ZMp) (K:ZMp→Prop):Prop :=
 Xh (fun (s11:(List Term)×Int) nx12=>(if s11.2 < (a1.terms.length:Int) then((0≤s11.2∧s11.2 < (a1.terms.length:Int))∧Xh (fun (s10:(List Term)×Int) nx11=>(if s10.2 < (a0.degrees.length:Int) then((0≤s10.2∧s10.2 < 8)∧(if((a1.terms.getD s11.2.toNat ZEx).mono).get s10.2.toNat=0 then nx11 (s10.1,ZHd.wrap (s10.2+1)) else Yb (fun i10 (s12:A8×A8) nx10=>(if(i10:Int)≥s10.2 then(if(i10:Int)≤s10.2 then nx10 (s12.1.set i10 0,s12.2.set i10 0) else nx10 (s12.1.set i10 0,s12.2)) else(if(i10:Int)≤s10.2 then nx10 (s12.1,s12.2.set i10 0) else nx10 (s12.1,s12.2)))) (fun (s12:A8×A8)=>((0≤s10.2∧s10.2 < 8)∧((0≤s10.2∧s10.2 < 8)∧((0≤s11.2∧s11.2 < (a1.terms.length:Int))∧((0≤s10.2∧s10.2 < 8)∧Zdd a0.degrees s12.1 (fun r24=>(if ZFo r24 2≠0 then((0≤s10.2∧s10.2 < (a0.images.length:Int))∧Ju (s12.1.set s10.2.toNat (ZMz.wrap ((((a1.terms.getD s11.2.toNat ZEx).mono).get s10.2.toNat) - 1))) 1 (fun r16=>J8 a0.degrees r16 (a0.images.getD s10.2.toNat ZEx) (fun r18=>Ju s12.2 1 (fun r10=>J8 a0.degrees r18 r10 (fun r11=>Xz (ZHd.wrap (0 - (ZHd.wrap (((a1.terms.getD s11.2.toNat ZEx).factor) * (ZHd.wrap (((a1.terms.getD s11.2.toNat ZEx).mono).get s10.2.toNat)))))) (fun r19=>Za2 (⟨s10.1⟩:ZMp) r11 r19 (fun r12=>nx11 (r12.terms,ZHd.wrap (s10.2+1))))))))) else((0≤s10.2∧s10.2 < (a0.images.length:Int))∧Ju (s12.1.set s10.2.toNat (ZMz.wrap ((((a1.terms.getD s11.2.toNat ZEx).mono).get s10.2.toNat) - 1))) 1 (fun r17=>J8 a0.degrees r17 (a0.images.getD s10.2.toNat ZEx) (fun r20=>Ju s12.2 1 (fun r13=>J8 a0.degrees r20 r13 (fun r14=>Xz (ZHd.wrap (((a1.terms.getD s11.2.toNat ZEx).factor) * (ZHd.wrap (((a1.terms.getD s11.2.toNat ZEx).mono).get s10.2.toNat)))) (fun r21=>Za2 (⟨s10.1⟩:ZMp) r14 r21 (fun r15=>nx11 (r15.terms,ZHd.wrap (s10.2+1)))))))))))))))) 8 0 ((a1.terms.getD s11.2.toNat ZEx).mono,(a1.terms.getD s11.2.toNat ZEx).mono))) else nx12 (s10.1,ZHd.wrap (s11.2+1)))) (s11.1,0)) else K (⟨s11.1⟩:ZMp))) ([],0)
theorem Zpm (a0 : Alg) (a1 : ZMp)  {K : ZMp → Prop} (h : Zde a0 a1 K) (w0 : World) (q0 : TAlg.rep a0 [u0_0, u0_1] fp0 w0) (q1 : ZM9.rep a1 [u1_0] fp1 w0) :
  Calls ZMq 71 #[.agg #[u0_0,u0_1],.agg #[u1_0]] w0 fun e w'=>∃ (r0:ZMp) (z0_0:Value) (fz0:List Nat),
   e=.returned (.agg #[z0_0])∧K r0∧(ZM4 (Yt 162) r0 [z0_0] fz0).holds w'∧(∀ b,b∈fz0→w0.heap.size≤b)∧Bel w0 w':=by
 unfold Zde at h
 refine cof Tryz.func71 rfl 103 Tryz.ntmps71 ?_
 have hC:=ZM8 (X:=Nox) w0 [ZMm TAlg a0 [u0_0,u0_1] fp0,ZMm TForm a1 [u1_0] fp1] (alc q0 (al1 q1))
 replace hC:=hC.dAlg 0 rfl
 have hp5:=(hC.getP 3 rfl)
 replace hC:=hC.derive 3 rfl (ZMm ZMo.ty.sl a1.terms [u1_0] fp1) (fun _=>(Xi hp5)) (fun _ hb_=>hb_)
 refine sr (Yg (v:=.agg #[u0_0,u0_1]) hC [u0_0,u0_1] rfl rfl fun b7 w9 hB_ hC=>Yg (v:=.agg #[u1_0]) hC [u1_0] rfl rfl fun b10 w11 hB_ hC=>Yk hC [.slice none 0 0] z55 rfl fun b11 w12 hB_ hC=>dn (sr (J6 [] rfl (Zgj   _) (Yk hC [.slice none 0 0] z55 rfl fun b12 w13 hB_ hC=>Zx (v:=.agg #[.slice none 0 0]) hC 0 [.slice none 0 0] [.slice none 0 0] rfl ag55.size rfl rfl rfl rfl rfl (ZMw rfl) rfl fun w14 hC=>dn (ZMn (sr (Zc (v:=vI 0) rfl (dn (ZMt ?_)))))))))
 refine X2 (S:=(List Term)×Int) _ (fun s11 e_ w_=>∃ (v11:Value),Zt e_ [(2,vQ b7),(3,vQ b10),(4,vQ b11),(5,vQ b12),(6,vI s11.2)]∧Ctx Nox w0 w_ [own 162 9 v11 s11.1.length (ZMo.encs s11.1),blk b12 55 [v11],blk b11 55 [.slice none 0 0],blk b10 55 [u1_0],blk b7 32 [u0_0,u0_1]] [ZMm ZMo.ty.sl a1.terms [u1_0] fp1,ZMm ZM9.sl a0.images [u0_1] fp0,ZMm TInts a0.degrees [u0_0] fp0,ZMm TAlg a0 [u0_0,u0_1] fp0,ZMm TForm a1 [u1_0] fp1]) ?_ (s0:=([],0)) ?_ h
 ·clear hC h
  rintro s11 e_ w15 nx12 K11 ⟨v11,hS_,hC⟩ h hK12
  rw [ue hS_]
  refine ZMn (sr (Za (v:=vI s11.2) rfl (Zu 0 ZMu rfl sc53.size rfl rfl (Z5 hC 3 (u1_0) rfl sc53 rfl rfl (Zv hC 0 rfl ZMx rfl (Zn rfl rfl (dn ?_)))))))
  refine Zp rfl (fun hb10=>?_) (fun hb10=>?_)
  ·replace h := ift h (ct hb10)
   refine ZMr (Zd (ZMn (ZMt (sr (Zu 0 ZMu rfl sc53.size rfl rfl (Z5 hC 3 (u1_0) rfl sc53 rfl rfl (Za (v:=vI s11.2) rfl ?_)))))))
   obtain ⟨⟨h10,h11⟩,h⟩:=h
   obtain ⟨Ad13,c10,hv10⟩:=Zw (hC.getP 0 rfl) s11.2.toNat (show s11.2.toNat < a1.terms.length by omega)
   refine Yo (len:=a1.terms.length) ZMx ag162.size (tr rfl hv10) rfl h10 h11 (Zew (s11.2.toNat * 9+0) ZM2 rfl ag136.size rfl rfl (Zak (ZMk .u8 ((a1.terms.getD s11.2.toNat ZEx).mono)) (Jt (o:=0) (k:=8) (Ye (hC.getP 0 rfl) hv10 s11.2.toNat (show s11.2.toNat < a1.terms.length by omega)) rfl) ag136 rfl rfl (Yk hC (ZMk .u8 ZMs) Zbb rfl fun b13 w16 hB_ hC=>Zx (v:=.agg (ZMl (ZMk .u8 ((a1.terms.getD s11.2.toNat ZEx).mono)))) hC 0 (ZMk .u8 ((a1.terms.getD s11.2.toNat ZEx).mono)) (ZMk .u8 ((a1.terms.getD s11.2.toNat ZEx).mono)) rfl ag136.size rfl rfl rfl rfl rfl (ZMw rfl) rfl fun w17 hC=>dn (sr (Zc (v:=vI 0) rfl (dn (ZMt ?_)))))))
   refine X2 (S:=(List Term)×Int) _ (fun s10 e_ w_=>∃ (v10:Value),Zt e_ [(2,vQ b7),(3,vQ b10),(4,vQ b11),(5,vQ b12),(6,vI s11.2),(7,vQ b13),(8,vI s10.2)]∧Ctx Nox w0 w_ [own 162 9 v10 s10.1.length (ZMo.encs s10.1),blk b13 136 (ZMk .u8 ((a1.terms.getD s11.2.toNat ZEx).mono)),blk b12 55 [v10],blk b11 55 [.slice none 0 0],blk b10 55 [u1_0],blk b7 32 [u0_0,u0_1]] [ZMm ZMo.ty.sl a1.terms [u1_0] fp1,ZMm ZM9.sl a0.images [u0_1] fp0,ZMm TInts a0.degrees [u0_0] fp0,ZMm TAlg a0 [u0_0,u0_1] fp0,ZMm TForm a1 [u1_0] fp1]) ?_ (s0:=(s11.1,0)) ?_ h
   ·clear hC h
    rintro s10 e_ w18 nx11 K12 ⟨v10,hS_,hC⟩ h hK11
    rw [ue hS_]
    refine ZMn (sr (Za (v:=vI s10.2) rfl (Zu 0 ZM7 rfl sc22.size rfl rfl (Z5 hC 5 (u0_0) rfl sc22 rfl rfl (Zv hC 2 rfl ZM6 rfl (Zn rfl rfl (dn ?_)))))))
    refine Zp rfl (fun hb11=>?_) (fun hb11=>?_)
    ·replace h:=ift h (ct hb11)
     refine ZMr (Zd (ZMn (ZMt (ZMn (sr (Za (v:=vI s10.2) rfl ?_))))))
     obtain ⟨⟨h12,h13⟩,h⟩:=h
     refine Xm s10.2.toNat ZM5 sc5.size rfl rfl h12 h13 (by omega) (Z5 hC 1 (.int .u8 (((a1.terms.getD s11.2.toNat ZEx).mono).get s10.2.toNat)) rfl sc5 rfl (ZM0 _ _ (show s10.2.toNat < 8 by omega)) (Jg rfl rfl (dn ?_)))
     refine Zp rfl (fun hb12=>?_) (fun hb12=>?_)
     ·replace h:=ift h (ct hb12)
      refine ZM1 (Zh (Zy ?_))
      refine Zd (Zg (Za (v:=vI s10.2) rfl (Zo rfl rfl (Zc (v:=vI (ZHd.wrap (s10.2+1))) rfl (done ?_)))))
      exact hK11 (s10.1,ZHd.wrap (s10.2+1)) _ _ ⟨v10,(slq rfl),hC⟩ h
     ·replace h:=Zj h (cf hb12)
      refine ZMr (Zd (ZMn ?_))
      refine Zlu 5 Yi [0,0,0,0,13,31] [0,1] [] (fun hM18 hM21 w10 hB_=>?_)
      replace hC:=hC.grow hB_
      have hN_:w10.heap.size≤w10.heap.size:=Nat.le_refl _
      refine Zag (Yv _) 0 (.agg (ZMl (ZMk .u8 ((a1.terms.getD s11.2.toNat ZEx).mono)))) rfl rfl (by kernel_rfl) (hM18 0 rfl) (fun w_ hB_=>.inl ⟨rfl,by exact Xf (hC.grow (Zb6 hB_)) 1 (ZMk .u8 ((a1.terms.getD s11.2.toNat ZEx).mono)) rfl ag136 rfl rfl rfl⟩) (l9:=(Zb 6 1)) (by kernel_rfl) (Zag (Yv _) 1 (.agg (ZMl (ZMk .u8 ((a1.terms.getD s11.2.toNat ZEx).mono)))) rfl rfl (by kernel_rfl) (hM18 1 rfl) (fun w_ hB_=>.inl ⟨rfl,by exact Xf (hC.grow (Zb6 hB_)) 1 (ZMk .u8 ((a1.terms.getD s11.2.toNat ZEx).mono)) rfl ag136 rfl rfl rfl⟩) (l9:=(Zb 6 3)) (by kernel_rfl) ?_)
      refine Zdw (fun e_ w_=>∃ (b14:Nat),∃ (b15:Nat),Zt e_ [(2,vQ b7),(3,vQ b10),(4,vQ b11),(5,vQ b12),(6,vI s11.2),(7,vQ b13),(8,vI s10.2),(9,vQ b15),(10,vQ b14)]∧Ctx Nox w0 w_ [blk b14 136 (ZMk .u8 ((a1.terms.getD s11.2.toNat ZEx).mono)),blk b15 136 (ZMk .u8 ((a1.terms.getD s11.2.toNat ZEx).mono)),own 162 9 v10 s10.1.length (ZMo.encs s10.1),blk b13 136 (ZMk .u8 ((a1.terms.getD s11.2.toNat ZEx).mono)),blk b12 55 [v10],blk b11 55 [.slice none 0 0],blk b10 55 [u1_0],blk b7 32 [u0_0,u0_1]] [ZMm ZMo.ty.sl a1.terms [u1_0] fp1,ZMm ZM9.sl a0.images [u0_1] fp0,ZMm TInts a0.degrees [u0_0] fp0,ZMm TAlg a0 [u0_0,u0_1] fp0,ZMm TForm a1 [u1_0] fp1]∧(Yb (fun i10 (s12:A8×A8) nx10=>(if(i10:Int)≥s10.2 then(if(i10:Int)≤s10.2 then nx10 (s12.1.set i10 0,s12.2.set i10 0) else nx10 (s12.1.set i10 0,s12.2)) else(if(i10:Int)≤s10.2 then nx10 (s12.1,s12.2.set i10 0) else nx10 (s12.1,s12.2)))) (fun (s12:A8×A8)=>((0≤s10.2∧s10.2 < 8)∧((0≤s10.2∧s10.2 < 8)∧((0≤s11.2∧s11.2 < (a1.terms.length:Int))∧((0≤s10.2∧s10.2 < 8)∧Zdd a0.degrees s12.1 (fun r24=>(if ZFo r24 2≠0 then((0≤s10.2∧s10.2 < (a0.images.length:Int))∧Ju (s12.1.set s10.2.toNat (ZMz.wrap ((((a1.terms.getD s11.2.toNat ZEx).mono).get s10.2.toNat) - 1))) 1 (fun r16=>J8 a0.degrees r16 (a0.images.getD s10.2.toNat ZEx) (fun r18=>Ju s12.2 1 (fun r10=>J8 a0.degrees r18 r10 (fun r11=>Xz (ZHd.wrap (0 - (ZHd.wrap (((a1.terms.getD s11.2.toNat ZEx).factor) * (ZHd.wrap (((a1.terms.getD s11.2.toNat ZEx).mono).get s10.2.toNat)))))) (fun r19=>Za2 (⟨s10.1⟩:ZMp) r11 r19 (fun r12=>nx11 (r12.terms,ZHd.wrap (s10.2+1))))))))) else((0≤s10.2∧s10.2 < (a0.images.length:Int))∧Ju (s12.1.set s10.2.toNat (ZMz.wrap ((((a1.terms.getD s11.2.toNat ZEx).mono).get s10.2.toNat) - 1))) 1 (fun r17=>J8 a0.degrees r17 (a0.images.getD s10.2.toNat ZEx) (fun r20=>Ju s12.2 1 (fun r13=>J8 a0.degrees r20 r13 (fun r14=>Xz (ZHd.wrap (((a1.terms.getD s11.2.toNat ZEx).factor) * (ZHd.wrap (((a1.terms.getD s11.2.toNat ZEx).mono).get s10.2.toNat)))) (fun r21=>Za2 (⟨s10.1⟩:ZMp) r14 r21 (fun r15=>nx11 (r15.terms,ZHd.wrap (s10.2+1)))))))))))))))) 8 0 ((a1.terms.getD s11.2.toNat ZEx).mono,(a1.terms.getD s11.2.toNat ZEx).mono))) ?_ ?_
      ·clear hC h
       rintro e_ w19 ⟨b14,b15,hS_,hC,h⟩
       rw [ue hS_]
       refine Zd (ZMn (sr (Zc (v:=vI 0) rfl (dn (ZMt ?_)))))
       refine Yn (S:=A8×A8) _ _ (fun i10 s12 e_ w_=>Zt e_ [(2,vQ b7),(3,vQ b10),(4,vQ b11),(5,vQ b12),(6,vI s11.2),(7,vQ b13),(8,vI s10.2),(9,vQ b15),(10,vQ b14),(11,vI (i10:Int))]∧Ctx Nox w0 w_ [blk b14 136 (ZMk .u8 s12.2),blk b15 136 (ZMk .u8 s12.1),own 162 9 v10 s10.1.length (ZMo.encs s10.1),blk b13 136 (ZMk .u8 ((a1.terms.getD s11.2.toNat ZEx).mono)),blk b12 55 [v10],blk b11 55 [.slice none 0 0],blk b10 55 [u1_0],blk b7 32 [u0_0,u0_1]] [ZMm ZMo.ty.sl a1.terms [u1_0] fp1,ZMm ZM9.sl a0.images [u0_1] fp0,ZMm TInts a0.degrees [u0_0] fp0,ZMm TAlg a0 [u0_0,u0_1] fp0,ZMm TForm a1 [u1_0] fp1]) 8 ?_ ?_ (s0:=((a1.terms.getD s11.2.toNat ZEx).mono,(a1.terms.getD s11.2.toNat ZEx).mono)) ?_ h
       ·clear hC h
        rintro i10 s12 e_ w20 nx10 K10 hi10 ⟨hS_,hC⟩ h hK10
        rw [ue hS_]
        refine ZMn (sr (Za (v:=vI (i10:Int)) rfl (Zn rfl rfl (dn (Yc rfl (decide_eq_true (by omega)) (ZMr (Zd (ZMn (ZMt (ZMn (sr (Za (v:=vI (i10:Int)) rfl (Za (v:=vI s10.2) rfl (Zay rfl rfl (dn ?_)))))))))))))))
        refine Zp rfl (fun hb13=>?_) (fun hb13=>?_)
        ·replace h:=ift h (ct hb13)
         refine Zg (Za (v:=vI (i10:Int)) rfl (Xm i10 ZM5 sc5.size rfl rfl (ZM3 _) (by omega) (by omega) (Zx (v:=.int .u8 0) hC 1 [.int .u8 0] (ZMk .u8 (s12.1.set i10 0)) rfl sc5.size rfl rfl rfl rfl rfl hi10 (ZNh _ _ _ hi10) fun w21 hC=>dn (sr (Za (v:=vI (i10:Int)) rfl (Za (v:=vI s10.2) rfl (Zbt rfl rfl (dn ?_))))))))
         refine Zp rfl (fun hb14=>?_) (fun hb14=>?_)
         ·replace h:=ift h (ct hb14)
          refine Zg (Za (v:=vI (i10:Int)) rfl (Xm i10 ZM5 sc5.size rfl rfl (ZM3 _) (by omega) (by omega) (Zx (v:=.int .u8 0) hC 0 [.int .u8 0] (ZMk .u8 (s12.2.set i10 0)) rfl sc5.size rfl rfl rfl rfl rfl hi10 (ZNh _ _ _ hi10) fun w22 hC=>done (Zq (Zd (Zg (Za (v:=vI (i10:Int)) rfl (Zo rfl rfl (Zc (v:=vI (ZHd.wrap ((i10:Int)+1))) rfl (done ?_))))))))))
          exact hK10 (s12.1.set i10 0,s12.2.set i10 0) _ _ ⟨(sl ⟨rfl,rfl,rfl,rfl,rfl,rfl,rfl,rfl,rfl,(tr rfl (congrArg _ (Z6 hi10 (by decide)))),trivial⟩),hC⟩ h
         ·replace h:=Zj h (cf hb14)
          refine ZMr (Zq (Zd (Zg (Za (v:=vI (i10:Int)) rfl (Zo rfl rfl (Zc (v:=vI (ZHd.wrap ((i10:Int)+1))) rfl (done ?_)))))))
          exact hK10 (s12.1.set i10 0,s12.2) _ _ ⟨(sl ⟨rfl,rfl,rfl,rfl,rfl,rfl,rfl,rfl,rfl,(tr rfl (congrArg _ (Z6 hi10 (by decide)))),trivial⟩),hC⟩ h
        ·replace h:=Zj h (cf hb13)
         refine ZMr (Zd (sr (Za (v:=vI (i10:Int)) rfl (Za (v:=vI s10.2) rfl (Zbt rfl rfl (dn ?_))))))
         refine Zp rfl (fun hb15=>?_) (fun hb15=>?_)
         ·replace h:=ift h (ct hb15)
          refine Zg (Za (v:=vI (i10:Int)) rfl (Xm i10 ZM5 sc5.size rfl rfl (ZM3 _) (by omega) (by omega) (Zx (v:=.int .u8 0) hC 0 [.int .u8 0] (ZMk .u8 (s12.2.set i10 0)) rfl sc5.size rfl rfl rfl rfl rfl hi10 (ZNh _ _ _ hi10) fun w23 hC=>done (Zq (Zd (Zg (Za (v:=vI (i10:Int)) rfl (Zo rfl rfl (Zc (v:=vI (ZHd.wrap ((i10:Int)+1))) rfl (done ?_))))))))))
          exact hK10 (s12.1,s12.2.set i10 0) _ _ ⟨(sl ⟨rfl,rfl,rfl,rfl,rfl,rfl,rfl,rfl,rfl,(tr rfl (congrArg _ (Z6 hi10 (by decide)))),trivial⟩),hC⟩ h
         ·replace h:=Zj h (cf hb15)
          refine ZMr (Zq (Zd (Zg (Za (v:=vI (i10:Int)) rfl (Zo rfl rfl (Zc (v:=vI (ZHd.wrap ((i10:Int)+1))) rfl (done ?_)))))))
          exact hK10 (s12.1,s12.2) _ _ ⟨(sl ⟨rfl,rfl,rfl,rfl,rfl,rfl,rfl,rfl,rfl,(tr rfl (congrArg _ (Z6 hi10 (by decide)))),trivial⟩),hC⟩ h
       ·clear hC h
        rintro s12 e_ w24 K10 ⟨hS_,hC⟩ h
        rw [ue hS_]
        refine ZMn (sr (Za (v:=vI 8) rfl (Zn rfl rfl (dn (Z2 rfl (decide_eq_false (by omega)) ?_)))))
        refine ZM1 (Zh (Zh (Zy ?_)))
        refine Zd (sr (Yp hC 1 (ZMk .u8 s12.1) rfl ag136 rfl rfl rfl (Yk hC (ZMk .u8 ZMs) Zbb rfl fun b28 w25 hB_ hC=>Zx (v:=.agg (ZMl (ZMk .u8 s12.1))) hC 0 (ZMk .u8 s12.1) (ZMk .u8 s12.1) rfl ag136.size rfl rfl rfl rfl rfl (ZMw rfl) rfl fun w26 hC=>dn (sr (Za (v:=vI s10.2) rfl (Za (v:=vI s10.2) rfl ?_))))))
        obtain ⟨⟨h14,h15⟩,h⟩:=h
        refine Xm s10.2.toNat ZM5 sc5.size rfl rfl h14 h15 (by omega) (Z5 hC 4 (.int .u8 (((a1.terms.getD s11.2.toNat ZEx).mono).get s10.2.toNat)) rfl sc5 rfl (ZM0 _ _ (show s10.2.toNat < 8 by omega)) (Jx rfl rfl ?_))
        obtain ⟨⟨h16,h17⟩,h⟩:=h
        refine Xm s10.2.toNat ZM5 sc5.size rfl rfl h16 h17 (by omega) (Zx (v:=.int .u8 (ZMz.wrap ((((a1.terms.getD s11.2.toNat ZEx).mono).get s10.2.toNat) - 1))) hC 0 [.int .u8 (ZMz.wrap ((((a1.terms.getD s11.2.toNat ZEx).mono).get s10.2.toNat) - 1))] (ZMk .u8 (s12.1.set s10.2.toNat (ZMz.wrap ((((a1.terms.getD s11.2.toNat ZEx).mono).get s10.2.toNat) - 1)))) rfl sc5.size rfl rfl rfl rfl rfl (show s10.2.toNat < 8 by omega) (ZNh _ _ _ (show s10.2.toNat < 8 by omega)) fun w27 hC=>dn (ZMn ?_))
        refine cwd 10 Yi [0,1,0,7,15,31,0,64,192,448,1023,2047] [1,3,5,7,8] [0,2,4,6,9] (fun hM10 hM11 w28 hB_=>?_)
        replace hC:=hC.grow hB_
        refine bF 0 (vQ b10) rfl rfl hM11 (fun _=>by exact Yf 0 ZMu rfl sc53.size rfl rfl) (Zb 12 1) (bL 1 (u1_0) rfl rfl hM10 (fun _ hB_=>by exact Ya (hC.grow hB_) 7 (u1_0) rfl sc53 rfl rfl) (Zb 12 3) (bM 2 (vI s11.2) rfl hM11 (Zb 12 7) ?_))
        obtain ⟨⟨h18,h19⟩,h⟩:=h
        obtain ⟨Ad10,c11,hv11⟩:=Zw (hC.getP 0 rfl) s11.2.toNat (show s11.2.toNat < a1.terms.length by omega)
        refine bL 3 (.pointer (some (Ad10.add (s11.2.toNat * 9)))) rfl rfl hM10 (fun _ hB_=>by exact Yq (len:=a1.terms.length) ZMx ag162.size (by exact tr rfl hv11) rfl h18 h19) (Zb 12 15) (bF 4 (.pointer (some (Ad10.add (s11.2.toNat * 9+8)))) rfl rfl hM11 (fun _=>by exact Zao (s11.2.toNat * 9+8) ZM2 rfl sc2.size rfl rfl) (Zb 12 31) (bL 5 (vI ((a1.terms.getD s11.2.toNat ZEx).factor)) rfl rfl hM10 (fun _ hB_=>by exact Y7 (vI ((a1.terms.getD s11.2.toNat ZEx).factor)) (Jt (o:=8) (k:=1) (Ye ((hC.grow hB_).getP 0 rfl) hv11 s11.2.toNat (show s11.2.toNat < a1.terms.length by omega)) rfl) sc2 rfl) (Zb 12 63) (bM 6 (vI s10.2) rfl hM11 (Zb 12 127) ?_)))
        obtain ⟨⟨h20,h21⟩,h⟩:=h
        refine bL 7 (.pointer (some ⟨b13,s10.2.toNat,none⟩)) rfl rfl hM10 (fun _ hB_=>by exact J5 s10.2.toNat ZM5 sc5.size rfl rfl h20 h21 (by omega)) (Zb 12 255) (bL 8 (.int .u8 (((a1.terms.getD s11.2.toNat ZEx).mono).get s10.2.toNat)) rfl rfl hM10 (fun _ hB_=>by exact Ya (hC.grow hB_) 4 (.int .u8 (((a1.terms.getD s11.2.toNat ZEx).mono).get s10.2.toNat)) rfl sc5 rfl (ZM0 _ _ (show s10.2.toNat < 8 by omega))) (Zb 12 511) (bF 9 (vI (ZHd.wrap (((a1.terms.getD s11.2.toNat ZEx).mono).get s10.2.toNat))) rfl rfl hM11 (fun _=>by exact Zol ZNn ZNt rfl) (Zb 12 1023) (Zz 10 (by decide) (by decide) (by kernel_rfl) (by kernel_rfl) rfl (Js rfl rfl (Zc (v:=vI (ZHd.wrap (((a1.terms.getD s11.2.toNat ZEx).factor) * (ZHd.wrap (((a1.terms.getD s11.2.toNat ZEx).mono).get s10.2.toNat))))) rfl (done (Z0 (Zd (ZMn (sr (Zu 0 ZM7 rfl sc22.size rfl rfl (Z5 hC 8 (u0_0) rfl sc22 rfl rfl (Yp hC 2 (ZMk .u8 s12.1) rfl ag136 rfl rfl rfl (Zf [u0_0,.agg (ZMl (ZMk .u8 s12.1))] _ ZNs rfl rfl rfl (Zl0 a0.degrees s12.1 h _ (hC.getP 2 rfl)) ?_))))))))))))))
        rintro _ w29 ⟨r24,rfl,h,hB10⟩
        refine rt ?_
        replace hC:=hC.grow hB10
        refine Xr rfl rfl (by decide) (Y2 rfl rfl (dn ?_))
        refine Zp rfl (fun hb16=>?_) (fun hb16=>?_)
        ·replace h:=ift h (ct hb16)
         refine Zg (Za (v:=vI (ZHd.wrap (((a1.terms.getD s11.2.toNat ZEx).factor) * (ZHd.wrap (((a1.terms.getD s11.2.toNat ZEx).mono).get s10.2.toNat))))) rfl (Zf4 rfl (Zc (v:=vI (ZHd.wrap (0 - (ZHd.wrap (((a1.terms.getD s11.2.toNat ZEx).factor) * (ZHd.wrap (((a1.terms.getD s11.2.toNat ZEx).mono).get s10.2.toNat))))))) rfl (dn (ZMn ?_)))))
         refine cwd 11 Yi [0,1,0,4,0,16,0,112,240,511,0,2047] [1,2,5,7,8] [0,4,6] (fun hM12 hM16 w30 hB_=>?_)
         replace hC:=hC.grow hB_
         refine bF 0 (vQ b7) rfl rfl hM16 (fun _=>by exact Yf 0 ZM7 rfl sc22.size rfl rfl) (Zb 12 1) (bL 1 (u0_0) rfl rfl hM12 (fun _ hB_=>by exact Ya (hC.grow hB_) 8 (u0_0) rfl sc22 rfl rfl) (Zb 12 3) (bL 2 (.agg (ZMl (ZMk .u8 (s12.1.set s10.2.toNat (ZMz.wrap ((((a1.terms.getD s11.2.toNat ZEx).mono).get s10.2.toNat) - 1)))))) rfl rfl hM12 (fun _ hB_=>by exact Xf (hC.grow hB_) 0 (ZMk .u8 (s12.1.set s10.2.toNat (ZMz.wrap ((((a1.terms.getD s11.2.toNat ZEx).mono).get s10.2.toNat) - 1)))) rfl ag136 rfl rfl rfl) (Zb 12 7) (bF 4 (.pointer (some ⟨b7,1,none⟩)) rfl rfl hM16 (fun _=>by exact Yf 1 ZM7 rfl sc30.size rfl rfl) (Zb 12 23) (bL 5 (u0_1) rfl rfl hM12 (fun _ hB_=>by exact Ya (hC.grow hB_) 8 (u0_1) rfl sc30 rfl rfl) (Zb 12 55) (bM 6 (vI s10.2) rfl hM16 (Zb 12 119) ?_)))))
         obtain ⟨⟨h22,h23⟩,h⟩:=h
         obtain ⟨Ad11,c12,hv12⟩:=Zw (hC.getP 1 rfl) s10.2.toNat (show s10.2.toNat < a0.images.length by omega)
         refine bL 7 (.pointer (some (Ad11.add (s10.2.toNat * 1)))) rfl rfl hM12 (fun _ hB_=>by exact Yq (len:=a0.images.length) ZNb ag55.size (by exact tr rfl hv12) rfl h22 h23) (Zb 12 247) ?_
         obtain ⟨cs_,hl10,hc10,hr10⟩:=Xj (hC.getP 1 rfl) hv12 s10.2.toNat (show s10.2.toNat < a0.images.length by omega)
         obtain ⟨u10,rfl⟩:=ZNj.1 hl10
         clear hl10
         rw [Xl _ _ (show s10.2.toNat < a0.images.length by omega)] at hr10
         have hp10:=hr10
         replace hC:=hC.derive 1 rfl (ZMm ZMo.ty.sl ((a0.images.getD s10.2.toNat ZEx).terms) [u10] fp0) (fun _=>(Xi hp10)) (fun _ hb_=>hb_)
         refine bL 8 (.agg #[u10]) rfl rfl hM12 (fun _ hB_=>by exact Ji [u10] (Zaq hB_ hc10) ag55 rfl rfl) (Zb 12 503) ?_
         refine Zdw (fun e_ w_=>∃ (b16:Nat),∃ (u12:Value),∃ (r22:ZMp),Zt e_ [(2,vQ b7),(3,vQ b10),(4,vQ b11),(5,vQ b12),(6,vI s11.2),(7,vQ b13),(8,vI s10.2),(10,vQ b14),(13,vI (ZHd.wrap (0 - (ZHd.wrap (((a1.terms.getD s11.2.toNat ZEx).factor) * (ZHd.wrap (((a1.terms.getD s11.2.toNat ZEx).mono).get s10.2.toNat))))))),(14,vQ b16)]∧Ctx Nox w0 w_ [blk b16 55 [u12],own 162 9 u12 r22.terms.length (ZMo.encs r22.terms),blk b14 136 (ZMk .u8 s12.2),own 162 9 v10 s10.1.length (ZMo.encs s10.1),blk b13 136 (ZMk .u8 ((a1.terms.getD s11.2.toNat ZEx).mono)),blk b12 55 [v10],blk b11 55 [.slice none 0 0],blk b10 55 [u1_0],blk b7 32 [u0_0,u0_1]] [ZMm ZMo.ty.sl ((a0.images.getD s10.2.toNat ZEx).terms) [u10] fp0,ZMm ZMo.ty.sl a1.terms [u1_0] fp1,ZMm ZM9.sl a0.images [u0_1] fp0,ZMm TInts a0.degrees [u0_0] fp0,ZMm TAlg a0 [u0_0,u0_1] fp0,ZMm TForm a1 [u1_0] fp1]∧(Ju s12.2 1 (fun r10=>J8 a0.degrees r22 r10 (fun r11=>Xz (ZHd.wrap (0 - (ZHd.wrap (((a1.terms.getD s11.2.toNat ZEx).factor) * (ZHd.wrap (((a1.terms.getD s11.2.toNat ZEx).mono).get s10.2.toNat)))))) (fun r19=>Za2 (⟨s10.1⟩:ZMp) r11 r19 (fun r12=>nx11 (r12.terms,ZHd.wrap (s10.2+1)))))))) ?_ ?_
         ·clear hC h
          rintro e_ w31 ⟨b16,u12,r22,hS_,hC,h⟩
          rw [ue hS_]
          refine Zd ?_
          refine cwd 9 Yi [0,0,2,0,0,16,62,0,254,511,1023] [0,2,3,4] [1,7] (fun hM14 hM19 w32 hB_=>?_)
          replace hC:=hC.grow hB_
          refine bL 0 (.agg #[v10]) rfl rfl hM14 (fun _ hB_=>by exact Xf (hC.grow hB_) 5 [v10] rfl ag55 rfl rfl rfl) (Zb 11 1) (bF 1 (vQ b7) rfl rfl hM19 (fun _=>by exact Yf 0 ZM7 rfl sc22.size rfl rfl) (Zb 11 3) (bL 2 (u0_0) rfl rfl hM14 (fun _ hB_=>by exact Ya (hC.grow hB_) 8 (u0_0) rfl sc22 rfl rfl) (Zb 11 7) (bL 3 (.agg #[u12]) rfl rfl hM14 (fun _ hB_=>by exact Xf (hC.grow hB_) 0 [u12] rfl ag55 rfl rfl rfl) (Zb 11 15) (bL 4 (.agg (ZMl (ZMk .u8 s12.2))) rfl rfl hM14 (fun _ hB_=>by exact Xf (hC.grow hB_) 2 (ZMk .u8 s12.2) rfl ag136 rfl rfl rfl) (Zb 11 31) (bM 7 (vI (ZHd.wrap (0 - (ZHd.wrap (((a1.terms.getD s11.2.toNat ZEx).factor) * (ZHd.wrap (((a1.terms.getD s11.2.toNat ZEx).mono).get s10.2.toNat))))))) rfl hM19 (Zb 11 159) (aO 5 rfl (Zf [.agg (ZMl (ZMk .u8 s12.2)),vI 1] _ ZNg rfl rfl rfl (Zd4 s12.2 1 h _) ?_)))))))
          rintro _ w33 ⟨r10,u24,f10,rfl,h,hr12,hf10,hB11⟩
          refine rt ?_
          replace hC:=hC.push hB11 (ZM4 (Yt 162) r10 [u24] f10) hr12 hf10
          obtain ⟨ho10,hf11⟩:=Jk (hC.getM 0 rfl)
          subst hf11
          replace hC:=hC.recast (c:=own 162 9 u24 r10.terms.length (ZMo.encs r10.terms)) (fun _ h_=>h_) (fun _=>ho10)
          refine done (aK (by assumption) (Zb 11 191) (aO 6 rfl (Zf [u0_0,.agg #[u12],.agg #[u24]] _ ZNe rfl rfl rfl (Zdc a0.degrees r22 r10 h _ (hC.getP 3 rfl) (Yy (Y3 (hC.getM 2 rfl))) (Yy (Y3 (hC.getM 0 rfl)))) ?_)))
          rintro _ w34 ⟨r11,u25,f11,rfl,h,hr13,hf12,hB12⟩
          refine rt ?_
          replace hC:=hC.push hB12 (ZM4 (Yt 162) r11 [u25] f11) hr13 hf12
          obtain ⟨ho11,hf13⟩:=Jk (hC.getM 0 rfl)
          subst hf13
          replace hC:=hC.recast (c:=own 162 9 u25 r11.terms.length (ZMo.encs r11.terms)) (fun _ h_=>h_) (fun _=>ho11)
          refine done (aK (by assumption) (Zb 11 255) (aO 8 rfl (Zf [vI (ZHd.wrap (0 - (ZHd.wrap (((a1.terms.getD s11.2.toNat ZEx).factor) * (ZHd.wrap (((a1.terms.getD s11.2.toNat ZEx).mono).get s10.2.toNat))))))] _ ZNd rfl rfl rfl (Zbc (ZHd.wrap (0 - (ZHd.wrap (((a1.terms.getD s11.2.toNat ZEx).factor) * (ZHd.wrap (((a1.terms.getD s11.2.toNat ZEx).mono).get s10.2.toNat)))))) h _) ?_)))
          rintro _ w35 ⟨r19,rfl,h,hB13⟩
          refine rt ?_
          replace hC:=hC.grow hB13
          refine done (aK (by assumption) (Zb 11 511) (Zz 9 (by decide) (by decide) (by kernel_rfl) (by kernel_rfl) rfl (Zf [.agg #[v10],.agg #[u25],vI r19] _ ZNp rfl rfl rfl (Zlz (⟨s10.1⟩:ZMp) r11 r19 h _ (Yy (Y3 (hC.getM 5 rfl))) (Yy (Y3 (hC.getM 0 rfl)))) ?_)))
          rintro _ w36 ⟨r12,u13,f12,rfl,h,hr14,hf14,hB14⟩
          refine rt ?_
          replace hC:=hC.push hB14 (ZM4 (Yt 162) r12 [u13] f12) hr14 hf14
          obtain ⟨ho12,hf15⟩:=Jk (hC.getM 0 rfl)
          subst hf15
          replace hC:=hC.recast (c:=own 162 9 u13 r12.terms.length (ZMo.encs r12.terms)) (fun _ h_=>h_) (fun _=>ho12)
          refine Zx (v:=.agg #[u13]) hC 8 [u13] [u13] rfl ag55.size rfl rfl rfl rfl (Xk (Xx (hC.getM 0 rfl)) rfl) (ZMw rfl) rfl fun w37 hC=>done (Z0 (Zq (Zd (Zg (Za (v:=vI s10.2) rfl (Zo rfl rfl (Zc (v:=vI (ZHd.wrap (s10.2+1))) rfl (done ?_))))))))
          exact hK11 (r12.terms,ZHd.wrap (s10.2+1)) _ _ ⟨u13,(slq rfl),((hC.xM [0,7,8,9,10,11] rfl).sP [1,2,3,4,5] rfl)⟩ h
         refine Jy 3 10 rfl rfl (by kernel_rfl) ?_ ?_
         ·skip
          refine Zf [.agg (ZMl (ZMk .u8 (s12.1.set s10.2.toNat (ZMz.wrap ((((a1.terms.getD s11.2.toNat ZEx).mono).get s10.2.toNat) - 1))))),vI 1] _ ZNg rfl rfl rfl (Zd4 (s12.1.set s10.2.toNat (ZMz.wrap ((((a1.terms.getD s11.2.toNat ZEx).mono).get s10.2.toNat) - 1))) 1 h _) ?_
          rintro _ w38 ⟨r16,u22,f13,rfl,h,hr15,hf16,hB15⟩
          refine rt ?_
          replace hC:=hC.push hB15 (ZM4 (Yt 162) r16 [u22] f13) hr15 hf16
          obtain ⟨ho13,hf17⟩:=Jk (hC.getM 0 rfl)
          subst hf17
          replace hC:=hC.recast (c:=own 162 9 u22 r16.terms.length (ZMo.encs r16.terms)) (fun _ h_=>h_) (fun _=>ho13)
          refine done (aK (by assumption) (Zb 12 511) ?_)
          refine Jy 9 10 rfl rfl (by kernel_rfl) ?_ ?_
          ·skip
           refine Zf [u0_0,.agg #[u22],.agg #[u10]] _ ZNe rfl rfl rfl (Zdc a0.degrees r16 (a0.images.getD s10.2.toNat ZEx) h _ (hC.getP 3 rfl) (Yy (Y3 (hC.getM 0 rfl))) (Yy (hC.getP 0 rfl))) ?_
           rintro _ w39 ⟨r18,u14,f14,rfl,h,hr16,hf18,hB16⟩
           refine rt ?_
           replace hC:=hC.push hB16 (ZM4 (Yt 162) r18 [u14] f14) hr16 hf18
           obtain ⟨ho14,hf19⟩:=Jk (hC.getM 0 rfl)
           subst hf19
           replace hC:=hC.recast (c:=own 162 9 u14 r18.terms.length (ZMo.encs r18.terms)) (fun _ h_=>h_) (fun _=>ho14)
           refine done (aK (by assumption) (Zb 12 1023) (aO 10 rfl (Yk hC [.slice none 0 0] z55 rfl fun b18 w40 hB_ hC=>done (aK (by assumption) (Zb 12 2047) (Zz 11 (by decide) (by decide) (by kernel_rfl) (by kernel_rfl) rfl (Zx (v:=.agg #[u14]) hC 0 [u14] [u14] rfl ag55.size rfl rfl rfl rfl (Xk (Xx (hC.getM 1 rfl)) rfl) (ZMw rfl) rfl fun w41 hC=>done (Z0 ?_)))))))
           exact⟨rfl,_,rfl,⟨b18,u14,r18,(slq rfl),(hC.xM [0,1,4,6,7,8,9,10,11] rfl),h⟩⟩
          ·skip
           refine Yk hC [.slice none 0 0] z55 rfl fun b19 w42 hB_ hC=>done (aK (by assumption) (Zb 12 1535) (aO 9 rfl (Zf [u0_0,.agg #[u22],.agg #[u10]] _ ZNe rfl rfl rfl (Zdc a0.degrees r16 (a0.images.getD s10.2.toNat ZEx) h _ (hC.getP 3 rfl) (Yy (Y3 (hC.getM 1 rfl))) (Yy (hC.getP 0 rfl))) ?_)))
           rintro _ w43 ⟨r25,u15,f15,rfl,h,hr17,hf20,hB17⟩
           refine rt ?_
           replace hC:=hC.push hB17 (ZM4 (Yt 162) r25 [u15] f15) hr17 hf20
           obtain ⟨ho15,hf21⟩:=Jk (hC.getM 0 rfl)
           subst hf21
           replace hC:=hC.recast (c:=own 162 9 u15 r25.terms.length (ZMo.encs r25.terms)) (fun _ h_=>h_) (fun _=>ho15)
           refine done (aK (by assumption) (Zb 12 2047) (Zz 11 (by decide) (by decide) (by kernel_rfl) (by kernel_rfl) rfl (Zx (v:=.agg #[u15]) hC 1 [u15] [u15] rfl ag55.size rfl rfl rfl rfl (Xk (Xx (hC.getM 0 rfl)) rfl) (ZMw rfl) rfl fun w44 hC=>done (Z0 ?_))))
           exact⟨rfl,_,rfl,⟨b19,u15,r25,(slq rfl),(hC.xM [1,0,4,6,7,8,9,10,11] rfl),h⟩⟩
         ·skip
          refine Yk hC [.slice none 0 0] z55 rfl fun b20 w45 hB_ hC=>done (aK (by assumption) (Zb 12 1527) (aO 3 rfl (Zf [.agg (ZMl (ZMk .u8 (s12.1.set s10.2.toNat (ZMz.wrap ((((a1.terms.getD s11.2.toNat ZEx).mono).get s10.2.toNat) - 1))))),vI 1] _ ZNg rfl rfl rfl (Zd4 (s12.1.set s10.2.toNat (ZMz.wrap ((((a1.terms.getD s11.2.toNat ZEx).mono).get s10.2.toNat) - 1))) 1 h _) ?_)))
          rintro _ w46 ⟨r26,u26,f16,rfl,h,hr18,hf22,hB18⟩
          refine rt ?_
          replace hC:=hC.push hB18 (ZM4 (Yt 162) r26 [u26] f16) hr18 hf22
          obtain ⟨ho16,hf23⟩:=Jk (hC.getM 0 rfl)
          subst hf23
          replace hC:=hC.recast (c:=own 162 9 u26 r26.terms.length (ZMo.encs r26.terms)) (fun _ h_=>h_) (fun _=>ho16)
          refine done (aK (by assumption) (Zb 12 1535) (aO 9 rfl (Zf [u0_0,.agg #[u26],.agg #[u10]] _ ZNe rfl rfl rfl (Zdc a0.degrees r26 (a0.images.getD s10.2.toNat ZEx) h _ (hC.getP 3 rfl) (Yy (Y3 (hC.getM 0 rfl))) (Yy (hC.getP 0 rfl))) ?_)))
          rintro _ w47 ⟨r27,u16,f17,rfl,h,hr19,hf24,hB19⟩
          refine rt ?_
          replace hC:=hC.push hB19 (ZM4 (Yt 162) r27 [u16] f17) hr19 hf24
          obtain ⟨ho17,hf25⟩:=Jk (hC.getM 0 rfl)
          subst hf25
          replace hC:=hC.recast (c:=own 162 9 u16 r27.terms.length (ZMo.encs r27.terms)) (fun _ h_=>h_) (fun _=>ho17)
          refine done (aK (by assumption) (Zb 12 2047) (Zz 11 (by decide) (by decide) (by kernel_rfl) (by kernel_rfl) rfl (Zx (v:=.agg #[u16]) hC 2 [u16] [u16] rfl ag55.size rfl rfl rfl rfl (Xk (Xx (hC.getM 0 rfl)) rfl) (ZMw rfl) rfl fun w48 hC=>done (Z0 ?_))))
          exact⟨rfl,_,rfl,⟨b20,u16,r27,(slq rfl),(hC.xM [2,0,4,6,7,8,9,10,11] rfl),h⟩⟩
        ·replace h:=Zj h (cf hb16)
         refine ZMr (Zd (ZMn ?_))
         refine cwd 11 Yi [0,1,0,4,0,16,0,112,240,511,0,2047] [1,2,5,7,8] [0,4,6] (fun hM13 hM17 w49 hB_=>?_)
         replace hC:=hC.grow hB_
         refine bF 0 (vQ b7) rfl rfl hM17 (fun _=>by exact Yf 0 ZM7 rfl sc22.size rfl rfl) (Zb 12 1) (bL 1 (u0_0) rfl rfl hM13 (fun _ hB_=>by exact Ya (hC.grow hB_) 8 (u0_0) rfl sc22 rfl rfl) (Zb 12 3) (bL 2 (.agg (ZMl (ZMk .u8 (s12.1.set s10.2.toNat (ZMz.wrap ((((a1.terms.getD s11.2.toNat ZEx).mono).get s10.2.toNat) - 1)))))) rfl rfl hM13 (fun _ hB_=>by exact Xf (hC.grow hB_) 0 (ZMk .u8 (s12.1.set s10.2.toNat (ZMz.wrap ((((a1.terms.getD s11.2.toNat ZEx).mono).get s10.2.toNat) - 1)))) rfl ag136 rfl rfl rfl) (Zb 12 7) (bF 4 (.pointer (some ⟨b7,1,none⟩)) rfl rfl hM17 (fun _=>by exact Yf 1 ZM7 rfl sc30.size rfl rfl) (Zb 12 23) (bL 5 (u0_1) rfl rfl hM13 (fun _ hB_=>by exact Ya (hC.grow hB_) 8 (u0_1) rfl sc30 rfl rfl) (Zb 12 55) (bM 6 (vI s10.2) rfl hM17 (Zb 12 119) ?_)))))
         obtain ⟨⟨h24,h25⟩,h⟩:=h
         obtain ⟨Ad12,c13,hv13⟩:=Zw (hC.getP 1 rfl) s10.2.toNat (show s10.2.toNat < a0.images.length by omega)
         refine bL 7 (.pointer (some (Ad12.add (s10.2.toNat * 1)))) rfl rfl hM13 (fun _ hB_=>by exact Yq (len:=a0.images.length) ZNb ag55.size (by exact tr rfl hv13) rfl h24 h25) (Zb 12 247) ?_
         obtain ⟨cs_,hl11,hc11,hr11⟩:=Xj (hC.getP 1 rfl) hv13 s10.2.toNat (show s10.2.toNat < a0.images.length by omega)
         obtain ⟨u11,rfl⟩:=ZNj.1 hl11
         clear hl11
         rw [Xl _ _ (show s10.2.toNat < a0.images.length by omega)] at hr11
         have hp11:=hr11
         replace hC:=hC.derive 1 rfl (ZMm ZMo.ty.sl ((a0.images.getD s10.2.toNat ZEx).terms) [u11] fp0) (fun _=>(Xi hp11)) (fun _ hb_=>hb_)
         refine bL 8 (.agg #[u11]) rfl rfl hM13 (fun _ hB_=>by exact Ji [u11] (Zaq hB_ hc11) ag55 rfl rfl) (Zb 12 503) ?_
         refine Zdw (fun e_ w_=>∃ (b17:Nat),∃ (u17:Value),∃ (r23:ZMp),Zt e_ [(2,vQ b7),(3,vQ b10),(4,vQ b11),(5,vQ b12),(6,vI s11.2),(7,vQ b13),(8,vI s10.2),(10,vQ b14),(13,vI (ZHd.wrap (((a1.terms.getD s11.2.toNat ZEx).factor) * (ZHd.wrap (((a1.terms.getD s11.2.toNat ZEx).mono).get s10.2.toNat))))),(14,vQ b17)]∧Ctx Nox w0 w_ [blk b17 55 [u17],own 162 9 u17 r23.terms.length (ZMo.encs r23.terms),blk b14 136 (ZMk .u8 s12.2),own 162 9 v10 s10.1.length (ZMo.encs s10.1),blk b13 136 (ZMk .u8 ((a1.terms.getD s11.2.toNat ZEx).mono)),blk b12 55 [v10],blk b11 55 [.slice none 0 0],blk b10 55 [u1_0],blk b7 32 [u0_0,u0_1]] [ZMm ZMo.ty.sl ((a0.images.getD s10.2.toNat ZEx).terms) [u11] fp0,ZMm ZMo.ty.sl a1.terms [u1_0] fp1,ZMm ZM9.sl a0.images [u0_1] fp0,ZMm TInts a0.degrees [u0_0] fp0,ZMm TAlg a0 [u0_0,u0_1] fp0,ZMm TForm a1 [u1_0] fp1]∧(Ju s12.2 1 (fun r13=>J8 a0.degrees r23 r13 (fun r14=>Xz (ZHd.wrap (((a1.terms.getD s11.2.toNat ZEx).factor) * (ZHd.wrap (((a1.terms.getD s11.2.toNat ZEx).mono).get s10.2.toNat)))) (fun r21=>Za2 (⟨s10.1⟩:ZMp) r14 r21 (fun r15=>nx11 (r15.terms,ZHd.wrap (s10.2+1)))))))) ?_ ?_
         ·clear hC h
          rintro e_ w50 ⟨b17,u17,r23,hS_,hC,h⟩
          rw [ue hS_]
          refine Zd ?_
          refine cwd 9 Yi [0,0,2,0,0,16,62,0,254,511,1023] [0,2,3,4] [1,7] (fun hM15 hM20 w51 hB_=>?_)
          replace hC:=hC.grow hB_
          refine bL 0 (.agg #[v10]) rfl rfl hM15 (fun _ hB_=>by exact Xf (hC.grow hB_) 5 [v10] rfl ag55 rfl rfl rfl) (Zb 11 1) (bF 1 (vQ b7) rfl rfl hM20 (fun _=>by exact Yf 0 ZM7 rfl sc22.size rfl rfl) (Zb 11 3) (bL 2 (u0_0) rfl rfl hM15 (fun _ hB_=>by exact Ya (hC.grow hB_) 8 (u0_0) rfl sc22 rfl rfl) (Zb 11 7) (bL 3 (.agg #[u17]) rfl rfl hM15 (fun _ hB_=>by exact Xf (hC.grow hB_) 0 [u17] rfl ag55 rfl rfl rfl) (Zb 11 15) (bL 4 (.agg (ZMl (ZMk .u8 s12.2))) rfl rfl hM15 (fun _ hB_=>by exact Xf (hC.grow hB_) 2 (ZMk .u8 s12.2) rfl ag136 rfl rfl rfl) (Zb 11 31) (bM 7 (vI (ZHd.wrap (((a1.terms.getD s11.2.toNat ZEx).factor) * (ZHd.wrap (((a1.terms.getD s11.2.toNat ZEx).mono).get s10.2.toNat))))) rfl hM20 (Zb 11 159) (aO 5 rfl (Zf [.agg (ZMl (ZMk .u8 s12.2)),vI 1] _ ZNg rfl rfl rfl (Zd4 s12.2 1 h _) ?_)))))))
          rintro _ w52 ⟨r13,u27,f18,rfl,h,hr20,hf26,hB20⟩
          refine rt ?_
          replace hC:=hC.push hB20 (ZM4 (Yt 162) r13 [u27] f18) hr20 hf26
          obtain ⟨ho18,hf27⟩:=Jk (hC.getM 0 rfl)
          subst hf27
          replace hC:=hC.recast (c:=own 162 9 u27 r13.terms.length (ZMo.encs r13.terms)) (fun _ h_=>h_) (fun _=>ho18)
          refine done (aK (by assumption) (Zb 11 191) (aO 6 rfl (Zf [u0_0,.agg #[u17],.agg #[u27]] _ ZNe rfl rfl rfl (Zdc a0.degrees r23 r13 h _ (hC.getP 3 rfl) (Yy (Y3 (hC.getM 2 rfl))) (Yy (Y3 (hC.getM 0 rfl)))) ?_)))
          rintro _ w53 ⟨r14,u28,f19,rfl,h,hr21,hf28,hB21⟩
          refine rt ?_
          replace hC:=hC.push hB21 (ZM4 (Yt 162) r14 [u28] f19) hr21 hf28
          obtain ⟨ho19,hf29⟩:=Jk (hC.getM 0 rfl)
          subst hf29
          replace hC:=hC.recast (c:=own 162 9 u28 r14.terms.length (ZMo.encs r14.terms)) (fun _ h_=>h_) (fun _=>ho19)
          refine done (aK (by assumption) (Zb 11 255) (aO 8 rfl (Zf [vI (ZHd.wrap (((a1.terms.getD s11.2.toNat ZEx).factor) * (ZHd.wrap (((a1.terms.getD s11.2.toNat ZEx).mono).get s10.2.toNat))))] _ ZNd rfl rfl rfl (Zbc (ZHd.wrap (((a1.terms.getD s11.2.toNat ZEx).factor) * (ZHd.wrap (((a1.terms.getD s11.2.toNat ZEx).mono).get s10.2.toNat)))) h _) ?_)))
          rintro _ w54 ⟨r21,rfl,h,hB22⟩
          refine rt ?_
          replace hC:=hC.grow hB22
          refine done (aK (by assumption) (Zb 11 511) (Zz 9 (by decide) (by decide) (by kernel_rfl) (by kernel_rfl) rfl (Zf [.agg #[v10],.agg #[u28],vI r21] _ ZNp rfl rfl rfl (Zlz (⟨s10.1⟩:ZMp) r14 r21 h _ (Yy (Y3 (hC.getM 5 rfl))) (Yy (Y3 (hC.getM 0 rfl)))) ?_)))
          rintro _ w55 ⟨r15,u18,f20,rfl,h,hr22,hf30,hB23⟩
          refine rt ?_
          replace hC:=hC.push hB23 (ZM4 (Yt 162) r15 [u18] f20) hr22 hf30
          obtain ⟨ho20,hf31⟩:=Jk (hC.getM 0 rfl)
          subst hf31
          replace hC:=hC.recast (c:=own 162 9 u18 r15.terms.length (ZMo.encs r15.terms)) (fun _ h_=>h_) (fun _=>ho20)
          refine Zx (v:=.agg #[u18]) hC 8 [u18] [u18] rfl ag55.size rfl rfl rfl rfl (Xk (Xx (hC.getM 0 rfl)) rfl) (ZMw rfl) rfl fun w56 hC=>done (Z0 (Zq (Zd (Zg (Za (v:=vI s10.2) rfl (Zo rfl rfl (Zc (v:=vI (ZHd.wrap (s10.2+1))) rfl (done ?_))))))))
          exact hK11 (r15.terms,ZHd.wrap (s10.2+1)) _ _ ⟨u18,(slq rfl),((hC.xM [0,7,8,9,10,11] rfl).sP [1,2,3,4,5] rfl)⟩ h
         refine Jy 3 10 rfl rfl (by kernel_rfl) ?_ ?_
         ·skip
          refine Zf [.agg (ZMl (ZMk .u8 (s12.1.set s10.2.toNat (ZMz.wrap ((((a1.terms.getD s11.2.toNat ZEx).mono).get s10.2.toNat) - 1))))),vI 1] _ ZNg rfl rfl rfl (Zd4 (s12.1.set s10.2.toNat (ZMz.wrap ((((a1.terms.getD s11.2.toNat ZEx).mono).get s10.2.toNat) - 1))) 1 h _) ?_
          rintro _ w57 ⟨r17,u23,f21,rfl,h,hr23,hf32,hB24⟩
          refine rt ?_
          replace hC:=hC.push hB24 (ZM4 (Yt 162) r17 [u23] f21) hr23 hf32
          obtain ⟨ho21,hf33⟩:=Jk (hC.getM 0 rfl)
          subst hf33
          replace hC:=hC.recast (c:=own 162 9 u23 r17.terms.length (ZMo.encs r17.terms)) (fun _ h_=>h_) (fun _=>ho21)
          refine done (aK (by assumption) (Zb 12 511) ?_)
          refine Jy 9 10 rfl rfl (by kernel_rfl) ?_ ?_
          ·skip
           refine Zf [u0_0,.agg #[u23],.agg #[u11]] _ ZNe rfl rfl rfl (Zdc a0.degrees r17 (a0.images.getD s10.2.toNat ZEx) h _ (hC.getP 3 rfl) (Yy (Y3 (hC.getM 0 rfl))) (Yy (hC.getP 0 rfl))) ?_
           rintro _ w58 ⟨r20,u19,f22,rfl,h,hr24,hf34,hB25⟩
           refine rt ?_
           replace hC:=hC.push hB25 (ZM4 (Yt 162) r20 [u19] f22) hr24 hf34
           obtain ⟨ho22,hf35⟩:=Jk (hC.getM 0 rfl)
           subst hf35
           replace hC:=hC.recast (c:=own 162 9 u19 r20.terms.length (ZMo.encs r20.terms)) (fun _ h_=>h_) (fun _=>ho22)
           refine done (aK (by assumption) (Zb 12 1023) (aO 10 rfl (Yk hC [.slice none 0 0] z55 rfl fun b21 w59 hB_ hC=>done (aK (by assumption) (Zb 12 2047) (Zz 11 (by decide) (by decide) (by kernel_rfl) (by kernel_rfl) rfl (Zx (v:=.agg #[u19]) hC 0 [u19] [u19] rfl ag55.size rfl rfl rfl rfl (Xk (Xx (hC.getM 1 rfl)) rfl) (ZMw rfl) rfl fun w60 hC=>done (Z0 ?_)))))))
           exact⟨rfl,_,rfl,⟨b21,u19,r20,(slq rfl),(hC.xM [0,1,4,6,7,8,9,10,11] rfl),h⟩⟩
          ·skip
           refine Yk hC [.slice none 0 0] z55 rfl fun b22 w61 hB_ hC=>done (aK (by assumption) (Zb 12 1535) (aO 9 rfl (Zf [u0_0,.agg #[u23],.agg #[u11]] _ ZNe rfl rfl rfl (Zdc a0.degrees r17 (a0.images.getD s10.2.toNat ZEx) h _ (hC.getP 3 rfl) (Yy (Y3 (hC.getM 1 rfl))) (Yy (hC.getP 0 rfl))) ?_)))
           rintro _ w62 ⟨r28,u20,f23,rfl,h,hr25,hf36,hB26⟩
           refine rt ?_
           replace hC:=hC.push hB26 (ZM4 (Yt 162) r28 [u20] f23) hr25 hf36
           obtain ⟨ho23,hf37⟩:=Jk (hC.getM 0 rfl)
           subst hf37
           replace hC:=hC.recast (c:=own 162 9 u20 r28.terms.length (ZMo.encs r28.terms)) (fun _ h_=>h_) (fun _=>ho23)
           refine done (aK (by assumption) (Zb 12 2047) (Zz 11 (by decide) (by decide) (by kernel_rfl) (by kernel_rfl) rfl (Zx (v:=.agg #[u20]) hC 1 [u20] [u20] rfl ag55.size rfl rfl rfl rfl (Xk (Xx (hC.getM 0 rfl)) rfl) (ZMw rfl) rfl fun w63 hC=>done (Z0 ?_))))
           exact⟨rfl,_,rfl,⟨b22,u20,r28,(slq rfl),(hC.xM [1,0,4,6,7,8,9,10,11] rfl),h⟩⟩
         ·skip
          refine Yk hC [.slice none 0 0] z55 rfl fun b23 w64 hB_ hC=>done (aK (by assumption) (Zb 12 1527) (aO 3 rfl (Zf [.agg (ZMl (ZMk .u8 (s12.1.set s10.2.toNat (ZMz.wrap ((((a1.terms.getD s11.2.toNat ZEx).mono).get s10.2.toNat) - 1))))),vI 1] _ ZNg rfl rfl rfl (Zd4 (s12.1.set s10.2.toNat (ZMz.wrap ((((a1.terms.getD s11.2.toNat ZEx).mono).get s10.2.toNat) - 1))) 1 h _) ?_)))
          rintro _ w65 ⟨r29,u29,f24,rfl,h,hr26,hf38,hB27⟩
          refine rt ?_
          replace hC:=hC.push hB27 (ZM4 (Yt 162) r29 [u29] f24) hr26 hf38
          obtain ⟨ho24,hf39⟩:=Jk (hC.getM 0 rfl)
          subst hf39
          replace hC:=hC.recast (c:=own 162 9 u29 r29.terms.length (ZMo.encs r29.terms)) (fun _ h_=>h_) (fun _=>ho24)
          refine done (aK (by assumption) (Zb 12 1535) (aO 9 rfl (Zf [u0_0,.agg #[u29],.agg #[u11]] _ ZNe rfl rfl rfl (Zdc a0.degrees r29 (a0.images.getD s10.2.toNat ZEx) h _ (hC.getP 3 rfl) (Yy (Y3 (hC.getM 0 rfl))) (Yy (hC.getP 0 rfl))) ?_)))
          rintro _ w66 ⟨r30,u21,f25,rfl,h,hr27,hf40,hB28⟩
          refine rt ?_
          replace hC:=hC.push hB28 (ZM4 (Yt 162) r30 [u21] f25) hr27 hf40
          obtain ⟨ho25,hf41⟩:=Jk (hC.getM 0 rfl)
          subst hf41
          replace hC:=hC.recast (c:=own 162 9 u21 r30.terms.length (ZMo.encs r30.terms)) (fun _ h_=>h_) (fun _=>ho25)
          refine done (aK (by assumption) (Zb 12 2047) (Zz 11 (by decide) (by decide) (by kernel_rfl) (by kernel_rfl) rfl (Zx (v:=.agg #[u21]) hC 2 [u21] [u21] rfl ag55.size rfl rfl rfl rfl (Xk (Xx (hC.getM 0 rfl)) rfl) (ZMw rfl) rfl fun w67 hC=>done (Z0 ?_))))
          exact⟨rfl,_,rfl,⟨b23,u21,r30,(slq rfl),(hC.xM [2,0,4,6,7,8,9,10,11] rfl),h⟩⟩
       ·skip
        exact⟨(slq rfl),hC⟩
      refine Jy 2 3 rfl rfl (by kernel_rfl) ?_ ?_
      ·skip
       refine Zi4 hC (ZMk .u8 ZMs) Zbb rfl fun b24 w68 hn_ hB_ hC=>?_
       have hnb_b13098:=ZEy hN_ hn_
       refine done ?_
       refine Yu (X8 hN_ (by assumption)) hN_ (l9:=(Zb 6 7)) (by kernel_rfl) (fun hN_=>?_)
       refine aO 3 rfl (Zi4 hC (ZMk .u8 ZMs) Zbb rfl fun b25 w69 hn_ hB_ hC=>?_)
       have hnb_b13101:=ZEy hN_ hn_
       refine done ?_
       refine Yu (X8 hN_ (by assumption)) hN_ (l9:=(Zb 6 15)) (by kernel_rfl) (fun hN_=>?_)
       refine aO 4 rfl (Zpi (v:=.agg (ZMl (ZMk .u8 ((a1.terms.getD s11.2.toNat ZEx).mono)))) hC 1 (ZMk .u8 ((a1.terms.getD s11.2.toNat ZEx).mono)) (ZMk .u8 ((a1.terms.getD s11.2.toNat ZEx).mono)) rfl ag136.size rfl rfl rfl rfl rfl (ZMw rfl) rfl fun w70 hBB_ hC=>done ?_)
       refine Yu (J2 hN_ hnb_b13098 hBB_) hN_ (l9:=(Zb 6 31)) (by kernel_rfl) (fun hN_=>?_)
       refine Zz 5 (by decide) (by decide) (by kernel_rfl) (by kernel_rfl) rfl (Zx (v:=.agg (ZMl (ZMk .u8 ((a1.terms.getD s11.2.toNat ZEx).mono)))) hC 0 (ZMk .u8 ((a1.terms.getD s11.2.toNat ZEx).mono)) (ZMk .u8 ((a1.terms.getD s11.2.toNat ZEx).mono)) rfl ag136.size rfl rfl rfl rfl rfl (ZMw rfl) rfl fun w71 hC=>done (Z0 ?_))
       exact⟨rfl,_,rfl,⟨b25,b24,(slq rfl),hC,h⟩⟩
      ·skip
       refine Zi4 hC (ZMk .u8 ZMs) Zbb rfl fun b26 w72 hn_ hB_ hC=>?_
       have hnb_b13106:=ZEy hN_ hn_
       refine done ?_
       refine Yu (X8 hN_ (by assumption)) hN_ (l9:=(Zb 6 11)) (by kernel_rfl) (fun hN_=>?_)
       refine aO 2 rfl (Zi4 hC (ZMk .u8 ZMs) Zbb rfl fun b27 w73 hn_ hB_ hC=>?_)
       have hnb_b13109:=ZEy hN_ hn_
       refine done ?_
       refine Yu (X8 hN_ (by assumption)) hN_ (l9:=(Zb 6 15)) (by kernel_rfl) (fun hN_=>?_)
       refine aO 4 rfl (Zpi (v:=.agg (ZMl (ZMk .u8 ((a1.terms.getD s11.2.toNat ZEx).mono)))) hC 0 (ZMk .u8 ((a1.terms.getD s11.2.toNat ZEx).mono)) (ZMk .u8 ((a1.terms.getD s11.2.toNat ZEx).mono)) rfl ag136.size rfl rfl rfl rfl rfl (ZMw rfl) rfl fun w74 hBB_ hC=>done ?_)
       refine Yu (J2 hN_ hnb_b13109 hBB_) hN_ (l9:=(Zb 6 31)) (by kernel_rfl) (fun hN_=>?_)
       refine Zz 5 (by decide) (by decide) (by kernel_rfl) (by kernel_rfl) rfl (Zx (v:=.agg (ZMl (ZMk .u8 ((a1.terms.getD s11.2.toNat ZEx).mono)))) hC 1 (ZMk .u8 ((a1.terms.getD s11.2.toNat ZEx).mono)) (ZMk .u8 ((a1.terms.getD s11.2.toNat ZEx).mono)) rfl ag136.size rfl rfl rfl rfl rfl (ZMw rfl) rfl fun w75 hC=>done (Z0 ?_))
       exact⟨rfl,_,rfl,⟨b26,b27,(slq rfl),(hC.xM [1,0,2,3,4,5,6,7] rfl),h⟩⟩
    ·replace h:=Zj h (cf hb11)
     refine ZM1 (Zh (Zh (Zy ?_)))
     refine Zq (Zd (Zg (Za (v:=vI s11.2) rfl (Zo rfl rfl (Zc (v:=vI (ZHd.wrap (s11.2+1))) rfl (done ?_))))))
     exact hK12 (s10.1,ZHd.wrap (s11.2+1)) _ _ ⟨v10,(slq rfl),(hC.xM [0,2,3,4,5] rfl)⟩ h
   ·skip
    exact⟨v11,(slq rfl),(hC.xM [1,0,2,3,4,5] rfl)⟩
  ·replace h:=Zj h (cf hb10)
   refine ZM1 (Zh (Zh (Zy ?_)))
   refine Zd (sr (Yp hC 1 [v11] rfl ag55 rfl rfl rfl (Zx (v:=.agg #[v11]) hC 2 [v11] [v11] rfl ag55.size rfl rfl rfl rfl (Xk (Xx (hC.getM 0 rfl)) rfl) (ZMw rfl) rfl fun w76 hC=>dn (ZMv ?_))))
   exact Zi rfl (Zaa hC 2 rfl ag55 rfl rfl) ⟨(⟨s11.1⟩:ZMp),v11,(ZNm (ZFq v11)),rfl,h,(Zco (Xy (hC.getM 0 rfl))),(Yz hC 0 rfl),hC.below⟩ (.inl rfl)
 ·skip
  replace hC:=hC.pushNil 162 9
  exact⟨.slice none 0 0,(slq rfl),hC⟩
def Zgs (a0:Alg) (K:Bool→Prop):Prop :=
 Zgm a0.degrees (fun r13=>(if¬ (r13=true) then K false else(if(a0.images.length:Int)≠(a0.degrees.length:Int) then K false else Xh (fun (s10:Int) nx10=>(if s10 < (a0.images.length:Int) then((0≤s10∧s10 < (a0.images.length:Int))∧Zgq a0.degrees (a0.images.getD s10.toNat ZEx) (fun r14=>(if¬ (r14=true) then K false else((0≤s10∧s10 < (a0.images.length:Int))∧Zgr a0.degrees (a0.images.getD s10.toNat ZEx) (fun r10 r11=>(if¬ (r11=true) then K false else((0≤s10∧s10 < (a0.images.length:Int))∧(if(((a0.images.getD s10.toNat ZEx).terms).length:Int) > 0 then((0≤s10∧s10 < (a0.degrees.length:Int))∧(if r10≠ZHd.wrap ((a0.degrees.getD s10.toNat ZEx)+1) then K false else nx10 (ZHd.wrap (s10+1)))) else nx10 (ZHd.wrap (s10+1)))))))))) else Xh (fun (s11:Int) nx11=>(if s11 < (a0.images.length:Int) then((0≤s11∧s11 < (a0.images.length:Int))∧Zde a0 (a0.images.getD s11.toNat ZEx) (fun r12=>(if(r12.terms.length:Int) > 0 then K false else nx11 (ZHd.wrap (s11+1))))) else K true)) 0)) 0)))
theorem Zv6 (a0 : Alg)  {K : Bool → Prop} (h : Zgs a0 K) (w0 : World) (q0 : TAlg.rep a0 [u0_0, u0_1] fp0 w0) :
  Calls ZMq 92 #[.agg #[u0_0,u0_1]] w0 fun e w'=>∃ (r0:Bool),
   e=.returned (.bool r0)∧K r0∧Bel w0 w':=by
 unfold Zgs at h
 refine cof Tryz.func92 rfl 86 Tryz.ntmps92 ?_
 have hC:=ZM8 (X:=Nox) w0 [ZMm TAlg a0 [u0_0,u0_1] fp0] (al1 q0)
 replace hC:=hC.dAlg 0 rfl
 refine sr (Yg (v:=.agg #[u0_0,u0_1]) hC [u0_0,u0_1] rfl rfl fun b4 w6 hB_ hC=>Zc (v:=.bool false) rfl (dn (ZMn (sr (Zu 0 ZM7 rfl sc22.size rfl rfl (Z5 hC 0 (u0_0) rfl sc22 rfl rfl (Zf [u0_0] _ Tryz.func149 rfl rfl rfl (Zv1 a0.degrees h _ (hC.getP 1 rfl)) ?_)))))))
 rintro _ w9 ⟨r13,rfl,h,hB10⟩
 refine rt ?_
 replace hC:=hC.grow hB10
 refine Xu rfl (Za (v:=.bool (!r13)) rfl ?_)
 refine Y5 (!r13) (fun hb12=>?_) (fun hb12=>?_)
 ·replace h:=ift h (Xa (X3 hb12))
  refine Zm (b:=true) 4 11 rfl (tr rfl (congrArg _ hb12)) (by decide) (Zm (b:=true) 4 11 rfl (tr rfl (congrArg _ hb12)) (by decide) (Zm (b:=true) 4 11 rfl (tr rfl (congrArg _ hb12)) (by decide) (Zm (b:=true) 4 11 rfl (tr rfl (congrArg _ hb12)) (by decide) (Zm (b:=true) 4 11 rfl (tr rfl (congrArg _ hb12)) (by decide) (Zm (b:=true) 4 11 rfl (tr rfl (congrArg _ hb12)) (by decide) (Zm (b:=true) 4 11 rfl (tr rfl (congrArg _ hb12)) (by decide) (Z3 (v:=.bool true) (b:=true) (tr rfl (congrArg _ hb12)) rfl (dn (Yc rfl rfl (sr (Zc (v:=.bool false) rfl (dn ?_))))))))))))
  refine ZMv (Zk ?_)
  exact Zi rfl (Ze rfl) ⟨false,rfl,h,hC.below⟩ (.inl rfl)
 ·replace h:=Zj h (not_not_intro ((X4 hb12)))
  refine Zl 4 11 rfl rfl hb12 (Zu 1 ZM7 rfl sc30.size rfl rfl (Zl 4 11 rfl rfl hb12 (Z5 hC 0 (u0_1) rfl sc30 rfl rfl (Zl 4 11 rfl rfl hb12 (Zv hC 0 rfl ZNb rfl (Zl 4 11 rfl rfl hb12 (Zu 0 ZM7 rfl sc22.size rfl rfl (Zl 4 11 rfl rfl hb12 (Z5 hC 0 (u0_0) rfl sc22 rfl rfl (Zl 4 11 rfl rfl hb12 (Zv hC 1 rfl ZM6 rfl (Zl 4 11 rfl rfl hb12 (Y2 rfl rfl (Z3 (v:=.bool (decide ((a0.images.length:Int)≠(a0.degrees.length:Int)))) (b:=false) (tr rfl (congrArg _ hb12)) rfl (dn ?_)))))))))))))))
  refine Zp rfl (fun hb13=>?_) (fun hb13=>?_)
  ·replace h:=ift h (ct hb13)
   refine sr (Zc (v:=.bool false) rfl (dn ?_))
   refine ZMv (Zk ?_)
   exact Zi rfl (Ze rfl) ⟨false,rfl,h,hC.below⟩ (.inl rfl)
  ·replace h:=Zj h (cf hb13)
   refine ZMr (Zd (ZMn (sr (Zc (v:=vI 0) rfl (dn (ZMt ?_))))))
   refine X2 (S:=Int) _ (fun s10 e_ w_=>Zt e_ [(1,vQ b4),(3,vI s10)]∧Ctx Nox w0 w_ [blk b4 32 [u0_0,u0_1]] [ZMm ZM9.sl a0.images [u0_1] fp0,ZMm TInts a0.degrees [u0_0] fp0,ZMm TAlg a0 [u0_0,u0_1] fp0]) ?_ (s0:=0) ?_ h
   ·clear hC h
    rintro s10 e_ w10 nx10 K10 ⟨hS_,hC⟩ h hK10
    rw [ue hS_]
    refine ZMn (sr (Za (v:=vI s10) rfl (Zu 1 ZM7 rfl sc30.size rfl rfl (Z5 hC 0 (u0_1) rfl sc30 rfl rfl (Zv hC 0 rfl ZNb rfl (Zn rfl rfl (dn ?_)))))))
    refine Zp rfl (fun hb14=>?_) (fun hb14=>?_)
    ·replace h:=ift h (ct hb14)
     refine ZMr (Zd (ZMn (ZMt (ZMn (ZMn ?_)))))
     refine cwd 7 Yi [0,1,0,4,0,28,60,127,255] [1,3,5,6] [0,2,4] (fun hM11 hM14 w11 hB_=>?_)
     replace hC:=hC.grow hB_
     refine bF 0 (vQ b4) rfl rfl hM14 (fun _=>by exact Yf 0 ZM7 rfl sc22.size rfl rfl) (Zb 9 1) (bL 1 (u0_0) rfl rfl hM11 (fun _ hB_=>by exact Ya (hC.grow hB_) 0 (u0_0) rfl sc22 rfl rfl) (Zb 9 3) (bF 2 (.pointer (some ⟨b4,1,none⟩)) rfl rfl hM14 (fun _=>by exact Yf 1 ZM7 rfl sc30.size rfl rfl) (Zb 9 7) (bL 3 (u0_1) rfl rfl hM11 (fun _ hB_=>by exact Ya (hC.grow hB_) 0 (u0_1) rfl sc30 rfl rfl) (Zb 9 15) (bM 4 (vI s10) rfl hM14 (Zb 9 31) ?_))))
     obtain ⟨⟨h10,h11⟩,h⟩:=h
     obtain ⟨Ad10,c10,hv10⟩:=Zw (hC.getP 0 rfl) s10.toNat (show s10.toNat < a0.images.length by omega)
     refine bL 5 (.pointer (some (Ad10.add (s10.toNat * 1)))) rfl rfl hM11 (fun _ hB_=>by exact Yq (len:=a0.images.length) ZNb ag55.size (by exact tr rfl hv10) rfl h10 h11) (Zb 9 63) ?_
     obtain ⟨cs_,hl10,hc10,hr10⟩:=Xj (hC.getP 0 rfl) hv10 s10.toNat (show s10.toNat < a0.images.length by omega)
     obtain ⟨u10,rfl⟩:=ZNj.1 hl10
     clear hl10
     rw [Xl _ _ (show s10.toNat < a0.images.length by omega)] at hr10
     have hp10:=hr10
     replace hC:=hC.derive 0 rfl (ZMm ZMo.ty.sl ((a0.images.getD s10.toNat ZEx).terms) [u10] fp0) (fun _=>(Xi hp10)) (fun _ hb_=>hb_)
     refine bL 6 (.agg #[u10]) rfl rfl hM11 (fun _ hB_=>by exact Ji [u10] (Zaq hB_ hc10) ag55 rfl rfl) (Zb 9 127) (Zz 7 (by decide) (by decide) (by kernel_rfl) (by kernel_rfl) rfl (Zf [u0_0,.agg #[u10]] _ Tryz.func120 rfl rfl rfl (Zv4 a0.degrees (a0.images.getD s10.toNat ZEx) h _ (hC.getP 2 rfl) (Yy (hC.getP 0 rfl))) ?_))
     rintro _ w12 ⟨r14,rfl,h,hB11⟩
     refine rt ?_
     replace hC:=hC.grow hB11
     refine Xu rfl (done (Z0 (Zd ?_)))
     refine Zp rfl (fun hb15=>?_) (fun hb15=>?_)
     ·replace h:=ift h (Xa (X3 hb15))
      refine sr (Zc (v:=.bool false) rfl (dn ?_))
      refine ZMv (Zk (Z4 (Zk (Zk (Z4 (Zk ?_))))))
      exact Zi rfl (Ze rfl) ⟨false,rfl,h,hC.below⟩ (.inl rfl)
     ·replace h:=Zj h (not_not_intro ((X4 hb15)))
      refine ZMr (Zd (ZMn ?_))
      refine cwd 12 Yi [0,1,0,4,0,28,60,127,255,511,511,1023,4095] [1,3,5,6] [0,2,4,8,9,10,11] (fun hM12 hM10 w13 hB_=>?_)
      replace hC:=hC.grow hB_
      refine bF 0 (vQ b4) rfl rfl hM10 (fun _=>by exact Yf 0 ZM7 rfl sc22.size rfl rfl) (Zb 13 1) (bL 1 (u0_0) rfl rfl hM12 (fun _ hB_=>by exact Ya (hC.grow hB_) 0 (u0_0) rfl sc22 rfl rfl) (Zb 13 3) (bF 2 (.pointer (some ⟨b4,1,none⟩)) rfl rfl hM10 (fun _=>by exact Yf 1 ZM7 rfl sc30.size rfl rfl) (Zb 13 7) (bL 3 (u0_1) rfl rfl hM12 (fun _ hB_=>by exact Ya (hC.grow hB_) 0 (u0_1) rfl sc30 rfl rfl) (Zb 13 15) (bM 4 (vI s10) rfl hM10 (Zb 13 31) ?_))))
      obtain ⟨⟨h12,h13⟩,h⟩:=h
      obtain ⟨Ad11,c11,hv11⟩:=Zw (hC.getP 1 rfl) s10.toNat (show s10.toNat < a0.images.length by omega)
      refine bL 5 (.pointer (some (Ad11.add (s10.toNat * 1)))) rfl rfl hM12 (fun _ hB_=>by exact Yq (len:=a0.images.length) ZNb ag55.size (by exact tr rfl hv11) rfl h12 h13) (Zb 13 63) ?_
      obtain ⟨cs_,hl11,hc11,hr11⟩:=Xj (hC.getP 1 rfl) hv11 s10.toNat (show s10.toNat < a0.images.length by omega)
      obtain ⟨u11,rfl⟩:=ZNj.1 hl11
      clear hl11
      rw [Xl _ _ (show s10.toNat < a0.images.length by omega)] at hr11
      have hp11:=hr11
      replace hC:=hC.derive 1 rfl (ZMm ZMo.ty.sl ((a0.images.getD s10.toNat ZEx).terms) [u11] fp0) (fun _=>(Xi hp11)) (fun _ hb_=>hb_)
      refine bL 6 (.agg #[u11]) rfl rfl hM12 (fun _ hB_=>by exact Ji [u11] (Zaq hB_ hc11) ag55 rfl rfl) (Zb 13 127) (aO 7 rfl (Zf [u0_0,.agg #[u11]] _ Tryz.func69 rfl rfl rfl (Zv5 a0.degrees (a0.images.getD s10.toNat ZEx) h _ (hC.getP 3 rfl) (Yy (hC.getP 0 rfl))) ?_))
      rintro _ w14 ⟨r10,r11,rfl,h,hB12⟩
      refine rt ?_
      replace hC:=hC.grow hB12
      refine done (aK (by assumption) (Zb 13 255) (bM 8 (.tuple #[vI r10,.bool r11]) rfl hM10 (Zb 13 511) (bF 9 (vI r10) rfl rfl hM10 (fun _=>by exact Zev (v:=vI r10) rfl rfl) (Zb 13 1023) (bF 10 (.bool r11) rfl rfl hM10 (fun _=>by exact Zev (v:=.bool r11) rfl rfl) (Zb 13 2047) (bA 11 (vI r10) rfl hM10 (Zb 13 4095) (Zz 12 (by decide) (by decide) (by kernel_rfl) (by kernel_rfl) rfl (Zc (v:=.bool r11) rfl (done (Z0 (Zd (sr (Za (v:=.bool r11) rfl (Xu rfl (Za (v:=.bool (!r11)) rfl ?_))))))))))))))
      refine Y5 (!r11) (fun hb10=>?_) (fun hb10=>?_)
      ·replace h:=ift h (Xa (X3 hb10))
       refine Zm (b:=true) 2 49 rfl (tr rfl (congrArg _ hb10)) (by decide) (Zm (b:=true) 2 49 rfl (tr rfl (congrArg _ hb10)) (by decide) (Zm (b:=true) 2 49 rfl (tr rfl (congrArg _ hb10)) (by decide) (Zm (b:=true) 2 49 rfl (tr rfl (congrArg _ hb10)) (by decide) (Zm (b:=true) 2 49 rfl (tr rfl (congrArg _ hb10)) (by decide) (Zm (b:=true) 2 49 rfl (tr rfl (congrArg _ hb10)) (by decide) (Zm (b:=true) 2 49 rfl (tr rfl (congrArg _ hb10)) (by decide) (Zm (b:=true) 2 49 rfl (tr rfl (congrArg _ hb10)) (by decide) (Zm (b:=true) 2 49 rfl (tr rfl (congrArg _ hb10)) (by decide) (Jr 11 58 rfl rfl (Jr 11 58 rfl rfl (Jr 11 58 rfl rfl (Jr 11 58 rfl rfl (Jr 11 58 rfl rfl (Jr 11 58 rfl rfl (Jr 11 58 rfl rfl (Jr 11 58 rfl rfl (Zm (b:=true) 2 49 rfl (tr rfl (congrArg _ hb10)) (by decide) (Z3 (v:=.bool true) (b:=true) (tr rfl (congrArg _ hb10)) rfl (dn (Yc rfl rfl (sr (Zc (v:=.bool false) rfl (dn ?_)))))))))))))))))))))))
       refine ZMv (Z4 (Zk (Zk (Z4 (Zk ?_)))))
       exact Zi rfl (Ze rfl) ⟨false,rfl,h,hC.below⟩ (.inl rfl)
      ·replace h:=Zj h (not_not_intro ((X4 hb10)))
       refine Zl 2 49 rfl rfl hb10 (Zu 1 ZM7 rfl sc30.size rfl rfl (Zl 2 49 rfl rfl hb10 (Z5 hC 0 (u0_1) rfl sc30 rfl rfl (Zl 2 49 rfl rfl hb10 (Za (v:=vI s10) rfl (Zl 2 49 rfl rfl hb10 ?_))))))
       obtain ⟨⟨h14,h15⟩,h⟩:=h
       obtain ⟨Ad13,c12,hv12⟩:=Zw (hC.getP 2 rfl) s10.toNat (show s10.toNat < a0.images.length by omega)
       refine Yo (len:=a0.images.length) ZNb ag55.size (tr rfl hv12) rfl h14 h15 (Zl 2 49 rfl rfl hb10 (Zew (s10.toNat * 1+0) ZMu rfl sc53.size rfl rfl (Zl 2 49 rfl rfl hb10 ?_)))
       obtain ⟨cs_,hl12,hc12,hr12⟩:=Xj (hC.getP 2 rfl) hv12 s10.toNat (show s10.toNat < a0.images.length by omega)
       obtain ⟨u14,rfl⟩:=ZNj.1 hl12
       clear hl12
       rw [Xl _ _ (show s10.toNat < a0.images.length by omega)] at hr12
       have hp12:=hr12
       replace hC:=hC.derive 2 rfl (ZMm ZMo.ty.sl ((a0.images.getD s10.toNat ZEx).terms) [u14] fp0) (fun _=>(Xi hp12)) (fun _ hb_=>hb_)
       refine Yl (u14) (Jt (o:=0) (k:=1) hc12 rfl) sc53 rfl (Zl 2 49 rfl rfl hb10 (Zv hC 0 rfl ZMx rfl (Zl 2 49 rfl rfl hb10 (Jh rfl rfl (Zl 2 49 rfl rfl hb10 (Za (v:=.bool (decide ((((a0.images.getD s10.toNat ZEx).terms).length:Int) > 0))) rfl ?_))))))
       refine Y5 (decide ((((a0.images.getD s10.toNat ZEx).terms).length:Int) > 0)) (fun hb11=>?_) (fun hb11=>?_)
       ·replace h:=ift h (ct hb11)
        refine Zl 11 58 rfl rfl hb11 (Za (v:=vI r10) rfl (Zl 11 58 rfl rfl hb11 (Zu 0 ZM7 rfl sc22.size rfl rfl (Zl 11 58 rfl rfl hb11 (Z5 hC 0 (u0_0) rfl sc22 rfl rfl (Zl 11 58 rfl rfl hb11 (Za (v:=vI s10) rfl (Zl 11 58 rfl rfl hb11 ?_))))))))
        obtain ⟨⟨h16,h17⟩,h⟩:=h
        obtain ⟨Ad14,c13,hv13⟩:=Zw (hC.getP 4 rfl) s10.toNat (show s10.toNat < a0.degrees.length by omega)
        refine Yo (len:=a0.degrees.length) ZM6 sc2.size (tr rfl hv13) rfl h16 h17 (Zl 11 58 rfl rfl hb11 (Yl (vI (a0.degrees.getD s10.toNat ZEx)) (Ye (hC.getP 4 rfl) hv13 s10.toNat (show s10.toNat < a0.degrees.length by omega)) sc2 rfl (Zl 11 58 rfl rfl hb11 (Zo rfl rfl (Zl 11 58 rfl rfl hb11 (Y2 rfl rfl (Zl 2 49 rfl rfl hb10 (Z3 (v:=.bool (decide (r10≠ZHd.wrap ((a0.degrees.getD s10.toNat ZEx)+1)))) (b:=true) (tr rfl (congrArg _ hb11)) rfl (Z3 (v:=.bool (decide (r10≠ZHd.wrap ((a0.degrees.getD s10.toNat ZEx)+1)))) (b:=false) (tr rfl (congrArg _ hb10)) rfl (dn ?_))))))))))
        refine Zp rfl (fun hb16=>?_) (fun hb16=>?_)
        ·replace h:=ift h (ct hb16)
         refine sr (Zc (v:=.bool false) rfl (dn ?_))
         refine ZMv (Z4 (Zk (Zk (Z4 (Zk ?_)))))
         exact Zi rfl (Ze rfl) ⟨false,rfl,h,hC.below⟩ (.inl rfl)
        ·replace h:=Zj h (cf hb16)
         refine ZMr (Zq (Zd (Zg (Za (v:=vI s10) rfl (Zo rfl rfl (Zc (v:=vI (ZHd.wrap (s10+1))) rfl (done ?_)))))))
         exact hK10 (ZHd.wrap (s10+1)) _ _ ⟨(slq rfl),(hC.sP [3,4,5] rfl)⟩ h
       ·replace h:=Zj h (cf hb11)
        refine Zm (b:=false) 11 58 rfl (tr rfl (congrArg _ hb11)) (by decide) (Zm (b:=false) 11 58 rfl (tr rfl (congrArg _ hb11)) (by decide) (Zm (b:=false) 11 58 rfl (tr rfl (congrArg _ hb11)) (by decide) (Zm (b:=false) 11 58 rfl (tr rfl (congrArg _ hb11)) (by decide) (Zm (b:=false) 11 58 rfl (tr rfl (congrArg _ hb11)) (by decide) (Zm (b:=false) 11 58 rfl (tr rfl (congrArg _ hb11)) (by decide) (Zm (b:=false) 11 58 rfl (tr rfl (congrArg _ hb11)) (by decide) (Zm (b:=false) 11 58 rfl (tr rfl (congrArg _ hb11)) (by decide) (Zl 2 49 rfl rfl hb10 (Z3 (v:=.bool false) (b:=false) (tr rfl (congrArg _ hb11)) rfl (Z3 (v:=.bool false) (b:=false) (tr rfl (congrArg _ hb10)) rfl (dn (Z2 rfl rfl (ZMr (Zq (Zd (Zg (Za (v:=vI s10) rfl (Zo rfl rfl (Zc (v:=vI (ZHd.wrap (s10+1))) rfl (done ?_))))))))))))))))))))
        exact hK10 (ZHd.wrap (s10+1)) _ _ ⟨(slq rfl),(hC.sP [3,4,5] rfl)⟩ h
    ·replace h:=Zj h (cf hb14)
     refine ZM1 (Zh (Zh (Zy ?_)))
     refine Zd (ZMn (sr (Zc (v:=vI 0) rfl (dn (ZMt ?_)))))
     refine X2 (S:=Int) _ (fun s11 e_ w_=>Zt e_ [(1,vQ b4),(6,vI s11)]∧Ctx Nox w0 w_ [blk b4 32 [u0_0,u0_1]] [ZMm ZM9.sl a0.images [u0_1] fp0,ZMm TInts a0.degrees [u0_0] fp0,ZMm TAlg a0 [u0_0,u0_1] fp0]) ?_ (s0:=0) ?_ h
     ·clear hC h
      rintro s11 e_ w15 nx11 K11 ⟨hS_,hC⟩ h hK11
      rw [ue hS_]
      refine ZMn (sr (Za (v:=vI s11) rfl (Zu 1 ZM7 rfl sc30.size rfl rfl (Z5 hC 0 (u0_1) rfl sc30 rfl rfl (Zv hC 0 rfl ZNb rfl (Zn rfl rfl (dn ?_)))))))
      refine Zp rfl (fun hb17=>?_) (fun hb17=>?_)
      ·replace h:=ift h (ct hb17)
       refine ZMr (Zd (ZMn (ZMt (ZMn ?_))))
       refine cwd 6 Yi [0,0,2,0,14,30,63,127,255,511] [0,2,4,5] [1,3] (fun hM13 hM15 w16 hB_=>?_)
       replace hC:=hC.grow hB_
       refine bL 0 (.agg #[u0_0,u0_1]) rfl rfl hM13 (fun _ hB_=>by exact Xf (hC.grow hB_) 0 [u0_0,u0_1] rfl ag32 rfl rfl rfl) (Zb 10 1) (bF 1 (.pointer (some ⟨b4,1,none⟩)) rfl rfl hM15 (fun _=>by exact Yf 1 ZM7 rfl sc30.size rfl rfl) (Zb 10 3) (bL 2 (u0_1) rfl rfl hM13 (fun _ hB_=>by exact Ya (hC.grow hB_) 0 (u0_1) rfl sc30 rfl rfl) (Zb 10 7) (bM 3 (vI s11) rfl hM15 (Zb 10 15) ?_)))
       obtain ⟨⟨h18,h19⟩,h⟩:=h
       obtain ⟨Ad12,c14,hv14⟩:=Zw (hC.getP 0 rfl) s11.toNat (show s11.toNat < a0.images.length by omega)
       refine bL 4 (.pointer (some (Ad12.add (s11.toNat * 1)))) rfl rfl hM13 (fun _ hB_=>by exact Yq (len:=a0.images.length) ZNb ag55.size (by exact tr rfl hv14) rfl h18 h19) (Zb 10 31) ?_
       obtain ⟨cs_,hl13,hc13,hr13⟩:=Xj (hC.getP 0 rfl) hv14 s11.toNat (show s11.toNat < a0.images.length by omega)
       obtain ⟨u12,rfl⟩:=ZNj.1 hl13
       clear hl13
       rw [Xl _ _ (show s11.toNat < a0.images.length by omega)] at hr13
       have hp13:=hr13
       replace hC:=hC.derive 0 rfl (ZMm ZMo.ty.sl ((a0.images.getD s11.toNat ZEx).terms) [u12] fp0) (fun _=>(Xi hp13)) (fun _ hb_=>hb_)
       refine bL 5 (.agg #[u12]) rfl rfl hM13 (fun _ hB_=>by exact Ji [u12] (Zaq hB_ hc13) ag55 rfl rfl) (Zb 10 63) (Zz 6 (by decide) (by decide) (by kernel_rfl) (by kernel_rfl) rfl (Zf [.agg #[u0_0,u0_1],.agg #[u12]] _ Tryz.func71 rfl rfl rfl (Zpm a0 (a0.images.getD s11.toNat ZEx) h _ (Xs (hC.getP 2 rfl) (hC.getP 1 rfl)) (Yy (hC.getP 0 rfl))) ?_))
       rintro _ w17 ⟨r12,u13,f10,rfl,h,hr14,hf10,hB13⟩
       refine rt ?_
       replace hC:=hC.push hB13 (ZM4 (Yt 162) r12 [u13] f10) hr14 hf10
       obtain ⟨ho10,hf11⟩:=Jk (hC.getM 0 rfl)
       subst hf11
       replace hC:=hC.recast (c:=own 162 9 u13 r12.terms.length (ZMo.encs r12.terms)) (fun _ h_=>h_) (fun _=>ho10)
       refine Zvj (u13) ZMu rfl sc53 rfl rfl (Zb7 hC 0 rfl ZMx rfl (Jh rfl rfl (done (Z0 (Zd ?_)))))
       refine Zp rfl (fun hb18=>?_) (fun hb18=>?_)
       ·replace h:=ift h (ct hb18)
        refine sr (Zc (v:=.bool false) rfl (dn ?_))
        refine ZMv (Z4 (Zk (Zk (Z4 (Zk ?_)))))
        exact Zi rfl (Ze rfl) ⟨false,rfl,h,hC.below⟩ (.inl rfl)
       ·replace h:=Zj h (cf hb18)
        refine ZMr (Zq (Zd (Zg (Za (v:=vI s11) rfl (Zo rfl rfl (Zc (v:=vI (ZHd.wrap (s11+1))) rfl (done ?_)))))))
        exact hK11 (ZHd.wrap (s11+1)) _ _ ⟨(slq rfl),((hC.xM [1] rfl).sP [1,2,3] rfl)⟩ h
      ·replace h:=Zj h (cf hb17)
       refine ZM1 (Zh (Zh (Zy ?_)))
       refine Zd (sr (Zc (v:=.bool true) rfl (dn (ZMv ?_))))
       exact Zi rfl (Ze rfl) ⟨true,rfl,h,hC.below⟩ (.inl rfl)
     ·skip
      exact⟨(slq rfl),hC⟩
   ·skip
    exact⟨(slq rfl),hC⟩
def Zcq (a0:Int) (K:Int→Prop):Prop :=
 K (ZFo (ZHd.wrap ((ZFo a0 10007)+10007)) 10007)
theorem Zl1 (a0:Int)  {K:Int→Prop} (h:Zcq a0 K) (w0:World)  :
  Calls ZMq 187 #[vI a0] w0 fun e w'=>∃ (r0:Int),
   e=.returned (vI r0)∧K r0∧Bel w0 w':=by
 unfold Zcq at h
 refine cof Tryz.func187 rfl 7 Tryz.ntmps187 ?_
 have hC:=ZM8 (X:=Nox) w0 [] (by simp)
 refine sr (Zc (v:=vI 0) rfl (dn (sr (Za (v:=vI a0) rfl (Xr rfl rfl (by decide) (Zo rfl rfl (Xr rfl rfl (by decide) (Zc (v:=vI (ZFo (ZHd.wrap ((ZFo a0 10007)+10007)) 10007)) rfl (dn (ZMv ?_))))))))))
 exact Zi rfl (Ze rfl) ⟨ZFo (ZHd.wrap ((ZFo a0 10007)+10007)) 10007,rfl,h,hC.below⟩ (.inl rfl)
def Zdf (a0:A8) (K:A8→Prop):Prop :=
 Yb (fun i10 (s10:A8) nx10=>nx10 (s10.set i10 (ZHd.wrap (a0.get i10)))) (fun (s10:A8)=>K s10) 8 0 ZMs
theorem Zi9 (a0:A8)  {K:A8→Prop} (h:Zdf a0 K) (w0:World)  :
  Calls ZMq 134 #[.agg (ZMl (ZMk .u8 a0))] w0 fun e w'=>∃ (r0:A8),
   e=.returned (.agg (ZMl (ZMk .i64 r0)))∧K r0∧Bel w0 w':=by
 unfold Zdf at h
 refine cof Tryz.func134 rfl 18 Tryz.ntmps134 ?_
 have hC:=ZM8 (X:=Nox) w0 [] (by simp)
 refine sr (Yg (v:=.agg (ZMl (ZMk .u8 a0))) hC (ZMk .u8 a0) rfl rfl fun b1 w3 hB_ hC=>Yk hC (ZMk .i64 ZMs) z73 rfl fun b4 w6 hB_ hC=>dn (sr (J6 [] rfl (Zi8   _) (Yk hC (ZMk .i64 ZMs) z73 rfl fun b7 w9 hB_ hC=>Zx (v:=.agg (ZMl (ZMk .i64 ZMs))) hC 0 (ZMk .i64 ZMs) (ZMk .i64 ZMs) rfl ag73.size rfl rfl rfl rfl rfl (ZMw rfl) rfl fun w10 hC=>dn (ZMn (sr (Yp hC 2 (ZMk .u8 a0) rfl ag136 rfl rfl rfl (Za (v:=vI 0) rfl (dn (ZMt ?_))))))))))
 refine Yn (S:=A8) _ _ (fun i10 s10 e_ w_=>Zt e_ [(2,vQ b4),(3,vQ b7),(7,.agg (ZMl (ZMk .u8 a0))),(8,vI (i10:Int))]∧Ctx Nox w0 w_ [blk b7 73 (ZMk .i64 s10),blk b4 73 (ZMk .i64 ZMs)] []) 8 ?_ ?_ (s0:=ZMs) ?_ h
 ·clear hC h
  rintro i10 s10 e_ w11 nx10 K10 hi10 ⟨hS_,hC⟩ h hK10
  rw [ue hS_]
  refine sr (Zn rfl rfl (dn (ZMn (Yc rfl (decide_eq_true (by omega)) (ZMr (Zd (ZMn (ZMt (sr (Za (v:=vI (i10:Int)) rfl (Zk3 (.int .u8 (a0.get i10)) ZM5 rfl rfl (ZM3 _) (by omega) sc5 (ZM0 _ _ hi10) (Zc (v:=vI (i10:Int)) rfl (Zc (v:=.int .u8 (a0.get i10)) rfl (dn (Zg (Za (v:=vI (i10:Int)) rfl (Za (v:=.int .u8 (a0.get i10)) rfl (Zk2 ZNn ZNu rfl (Xm i10 ZNa sc3.size rfl rfl (ZM3 _) (by omega) (by omega) (Zx (v:=vI (ZHd.wrap (a0.get i10))) hC 0 [vI (ZHd.wrap (a0.get i10))] (ZMk .i64 (s10.set i10 (ZHd.wrap (a0.get i10)))) rfl sc3.size rfl rfl rfl rfl rfl hi10 (ZNh _ _ _ hi10) fun w12 hC=>done (Zq (Zd (Zg (Zo rfl rfl (Za (v:=vI (ZHd.wrap ((i10:Int)+1))) rfl (done ?_))))))))))))))))))))))))))
  exact hK10 (s10.set i10 (ZHd.wrap (a0.get i10))) _ _ ⟨(sl ⟨rfl,rfl,rfl,(tr rfl (congrArg _ (Z6 hi10 (by decide)))),trivial⟩),hC⟩ h
 ·clear hC h
  rintro s10 e_ w13 K10 ⟨hS_,hC⟩ h
  rw [ue hS_]
  refine sr (Zn rfl rfl (dn (ZMn (Z2 rfl (decide_eq_false (by omega)) ?_))))
  refine ZM1 (Zh (Zh (Zy ?_)))
  refine Zd (sr (Yp hC 0 (ZMk .i64 s10) rfl ag73 rfl rfl rfl (Zx (v:=.agg (ZMl (ZMk .i64 s10))) hC 1 (ZMk .i64 s10) (ZMk .i64 s10) rfl ag73.size rfl rfl rfl rfl rfl (ZMw rfl) rfl fun w14 hC=>dn (ZMv ?_))))
  exact Zi rfl (Zaa hC 1 rfl ag73 rfl rfl) ⟨s10,rfl,h,hC.below⟩ (.inl rfl)
 ·skip
  exact⟨(slq rfl),(hC.xM [0,1] rfl)⟩
def Zgt (a0:A8) (a1:List Int) (a2:A8) (K:A8→Int→Prop):Prop :=
 Yb (fun i10 (s12:Int) nx10=>(if ZFo (a1.getD i10 ZEx) 2=0 then nx10 s12 else((0≤(i10:Int)∧(i10:Int) < 8)∧(if a0.get i10 > 0 then((0≤(i10:Int)∧(i10:Int) < 8)∧(if a2.get i10 > 0 then K ZMs 0 else((0≤(i10:Int)∧(i10:Int) < 8)∧nx10 s12))) else((0≤(i10:Int)∧(i10:Int) < 8)∧(if a2.get i10 > 0 then Xh (fun (s10:Int×Int) nx11=>(if s10.1 < (a1.length:Int) then((0≤s10.1∧s10.1 < (a1.length:Int))∧((0≤s10.1∧s10.1 < 8)∧nx11 (ZHd.wrap (s10.1+1),ZHd.wrap (s10.2+(ZHd.wrap ((ZFo (a1.getD s10.1.toNat ZEx) 2) * (a0.get s10.1.toNat))))))) else nx10 s10.2)) (ZHd.wrap ((i10:Int)+1),s12) else nx10 s12)))))) (fun (s12:Int)=>Yb (fun i11 (s11:A8) nx12=>nx12 (s11.set i11 (ZHd.wrap ((s11.get i11)+(a2.get i11))))) (fun (s11:A8)=>(if ZFo s12 2=1 then K s11 (-1) else K s11 1)) 8 0 a0) a1.length 0 0
theorem Zv7 (a0:A8) (a1:List Int) (a2:A8)  {K:A8→Int→Prop} (h:Zgt a0 a1 a2 K) (w0:World) (q1:TInts.rep a1 [u1_0] fp1 w0) :
  Calls ZMq 199 #[.agg (ZMl (ZMk .i64 a0)),u1_0,.agg (ZMl (ZMk .i64 a2))] w0 fun e w'=>∃ (r0:A8) (r1:Int),
   e=.returned (.tuple #[.agg (ZMl (ZMk .i64 r0)),vI r1])∧K r0 r1∧Bel w0 w':=by
 unfold Zgt at h
 refine cof Tryz.func199 rfl 75 Tryz.ntmps199 ?_
 have hC:=ZM8 (X:=Nox) w0 [ZMm TInts a1 [u1_0] fp1] (al1 q1)
 refine sr (Yg (v:=.agg (ZMl (ZMk .i64 a0))) hC (ZMk .i64 a0) rfl rfl fun b2 w4 hB_ hC=>Yg (v:=.agg (ZMl (ZMk .i64 a2))) hC (ZMk .i64 a2) rfl rfl fun b5 w7 hB_ hC=>Yk hC (ZMk .i64 ZMs) z73 rfl fun b8 w10 hB_ hC=>Zc (v:=vI 0) rfl (dn (sr (Zc (v:=vI 0) rfl (dn (ZMn (sr (Za (v:=u1_0) rfl (Zv hC 0 rfl ZM6 rfl (Za (v:=vI 0) rfl (dn (ZMt ?_))))))))))))
 have hN10:a1.length≤9223372036854775807:=Yx (hC.getP 0 rfl)
 refine Yn (S:=Int) _ _ (fun i10 s12 e_ w_=>Zt e_ [(1,u1_0),(3,vQ b2),(5,vQ b5),(6,vQ b8),(8,vI s12),(13,u1_0),(14,vI (a1.length:Int)),(15,vI (i10:Int))]∧Ctx Nox w0 w_ [blk b8 73 (ZMk .i64 ZMs),blk b5 73 (ZMk .i64 a2),blk b2 73 (ZMk .i64 a0)] [ZMm TInts a1 [u1_0] fp1]) a1.length ?_ ?_ (s0:=0) ?_ h
 ·clear hC h
  rintro i10 s12 e_ w11 nx10 K10 hi10 ⟨hS_,hC⟩ h hK10
  rw [ue hS_]
  refine sr (Zn rfl rfl (dn (ZMn (Yc rfl (decide_eq_true (by omega)) (ZMr (Zd (ZMn (ZMt (sr (Za (v:=vI (i10:Int)) rfl ?_))))))))))
  obtain ⟨Ad11,c10,hv10⟩:=Zw (hC.getP 0 rfl) i10 hi10
  refine Yo (len:=a1.length) ZM6 sc2.size (tr rfl hv10) rfl (ZM3 _) (ZNl.2 hi10) (Yl (vI (a1.getD i10 ZEx)) (Ye (hC.getP 0 rfl) hv10 i10 hi10) sc2 rfl (Zc (v:=vI (i10:Int)) rfl (Zc (v:=vI (a1.getD i10 ZEx)) rfl (dn (ZMn (sr (Za (v:=vI (a1.getD i10 ZEx)) rfl (Xr rfl rfl (by decide) (Jg rfl rfl (dn ?_))))))))))
  refine Zp rfl (fun hb12=>?_) (fun hb12=>?_)
  ·replace h:=ift h (ct hb12)
   refine ZM1 (Zh (Zy ?_))
   refine Zd (Zg (Zo rfl rfl (Za (v:=vI (ZHd.wrap ((i10:Int)+1))) rfl (done ?_))))
   exact hK10 s12 _ _ ⟨(sl ⟨rfl,rfl,rfl,rfl,rfl,rfl,rfl,(tr rfl (congrArg _ (Z6 hi10 hN10))),trivial⟩),hC⟩ h
  ·replace h:=Zj h (cf hb12)
   refine ZMr (Zd (ZMn (sr (Za (v:=vI (i10:Int)) rfl ?_))))
   obtain ⟨⟨h10,h11⟩,h⟩:=h
   refine Xm i10 ZNa sc3.size rfl rfl h10 h11 (by omega) (Z5 hC 2 (vI (a0.get i10)) rfl sc3 rfl (ZM0 _ _ (show i10 < 8 by omega)) (Jh rfl rfl (Za (v:=.bool (decide (a0.get i10 > 0))) rfl ?_)))
   refine Y5 (decide (a0.get i10 > 0)) (fun hb10=>?_) (fun hb10=>?_)
   ·replace h:=ift h (ct hb10)
    refine Zl 4 27 rfl rfl hb10 (Za (v:=vI (i10:Int)) rfl (Zl 4 27 rfl rfl hb10 ?_))
    obtain ⟨⟨h12,h13⟩,h⟩:=h
    refine Xm i10 ZNa sc3.size rfl rfl h12 h13 (by omega) (Zl 4 27 rfl rfl hb10 (Z5 hC 1 (vI (a2.get i10)) rfl sc3 rfl (ZM0 _ _ (show i10 < 8 by omega)) (Zl 4 27 rfl rfl hb10 (Jh rfl rfl (Z3 (v:=.bool (decide (a2.get i10 > 0))) (b:=true) (tr rfl (congrArg _ hb10)) rfl (dn ?_))))))
    refine Zp rfl (fun hb11=>?_) (fun hb11=>?_)
    ·replace h:=ift h (ct hb11)
     refine sr (J6 [] rfl (Zi8   _) (Zx (v:=.agg (ZMl (ZMk .i64 ZMs))) hC 0 (ZMk .i64 ZMs) (ZMk .i64 ZMs) rfl ag73.size rfl rfl rfl rfl rfl (ZMw rfl) rfl fun w12 hC=>Zc (v:=vI 0) rfl (dn ?_)))
     refine ZMv (Zk (Z4 (Zk (Zk (Z4 (Zk ?_))))))
     exact Ja rfl (Zaa hC 0 rfl ag73 rfl rfl) (Ze rfl) ⟨ZMs,0,rfl,h,hC.below⟩ (.inl rfl)
    ·replace h:=Zj h (cf hb11)
     refine ZMr (Zd (sr (Za (v:=vI (i10:Int)) rfl ?_)))
     obtain ⟨⟨h14,h15⟩,h⟩:=h
     refine Xm i10 ZNa sc3.size rfl rfl h14 h15 (by omega) (Z5 hC 1 (vI (a2.get i10)) rfl sc3 rfl (ZM0 _ _ (show i10 < 8 by omega)) (Jh rfl rfl (dn (Z2 rfl hb11 (ZMr (Zq (Zd (Zg (Zo rfl rfl (Za (v:=vI (ZHd.wrap ((i10:Int)+1))) rfl (done ?_)))))))))))
     exact hK10 s12 _ _ ⟨(sl ⟨rfl,rfl,rfl,rfl,rfl,rfl,rfl,(tr rfl (congrArg _ (Z6 hi10 hN10))),trivial⟩),hC⟩ h
   ·replace h:=Zj h (cf hb10)
    refine Zm (b:=false) 4 27 rfl (tr rfl (congrArg _ hb10)) (by decide) (Zm (b:=false) 4 27 rfl (tr rfl (congrArg _ hb10)) (by decide) (Zm (b:=false) 4 27 rfl (tr rfl (congrArg _ hb10)) (by decide) (Zm (b:=false) 4 27 rfl (tr rfl (congrArg _ hb10)) (by decide) (Z3 (v:=.bool false) (b:=false) (tr rfl (congrArg _ hb10)) rfl (dn (Z2 rfl rfl (ZMr (Zd (sr (Za (v:=vI (i10:Int)) rfl ?_))))))))))
    obtain ⟨⟨h16,h17⟩,h⟩:=h
    refine Xm i10 ZNa sc3.size rfl rfl h16 h17 (by omega) (Z5 hC 1 (vI (a2.get i10)) rfl sc3 rfl (ZM0 _ _ (show i10 < 8 by omega)) (Jh rfl rfl (dn ?_)))
    refine Zp rfl (fun hb13=>?_) (fun hb13=>?_)
    ·replace h:=ift h (ct hb13)
     refine sr (Za (v:=vI (i10:Int)) rfl (Zo rfl rfl (Zc (v:=vI (ZHd.wrap ((i10:Int)+1))) rfl (dn (ZMt ?_)))))
     refine X2 (S:=Int×Int) _ (fun s10 e_ w_=>Zt e_ [(1,u1_0),(3,vQ b2),(5,vQ b5),(6,vQ b8),(8,vI s10.2),(11,vI s10.1),(13,u1_0),(14,vI (a1.length:Int)),(15,vI (i10:Int))]∧Ctx Nox w0 w_ [blk b8 73 (ZMk .i64 ZMs),blk b5 73 (ZMk .i64 a2),blk b2 73 (ZMk .i64 a0)] [ZMm TInts a1 [u1_0] fp1]) ?_ (s0:=(ZHd.wrap ((i10:Int)+1),s12)) ?_ h
     ·clear hC h
      rintro s10 e_ w13 nx11 K12 ⟨hS_,hC⟩ h hK11
      rw [ue hS_]
      refine ZMn (sr (Za (v:=vI s10.1) rfl (Za (v:=u1_0) rfl (Zv hC 0 rfl ZM6 rfl (Zn rfl rfl (dn ?_))))))
      refine Zp rfl (fun hb14=>?_) (fun hb14=>?_)
      ·replace h:=ift h (ct hb14)
       refine ZMr (Zd (ZMn (ZMt ?_)))
       refine cwd 10 Yi [0,0,0,6,14,30,0,64,192,510,1023,2047] [3,4,7,8] [0,1,2,5,6,9] (fun hM11 hM10 w14 hB_=>?_)
       replace hC:=hC.grow hB_
       refine bM 0 (vI s10.2) rfl hM10 (Zb 12 1) (bM 1 (u1_0) rfl hM10 (Zb 12 3) (bM 2 (vI s10.1) rfl hM10 (Zb 12 7) ?_))
       obtain ⟨⟨h18,h19⟩,h⟩:=h
       obtain ⟨Ad10,c11,hv11⟩:=Zw (hC.getP 0 rfl) s10.1.toNat (show s10.1.toNat < a1.length by omega)
       refine bL 3 (.pointer (some (Ad10.add (s10.1.toNat * 1)))) rfl rfl hM11 (fun _ hB_=>by exact Yq (len:=a1.length) ZM6 sc2.size (by exact tr rfl hv11) rfl h18 h19) (Zb 12 15) (bL 4 (vI (a1.getD s10.1.toNat ZEx)) rfl rfl hM11 (fun _ hB_=>by exact Y7 (vI (a1.getD s10.1.toNat ZEx)) (Ye ((hC.grow hB_).getP 0 rfl) hv11 s10.1.toNat (show s10.1.toNat < a1.length by omega)) sc2 rfl) (Zb 12 31) (bF 5 (vI (ZFo (a1.getD s10.1.toNat ZEx) 2)) rfl rfl hM10 (fun _=>by exact Zof rfl rfl (by decide)) (Zb 12 63) (bM 6 (vI s10.1) rfl hM10 (Zb 12 127) ?_)))
       obtain ⟨⟨h20,h21⟩,h⟩:=h
       refine bL 7 (.pointer (some ⟨b2,s10.1.toNat,none⟩)) rfl rfl hM11 (fun _ hB_=>by exact J5 s10.1.toNat ZNa sc3.size rfl rfl h20 h21 (by omega)) (Zb 12 255) (bL 8 (vI (a0.get s10.1.toNat)) rfl rfl hM11 (fun _ hB_=>by exact Ya (hC.grow hB_) 2 (vI (a0.get s10.1.toNat)) rfl sc3 rfl (ZM0 _ _ (show s10.1.toNat < 8 by omega))) (Zb 12 511) (bF 9 (vI (ZHd.wrap ((ZFo (a1.getD s10.1.toNat ZEx) 2) * (a0.get s10.1.toNat)))) rfl rfl hM10 (fun _=>by exact Zcj rfl rfl) (Zb 12 1023) (Zz 10 (by decide) (by decide) (by kernel_rfl) (by kernel_rfl) rfl (Zo rfl rfl (Zc (v:=vI (ZHd.wrap (s10.2+(ZHd.wrap ((ZFo (a1.getD s10.1.toNat ZEx) 2) * (a0.get s10.1.toNat)))))) rfl (done (Z0 (Zq (Zd (Zg (Za (v:=vI s10.1) rfl (Zo rfl rfl (Zc (v:=vI (ZHd.wrap (s10.1+1))) rfl (done ?_))))))))))))))
       exact hK11 (ZHd.wrap (s10.1+1),ZHd.wrap (s10.2+(ZHd.wrap ((ZFo (a1.getD s10.1.toNat ZEx) 2) * (a0.get s10.1.toNat))))) _ _ ⟨(slq rfl),hC⟩ h
      ·replace h:=Zj h (cf hb14)
       refine ZM1 (Zh (Zh (Zy ?_)))
       refine Zq (Zd (Zg (Zo rfl rfl (Za (v:=vI (ZHd.wrap ((i10:Int)+1))) rfl (done ?_)))))
       exact hK10 s10.2 _ _ ⟨(sl ⟨rfl,rfl,rfl,rfl,rfl,rfl,rfl,(tr rfl (congrArg _ (Z6 hi10 hN10))),trivial⟩),hC⟩ h
     ·skip
      exact⟨(slq rfl),hC⟩
    ·replace h:=Zj h (cf hb13)
     refine ZMr (Zq (Zd (Zg (Zo rfl rfl (Za (v:=vI (ZHd.wrap ((i10:Int)+1))) rfl (done ?_))))))
     exact hK10 s12 _ _ ⟨(sl ⟨rfl,rfl,rfl,rfl,rfl,rfl,rfl,(tr rfl (congrArg _ (Z6 hi10 hN10))),trivial⟩),hC⟩ h
 ·clear hC h
  rintro s12 e_ w15 K10 ⟨hS_,hC⟩ h
  rw [ue hS_]
  refine sr (Zn rfl rfl (dn (ZMn (Z2 rfl (decide_eq_false (by omega)) ?_))))
  refine ZM1 (Zh (Zh (Zy ?_)))
  refine Zd (ZMn (sr (Za (v:=vI 0) rfl (dn (ZMt ?_)))))
  refine Yn (S:=A8) _ _ (fun i11 s11 e_ w_=>Zt e_ [(3,vQ b2),(5,vQ b5),(6,vQ b8),(8,vI s12),(58,vI (i11:Int))]∧Ctx Nox w0 w_ [blk b8 73 (ZMk .i64 ZMs),blk b5 73 (ZMk .i64 a2),blk b2 73 (ZMk .i64 s11)] [ZMm TInts a1 [u1_0] fp1]) 8 ?_ ?_ (s0:=a0) ?_ h
  ·clear hC h
   rintro i11 s11 e_ w16 nx12 K11 hi11 ⟨hS_,hC⟩ h hK12
   rw [ue hS_]
   refine sr (Zn rfl rfl (dn (ZMn (Yc rfl (decide_eq_true (by omega)) (ZMr (Zd (ZMn (ZMt (sr (Za (v:=vI (i11:Int)) rfl (Zc (v:=vI (i11:Int)) rfl (dn ?_))))))))))))
   refine cwd 6 Yi [0,1,3,0,8,24,63,127,255] [1,2,4,5] [0,3] (fun hM12 hM13 w17 hB_=>?_)
   replace hC:=hC.grow hB_
   refine bM 0 (vI (i11:Int)) rfl hM13 (Zb 9 1) (bL 1 (.pointer (some ⟨b2,i11,none⟩)) rfl rfl hM12 (fun _ hB_=>by exact J5 i11 ZNa sc3.size rfl rfl (ZM3 _) (by omega) (by omega)) (Zb 9 3) (bL 2 (vI (s11.get i11)) rfl rfl hM12 (fun _ hB_=>by exact Ya (hC.grow hB_) 2 (vI (s11.get i11)) rfl sc3 rfl (ZM0 _ _ hi11)) (Zb 9 7) (bM 3 (vI (i11:Int)) rfl hM13 (Zb 9 15) (bL 4 (.pointer (some ⟨b5,i11,none⟩)) rfl rfl hM12 (fun _ hB_=>by exact J5 i11 ZNa sc3.size rfl rfl (ZM3 _) (by omega) (by omega)) (Zb 9 31) (bL 5 (vI (a2.get i11)) rfl rfl hM12 (fun _ hB_=>by exact Ya (hC.grow hB_) 1 (vI (a2.get i11)) rfl sc3 rfl (ZM0 _ _ hi11)) (Zb 9 63) (Zz 6 (by decide) (by decide) (by kernel_rfl) (by kernel_rfl) rfl (Zo rfl rfl (Xm i11 ZNa sc3.size rfl rfl (ZM3 _) (by omega) (by omega) (Zx (v:=vI (ZHd.wrap ((s11.get i11)+(a2.get i11)))) hC 2 [vI (ZHd.wrap ((s11.get i11)+(a2.get i11)))] (ZMk .i64 (s11.set i11 (ZHd.wrap ((s11.get i11)+(a2.get i11))))) rfl sc3.size rfl rfl rfl rfl rfl hi11 (ZNh _ _ _ hi11) fun w18 hC=>done (Z0 (Zq (Zd (Zg (Zo rfl rfl (Za (v:=vI (ZHd.wrap ((i11:Int)+1))) rfl (done ?_))))))))))))))))
   exact hK12 (s11.set i11 (ZHd.wrap ((s11.get i11)+(a2.get i11)))) _ _ ⟨(sl ⟨rfl,rfl,rfl,rfl,(tr rfl (congrArg _ (Z6 hi11 (by decide)))),trivial⟩),hC⟩ h
  ·clear hC h
   rintro s11 e_ w19 K11 ⟨hS_,hC⟩ h
   rw [ue hS_]
   refine sr (Zn rfl rfl (dn (ZMn (Z2 rfl (decide_eq_false (by omega)) ?_))))
   refine ZM1 (Zh (Zh (Zy ?_)))
   refine Zd (ZMn (sr (Za (v:=vI s12) rfl (Xr rfl rfl (by decide) (Jg rfl rfl (dn ?_))))))
   refine Zp rfl (fun hb15=>?_) (fun hb15=>?_)
   ·replace h:=ift h (ct hb15)
    refine sr (Yp hC 2 (ZMk .i64 s11) rfl ag73 rfl rfl rfl (Zx (v:=.agg (ZMl (ZMk .i64 s11))) hC 0 (ZMk .i64 s11) (ZMk .i64 s11) rfl ag73.size rfl rfl rfl rfl rfl (ZMw rfl) rfl fun w20 hC=>Zc (v:=vI (-1)) rfl (dn ?_)))
    refine ZMv (Zk ?_)
    exact Ja rfl (Zaa hC 0 rfl ag73 rfl rfl) (Ze rfl) ⟨s11,(-1),rfl,h,hC.below⟩ (.inl rfl)
   ·replace h:=Zj h (cf hb15)
    refine ZMr (Zd (sr (Yp hC 2 (ZMk .i64 s11) rfl ag73 rfl rfl rfl (Zx (v:=.agg (ZMl (ZMk .i64 s11))) hC 0 (ZMk .i64 s11) (ZMk .i64 s11) rfl ag73.size rfl rfl rfl rfl rfl (ZMw rfl) rfl fun w21 hC=>Zc (v:=vI 1) rfl (dn (ZMv ?_))))))
    exact Ja rfl (Zaa hC 0 rfl ag73 rfl rfl) (Ze rfl) ⟨s11,1,rfl,h,hC.below⟩ (.inl rfl)
  ·skip
   exact⟨(slq rfl),hC⟩
 ·skip
  exact⟨(slq rfl),hC⟩
def Ze9 (a0:List (A8×Int)) (a1:A8) (a2:Int) (K:List (A8×Int)→Prop):Prop :=
 Zcq (ZHd.wrap (((Y0 a0 a1).getD 0)+a2)) (fun r8=>(if r8≠0 then K (Yh a0 a1 r8) else K (Jc a0 a1)))
theorem Zpn (a0:List (A8×Int)) (a1:A8) (a2:Int)  {K:List (A8×Int)→Prop} (h:Ze9 a0 a1 a2 K) (w0:World) (q0:(mapS b0 a0).holds w0) :
  Calls ZMq 195 #[.map (some b0),.agg (ZMl (ZMk .i64 a1)),vI a2] w0 fun e w'=>∃ (m0:List (A8×Int)),
   e=.returned (.tuple #[])∧K m0∧(mapS b0 m0).holds w'∧BelB b0 w0 w':=by
 unfold Ze9 at h
 refine cof Tryz.func195 rfl 20 Tryz.ntmps195 ?_
 have hC:=Ctx.start1 w0 b0 (it:=mapS b0 a0) rfl [] q0 (by simp) (by simp)
 refine sr (Yg (v:=.agg (ZMl (ZMk .i64 a1))) hC (ZMk .i64 a1) rfl rfl fun b2 w4 hB_ hC=>dn (sr (Za (v:=.map (some b0)) rfl (Yp hC 0 (ZMk .i64 a1) rfl ag73 rfl rfl rfl (Zuv a1 0 (hC.getM 1 rfl) Jl ZNk z2 rfl rfl (Za (v:=vI a2) rfl (Zo rfl rfl (Zf [vI (ZHd.wrap (((Y0 a0 a1).getD 0)+a2))] _ Tryz.func187 rfl rfl rfl (Zl1 (ZHd.wrap (((Y0 a0 a1).getD 0)+a2)) h _) ?_))))))))
 rintro _ w7 ⟨r8,rfl,h,hB9⟩
 refine rt ?_
 replace hC:=hC.grow hB9
 refine Zc (v:=vI r8) rfl (dn (sr (Za (v:=vI r8) rfl (Y2 rfl rfl (dn ?_)))))
 refine Zp rfl (fun hb10=>?_) (fun hb10=>?_)
 ·replace h:=ift h (ct hb10)
  refine Zg (Za (v:=.map (some b0)) rfl (Yp hC 0 (ZMk .i64 a1) rfl ag73 rfl rfl rfl (Za (v:=vI r8) rfl ?_)))
  refine Zi0 hC 1 a1 r8 rfl Jl ZNk rfl rfl rfl (fun w10 hC=>?_) (.inl rfl)
  refine done ?_
  exact Zck rfl  ⟨Yh a0 a1 r8,rfl,h,(hC.getM 1 rfl),hC.belB⟩ (.inr rfl)
 ·replace h:=Zj h (cf hb10)
  refine Zg (Za (v:=.map (some b0)) rfl (Yp hC 0 (ZMk .i64 a1) rfl ag73 rfl rfl rfl (Zuu hC 1 a1 rfl Jl ZNk rfl rfl rfl fun w11 hC=>done ?_)))
  exact Zck rfl  ⟨Jc a0 a1,rfl,h,(hC.getM 1 rfl),hC.belB⟩ (.inr rfl)
def Zfa (a0:ZMp) (K:List (A8×Int)→Prop):Prop :=
 Yb (fun i10 (s10:(List (A8×Int))) nx10=>Zdf ((a0.terms.getD i10 ZEx).mono) (fun r10=>nx10 (Yh s10 r10 ((a0.terms.getD i10 ZEx).factor)))) (fun (s10:(List (A8×Int)))=>K s10) a0.terms.length 0 ([]:List (A8×Int))
theorem Zpo (a0:ZMp)  {K:List (A8×Int)→Prop} (h:Zfa a0 K) (w0:World) (q0:ZM9.rep a0 [u0_0] fp0 w0) :
  Calls ZMq 78 #[.agg #[u0_0]] w0 fun e w'=>∃ (r0:List (A8×Int)) (zb0:Nat),
   e=.returned (.map (some zb0))∧K r0∧(mapS zb0 r0).holds w'∧w0.heap.size≤zb0∧Bel w0 w':=by
 unfold Zfa at h
 refine cof Tryz.func78 rfl 22 Tryz.ntmps78 ?_
 have hC:=ZM8 (X:=Nox) w0 [ZMm TForm a0 [u0_0] fp0] (al1 q0)
 have hp2:=(hC.getP 0 rfl)
 replace hC:=hC.derive 0 rfl (ZMm ZMo.ty.sl a0.terms [u0_0] fp0) (fun _=>(Xi hp2)) (fun _ hb_=>hb_)
 refine sr (Yg (v:=.agg #[u0_0]) hC [u0_0] rfl rfl fun b4 w6 hB_ hC=>Zc (v:=.map none) rfl (dn (sr (Zf9 hC (kvA .i64) (vvI .i64) fun b7 w9 hB_ hC=>Zc (v:=.map (some b7)) rfl (dn (ZMn (sr (Zu 0 ZMu rfl sc53.size rfl rfl (Z5 hC 1 (u0_0) rfl sc53 rfl rfl (Zv hC 0 rfl ZMx rfl (Za (v:=vI 0) rfl (dn (ZMt ?_)))))))))))))
 have hN10:a0.terms.length≤9223372036854775807:=Yx (hC.getP 0 rfl)
 refine Yn (S:=(List (A8×Int))) _ _ (fun i10 s10 e_ w_=>Zt e_ [(3,.map (some b7)),(8,u0_0),(9,vI (a0.terms.length:Int)),(10,vI (i10:Int))]∧Ctx Nox w0 w_ [mapS b7 s10] [ZMm ZMo.ty.sl a0.terms [u0_0] fp0,ZMm TForm a0 [u0_0] fp0]) a0.terms.length ?_ ?_ (s0:=([]:List (A8×Int))) ?_ h
 ·clear hC h
  rintro i10 s10 e_ w10 nx10 K10 hi10 ⟨hS_,hC⟩ h hK10
  rw [ue hS_]
  refine sr (Zn rfl rfl (dn (ZMn (Yc rfl (decide_eq_true (by omega)) (ZMr (Zd (ZMn (ZMt (sr ?_)))))))))
  obtain ⟨Ad10,c10,hv10⟩:=Zw (hC.getP 0 rfl) i10 hi10
  refine Yo (len:=a0.terms.length) ZMx ag162.size (tr rfl hv10) rfl (ZM3 _) (ZNl.2 hi10) (Zak (ZMy (a0.terms.getD i10 ZEx)) (Ye (hC.getP 0 rfl) hv10 i10 hi10) ag162 rfl rfl (Yk hC (ZMy (⟨ZMs,0⟩:Term)) Ze8 rfl fun b10 w11 hB_ hC=>Zx (v:=.agg (ZMl (ZMy (a0.terms.getD i10 ZEx)))) hC 0 (ZMy (a0.terms.getD i10 ZEx)) (ZMy (a0.terms.getD i10 ZEx)) rfl ag162.size rfl rfl rfl rfl rfl (ZMw rfl) rfl fun w12 hC=>dn ?_))
  refine cwd 6 Yi [0,0,2,6,0,16,63] [2,5] [0,1,4] (fun hM11 hM10 w13 hB_=>?_)
  replace hC:=hC.grow hB_
  refine bM 0 (.map (some b7)) rfl hM10 (Zb 7 1) (bF 1 (vQ b10) rfl rfl hM10 (fun _=>by exact Yf 0 ZM2 rfl ag136.size rfl rfl) (Zb 7 3) (bL 2 (.agg (ZMl (ZMk .u8 ((a0.terms.getD i10 ZEx).mono)))) rfl rfl hM11 (fun _ hB_=>by exact Xf (hC.grow hB_) 0 (ZMk .u8 ((a0.terms.getD i10 ZEx).mono)) rfl ag136 rfl rfl rfl) (Zb 7 7) (bF 4 (.pointer (some ⟨b10,8,none⟩)) rfl rfl hM10 (fun _=>by exact Yf 8 ZM2 rfl sc2.size rfl rfl) (Zb 7 23) (bL 5 (vI ((a0.terms.getD i10 ZEx).factor)) rfl rfl hM11 (fun _ hB_=>by exact Ya (hC.grow hB_) 0 (vI ((a0.terms.getD i10 ZEx).factor)) rfl sc2 rfl rfl) (Zb 7 55) (aO 3 rfl (Zf [.agg (ZMl (ZMk .u8 ((a0.terms.getD i10 ZEx).mono)))] _ Tryz.func134 rfl rfl rfl (Zi9 ((a0.terms.getD i10 ZEx).mono) h _) ?_))))))
  rintro _ w14 ⟨r10,rfl,h,hB10⟩
  refine rt ?_
  replace hC:=hC.grow hB10
  refine done (aK (by assumption) (Zb 7 63) (Zz 6 (by decide) (by decide) (by kernel_rfl) (by kernel_rfl) rfl ?_))
  refine Zi0 hC 1 r10 ((a0.terms.getD i10 ZEx).factor) rfl Jl ZNk rfl rfl rfl (fun w15 hC=>?_) (.inl rfl)
  refine done (Z0 (Zq (Zd (Zg (Zo rfl rfl (Za (v:=vI (ZHd.wrap ((i10:Int)+1))) rfl (done ?_)))))))
  exact hK10 (Yh s10 r10 ((a0.terms.getD i10 ZEx).factor)) _ _ ⟨(sl ⟨rfl,rfl,rfl,(tr rfl (congrArg _ (Z6 hi10 hN10))),trivial⟩),(hC.xM [1] rfl)⟩ h
 ·clear hC h
  rintro s10 e_ w16 K10 ⟨hS_,hC⟩ h
  rw [ue hS_]
  refine sr (Zn rfl rfl (dn (ZMn (Z2 rfl (decide_eq_false (by omega)) ?_))))
  refine ZM1 (Zh (Zh (Zy ?_)))
  refine Zd (sr (Za (v:=.map (some b7)) rfl (Zc (v:=.map (some b7)) rfl (dn (ZMv ?_)))))
  exact Zi rfl (Ze rfl) ⟨s10,b7,rfl,h,(hC.getM 0 rfl),(Ziz hC 0 rfl),hC.below⟩ (.inl rfl)
 ·skip
  exact⟨(slq rfl),(hC.xM [0] rfl)⟩
def Zja (a0:A8) (a1:A8) (K:Int→Prop):Prop :=
 Yb (fun i10 (s10:Unit) nx10=>(if a0.get i10≠a1.get i10 then K (ZHd.wrap ((a1.get i10) - (a0.get i10))) else nx10 ())) (fun (s10:Unit)=>K 0) 8 0 ()
theorem Zv8 (a0:A8) (a1:A8)  {K:Int→Prop} (h:Zja a0 a1 K) (w0:World)  :
  Calls ZMq 158 #[.agg (ZMl (ZMk .i64 a0)),.agg (ZMl (ZMk .i64 a1))] w0 fun e w'=>∃ (r0:Int),
   e=.returned (vI r0)∧K r0∧Bel w0 w':=by
 unfold Zja at h
 refine cof Tryz.func158 rfl 24 Tryz.ntmps158 ?_
 have hC:=ZM8 (X:=Nox) w0 [] (by simp)
 refine sr (Yg (v:=.agg (ZMl (ZMk .i64 a0))) hC (ZMk .i64 a0) rfl rfl fun b1 w3 hB_ hC=>Yg (v:=.agg (ZMl (ZMk .i64 a1))) hC (ZMk .i64 a1) rfl rfl fun b4 w6 hB_ hC=>Zc (v:=vI 0) rfl (dn (ZMn (sr (Za (v:=vI 0) rfl (dn (ZMt ?_)))))))
 refine Yn (S:=Unit) _ _ (fun i10 s10 e_ w_=>Zt e_ [(2,vQ b1),(3,vQ b4),(6,vI (i10:Int))]∧Ctx Nox w0 w_ [blk b4 73 (ZMk .i64 a1),blk b1 73 (ZMk .i64 a0)] []) 8 ?_ ?_ (s0:=()) ?_ h
 ·clear hC h
  rintro i10 s10 e_ w10 nx10 K10 hi10 ⟨hS_,hC⟩ h hK10
  rw [ue hS_]
  refine sr (Zn rfl rfl (dn (ZMn (Yc rfl (decide_eq_true (by omega)) (ZMr (Zd (ZMn (ZMt (sr (Za (v:=vI (i10:Int)) rfl (Zc (v:=vI (i10:Int)) rfl (dn (ZMn ?_)))))))))))))
  refine cwd 6 Yi [0,1,3,0,8,24,63] [1,2,4,5] [0,3] (fun hM10 hM12 w11 hB_=>?_)
  replace hC:=hC.grow hB_
  refine bM 0 (vI (i10:Int)) rfl hM12 (Zb 7 1) (bL 1 (.pointer (some ⟨b1,i10,none⟩)) rfl rfl hM10 (fun _ hB_=>by exact J5 i10 ZNa sc3.size rfl rfl (ZM3 _) (by omega) (by omega)) (Zb 7 3) (bL 2 (vI (a0.get i10)) rfl rfl hM10 (fun _ hB_=>by exact Ya (hC.grow hB_) 1 (vI (a0.get i10)) rfl sc3 rfl (ZM0 _ _ hi10)) (Zb 7 7) (bM 3 (vI (i10:Int)) rfl hM12 (Zb 7 15) (bL 4 (.pointer (some ⟨b4,i10,none⟩)) rfl rfl hM10 (fun _ hB_=>by exact J5 i10 ZNa sc3.size rfl rfl (ZM3 _) (by omega) (by omega)) (Zb 7 31) (bL 5 (vI (a1.get i10)) rfl rfl hM10 (fun _ hB_=>by exact Ya (hC.grow hB_) 0 (vI (a1.get i10)) rfl sc3 rfl (ZM0 _ _ hi10)) (Zb 7 63) (Zz 6 (by decide) (by decide) (by kernel_rfl) (by kernel_rfl) rfl (Y2 rfl rfl (done (Z0 (Zd ?_))))))))))
  refine Zp rfl (fun hb10=>?_) (fun hb10=>?_)
  ·replace h:=ift h (ct hb10)
   refine ZMn ?_
   refine cwd 6 Yi [0,1,3,0,8,24,63,127] [1,2,4,5] [0,3] (fun hM11 hM13 w12 hB_=>?_)
   replace hC:=hC.grow hB_
   refine bM 0 (vI (i10:Int)) rfl hM13 (Zb 8 1) (bL 1 (.pointer (some ⟨b4,i10,none⟩)) rfl rfl hM11 (fun _ hB_=>by exact J5 i10 ZNa sc3.size rfl rfl (ZM3 _) (by omega) (by omega)) (Zb 8 3) (bL 2 (vI (a1.get i10)) rfl rfl hM11 (fun _ hB_=>by exact Ya (hC.grow hB_) 0 (vI (a1.get i10)) rfl sc3 rfl (ZM0 _ _ hi10)) (Zb 8 7) (bM 3 (vI (i10:Int)) rfl hM13 (Zb 8 15) (bL 4 (.pointer (some ⟨b1,i10,none⟩)) rfl rfl hM11 (fun _ hB_=>by exact J5 i10 ZNa sc3.size rfl rfl (ZM3 _) (by omega) (by omega)) (Zb 8 31) (bL 5 (vI (a0.get i10)) rfl rfl hM11 (fun _ hB_=>by exact Ya (hC.grow hB_) 1 (vI (a0.get i10)) rfl sc3 rfl (ZM0 _ _ hi10)) (Zb 8 63) (Zz 6 (by decide) (by decide) (by kernel_rfl) (by kernel_rfl) rfl (Jx rfl rfl (Zc (v:=vI (ZHd.wrap ((a1.get i10) - (a0.get i10)))) rfl (done (Z0 (Zd ?_)))))))))))
   refine ZMv (Z4 (Zk (Zk (Z4 (Zk ?_)))))
   exact Zi rfl (Ze rfl) ⟨ZHd.wrap ((a1.get i10) - (a0.get i10)),rfl,h,hC.below⟩ (.inl rfl)
  ·replace h:=Zj h (cf hb10)
   refine ZMr (Zq (Zd (Zg (Zo rfl rfl (Za (v:=vI (ZHd.wrap ((i10:Int)+1))) rfl (done ?_))))))
   exact hK10 () _ _ ⟨(sl ⟨rfl,rfl,(tr rfl (congrArg _ (Z6 hi10 (by decide)))),trivial⟩),hC⟩ h
 ·clear hC h
  rintro s10 e_ w13 K10 ⟨hS_,hC⟩ h
  rw [ue hS_]
  refine sr (Zn rfl rfl (dn (ZMn (Z2 rfl (decide_eq_false (by omega)) ?_))))
  refine ZM1 (Zh (Zh (Zy ?_)))
  refine Zd (sr (Zc (v:=vI 0) rfl (dn (ZMv ?_))))
  exact Zi rfl (Ze rfl) ⟨0,rfl,h,hC.below⟩ (.inl rfl)
 ·skip
  exact⟨(slq rfl),hC⟩
end Go.Proofs.YtaagfepgbofmlaaGreat
