import Derived.Test.YtaagfepgbofmlaaGreatQ0
set_option linter.unusedSectionVars false
set_option linter.unusedSimpArgs false
set_option linter.unusedVariables false
open Go renaming wp_seq→ZMh,wp_skip→ZMl,wp_block→ZMn,wp_ret→ZMp,wp_exit→ZMv
open Go.Instr renaming build→ZNc
open Go.IntKind renaming i64→ZG5,u8→ZMt
open Go.Proofs.Tryz renaming prog→ZMk,underlying55→ZMo,underlying53→ZMr,underlying162→ZMw,underlying136→ZMz,underlying22→ZM0,underlying32→ZM1,underlying73→ZM4,underlying30→ZM5,func125→ZM7,func123→ZM8,func95→ZNa,underlying115→ZNe,underlying5→ZNh,func174→ZNi,func124→ZNj,func121→ZNm,underlying2→ZNn,underlying3→ZNo,func196→ZNq
open Go.Value renaming ownBlock→ZFi
open Inhabited renaming default→ZEo
open Int renaming tmod→ZFf,natCast_nonneg→ZMx,ofNat_lt→ZNf
open List renaming toArray→ZMf,length_eq_one_iff→ZNd
open Nat renaming le_of_ble_eq_true→ZMq,le_trans→ZEp
open Option renaming toList→ZNg
open Vc renaming ETerm→ZMi,Form→ZMj,TForm→ZM3
open Vc.A8 renaming enc→ZMe,zero→ZMm,enc_get→ZMu,enc_set→ZNb
open Vc.Ctx renaming start→ZM2
open Vc.Enc renaming encs_append→ZM9,encs_one'→ZNk
open Vc.Term renaming enc→ZMs
open Vc.Tr renaming item→ZMy
open Vc.Ty renaming item→ZMg
set_option maxRecDepth 4000
set_option maxHeartbeats 4000000
namespace Go.Proofs.YtaagfepgbofmlaaGreat
open Go Go.RowKit Vc
variable {b0 bp0 b1 bp1 b2 bp2 b3 bp3 b4 bp4 b5 bp5 b6 bp6 b7 bp7 mb0:Nat} {u0_0 u0_1 u0_2 u0_3 u0_4 u0_5 u1_0 u1_1 u1_2 u1_3 u1_4 u1_5 u2_0 u2_1 u2_2 u2_3 u2_4 u2_5 u3_0 u3_1 u3_2 u3_3 u3_4 u3_5 u4_0 u4_1 u4_2 u4_3 u4_4 u4_5 u5_0 u5_1 u5_2 u5_3 u5_4 u5_5 u6_0 u6_1 u6_2 u6_3 u6_4 u6_5 u7_0 u7_1 u7_2 u7_3 u7_4 u7_5:Value} {fp0 fp1 fp2 fp3 fp4 fp5 fp6 fp7 fp0_0 fp0_1 fp0_2 fp0_3 fp0_4 fp0_5 fp1_0 fp1_1 fp1_2 fp1_3 fp1_4 fp1_5 F0:List Nat}
theorem sc2:ScaT ZMk 2:=⟨⟨_,ZNn,rfl⟩,by kernel_rfl⟩
theorem sc5:ScaT ZMk 5:=⟨⟨_,ZNh,rfl⟩,by kernel_rfl⟩
theorem z55:X7 ZMk 55 (.agg #[.slice none 0 0]):=by unfold X7; kernel_rfl
theorem Zfj  (w:World):(ZNc 55 #[]).run ZMk w=.ok (.agg #[.slice none 0 0]) w:=by kernel_rfl
theorem ag55:AggT ZMk 55 1:=⟨⟨_,ZMo,rfl⟩,by kernel_rfl⟩
theorem Yo:ZMk.follows .mixedOrders=true:=by kernel_rfl
theorem ag136:AggT ZMk 136 8:=⟨⟨_,ZMz,rfl⟩,by kernel_rfl⟩
theorem Zg3 (x0:A8) (x1:Int) (w:World):(ZNc 162 #[(0,.agg (ZMf (ZMe .u8 x0))),(1,.int .i64 x1)]).run ZMk w=.ok (.agg (ZMf (ZMs (⟨x0,x1⟩:Term)))) w:=by kernel_rfl
theorem Zfk (x0:Term) (w:World):(Instr.buildSlice 53 1 #[(0,.agg (ZMf (ZMs x0)))]).run ZMk w=.ok (.slice (some ⟨w.heap.size,0,none⟩) 1 1) (w.alloc (.cells (ZMf (ZMi.encs [x0])) 162)):=by kernel_rfl
theorem Zvr (x0:Value) (hx0:Zei x0) (w:World):(ZNc 55 #[(0,x0)]).run ZMk w=.ok (.agg #[x0]) w:=by obtain ⟨_,_,_,rfl⟩:=hx0; kernel_rfl
theorem sc53:ScaT ZMk 53:=⟨⟨_,ZMr,rfl⟩,by kernel_rfl⟩
theorem ag162:AggT ZMk 162 9:=⟨⟨_,ZMw,rfl⟩,by kernel_rfl⟩
theorem Zfl:J3 ZMk 162 (.agg (ZMf (ZMs (⟨ZMm,0⟩:Term)))) 9 16:=by unfold J3; kernel_rfl
theorem Zbq:X7 ZMk 136 (.agg (ZMf (ZMe .u8 ZMm))):=by unfold X7; kernel_rfl
theorem Zm3  (w:World):(ZNc 136 #[]).run ZMk w=.ok (.agg (ZMf (ZMe .u8 ZMm))) w:=by kernel_rfl
theorem Zfm:X7 ZMk 162 (.agg (ZMf (ZMs (⟨ZMm,0⟩:Term)))):=by unfold X7; kernel_rfl
theorem sc22:ScaT ZMk 22:=⟨⟨_,ZM0,rfl⟩,by kernel_rfl⟩
theorem sc30:ScaT ZMk 30:=⟨⟨_,ZM5,rfl⟩,by kernel_rfl⟩
theorem ag32:AggT ZMk 32 2:=⟨⟨_,ZM1,rfl⟩,by kernel_rfl⟩
theorem z73:X7 ZMk 73 (.agg (ZMf (ZMe .i64 ZMm))):=by unfold X7; kernel_rfl
theorem Zg4  (w:World):(ZNc 73 #[]).run ZMk w=.ok (.agg (ZMf (ZMe .i64 ZMm))) w:=by kernel_rfl
theorem ag73:AggT ZMk 73 8:=⟨⟨_,ZM4,rfl⟩,by kernel_rfl⟩
theorem sc3:ScaT ZMk 3:=⟨⟨_,ZNo,rfl⟩,by kernel_rfl⟩
theorem Js:KeyT ZMk 73 (kvA .i64):=Zmp ZM4 ZNo sc3
theorem z2:X7 ZMk 2 (.int .i64 0):=by unfold X7; kernel_rfl
theorem Zvs (x0:A8) (w:World):(Instr.buildSlice 122 1 #[(0,.agg (ZMf (ZMe .i64 x0)))]).run ZMk w=.ok (.slice (some ⟨w.heap.size,0,none⟩) 1 1) (w.alloc (.cells (ZMf ((EA .i64).encs [x0])) 73)):=by kernel_rfl
theorem Zvt:J3 ZMk 73 (.agg (ZMf (ZMe .i64 ZMm))) 8 64:=by unfold J3; kernel_rfl
theorem Zm4:X7 ZMk 211 (.agg (ZMf (List.replicate 8 (Value.map none)))):=by unfold X7; kernel_rfl
theorem Zvu (w:World):(ZNc 211 #[]).run ZMk w=.ok (.agg (ZMf (List.replicate 8 (Value.map none)))) w:=by kernel_rfl
theorem ag211:AggT ZMk 211 8:=⟨⟨_,Tryz.underlying211,rfl⟩,by kernel_rfl⟩
theorem sc115:ScaT ZMk 115:=⟨⟨_,ZNe,rfl⟩,by kernel_rfl⟩
theorem el2:J3 ZMk 2 (.int .i64 0) 1 8:=by unfold J3; kernel_rfl
theorem ag135:AggT ZMk 135 8:=⟨⟨_,Tryz.underlying135,rfl⟩,by kernel_rfl⟩
theorem ag170:AggT ZMk 170 9:=⟨⟨_,Tryz.underlying170,rfl⟩,by kernel_rfl⟩
theorem sc48:ScaT ZMk 48:=⟨⟨_,Tryz.underlying48,rfl⟩,by kernel_rfl⟩
def Zdr (a0:Int) (a1:Int) (a2:Int) (K:Bool→Prop):Prop :=
 (if a0≥a1 then K (decide (a0≤a2)) else K false)
theorem Zj9 (a0:Int) (a1:Int) (a2:Int)  {K:Bool→Prop} (h:Zdr a0 a1 a2 K) (w0:World)  :
  Calls ZMk 59 #[vI a0,vI a1,vI a2] w0 fun e w'=>∃ (r0:Bool),
   e=.returned (.bool r0)∧K r0∧Bel w0 w':=by
 unfold Zdr at h
 refine cof Tryz.func59 rfl 15 Tryz.ntmps59 ?_
 have hC:=ZM2 (X:=Nox) w0 [] (by simp)
 refine sr (Zd (v:=.bool false) rfl (dn (sr (Za (v:=vI a0) rfl (Za (v:=vI a1) rfl (J7 rfl rfl (Za (v:=.bool (decide (a0≥a1))) rfl ?_)))))))
 refine Y7 (decide (a0≥a1)) (fun hb1=>?_) (fun hb1=>?_)
 ·replace h:=ift h (ct hb1)
  refine Zp 3 10 rfl rfl hb1 (Za (v:=vI a0) rfl (Zp 3 10 rfl rfl hb1 (Za (v:=vI a2) rfl (Zp 3 10 rfl rfl hb1 (Zb7 rfl rfl (Z4 (v:=.bool (decide (a0≤a2))) (b:=true) (tr rfl (congrArg _ hb1)) rfl (Zd (v:=.bool (decide (a0≤a2))) rfl (dn (ZMp ?_)))))))))
  exact Zi rfl (Zg rfl) ⟨decide (a0≤a2),rfl,h,hC.below⟩ (.inl rfl)
 ·replace h:=Zk h (cf hb1)
  refine Zl (b:=false) 3 10 rfl (tr rfl (congrArg _ hb1)) (by decide) (Zl (b:=false) 3 10 rfl (tr rfl (congrArg _ hb1)) (by decide) (Zl (b:=false) 3 10 rfl (tr rfl (congrArg _ hb1)) (by decide) (Z4 (v:=.bool false) (b:=false) (tr rfl (congrArg _ hb1)) rfl (Zd (v:=.bool false) rfl (dn (ZMp ?_))))))
  exact Zi rfl (Zg rfl) ⟨false,rfl,h,hC.below⟩ (.inl rfl)
def Zg5 (a0:List Int) (K:Bool→Prop):Prop :=
 Z8 (fun i10 (s10:Unit) nx10=>Zdr (a0.getD i10 ZEo) 1 12 (fun r10=>(if¬ (r10=true) then K false else nx10 ()))) (fun (s10:Unit)=>K (decide ((a0.length:Int)≤8))) a0.length 0 ()
theorem Zvv (a0:List Int)  {K:Bool→Prop} (h:Zg5 a0 K) (w0:World) (q0:TInts.rep a0 [u0_0] fp0 w0) :
  Calls ZMk 149 #[u0_0] w0 fun e w'=>∃ (r0:Bool),
   e=.returned (.bool r0)∧K r0∧Bel w0 w':=by
 unfold Zg5 at h
 refine cof Tryz.func149 rfl 19 Tryz.ntmps149 ?_
 have hC:=ZM2 (X:=Nox) w0 [ZMg TInts a0 [u0_0] fp0] (al1 q0)
 refine sr (Zd (v:=.bool false) rfl (dn (ZMh (sr (Zd (v:=vI 0) rfl (dn (ZMn ?_)))))))
 have hN10:a0.length≤9223372036854775807:=Yw (hC.getP 0 rfl)
 refine Yi (S:=Unit) _ _ (fun i10 s10 e_ w_=>Zt e_ [(0,u0_0),(3,vI (i10:Int))]∧Ctx Nox w0 w_ [] [ZMg TInts a0 [u0_0] fp0]) a0.length ?_ ?_ (s0:=()) ?_ h
 ·clear hC h
  rintro i10 s10 e_ w10 nx10 K10 hi10 ⟨hS_,hC⟩ h hK10
  rw [ue hS_]
  refine ZMh (sr (Za (v:=vI (i10:Int)) rfl (Za (v:=u0_0) rfl (Zu hC 0 rfl ZM0 rfl (Zn rfl rfl (dn (Z5 rfl (decide_eq_true (by omega)) (ZMl (Ze (ZMh (ZMn (sr (Za (v:=u0_0) rfl (Za (v:=vI (i10:Int)) rfl ?_))))))))))))))
  obtain ⟨Ad10,c10,hv10⟩:=Zw (hC.getP 0 rfl) i10 hi10
  refine Yn (len:=a0.length) ZM0 sc2.size (tr rfl hv10) rfl (ZMx _) (ZNf.2 hi10) (Yp (vI (a0.getD i10 ZEo)) (Yd (hC.getP 0 rfl) hv10 i10 hi10) sc2 rfl (Zf [vI (a0.getD i10 ZEo),vI 1,vI 12] _ Tryz.func59 rfl rfl rfl (Zj9 (a0.getD i10 ZEo) 1 12 h _) ?_))
  rintro _ w11 ⟨r10,rfl,h,hB10⟩
  refine rt ?_
  replace hC:=hC.grow hB10
  refine Xe rfl (dn ?_)
  refine Zs rfl (fun hb10=>?_) (fun hb10=>?_)
  ·replace h:=ift h (Y4 (Xi hb10))
   refine sr (Zd (v:=.bool false) rfl (dn ?_))
   refine ZMp (Ya (Zm (Zm (Ya (Zm ?_)))))
   exact Zi rfl (Zg rfl) ⟨false,rfl,h,hC.below⟩ (.inl rfl)
  ·replace h:=Zk h (not_not_intro ((Xj hb10)))
   refine ZMl (Zr (Ze (Zh (Za (v:=vI (i10:Int)) rfl (Zq rfl rfl (Zd (v:=vI (ZG5.wrap ((i10:Int)+1))) rfl (done ?_)))))))
   exact hK10 () _ _ ⟨(sl ⟨rfl,(tr rfl (congrArg _ (Z2 hi10 hN10))),trivial⟩),hC⟩ h
 ·clear hC h
  rintro s10 e_ w12 K10 ⟨hS_,hC⟩ h
  rw [ue hS_]
  refine ZMh (sr (Za (v:=vI (a0.length:Int)) rfl (Za (v:=u0_0) rfl (Zu hC 0 rfl ZM0 rfl (Zn rfl rfl (dn (Z1 rfl (decide_eq_false (by omega)) ?_)))))))
  refine ZMv (Zj (Zj (Zx ?_)))
  refine Ze (sr (Za (v:=u0_0) rfl (Zu hC 0 rfl ZM0 rfl (Zb7 rfl rfl (Zd (v:=.bool (decide ((a0.length:Int)≤8))) rfl (dn (ZMp ?_)))))))
  exact Zi rfl (Zg rfl) ⟨decide ((a0.length:Int)≤8),rfl,h,hC.below⟩ (.inl rfl)
 ·skip
  exact⟨(slq rfl),hC⟩
def Zg6 (a0:List Int) (a1:A8) (K:Bool→Prop):Prop :=
 Z8 (fun i10 (s10:Unit) nx10=>(if(i10:Int)≥(a0.length:Int) then(if a1.get i10≠0 then K false else nx10 ()) else(if a1.get i10 > 20 then K false else((0≤(i10:Int)∧(i10:Int) < (a0.length:Int))∧(if ZFf (a0.getD i10 ZEo) 2≠0 then(if a1.get i10 > 1 then K false else nx10 ()) else nx10 ()))))) (fun (s10:Unit)=>K true) 8 0 ()
theorem Zvw (a0:List Int) (a1:A8)  {K:Bool→Prop} (h:Zg6 a0 a1 K) (w0:World) (q0:TInts.rep a0 [u0_0] fp0 w0) :
  Calls ZMk 173 #[u0_0,.agg (ZMf (ZMe .u8 a1))] w0 fun e w'=>∃ (r0:Bool),
   e=.returned (.bool r0)∧K r0∧Bel w0 w':=by
 unfold Zg6 at h
 refine cof Tryz.func173 rfl 38 Tryz.ntmps173 ?_
 have hC:=ZM2 (X:=Nox) w0 [ZMg TInts a0 [u0_0] fp0] (al1 q0)
 refine sr (Yg (v:=.agg (ZMf (ZMe .u8 a1))) hC (ZMe .u8 a1) rfl rfl fun b2 w4 hB_ hC=>Zd (v:=.bool false) rfl (dn (ZMh (sr (Zd (v:=vI 0) rfl (dn (ZMn ?_)))))))
 refine Yi (S:=Unit) _ _ (fun i10 s10 e_ w_=>Zt e_ [(0,u0_0),(3,vQ b2),(5,vI (i10:Int))]∧Ctx Nox w0 w_ [blk b2 136 (ZMe .u8 a1)] [ZMg TInts a0 [u0_0] fp0]) 8 ?_ ?_ (s0:=()) ?_ h
 ·clear hC h
  rintro i10 s10 e_ w10 nx10 K10 hi10 ⟨hS_,hC⟩ h hK10
  rw [ue hS_]
  refine ZMh (sr (Za (v:=vI (i10:Int)) rfl (Zn rfl rfl (dn (Z5 rfl (decide_eq_true (by omega)) (ZMl (Ze (ZMh (ZMn (ZMn (sr (Za (v:=vI (i10:Int)) rfl (Za (v:=u0_0) rfl (Zu hC 0 rfl ZM0 rfl (J7 rfl rfl (Zd (v:=.bool (decide ((i10:Int)≥(a0.length:Int)))) rfl (dn ?_)))))))))))))))))
  refine Zs rfl (fun hb12=>?_) (fun hb12=>?_)
  ·replace h:=ift h (ct hb12)
   refine sr (Za (v:=vI (i10:Int)) rfl (Xs i10 ZMz sc5.size rfl rfl (ZMx _) (by omega) (by omega) (Yb hC 0 (.int .u8 (a1.get i10)) rfl sc5 rfl (ZMu _ _ hi10) (Y6 rfl rfl (dn ?_)))))
   refine Zs rfl (fun hb13=>?_) (fun hb13=>?_)
   ·replace h:=ift h (ct hb13)
    refine sr (Zd (v:=.bool false) rfl (dn ?_))
    refine ZMp (Ya (Ya (Zm (Zm (Ya (Zm ?_))))))
    exact Zi rfl (Zg rfl) ⟨false,rfl,h,hC.below⟩ (.inl rfl)
   ·replace h:=Zk h (cf hb13)
    refine ZMl (Zr (Zr (Ze (Zh (Za (v:=vI (i10:Int)) rfl (Zq rfl rfl (Zd (v:=vI (ZG5.wrap ((i10:Int)+1))) rfl (done ?_))))))))
    exact hK10 () _ _ ⟨(sl ⟨rfl,rfl,(tr rfl (congrArg _ (Z2 hi10 (by decide)))),trivial⟩),hC⟩ h
  ·replace h:=Zk h (cf hb12)
   refine sr (Za (v:=vI (i10:Int)) rfl (Xs i10 ZMz sc5.size rfl rfl (ZMx _) (by omega) (by omega) (Yb hC 0 (.int .u8 (a1.get i10)) rfl sc5 rfl (ZMu _ _ hi10) (Jh rfl rfl (Za (v:=.bool (decide (a1.get i10 > 20))) rfl ?_)))))
   refine Y7 (decide (a1.get i10 > 20)) (fun hb10=>?_) (fun hb10=>?_)
   ·replace h:=ift h (ct hb10)
    refine Zl (b:=true) 4 24 rfl (tr rfl (congrArg _ hb10)) (by decide) (Zl (b:=true) 4 24 rfl (tr rfl (congrArg _ hb10)) (by decide) (Zl (b:=true) 4 24 rfl (tr rfl (congrArg _ hb10)) (by decide) (Zl (b:=true) 4 24 rfl (tr rfl (congrArg _ hb10)) (by decide) (Zl (b:=true) 4 24 rfl (tr rfl (congrArg _ hb10)) (by decide) (Zl (b:=true) 4 24 rfl (tr rfl (congrArg _ hb10)) (by decide) (Zl (b:=true) 4 24 rfl (tr rfl (congrArg _ hb10)) (by decide) (J1 11 31 rfl rfl (J1 11 31 rfl rfl (J1 11 31 rfl rfl (J1 11 31 rfl rfl (Zl (b:=true) 4 24 rfl (tr rfl (congrArg _ hb10)) (by decide) (Z4 (v:=.bool true) (b:=true) (tr rfl (congrArg _ hb10)) rfl (Zd (v:=.bool true) rfl (dn (Z5 rfl rfl (sr (Zd (v:=.bool false) rfl (dn ?_))))))))))))))))))
    refine ZMp (Ya (Ya (Zm (Zm (Ya (Zm ?_))))))
    exact Zi rfl (Zg rfl) ⟨false,rfl,h,hC.below⟩ (.inl rfl)
   ·replace h:=Zk h (cf hb10)
    refine Zp 4 24 rfl rfl hb10 (Za (v:=u0_0) rfl (Zp 4 24 rfl rfl hb10 (Za (v:=vI (i10:Int)) rfl (Zp 4 24 rfl rfl hb10 ?_))))
    obtain ⟨⟨h10,h11⟩,h⟩:=h
    obtain ⟨Ad10,c10,hv10⟩:=Zw (hC.getP 0 rfl) i10 (show i10 < a0.length by omega)
    refine Yn (len:=a0.length) ZM0 sc2.size (tr rfl hv10) rfl h10 h11 (Zp 4 24 rfl rfl hb10 (Yp (vI (a0.getD i10 ZEo)) (Yd (hC.getP 0 rfl) hv10 i10 (show i10 < a0.length by omega)) sc2 rfl (Zp 4 24 rfl rfl hb10 (X8 rfl rfl (by decide) (Zp 4 24 rfl rfl hb10 (Y6 rfl rfl (Zp 4 24 rfl rfl hb10 (Za (v:=.bool (decide (ZFf (a0.getD i10 ZEo) 2≠0))) rfl ?_))))))))
    refine Y7 (decide (ZFf (a0.getD i10 ZEo) 2≠0)) (fun hb11=>?_) (fun hb11=>?_)
    ·replace h:=ift h (ct hb11)
     refine Zp 11 31 rfl rfl hb11 (Za (v:=vI (i10:Int)) rfl (Zp 11 31 rfl rfl hb11 (Xs i10 ZMz sc5.size rfl rfl (ZMx _) (by omega) (by omega) (Zp 11 31 rfl rfl hb11 (Yb hC 0 (.int .u8 (a1.get i10)) rfl sc5 rfl (ZMu _ _ hi10) (Zp 11 31 rfl rfl hb11 (Jh rfl rfl (Zp 4 24 rfl rfl hb10 (Z4 (v:=.bool (decide (a1.get i10 > 1))) (b:=true) (tr rfl (congrArg _ hb11)) rfl (Z4 (v:=.bool (decide (a1.get i10 > 1))) (b:=false) (tr rfl (congrArg _ hb10)) rfl (Zd (v:=.bool (decide (a1.get i10 > 1))) rfl (dn ?_))))))))))))
     refine Zs rfl (fun hb14=>?_) (fun hb14=>?_)
     ·replace h:=ift h (ct hb14)
      refine sr (Zd (v:=.bool false) rfl (dn ?_))
      refine ZMp (Ya (Ya (Zm (Zm (Ya (Zm ?_))))))
      exact Zi rfl (Zg rfl) ⟨false,rfl,h,hC.below⟩ (.inl rfl)
     ·replace h:=Zk h (cf hb14)
      refine ZMl (Zr (Zr (Ze (Zh (Za (v:=vI (i10:Int)) rfl (Zq rfl rfl (Zd (v:=vI (ZG5.wrap ((i10:Int)+1))) rfl (done ?_))))))))
      exact hK10 () _ _ ⟨(sl ⟨rfl,rfl,(tr rfl (congrArg _ (Z2 hi10 (by decide)))),trivial⟩),hC⟩ h
    ·replace h:=Zk h (cf hb11)
     refine Zl (b:=false) 11 31 rfl (tr rfl (congrArg _ hb11)) (by decide) (Zl (b:=false) 11 31 rfl (tr rfl (congrArg _ hb11)) (by decide) (Zl (b:=false) 11 31 rfl (tr rfl (congrArg _ hb11)) (by decide) (Zl (b:=false) 11 31 rfl (tr rfl (congrArg _ hb11)) (by decide) (Zp 4 24 rfl rfl hb10 (Z4 (v:=.bool false) (b:=false) (tr rfl (congrArg _ hb11)) rfl (Z4 (v:=.bool false) (b:=false) (tr rfl (congrArg _ hb10)) rfl (Zd (v:=.bool false) rfl (dn (Z1 rfl rfl (ZMl (Zr (Zr (Ze (Zh (Za (v:=vI (i10:Int)) rfl (Zq rfl rfl (Zd (v:=vI (ZG5.wrap ((i10:Int)+1))) rfl (done ?_))))))))))))))))))
     exact hK10 () _ _ ⟨(sl ⟨rfl,rfl,(tr rfl (congrArg _ (Z2 hi10 (by decide)))),trivial⟩),hC⟩ h
 ·clear hC h
  rintro s10 e_ w11 K10 ⟨hS_,hC⟩ h
  rw [ue hS_]
  refine ZMh (sr (Za (v:=vI 8) rfl (Zn rfl rfl (dn (Z1 rfl (decide_eq_false (by omega)) ?_)))))
  refine ZMv (Zj (Zj (Zx ?_)))
  refine Ze (sr (Zd (v:=.bool true) rfl (dn (ZMp ?_))))
  exact Zi rfl (Zg rfl) ⟨true,rfl,h,hC.below⟩ (.inl rfl)
 ·skip
  exact⟨(slq rfl),hC⟩
def Je (a0:Int) (K:Int→Prop):Prop :=
 K (ZFf (ZG5.wrap ((ZFf a0 10007)+10007)) 10007)
theorem Zbr (a0:Int)  {K:Int→Prop} (h:Je a0 K) (w0:World)  :
  Calls ZMk 125 #[vI a0] w0 fun e w'=>∃ (r0:Int),
   e=.returned (vI r0)∧K r0∧Bel w0 w':=by
 unfold Je at h
 refine cof ZM7 rfl 7 Tryz.ntmps125 ?_
 have hC:=ZM2 (X:=Nox) w0 [] (by simp)
 refine sr (Zd (v:=vI 0) rfl (dn (sr (Za (v:=vI a0) rfl (X8 rfl rfl (by decide) (Zq rfl rfl (X8 rfl rfl (by decide) (Zd (v:=vI (ZFf (ZG5.wrap ((ZFf a0 10007)+10007)) 10007)) rfl (dn (ZMp ?_))))))))))
 exact Zi rfl (Zg rfl) ⟨ZFf (ZG5.wrap ((ZFf a0 10007)+10007)) 10007,rfl,h,hC.below⟩ (.inl rfl)
def Zad (a0:A8) (a1:Int) (K:ZMj→Prop):Prop :=
 Je a1 (fun r11=>(if r11=0 then K (⟨[]⟩:ZMj) else Je a1 (fun r10=>K (⟨[(⟨a0,r10⟩:Term)]⟩:ZMj))))
theorem Zds (a0:A8) (a1:Int)  {K:ZMj→Prop} (h:Zad a0 a1 K) (w0:World)  :
  Calls ZMk 95 #[.agg (ZMf (ZMe .u8 a0)),vI a1] w0 fun e w'=>∃ (r0:ZMj) (z0_0:Value) (fz0:List Nat),
   e=.returned (.agg #[z0_0])∧K r0∧(ZMy (Yj 162) r0 [z0_0] fz0).holds w'∧(∀ b,b∈fz0→w0.heap.size≤b)∧Bel w0 w':=by
 unfold Zad at h
 refine cof ZNa rfl 15 Tryz.ntmps95 ?_
 have hC:=ZM2 (X:=Nox) w0 [] (by simp)
 refine sr (Yg (v:=.agg (ZMf (ZMe .u8 a0))) hC (ZMe .u8 a0) rfl rfl fun b1 w3 hB_ hC=>Ys hC [.slice none 0 0] z55 rfl fun b4 w6 hB_ hC=>dn (ZMh (sr (Za (v:=vI a1) rfl (Zf [vI a1] _ ZM7 rfl rfl rfl (Zbr a1 h _) ?_)))))
 rintro _ w9 ⟨r11,rfl,h,hB10⟩
 refine rt ?_
 replace hC:=hC.grow hB10
 refine Xx rfl rfl (dn ?_)
 refine Zs rfl (fun hb10=>?_) (fun hb10=>?_)
 ·replace h:=ift h (ct hb10)
  refine sr (J2 [] rfl (Zfj   _) (Z3 (v:=.agg #[.slice none 0 0]) hC 0 [.slice none 0 0] [.slice none 0 0] rfl ag55.size rfl rfl rfl rfl rfl (ZMq rfl) rfl fun w10 hC=>dn ?_))
  refine ZMp (Zm ?_)
  exact Zi rfl (J8 hC 0 rfl ag55 rfl rfl) ⟨(⟨[]⟩:ZMj),.slice none 0 0,[],rfl,h,(Zcn (Zba _ _ _)),(fun b hb=>absurd hb (by simp)),hC.below⟩ (.inl rfl)
 ·replace h:=Zk h (cf hb10)
  refine ZMl (Ze (ZMh ?_))
  refine cwd 3 Yo [0,0,2,7,15,31,63] [0] [1] (fun hM10 hM11 w11 hB_=>?_)
  replace hC:=hC.grow hB_
  refine bL 0 (.agg (ZMf (ZMe .u8 a0))) rfl rfl hM10 (fun _ hB_=>by exact Xa (hC.grow hB_) 1 (ZMe .u8 a0) rfl ag136 rfl rfl rfl) (Zc 7 1) (bM 1 (vI a1) rfl hM11 (Zc 7 3) (aO 2 rfl (Zf [vI a1] _ ZM7 rfl rfl rfl (Zbr a1 h _) ?_)))
  rintro _ w12 ⟨r10,rfl,h,hB11⟩
  refine rt ?_
  replace hC:=hC.grow hB11
  refine done (aK (by assumption) (Zc 7 7) (Z6 3 (by decide) (by decide) (by kernel_rfl) (by kernel_rfl) rfl (J2 [(0,.agg (ZMf (ZMe .u8 a0))),(1,vI r10)] rfl (Zg3 a0 r10  _) (Ye (sz:=9) hC [(0,.agg (ZMf (ZMs (⟨a0,r10⟩:Term))))] (ZMi.encs [(⟨a0,r10⟩:Term)]) rfl (fun _=>Zfk (⟨a0,r10⟩:Term) _) rfl (by decide) fun b10 w13 hB_ hC=>J2 [(0,.slice (some ⟨b10,0,none⟩) 1 1)] rfl (Zvr (.slice (some ⟨b10,0,none⟩) 1 1) (Zbc (hC.getM 0 rfl)) _) (Z3 (v:=.agg #[.slice (some ⟨b10,0,none⟩) 1 1]) hC 1 [.slice (some ⟨b10,0,none⟩) 1 1] [.slice (some ⟨b10,0,none⟩) 1 1] rfl ag55.size rfl rfl rfl rfl (Xp (X4 (hC.getM 0 rfl)) rfl) (ZMq rfl) rfl fun w14 hC=>done (Z7 (Ze (ZMp ?_))))))))
  exact Zi rfl (J8 hC 1 rfl ag55 rfl rfl) ⟨(⟨[(⟨a0,r10⟩:Term)]⟩:ZMj),.slice (some ⟨b10,0,none⟩) 1 1,(ZNg (ZFi (.slice (some ⟨b10,0,none⟩) 1 1))),rfl,h,(Zcn (Xf (hC.getM 0 rfl))),(Y8 hC 0 rfl),hC.below⟩ (.inl rfl)
def Zej (a0:A8) (a1:A8) (K:Bool→Prop):Prop :=
 Z8 (fun i10 (s10:Unit) nx10=>(if a0.get i10≠a1.get i10 then K (decide (a0.get i10 > a1.get i10)) else nx10 ())) (fun (s10:Unit)=>K false) 8 0 ()
theorem Zm5 (a0:A8) (a1:A8)  {K:Bool→Prop} (h:Zej a0 a1 K) (w0:World)  :
  Calls ZMk 174 #[.agg (ZMf (ZMe .u8 a0)),.agg (ZMf (ZMe .u8 a1))] w0 fun e w'=>∃ (r0:Bool),
   e=.returned (.bool r0)∧K r0∧Bel w0 w':=by
 unfold Zej at h
 refine cof ZNi rfl 24 Tryz.ntmps174 ?_
 have hC:=ZM2 (X:=Nox) w0 [] (by simp)
 refine sr (Yg (v:=.agg (ZMf (ZMe .u8 a0))) hC (ZMe .u8 a0) rfl rfl fun b1 w3 hB_ hC=>Yg (v:=.agg (ZMf (ZMe .u8 a1))) hC (ZMe .u8 a1) rfl rfl fun b4 w6 hB_ hC=>Zd (v:=.bool false) rfl (dn (ZMh (sr (Zd (v:=vI 0) rfl (dn (ZMn ?_)))))))
 refine Yi (S:=Unit) _ _ (fun i10 s10 e_ w_=>Zt e_ [(2,vQ b1),(3,vQ b4),(5,vI (i10:Int))]∧Ctx Nox w0 w_ [blk b4 136 (ZMe .u8 a1),blk b1 136 (ZMe .u8 a0)] []) 8 ?_ ?_ (s0:=()) ?_ h
 ·clear hC h
  rintro i10 s10 e_ w10 nx10 K10 hi10 ⟨hS_,hC⟩ h hK10
  rw [ue hS_]
  refine ZMh (sr (Za (v:=vI (i10:Int)) rfl (Zn rfl rfl (dn (Z5 rfl (decide_eq_true (by omega)) (ZMl (Ze (ZMh (ZMn (ZMh ?_))))))))))
  refine cwd 6 Yo [0,1,3,0,8,24,63] [1,2,4,5] [0,3] (fun hM10 hM12 w11 hB_=>?_)
  replace hC:=hC.grow hB_
  refine bM 0 (vI (i10:Int)) rfl hM12 (Zc 7 1) (bL 1 (.pointer (some ⟨b1,i10,none⟩)) rfl rfl hM10 (fun _ hB_=>by exact Zag i10 ZMz sc5.size rfl rfl (ZMx _) (by omega) (by omega)) (Zc 7 3) (bL 2 (.int .u8 (a0.get i10)) rfl rfl hM10 (fun _ hB_=>by exact Yh (hC.grow hB_) 1 (.int .u8 (a0.get i10)) rfl sc5 rfl (ZMu _ _ hi10)) (Zc 7 7) (bM 3 (vI (i10:Int)) rfl hM12 (Zc 7 15) (bL 4 (.pointer (some ⟨b4,i10,none⟩)) rfl rfl hM10 (fun _ hB_=>by exact Zag i10 ZMz sc5.size rfl rfl (ZMx _) (by omega) (by omega)) (Zc 7 31) (bL 5 (.int .u8 (a1.get i10)) rfl rfl hM10 (fun _ hB_=>by exact Yh (hC.grow hB_) 0 (.int .u8 (a1.get i10)) rfl sc5 rfl (ZMu _ _ hi10)) (Zc 7 63) (Z6 6 (by decide) (by decide) (by kernel_rfl) (by kernel_rfl) rfl (Y6 rfl rfl (done (Z7 (Ze ?_))))))))))
  refine Zs rfl (fun hb10=>?_) (fun hb10=>?_)
  ·replace h:=ift h (ct hb10)
   refine ZMh ?_
   refine cwd 6 Yo [0,1,3,0,8,24,63,127] [1,2,4,5] [0,3] (fun hM11 hM13 w12 hB_=>?_)
   replace hC:=hC.grow hB_
   refine bM 0 (vI (i10:Int)) rfl hM13 (Zc 8 1) (bL 1 (.pointer (some ⟨b1,i10,none⟩)) rfl rfl hM11 (fun _ hB_=>by exact Zag i10 ZMz sc5.size rfl rfl (ZMx _) (by omega) (by omega)) (Zc 8 3) (bL 2 (.int .u8 (a0.get i10)) rfl rfl hM11 (fun _ hB_=>by exact Yh (hC.grow hB_) 1 (.int .u8 (a0.get i10)) rfl sc5 rfl (ZMu _ _ hi10)) (Zc 8 7) (bM 3 (vI (i10:Int)) rfl hM13 (Zc 8 15) (bL 4 (.pointer (some ⟨b4,i10,none⟩)) rfl rfl hM11 (fun _ hB_=>by exact Zag i10 ZMz sc5.size rfl rfl (ZMx _) (by omega) (by omega)) (Zc 8 31) (bL 5 (.int .u8 (a1.get i10)) rfl rfl hM11 (fun _ hB_=>by exact Yh (hC.grow hB_) 0 (.int .u8 (a1.get i10)) rfl sc5 rfl (ZMu _ _ hi10)) (Zc 8 63) (Z6 6 (by decide) (by decide) (by kernel_rfl) (by kernel_rfl) rfl (Jh rfl rfl (Zd (v:=.bool (decide (a0.get i10 > a1.get i10))) rfl (done (Z7 (Ze ?_)))))))))))
   refine ZMp (Ya (Zm (Zm (Ya (Zm ?_)))))
   exact Zi rfl (Zg rfl) ⟨decide (a0.get i10 > a1.get i10),rfl,h,hC.below⟩ (.inl rfl)
  ·replace h:=Zk h (cf hb10)
   refine ZMl (Zr (Ze (Zh (Za (v:=vI (i10:Int)) rfl (Zq rfl rfl (Zd (v:=vI (ZG5.wrap ((i10:Int)+1))) rfl (done ?_)))))))
   exact hK10 () _ _ ⟨(sl ⟨rfl,rfl,(tr rfl (congrArg _ (Z2 hi10 (by decide)))),trivial⟩),hC⟩ h
 ·clear hC h
  rintro s10 e_ w13 K10 ⟨hS_,hC⟩ h
  rw [ue hS_]
  refine ZMh (sr (Za (v:=vI 8) rfl (Zn rfl rfl (dn (Z1 rfl (decide_eq_false (by omega)) ?_)))))
  refine ZMv (Zj (Zj (Zx ?_)))
  refine Ze (sr (Zd (v:=.bool false) rfl (dn (ZMp ?_))))
  exact Zi rfl (Zg rfl) ⟨false,rfl,h,hC.below⟩ (.inl rfl)
 ·skip
  exact⟨(slq rfl),hC⟩
def Zbd (a0:ZMj) (a1:ZMj) (a2:Int) (K:ZMj→Prop):Prop :=
 Xt (fun (s10:(List Term)×Int×Int) nx10=>joinP (fun (jn11:Bool→Prop)=>(if s10.2.1 < (a0.terms.length:Int) then jn11 true else jn11 (decide (s10.2.2 < (a1.terms.length:Int))))) (fun (x10:Bool)=>(if x10=true then joinP (fun (jn10:Bool→Prop)=>(if s10.2.2=(a1.terms.length:Int) then jn10 true else(if s10.2.1 < (a0.terms.length:Int) then((0≤s10.2.1∧s10.2.1 < (a0.terms.length:Int))∧((0≤s10.2.2∧s10.2.2 < (a1.terms.length:Int))∧Zej ((a0.terms.getD s10.2.1.toNat ZEo).mono) ((a1.terms.getD s10.2.2.toNat ZEo).mono) (fun r12=>jn10 r12))) else jn10 false))) (fun (x11:Bool)=>(if x11=true then((0≤s10.2.1∧s10.2.1 < (a0.terms.length:Int))∧(Zy (s10.1.length+1) 16∧nx10 (s10.1++[a0.terms.getD s10.2.1.toNat ZEo],ZG5.wrap (s10.2.1+1),s10.2.2))) else joinP (fun (jn12:Bool→Prop)=>(if s10.2.1=(a0.terms.length:Int) then jn12 true else((0≤s10.2.2∧s10.2.2 < (a1.terms.length:Int))∧((0≤s10.2.1∧s10.2.1 < (a0.terms.length:Int))∧Zej ((a1.terms.getD s10.2.2.toNat ZEo).mono) ((a0.terms.getD s10.2.1.toNat ZEo).mono) (fun r13=>jn12 r13))))) (fun (x12:Bool)=>(if x12=true then((0≤s10.2.2∧s10.2.2 < (a1.terms.length:Int))∧Je (ZG5.wrap (a2 * ((a1.terms.getD s10.2.2.toNat ZEo).factor))) (fun r10=>(if r10≠0 then((0≤s10.2.2∧s10.2.2 < (a1.terms.length:Int))∧(Zy (s10.1.length+1) 16∧nx10 (s10.1++[(⟨(a1.terms.getD s10.2.2.toNat ZEo).mono,r10⟩:Term)],s10.2.1,ZG5.wrap (s10.2.2+1)))) else nx10 (s10.1,s10.2.1,ZG5.wrap (s10.2.2+1))))) else((0≤s10.2.1∧s10.2.1 < (a0.terms.length:Int))∧((0≤s10.2.2∧s10.2.2 < (a1.terms.length:Int))∧Je (ZG5.wrap (a2 * ((a1.terms.getD s10.2.2.toNat ZEo).factor))) (fun r14=>Je (ZG5.wrap (((a0.terms.getD s10.2.1.toNat ZEo).factor)+r14)) (fun r11=>(if r11≠0 then((0≤s10.2.1∧s10.2.1 < (a0.terms.length:Int))∧(Zy (s10.1.length+1) 16∧nx10 (s10.1++[(⟨(a0.terms.getD s10.2.1.toNat ZEo).mono,r11⟩:Term)],ZG5.wrap (s10.2.1+1),ZG5.wrap (s10.2.2+1)))) else nx10 (s10.1,ZG5.wrap (s10.2.1+1),ZG5.wrap (s10.2.2+1))))))))))) else K (⟨s10.1⟩:ZMj)))) ([],0,0)
theorem Zm6 (a0 : ZMj) (a1 : ZMj) (a2 : Int)  {K : ZMj → Prop} (h : Zbd a0 a1 a2 K) (w0 : World) (q0 : ZM3.rep a0 [u0_0] fp0 w0) (q1 : ZM3.rep a1 [u1_0] fp1 w0) :
  Calls ZMk 124 #[.agg #[u0_0],.agg #[u1_0],vI a2] w0 fun e w'=>∃ (r0:ZMj) (z0_0:Value) (fz0:List Nat),
   e=.returned (.agg #[z0_0])∧K r0∧(ZMy (Yj 162) r0 [z0_0] fz0).holds w'∧(∀ b,b∈fz0→w0.heap.size≤b)∧Bel w0 w':=by
 unfold Zbd at h
 refine cof ZNj rfl 149 Tryz.ntmps124 ?_
 have hC:=ZM2 (X:=Nox) w0 [ZMg TForm a0 [u0_0] fp0,ZMg TForm a1 [u1_0] fp1] (alc q0 (al1 q1))
 have hp3:=(hC.getP 0 rfl)
 replace hC:=hC.derive 0 rfl (ZMg ZMi.ty.sl a0.terms [u0_0] fp0) (fun _=>(Xk hp3)) (fun _ hb_=>hb_)
 have hp5:=(hC.getP 2 rfl)
 replace hC:=hC.derive 2 rfl (ZMg ZMi.ty.sl a1.terms [u1_0] fp1) (fun _=>(Xk hp5)) (fun _ hb_=>hb_)
 refine sr (Yg (v:=.agg #[u0_0]) hC [u0_0] rfl rfl fun b7 w9 hB_ hC=>Yg (v:=.agg #[u1_0]) hC [u1_0] rfl rfl fun b10 w10 hB_ hC=>Ys hC [.slice none 0 0] z55 rfl fun b12 w11 hB_ hC=>dn (sr (J2 [] rfl (Zfj   _) (Ys hC [.slice none 0 0] z55 rfl fun b11 w12 hB_ hC=>Z3 (v:=.agg #[.slice none 0 0]) hC 0 [.slice none 0 0] [.slice none 0 0] rfl ag55.size rfl rfl rfl rfl rfl (ZMq rfl) rfl fun w13 hC=>dn (sr (Zd (v:=vI 0) rfl (Zd (v:=vI 0) rfl (dn (ZMh (ZMn ?_))))))))))
 refine Xz (S:=(List Term)×Int×Int) _ (fun s10 e_ w_=>∃ (v10:Value),Zt e_ [(2,vI a2),(3,vQ b7),(4,vQ b10),(6,vQ b12),(7,vQ b11),(8,vI s10.2.1),(9,vI s10.2.2)]∧Ctx Nox w0 w_ [own 162 9 v10 s10.1.length (ZMi.encs s10.1),blk b11 55 [v10],blk b12 55 [.slice none 0 0],blk b10 55 [u1_0],blk b7 55 [u0_0]] [ZMg ZMi.ty.sl a1.terms [u1_0] fp1,ZMg ZMi.ty.sl a0.terms [u0_0] fp0,ZMg TForm a0 [u0_0] fp0,ZMg TForm a1 [u1_0] fp1]) ?_ (s0:=([],0,0)) ?_ h
 ·clear hC h
  rintro s10 e_ w14 nx10 K10 ⟨v10,hS_,hC⟩ h hK10
  rw [ue hS_]
  refine ZMh (ZMh ?_)
  obtain ⟨jn11,hj10,h⟩:=Zjn h
  refine Zjx (fun e_ w_=>∃ (x10:Bool),Zt e_ [(2,vI a2),(3,vQ b7),(4,vQ b10),(6,vQ b12),(7,vQ b11),(8,vI s10.2.1),(9,vI s10.2.2),(24,.bool x10)]∧Ctx Nox w0 w_ [own 162 9 v10 s10.1.length (ZMi.encs s10.1),blk b11 55 [v10],blk b12 55 [.slice none 0 0],blk b10 55 [u1_0],blk b7 55 [u0_0]] [ZMg ZMi.ty.sl a1.terms [u1_0] fp1,ZMg ZMi.ty.sl a0.terms [u0_0] fp0,ZMg TForm a0 [u0_0] fp0,ZMg TForm a1 [u1_0] fp1]∧jn11 x10) ?_ ?_
  ·skip
   refine Zh (Za (v:=vI s10.2.1) rfl (Z0 0 ZMo rfl sc53.size rfl rfl (Yb hC 4 (u0_0) rfl sc53 rfl rfl (Zu hC 1 rfl ZMr rfl (Zn rfl rfl (Za (v:=.bool (decide (s10.2.1 < (a0.terms.length:Int)))) rfl ?_))))))
   refine Y7 (decide (s10.2.1 < (a0.terms.length:Int))) (fun hb13=>?_) (fun hb13=>?_)
   ·replace h:=ift h (ct hb13)
    refine Zl (b:=true) 5 18 rfl (tr rfl (congrArg _ hb13)) (by decide) (Zl (b:=true) 5 18 rfl (tr rfl (congrArg _ hb13)) (by decide) (Zl (b:=true) 5 18 rfl (tr rfl (congrArg _ hb13)) (by decide) (Zl (b:=true) 5 18 rfl (tr rfl (congrArg _ hb13)) (by decide) (Zl (b:=true) 5 18 rfl (tr rfl (congrArg _ hb13)) (by decide) (Z4 (v:=.bool true) (b:=true) (tr rfl (congrArg _ hb13)) rfl (done ?_))))))
    exact⟨rfl,_,rfl,true,(slq rfl),hC,h⟩
   ·replace h:=Zk h (cf hb13)
    refine Zp 5 18 rfl rfl hb13 (Za (v:=vI s10.2.2) rfl (Zp 5 18 rfl rfl hb13 (Z0 0 ZMo rfl sc53.size rfl rfl (Zp 5 18 rfl rfl hb13 (Yb hC 3 (u1_0) rfl sc53 rfl rfl (Zp 5 18 rfl rfl hb13 (Zu hC 0 rfl ZMr rfl (Zp 5 18 rfl rfl hb13 (Zn rfl rfl (Z4 (v:=.bool (decide (s10.2.2 < (a1.terms.length:Int)))) (b:=false) (tr rfl (congrArg _ hb13)) rfl (done ?_)))))))))))
    exact⟨rfl,_,rfl,decide (s10.2.2 < (a1.terms.length:Int)),(slq rfl),hC,h⟩
  ·clear hC h
   rintro e_ w15 ⟨x10,hS_,hC,h⟩
   replace h:=hj10 _ h
   rw [ue hS_]
   refine Ze ?_
   refine Zs rfl (fun hb14=>?_) (fun hb14=>?_)
   ·replace h:=ift h (hb14)
    refine ZMl (Ze (ZMn (ZMn (ZMh ?_))))
    obtain ⟨jn10,hj11,h⟩:=Zjn h
    refine Zjx (fun e_ w_=>∃ (x11:Bool),Zt e_ [(2,vI a2),(3,vQ b7),(4,vQ b10),(6,vQ b12),(7,vQ b11),(8,vI s10.2.1),(9,vI s10.2.2),(61,.bool x11)]∧Ctx Nox w0 w_ [own 162 9 v10 s10.1.length (ZMi.encs s10.1),blk b11 55 [v10],blk b12 55 [.slice none 0 0],blk b10 55 [u1_0],blk b7 55 [u0_0]] [ZMg ZMi.ty.sl a1.terms [u1_0] fp1,ZMg ZMi.ty.sl a0.terms [u0_0] fp0,ZMg TForm a0 [u0_0] fp0,ZMg TForm a1 [u1_0] fp1]∧jn10 x11) ?_ ?_
    ·skip
     refine cwd 24 Yo [0,0,2,6,15,31,63,63,191,447,1023,2047,4095,8191,4095,32767,65535,131071,4095,266239,4095,1839103,3936255,8130559,16777215,33554431,67108863,134217727] [2,3,8,9,13,15,17,19,21,23] [0,1,4,5,6,7,8,9,10,11,12,13,14,15,16,17,18,19,20,21,22,23] (fun hM12 hM10 w16 hB_=>?_)
     replace hC:=hC.grow hB_
     refine bM 0 (vI s10.2.2) rfl hM10 (Zc 28 1) (bF 1 (vQ b10) rfl rfl hM10 (fun _=>by exact Yt 0 ZMo rfl sc53.size rfl rfl) (Zc 28 3) (bL 2 (u1_0) rfl rfl hM12 (fun _ hB_=>by exact Yh (hC.grow hB_) 3 (u1_0) rfl sc53 rfl rfl) (Zc 28 7) (bL 3 (vI (a1.terms.length:Int)) rfl rfl hM12 (fun _ hB_=>by exact Zj7 (hC.grow hB_) 0 rfl ZMr rfl) (Zc 28 15) (bF 4 (.bool (decide (s10.2.2=(a1.terms.length:Int)))) rfl rfl hM10 (fun _=>by exact Zpg rfl rfl) (Zc 28 31) (bM 5 (.bool (decide (s10.2.2=(a1.terms.length:Int)))) rfl hM10 (Zc 28 63) ?_)))))
     refine Y7 (decide (s10.2.2=(a1.terms.length:Int))) (fun hb12=>?_) (fun hb12=>?_)
     ·replace h:=ift h (ct hb12)
      refine Zv Zz 6 undef rfl rfl (by kernel_rfl) (hM10 6 rfl) (fun w_=>.inr ⟨Yf (b:=true) 5 67 rfl (tr rfl (congrArg _ hb12)) (by decide),rfl⟩) (l9:=(Zc 28 127)) (by kernel_rfl) (Zv Zz 7 undef rfl rfl (by kernel_rfl) (hM10 7 rfl) (fun w_=>.inr ⟨Yf (b:=true) 5 67 rfl (tr rfl (congrArg _ hb12)) (by decide),rfl⟩) (l9:=(Zc 28 255)) (by kernel_rfl) (Zv Zz 8 undef rfl rfl (by kernel_rfl) (hM10 8 rfl) (fun w_=>.inr ⟨Yf (b:=true) 5 67 rfl (tr rfl (congrArg _ hb12)) (by decide),rfl⟩) (l9:=(Zc 28 511)) (by kernel_rfl) (Zv Zz 9 undef rfl rfl (by kernel_rfl) (hM10 9 rfl) (fun w_=>.inr ⟨Yf (b:=true) 5 67 rfl (tr rfl (congrArg _ hb12)) (by decide),rfl⟩) (l9:=(Zc 28 1023)) (by kernel_rfl) (Zv Zz 10 undef rfl rfl (by kernel_rfl) (hM10 10 rfl) (fun w_=>.inr ⟨Yf (b:=true) 5 67 rfl (tr rfl (congrArg _ hb12)) (by decide),rfl⟩) (l9:=(Zc 28 2047)) (by kernel_rfl) (Zv Zz 11 undef rfl rfl (by kernel_rfl) (hM10 11 rfl) (fun w_=>.inr ⟨Yf (b:=true) 5 67 rfl (tr rfl (congrArg _ hb12)) (by decide),rfl⟩) (l9:=(Zc 28 4095)) (by kernel_rfl) (Zv Zz 12 undef rfl rfl (by kernel_rfl) (hM10 12 rfl) (fun w_=>.inr ⟨X0 11 73 rfl rfl,rfl⟩) (l9:=(Zc 28 8191)) (by kernel_rfl) (Zv Zz 13 undef rfl rfl (by kernel_rfl) (hM10 13 rfl) (fun w_=>.inr ⟨X0 11 73 rfl rfl,rfl⟩) (l9:=(Zc 28 16383)) (by kernel_rfl) (Zv Zz 14 undef rfl rfl (by kernel_rfl) (hM10 14 rfl) (fun w_=>.inr ⟨X0 11 73 rfl rfl,rfl⟩) (l9:=(Zc 28 32767)) (by kernel_rfl) (Zv Zz 15 undef rfl rfl (by kernel_rfl) (hM10 15 rfl) (fun w_=>.inr ⟨X0 11 73 rfl rfl,rfl⟩) (l9:=(Zc 28 65535)) (by kernel_rfl) (Zv Zz 16 undef rfl rfl (by kernel_rfl) (hM10 16 rfl) (fun w_=>.inr ⟨X0 11 73 rfl rfl,rfl⟩) (l9:=(Zc 28 131071)) (by kernel_rfl) (Zv Zz 17 undef rfl rfl (by kernel_rfl) (hM10 17 rfl) (fun w_=>.inr ⟨X0 11 73 rfl rfl,rfl⟩) (l9:=(Zc 28 262143)) (by kernel_rfl) (Zv Zz 18 undef rfl rfl (by kernel_rfl) (hM10 18 rfl) (fun w_=>.inr ⟨X0 11 73 rfl rfl,rfl⟩) (l9:=(Zc 28 524287)) (by kernel_rfl) (Zv Zz 19 undef rfl rfl (by kernel_rfl) (hM10 19 rfl) (fun w_=>.inr ⟨X0 11 73 rfl rfl,rfl⟩) (l9:=(Zc 28 1048575)) (by kernel_rfl) (Zv Zz 20 undef rfl rfl (by kernel_rfl) (hM10 20 rfl) (fun w_=>.inr ⟨X0 11 73 rfl rfl,rfl⟩) (l9:=(Zc 28 2097151)) (by kernel_rfl) (Zv Zz 21 undef rfl rfl (by kernel_rfl) (hM10 21 rfl) (fun w_=>.inr ⟨X0 11 73 rfl rfl,rfl⟩) (l9:=(Zc 28 4194303)) (by kernel_rfl) (Zv Zz 22 undef rfl rfl (by kernel_rfl) (hM10 22 rfl) (fun w_=>.inr ⟨X0 11 73 rfl rfl,rfl⟩) (l9:=(Zc 28 8388607)) (by kernel_rfl) (Zv Zz 23 undef rfl rfl (by kernel_rfl) (hM10 23 rfl) (fun w_=>.inr ⟨X0 11 73 rfl rfl,rfl⟩) (l9:=(Zc 28 16777215)) (by kernel_rfl) (Z6 24 (by decide) (by decide) (by kernel_rfl) (by kernel_rfl) rfl (J1 11 73 rfl rfl (Zl (b:=true) 5 67 rfl (tr rfl (congrArg _ hb12)) (by decide) (Z4 (v:=.bool true) (b:=true) (tr rfl (congrArg _ hb12)) rfl (Zd (v:=.bool true) rfl (done (Z7 ?_))))))))))))))))))))))))
      exact⟨rfl,_,rfl,true,(slq rfl),hC,h⟩
     ·replace h:=Zk h (cf hb12)
      refine aF 6 (vI s10.2.1) rfl rfl (hM10 6 rfl) (Yl 5 67 rfl rfl hb12) (fun _=>by exact Zax (v:=vI s10.2.1) rfl) (Zc 28 127) (aF 7 (vQ b7) rfl rfl (hM10 7 rfl) (Yl 5 67 rfl rfl hb12) (fun _=>by exact Yt 0 ZMo rfl sc53.size rfl rfl) (Zc 28 255) (aL 8 (u0_0) rfl rfl (hM12 8 rfl) (Yl 5 67 rfl rfl hb12) (fun _ hB_=>by exact Yh (hC.grow hB_) 4 (u0_0) rfl sc53 rfl rfl) (Zc 28 511) (aL 9 (vI (a0.terms.length:Int)) rfl rfl (hM12 9 rfl) (Yl 5 67 rfl rfl hb12) (fun _ hB_=>by exact Zj7 (hC.grow hB_) 1 rfl ZMr rfl) (Zc 28 1023) (aF 10 (.bool (decide (s10.2.1 < (a0.terms.length:Int)))) rfl rfl (hM10 10 rfl) (Yl 5 67 rfl rfl hb12) (fun _=>by exact Zph rfl rfl) (Zc 28 2047) (aF 11 (.bool (decide (s10.2.1 < (a0.terms.length:Int)))) rfl rfl (hM10 11 rfl) (Yl 5 67 rfl rfl hb12) (fun _=>by exact Zax (v:=.bool (decide (s10.2.1 < (a0.terms.length:Int)))) rfl) (Zc 28 4095) ?_)))))
      refine Y7 (decide (s10.2.1 < (a0.terms.length:Int))) (fun hb10=>?_) (fun hb10=>?_)
      ·replace h:=ift h (ct hb10)
       refine aF 12 (vQ b7) rfl rfl (hM10 12 rfl) (Yl 11 73 rfl rfl hb10) (fun _=>by exact Yt 0 ZMo rfl sc53.size rfl rfl) (Zc 28 8191) (aL 13 (u0_0) rfl rfl (hM12 13 rfl) (Yl 11 73 rfl rfl hb10) (fun _ hB_=>by exact Yh (hC.grow hB_) 4 (u0_0) rfl sc53 rfl rfl) (Zc 28 16383) (aF 14 (vI s10.2.1) rfl rfl (hM10 14 rfl) (Yl 11 73 rfl rfl hb10) (fun _=>by exact Zax (v:=vI s10.2.1) rfl) (Zc 28 32767) ?_))
       obtain ⟨⟨h10,h11⟩,h⟩:=h
       obtain ⟨Ad10,c10,hv10⟩:=Zw (hC.getP 1 rfl) s10.2.1.toNat (show s10.2.1.toNat < a0.terms.length by omega)
       refine aL 15 (.pointer (some (Ad10.add (s10.2.1.toNat * 9)))) rfl rfl (hM12 15 rfl) (Yl 11 73 rfl rfl hb10) (fun _ hB_=>by exact Y2 (len:=a0.terms.length) ZMr ag162.size (by exact tr rfl hv10) rfl h10 h11) (Zc 28 65535) (aF 16 (.pointer (some (Ad10.add (s10.2.1.toNat * 9+0)))) rfl rfl (hM10 16 rfl) (Yl 11 73 rfl rfl hb10) (fun _=>by exact Za1 (s10.2.1.toNat * 9+0) ZMw rfl ag136.size rfl rfl) (Zc 28 131071) (aL 17 (.agg (ZMf (ZMe .u8 ((a0.terms.getD s10.2.1.toNat ZEo).mono)))) rfl rfl (hM12 17 rfl) (Yl 11 73 rfl rfl hb10) (fun _ hB_=>by exact Jm (ZMe .u8 ((a0.terms.getD s10.2.1.toNat ZEo).mono)) (Jy (o:=0) (k:=8) (Yd ((hC.grow hB_).getP 1 rfl) hv10 s10.2.1.toNat (show s10.2.1.toNat < a0.terms.length by omega)) rfl) ag136 rfl rfl) (Zc 28 262143) (aF 18 (vQ b10) rfl rfl (hM10 18 rfl) (Yl 11 73 rfl rfl hb10) (fun _=>by exact Yt 0 ZMo rfl sc53.size rfl rfl) (Zc 28 524287) (aL 19 (u1_0) rfl rfl (hM12 19 rfl) (Yl 11 73 rfl rfl hb10) (fun _ hB_=>by exact Yh (hC.grow hB_) 3 (u1_0) rfl sc53 rfl rfl) (Zc 28 1048575) (aF 20 (vI s10.2.2) rfl rfl (hM10 20 rfl) (Yl 11 73 rfl rfl hb10) (fun _=>by exact Zax (v:=vI s10.2.2) rfl) (Zc 28 2097151) ?_)))))
       obtain ⟨⟨h12,h13⟩,h⟩:=h
       obtain ⟨Ad11,c11,hv11⟩:=Zw (hC.getP 0 rfl) s10.2.2.toNat (show s10.2.2.toNat < a1.terms.length by omega)
       refine aL 21 (.pointer (some (Ad11.add (s10.2.2.toNat * 9)))) rfl rfl (hM12 21 rfl) (Yl 11 73 rfl rfl hb10) (fun _ hB_=>by exact Y2 (len:=a1.terms.length) ZMr ag162.size (by exact tr rfl hv11) rfl h12 h13) (Zc 28 4194303) (aF 22 (.pointer (some (Ad11.add (s10.2.2.toNat * 9+0)))) rfl rfl (hM10 22 rfl) (Yl 11 73 rfl rfl hb10) (fun _=>by exact Za1 (s10.2.2.toNat * 9+0) ZMw rfl ag136.size rfl rfl) (Zc 28 8388607) (aL 23 (.agg (ZMf (ZMe .u8 ((a1.terms.getD s10.2.2.toNat ZEo).mono)))) rfl rfl (hM12 23 rfl) (Yl 11 73 rfl rfl hb10) (fun _ hB_=>by exact Jm (ZMe .u8 ((a1.terms.getD s10.2.2.toNat ZEo).mono)) (Jy (o:=0) (k:=8) (Yd ((hC.grow hB_).getP 0 rfl) hv11 s10.2.2.toNat (show s10.2.2.toNat < a1.terms.length by omega)) rfl) ag136 rfl rfl) (Zc 28 16777215) (Z6 24 (by decide) (by decide) (by kernel_rfl) (by kernel_rfl) rfl (Zp 11 73 rfl rfl hb10 (Zf [.agg (ZMf (ZMe .u8 ((a0.terms.getD s10.2.1.toNat ZEo).mono))),.agg (ZMf (ZMe .u8 ((a1.terms.getD s10.2.2.toNat ZEo).mono)))] _ ZNi rfl rfl rfl (Zm5 ((a0.terms.getD s10.2.1.toNat ZEo).mono) ((a1.terms.getD s10.2.2.toNat ZEo).mono) h _) ?_)))))
       rintro _ w17 ⟨r12,rfl,h,hB10⟩
       refine rt ?_
       replace hC:=hC.grow hB10
       refine Zp 5 67 rfl rfl hb12 (Z4 (v:=.bool r12) (b:=true) (tr rfl (congrArg _ hb10)) rfl (Z4 (v:=.bool r12) (b:=false) (tr rfl (congrArg _ hb12)) rfl (Zd (v:=.bool r12) rfl (done (Z7 ?_)))))
       exact⟨rfl,_,rfl,r12,(slq rfl),hC,h⟩
      ·replace h:=Zk h (cf hb10)
       refine Zv Zz 12 undef rfl rfl (by kernel_rfl) (hM10 12 rfl) (fun w_=>.inr ⟨Yf (b:=false) 11 73 rfl (tr rfl (congrArg _ hb10)) (by decide),rfl⟩) (l9:=(Zc 28 8191)) (by kernel_rfl) (Zv Zz 13 undef rfl rfl (by kernel_rfl) (hM10 13 rfl) (fun w_=>.inr ⟨Yf (b:=false) 11 73 rfl (tr rfl (congrArg _ hb10)) (by decide),rfl⟩) (l9:=(Zc 28 16383)) (by kernel_rfl) (Zv Zz 14 undef rfl rfl (by kernel_rfl) (hM10 14 rfl) (fun w_=>.inr ⟨Yf (b:=false) 11 73 rfl (tr rfl (congrArg _ hb10)) (by decide),rfl⟩) (l9:=(Zc 28 32767)) (by kernel_rfl) (Zv Zz 15 undef rfl rfl (by kernel_rfl) (hM10 15 rfl) (fun w_=>.inr ⟨Yf (b:=false) 11 73 rfl (tr rfl (congrArg _ hb10)) (by decide),rfl⟩) (l9:=(Zc 28 65535)) (by kernel_rfl) (Zv Zz 16 undef rfl rfl (by kernel_rfl) (hM10 16 rfl) (fun w_=>.inr ⟨Yf (b:=false) 11 73 rfl (tr rfl (congrArg _ hb10)) (by decide),rfl⟩) (l9:=(Zc 28 131071)) (by kernel_rfl) (Zv Zz 17 undef rfl rfl (by kernel_rfl) (hM10 17 rfl) (fun w_=>.inr ⟨Yf (b:=false) 11 73 rfl (tr rfl (congrArg _ hb10)) (by decide),rfl⟩) (l9:=(Zc 28 262143)) (by kernel_rfl) (Zv Zz 18 undef rfl rfl (by kernel_rfl) (hM10 18 rfl) (fun w_=>.inr ⟨Yf (b:=false) 11 73 rfl (tr rfl (congrArg _ hb10)) (by decide),rfl⟩) (l9:=(Zc 28 524287)) (by kernel_rfl) (Zv Zz 19 undef rfl rfl (by kernel_rfl) (hM10 19 rfl) (fun w_=>.inr ⟨Yf (b:=false) 11 73 rfl (tr rfl (congrArg _ hb10)) (by decide),rfl⟩) (l9:=(Zc 28 1048575)) (by kernel_rfl) (Zv Zz 20 undef rfl rfl (by kernel_rfl) (hM10 20 rfl) (fun w_=>.inr ⟨Yf (b:=false) 11 73 rfl (tr rfl (congrArg _ hb10)) (by decide),rfl⟩) (l9:=(Zc 28 2097151)) (by kernel_rfl) (Zv Zz 21 undef rfl rfl (by kernel_rfl) (hM10 21 rfl) (fun w_=>.inr ⟨Yf (b:=false) 11 73 rfl (tr rfl (congrArg _ hb10)) (by decide),rfl⟩) (l9:=(Zc 28 4194303)) (by kernel_rfl) (Zv Zz 22 undef rfl rfl (by kernel_rfl) (hM10 22 rfl) (fun w_=>.inr ⟨Yf (b:=false) 11 73 rfl (tr rfl (congrArg _ hb10)) (by decide),rfl⟩) (l9:=(Zc 28 8388607)) (by kernel_rfl) (Zv Zz 23 undef rfl rfl (by kernel_rfl) (hM10 23 rfl) (fun w_=>.inr ⟨Yf (b:=false) 11 73 rfl (tr rfl (congrArg _ hb10)) (by decide),rfl⟩) (l9:=(Zc 28 16777215)) (by kernel_rfl) (Z6 24 (by decide) (by decide) (by kernel_rfl) (by kernel_rfl) rfl (Zl (b:=false) 11 73 rfl (tr rfl (congrArg _ hb10)) (by decide) (Zp 5 67 rfl rfl hb12 (Z4 (v:=.bool false) (b:=false) (tr rfl (congrArg _ hb10)) rfl (Z4 (v:=.bool false) (b:=false) (tr rfl (congrArg _ hb12)) rfl (Zd (v:=.bool false) rfl (done (Z7 ?_)))))))))))))))))))
       exact⟨rfl,_,rfl,false,(slq rfl),hC,h⟩
    ·clear hC h
     rintro e_ w18 ⟨x11,hS_,hC,h⟩
     replace h:=hj11 _ h
     rw [ue hS_]
     refine Ze ?_
     refine Zs rfl (fun hb15=>?_) (fun hb15=>?_)
     ·replace h:=ift h (hb15)
      refine ZMh ?_
      refine cwd 8 Yo [0,1,0,4,0,28,60,124,255,511,1023] [1,3,5,6] [0,2,4] (fun hM20 hM21 w19 hB_=>?_)
      replace hC:=hC.grow hB_
      refine bF 0 (vQ b11) rfl rfl hM21 (fun _=>by exact Yt 0 ZMo rfl sc53.size rfl rfl) (Zc 11 1) (bL 1 (v10) rfl rfl hM20 (fun _ hB_=>by exact Yh (hC.grow hB_) 1 (v10) rfl sc53 rfl rfl) (Zc 11 3) (bF 2 (vQ b7) rfl rfl hM21 (fun _=>by exact Yt 0 ZMo rfl sc53.size rfl rfl) (Zc 11 7) (bL 3 (u0_0) rfl rfl hM20 (fun _ hB_=>by exact Yh (hC.grow hB_) 4 (u0_0) rfl sc53 rfl rfl) (Zc 11 15) (bM 4 (vI s10.2.1) rfl hM21 (Zc 11 31) ?_))))
      obtain ⟨⟨h14,h15⟩,h⟩:=h
      obtain ⟨Ad18,c12,hv12⟩:=Zw (hC.getP 1 rfl) s10.2.1.toNat (show s10.2.1.toNat < a0.terms.length by omega)
      refine bL 5 (.pointer (some (Ad18.add (s10.2.1.toNat * 9)))) rfl rfl hM20 (fun _ hB_=>by exact Y2 (len:=a0.terms.length) ZMr ag162.size (by exact tr rfl hv12) rfl h14 h15) (Zc 11 63) (bL 6 (.agg (ZMf (ZMs (a0.terms.getD s10.2.1.toNat ZEo)))) rfl rfl hM20 (fun _ hB_=>by exact Jm (ZMs (a0.terms.getD s10.2.1.toNat ZEo)) (Yd ((hC.grow hB_).getP 1 rfl) hv12 s10.2.1.toNat (show s10.2.1.toNat < a0.terms.length by omega)) ag162 rfl rfl) (Zc 11 127) (aO 7 rfl (Ye (sz:=9) hC [(0,.agg (ZMf (ZMs (a0.terms.getD s10.2.1.toNat ZEo))))] (ZMi.encs [a0.terms.getD s10.2.1.toNat ZEo]) rfl (fun _=>Zfk (a0.terms.getD s10.2.1.toNat ZEo) _) rfl (by decide) fun b13 w20 hB_ hC=>done (aK (by assumption) (Zc 11 255) (Z6 8 (by decide) (by decide) (by kernel_rfl) (by kernel_rfl) rfl ?_)))))
      obtain ⟨hm10,h⟩:=h
      refine Ja hC 1 ZMr Zfl rfl (by decide) (by decide) rfl (Jx (hC.getM 0 rfl)) (fun q hq=>ZNk (E:=ETerm) _ q hq) rfl rfl hm10 fun v11 w21 hC=>?_
      replace hC:=Yy hC 1 ((s10.1++[a0.terms.getD s10.2.1.toNat ZEo]).length) (ZMi.encs (s10.1++[a0.terms.getD s10.2.1.toNat ZEo])) rfl (by simp) (by first | (simp [ZM9]; done) | simp [ZM9,Enc.encs])
      refine Z0 0 ZMo rfl sc53.size rfl rfl (Z3 (v:=v11) hC 2 [v11] [v11] rfl sc53.size rfl rfl (Zb9 (hC.getM 1 rfl)) rfl (Xp (X4 (hC.getM 1 rfl)) rfl) (ZMq rfl) rfl fun w22 hC=>done (Z7 (Ze (Zh (Za (v:=vI s10.2.1) rfl (Zq rfl rfl (Zd (v:=vI (ZG5.wrap (s10.2.1+1))) rfl (done (Zr (Zr ?_))))))))))
      exact hK10 (s10.1++[a0.terms.getD s10.2.1.toNat ZEo],ZG5.wrap (s10.2.1+1),s10.2.2) _ _ ⟨v11,(slq rfl),(hC.xM [1,2,3,4,5] rfl)⟩ h
     ·replace h:=Zk h (Y4 hb15)
      refine ZMh ?_
      obtain ⟨jn12,hj12,h⟩:=Zjn h
      refine Zjx (fun e_ w_=>∃ (x12:Bool),Zt e_ [(2,vI a2),(3,vQ b7),(4,vQ b10),(6,vQ b12),(7,vQ b11),(8,vI s10.2.1),(9,vI s10.2.2),(101,.bool x12)]∧Ctx Nox w0 w_ [own 162 9 v10 s10.1.length (ZMi.encs s10.1),blk b11 55 [v10],blk b12 55 [.slice none 0 0],blk b10 55 [u1_0],blk b7 55 [u0_0]] [ZMg ZMi.ty.sl a1.terms [u1_0] fp1,ZMg ZMi.ty.sl a0.terms [u0_0] fp0,ZMg TForm a0 [u0_0] fp0,ZMg TForm a1 [u1_0] fp1]∧jn12 x12) ?_ ?_
      ·skip
       refine cwd 18 Yo [0,0,2,6,15,31,63,127,63,511,1023,2047,63,4159,63,28735,61503,127039,262143,524287,1048575] [2,3,7,9,11,13,15,17] [0,1,4,5,6,7,8,9,10,11,12,13,14,15,16,17] (fun hM13 hM11 w23 hB_=>?_)
       replace hC:=hC.grow hB_
       refine bM 0 (vI s10.2.1) rfl hM11 (Zc 21 1) (bF 1 (vQ b7) rfl rfl hM11 (fun _=>by exact Yt 0 ZMo rfl sc53.size rfl rfl) (Zc 21 3) (bL 2 (u0_0) rfl rfl hM13 (fun _ hB_=>by exact Yh (hC.grow hB_) 4 (u0_0) rfl sc53 rfl rfl) (Zc 21 7) (bL 3 (vI (a0.terms.length:Int)) rfl rfl hM13 (fun _ hB_=>by exact Zj7 (hC.grow hB_) 1 rfl ZMr rfl) (Zc 21 15) (bF 4 (.bool (decide (s10.2.1=(a0.terms.length:Int)))) rfl rfl hM11 (fun _=>by exact Zpg rfl rfl) (Zc 21 31) (bM 5 (.bool (decide (s10.2.1=(a0.terms.length:Int)))) rfl hM11 (Zc 21 63) ?_)))))
       refine Y7 (decide (s10.2.1=(a0.terms.length:Int))) (fun hb11=>?_) (fun hb11=>?_)
       ·replace h:=ift h (ct hb11)
        refine Zv Zz 6 undef rfl rfl (by kernel_rfl) (hM11 6 rfl) (fun w_=>.inr ⟨Yf (b:=true) 5 107 rfl (tr rfl (congrArg _ hb11)) (by decide),rfl⟩) (l9:=(Zc 21 127)) (by kernel_rfl) (Zv Zz 7 undef rfl rfl (by kernel_rfl) (hM11 7 rfl) (fun w_=>.inr ⟨Yf (b:=true) 5 107 rfl (tr rfl (congrArg _ hb11)) (by decide),rfl⟩) (l9:=(Zc 21 255)) (by kernel_rfl) (Zv Zz 8 undef rfl rfl (by kernel_rfl) (hM11 8 rfl) (fun w_=>.inr ⟨Yf (b:=true) 5 107 rfl (tr rfl (congrArg _ hb11)) (by decide),rfl⟩) (l9:=(Zc 21 511)) (by kernel_rfl) (Zv Zz 9 undef rfl rfl (by kernel_rfl) (hM11 9 rfl) (fun w_=>.inr ⟨Yf (b:=true) 5 107 rfl (tr rfl (congrArg _ hb11)) (by decide),rfl⟩) (l9:=(Zc 21 1023)) (by kernel_rfl) (Zv Zz 10 undef rfl rfl (by kernel_rfl) (hM11 10 rfl) (fun w_=>.inr ⟨Yf (b:=true) 5 107 rfl (tr rfl (congrArg _ hb11)) (by decide),rfl⟩) (l9:=(Zc 21 2047)) (by kernel_rfl) (Zv Zz 11 undef rfl rfl (by kernel_rfl) (hM11 11 rfl) (fun w_=>.inr ⟨Yf (b:=true) 5 107 rfl (tr rfl (congrArg _ hb11)) (by decide),rfl⟩) (l9:=(Zc 21 4095)) (by kernel_rfl) (Zv Zz 12 undef rfl rfl (by kernel_rfl) (hM11 12 rfl) (fun w_=>.inr ⟨Yf (b:=true) 5 107 rfl (tr rfl (congrArg _ hb11)) (by decide),rfl⟩) (l9:=(Zc 21 8191)) (by kernel_rfl) (Zv Zz 13 undef rfl rfl (by kernel_rfl) (hM11 13 rfl) (fun w_=>.inr ⟨Yf (b:=true) 5 107 rfl (tr rfl (congrArg _ hb11)) (by decide),rfl⟩) (l9:=(Zc 21 16383)) (by kernel_rfl) (Zv Zz 14 undef rfl rfl (by kernel_rfl) (hM11 14 rfl) (fun w_=>.inr ⟨Yf (b:=true) 5 107 rfl (tr rfl (congrArg _ hb11)) (by decide),rfl⟩) (l9:=(Zc 21 32767)) (by kernel_rfl) (Zv Zz 15 undef rfl rfl (by kernel_rfl) (hM11 15 rfl) (fun w_=>.inr ⟨Yf (b:=true) 5 107 rfl (tr rfl (congrArg _ hb11)) (by decide),rfl⟩) (l9:=(Zc 21 65535)) (by kernel_rfl) (Zv Zz 16 undef rfl rfl (by kernel_rfl) (hM11 16 rfl) (fun w_=>.inr ⟨Yf (b:=true) 5 107 rfl (tr rfl (congrArg _ hb11)) (by decide),rfl⟩) (l9:=(Zc 21 131071)) (by kernel_rfl) (Zv Zz 17 undef rfl rfl (by kernel_rfl) (hM11 17 rfl) (fun w_=>.inr ⟨Yf (b:=true) 5 107 rfl (tr rfl (congrArg _ hb11)) (by decide),rfl⟩) (l9:=(Zc 21 262143)) (by kernel_rfl) (Z6 18 (by decide) (by decide) (by kernel_rfl) (by kernel_rfl) rfl (Zl (b:=true) 5 107 rfl (tr rfl (congrArg _ hb11)) (by decide) (Z4 (v:=.bool true) (b:=true) (tr rfl (congrArg _ hb11)) rfl (Zd (v:=.bool true) rfl (done (Z7 ?_)))))))))))))))))
        exact⟨rfl,_,rfl,true,(slq rfl),hC,h⟩
       ·replace h:=Zk h (cf hb11)
        refine aF 6 (vQ b10) rfl rfl (hM11 6 rfl) (Yl 5 107 rfl rfl hb11) (fun _=>by exact Yt 0 ZMo rfl sc53.size rfl rfl) (Zc 21 127) (aL 7 (u1_0) rfl rfl (hM13 7 rfl) (Yl 5 107 rfl rfl hb11) (fun _ hB_=>by exact Yh (hC.grow hB_) 3 (u1_0) rfl sc53 rfl rfl) (Zc 21 255) (aF 8 (vI s10.2.2) rfl rfl (hM11 8 rfl) (Yl 5 107 rfl rfl hb11) (fun _=>by exact Zax (v:=vI s10.2.2) rfl) (Zc 21 511) ?_))
        obtain ⟨⟨h16,h17⟩,h⟩:=h
        obtain ⟨Ad12,c13,hv13⟩:=Zw (hC.getP 0 rfl) s10.2.2.toNat (show s10.2.2.toNat < a1.terms.length by omega)
        refine aL 9 (.pointer (some (Ad12.add (s10.2.2.toNat * 9)))) rfl rfl (hM13 9 rfl) (Yl 5 107 rfl rfl hb11) (fun _ hB_=>by exact Y2 (len:=a1.terms.length) ZMr ag162.size (by exact tr rfl hv13) rfl h16 h17) (Zc 21 1023) (aF 10 (.pointer (some (Ad12.add (s10.2.2.toNat * 9+0)))) rfl rfl (hM11 10 rfl) (Yl 5 107 rfl rfl hb11) (fun _=>by exact Za1 (s10.2.2.toNat * 9+0) ZMw rfl ag136.size rfl rfl) (Zc 21 2047) (aL 11 (.agg (ZMf (ZMe .u8 ((a1.terms.getD s10.2.2.toNat ZEo).mono)))) rfl rfl (hM13 11 rfl) (Yl 5 107 rfl rfl hb11) (fun _ hB_=>by exact Jm (ZMe .u8 ((a1.terms.getD s10.2.2.toNat ZEo).mono)) (Jy (o:=0) (k:=8) (Yd ((hC.grow hB_).getP 0 rfl) hv13 s10.2.2.toNat (show s10.2.2.toNat < a1.terms.length by omega)) rfl) ag136 rfl rfl) (Zc 21 4095) (aF 12 (vQ b7) rfl rfl (hM11 12 rfl) (Yl 5 107 rfl rfl hb11) (fun _=>by exact Yt 0 ZMo rfl sc53.size rfl rfl) (Zc 21 8191) (aL 13 (u0_0) rfl rfl (hM13 13 rfl) (Yl 5 107 rfl rfl hb11) (fun _ hB_=>by exact Yh (hC.grow hB_) 4 (u0_0) rfl sc53 rfl rfl) (Zc 21 16383) (aF 14 (vI s10.2.1) rfl rfl (hM11 14 rfl) (Yl 5 107 rfl rfl hb11) (fun _=>by exact Zax (v:=vI s10.2.1) rfl) (Zc 21 32767) ?_)))))
        obtain ⟨⟨h18,h19⟩,h⟩:=h
        obtain ⟨Ad13,c14,hv14⟩:=Zw (hC.getP 1 rfl) s10.2.1.toNat (show s10.2.1.toNat < a0.terms.length by omega)
        refine aL 15 (.pointer (some (Ad13.add (s10.2.1.toNat * 9)))) rfl rfl (hM13 15 rfl) (Yl 5 107 rfl rfl hb11) (fun _ hB_=>by exact Y2 (len:=a0.terms.length) ZMr ag162.size (by exact tr rfl hv14) rfl h18 h19) (Zc 21 65535) (aF 16 (.pointer (some (Ad13.add (s10.2.1.toNat * 9+0)))) rfl rfl (hM11 16 rfl) (Yl 5 107 rfl rfl hb11) (fun _=>by exact Za1 (s10.2.1.toNat * 9+0) ZMw rfl ag136.size rfl rfl) (Zc 21 131071) (aL 17 (.agg (ZMf (ZMe .u8 ((a0.terms.getD s10.2.1.toNat ZEo).mono)))) rfl rfl (hM13 17 rfl) (Yl 5 107 rfl rfl hb11) (fun _ hB_=>by exact Jm (ZMe .u8 ((a0.terms.getD s10.2.1.toNat ZEo).mono)) (Jy (o:=0) (k:=8) (Yd ((hC.grow hB_).getP 1 rfl) hv14 s10.2.1.toNat (show s10.2.1.toNat < a0.terms.length by omega)) rfl) ag136 rfl rfl) (Zc 21 262143) (Z6 18 (by decide) (by decide) (by kernel_rfl) (by kernel_rfl) rfl (Zp 5 107 rfl rfl hb11 (Zf [.agg (ZMf (ZMe .u8 ((a1.terms.getD s10.2.2.toNat ZEo).mono))),.agg (ZMf (ZMe .u8 ((a0.terms.getD s10.2.1.toNat ZEo).mono)))] _ ZNi rfl rfl rfl (Zm5 ((a1.terms.getD s10.2.2.toNat ZEo).mono) ((a0.terms.getD s10.2.1.toNat ZEo).mono) h _) ?_)))))
        rintro _ w24 ⟨r13,rfl,h,hB11⟩
        refine rt ?_
        replace hC:=hC.grow hB11
        refine Z4 (v:=.bool r13) (b:=false) (tr rfl (congrArg _ hb11)) rfl (Zd (v:=.bool r13) rfl (done (Z7 ?_)))
        exact⟨rfl,_,rfl,r13,(slq rfl),hC,h⟩
      ·clear hC h
       rintro e_ w25 ⟨x12,hS_,hC,h⟩
       replace h:=hj12 _ h
       rw [ue hS_]
       refine Ze ?_
       refine Zs rfl (fun hb16=>?_) (fun hb16=>?_)
       ·replace h:=ift h (hb16)
        refine ZMh (sr (Za (v:=vI a2) rfl (Z0 0 ZMo rfl sc53.size rfl rfl (Yb hC 3 (u1_0) rfl sc53 rfl rfl (Za (v:=vI s10.2.2) rfl ?_)))))
        obtain ⟨⟨h20,h21⟩,h⟩:=h
        obtain ⟨Ad19,c15,hv15⟩:=Zw (hC.getP 0 rfl) s10.2.2.toNat (show s10.2.2.toNat < a1.terms.length by omega)
        refine Yn (len:=a1.terms.length) ZMr ag162.size (tr rfl hv15) rfl h20 h21 (Zeb (s10.2.2.toNat * 9+8) ZMw rfl sc2.size rfl rfl (Yp (vI ((a1.terms.getD s10.2.2.toNat ZEo).factor)) (Jy (o:=8) (k:=1) (Yd (hC.getP 0 rfl) hv15 s10.2.2.toNat (show s10.2.2.toNat < a1.terms.length by omega)) rfl) sc2 rfl (Zan rfl rfl (Zf [vI (ZG5.wrap (a2 * ((a1.terms.getD s10.2.2.toNat ZEo).factor)))] _ ZM7 rfl rfl rfl (Zbr (ZG5.wrap (a2 * ((a1.terms.getD s10.2.2.toNat ZEo).factor))) h _) ?_))))
        rintro _ w26 ⟨r10,rfl,h,hB12⟩
        refine rt ?_
        replace hC:=hC.grow hB12
        refine Zd (v:=vI r10) rfl (dn (sr (Za (v:=vI r10) rfl (Y6 rfl rfl (dn ?_)))))
        refine Zs rfl (fun hb17=>?_) (fun hb17=>?_)
        ·replace h:=ift h (ct hb17)
         refine cwd 11 Yo [0,1,0,4,0,28,60,124,0,508,1020,2047,4095,8191] [1,3,5,7,9] [0,2,4,6,8] (fun hM16 hM17 w27 hB_=>?_)
         replace hC:=hC.grow hB_
         refine bF 0 (vQ b11) rfl rfl hM17 (fun _=>by exact Yt 0 ZMo rfl sc53.size rfl rfl) (Zc 14 1) (bL 1 (v10) rfl rfl hM16 (fun _ hB_=>by exact Yh (hC.grow hB_) 1 (v10) rfl sc53 rfl rfl) (Zc 14 3) (bF 2 (vQ b10) rfl rfl hM17 (fun _=>by exact Yt 0 ZMo rfl sc53.size rfl rfl) (Zc 14 7) (bL 3 (u1_0) rfl rfl hM16 (fun _ hB_=>by exact Yh (hC.grow hB_) 3 (u1_0) rfl sc53 rfl rfl) (Zc 14 15) (bM 4 (vI s10.2.2) rfl hM17 (Zc 14 31) ?_))))
         obtain ⟨⟨h22,h23⟩,h⟩:=h
         obtain ⟨Ad14,c16,hv16⟩:=Zw (hC.getP 0 rfl) s10.2.2.toNat (show s10.2.2.toNat < a1.terms.length by omega)
         refine bL 5 (.pointer (some (Ad14.add (s10.2.2.toNat * 9)))) rfl rfl hM16 (fun _ hB_=>by exact Y2 (len:=a1.terms.length) ZMr ag162.size (by exact tr rfl hv16) rfl h22 h23) (Zc 14 63) (bF 6 (.pointer (some (Ad14.add (s10.2.2.toNat * 9+0)))) rfl rfl hM17 (fun _=>by exact Za1 (s10.2.2.toNat * 9+0) ZMw rfl ag136.size rfl rfl) (Zc 14 127) (bL 7 (.agg (ZMf (ZMe .u8 ((a1.terms.getD s10.2.2.toNat ZEo).mono)))) rfl rfl hM16 (fun _ hB_=>by exact Jm (ZMe .u8 ((a1.terms.getD s10.2.2.toNat ZEo).mono)) (Jy (o:=0) (k:=8) (Yd ((hC.grow hB_).getP 0 rfl) hv16 s10.2.2.toNat (show s10.2.2.toNat < a1.terms.length by omega)) rfl) ag136 rfl rfl) (Zc 14 255) (bM 8 (vI r10) rfl hM17 (Zc 14 511) (bL 9 (.agg (ZMf (ZMs (⟨(a1.terms.getD s10.2.2.toNat ZEo).mono,r10⟩:Term)))) rfl rfl hM16 (fun _ hB_=>by exact Zjl [(0,.agg (ZMf (ZMe .u8 ((a1.terms.getD s10.2.2.toNat ZEo).mono)))),(1,vI r10)] rfl (Zg3 ((a1.terms.getD s10.2.2.toNat ZEo).mono) r10  _)) (Zc 14 1023) (aO 10 rfl (Ye (sz:=9) hC [(0,.agg (ZMf (ZMs (⟨(a1.terms.getD s10.2.2.toNat ZEo).mono,r10⟩:Term))))] (ZMi.encs [(⟨(a1.terms.getD s10.2.2.toNat ZEo).mono,r10⟩:Term)]) rfl (fun _=>Zfk (⟨(a1.terms.getD s10.2.2.toNat ZEo).mono,r10⟩:Term) _) rfl (by decide) fun b14 w28 hB_ hC=>done (aK (by assumption) (Zc 14 2047) (Z6 11 (by decide) (by decide) (by kernel_rfl) (by kernel_rfl) rfl ?_))))))))
         obtain ⟨hm11,h⟩:=h
         refine Ja hC 1 ZMr Zfl rfl (by decide) (by decide) rfl (Jx (hC.getM 0 rfl)) (fun q hq=>ZNk (E:=ETerm) _ q hq) rfl rfl hm11 fun v12 w29 hC=>?_
         replace hC:=Yy hC 1 ((s10.1++[(⟨(a1.terms.getD s10.2.2.toNat ZEo).mono,r10⟩:Term)]).length) (ZMi.encs (s10.1++[(⟨(a1.terms.getD s10.2.2.toNat ZEo).mono,r10⟩:Term)])) rfl (by simp) (by first | (simp [ZM9]; done) | simp [ZM9,Enc.encs])
         refine Z0 0 ZMo rfl sc53.size rfl rfl (Z3 (v:=v12) hC 2 [v12] [v12] rfl sc53.size rfl rfl (Zb9 (hC.getM 1 rfl)) rfl (Xp (X4 (hC.getM 1 rfl)) rfl) (ZMq rfl) rfl fun w30 hC=>done (Z7 (Ze (Zh (Za (v:=vI s10.2.2) rfl (Zq rfl rfl (Zd (v:=vI (ZG5.wrap (s10.2.2+1))) rfl (done (Zr (Zr ?_))))))))))
         exact hK10 (s10.1++[(⟨(a1.terms.getD s10.2.2.toNat ZEo).mono,r10⟩:Term)],s10.2.1,ZG5.wrap (s10.2.2+1)) _ _ ⟨v12,(slq rfl),(hC.xM [1,2,3,4,5] rfl)⟩ h
        ·replace h:=Zk h (cf hb17)
         refine ZMl (Ze (Zh (Za (v:=vI s10.2.2) rfl (Zq rfl rfl (Zd (v:=vI (ZG5.wrap (s10.2.2+1))) rfl (done (Zr (Zr ?_))))))))
         exact hK10 (s10.1,s10.2.1,ZG5.wrap (s10.2.2+1)) _ _ ⟨v10,(slq rfl),hC⟩ h
       ·replace h:=Zk h (Y4 hb16)
        refine ZMh (ZMh ?_)
        refine cwd 15 Yo [0,1,0,7,15,31,0,0,128,0,896,1920,3968,8128,16320,32767,65535,131071] [1,3,5,8,10,12] [0,2,4,6,7,9,11,13] (fun hM15 hM14 w31 hB_=>?_)
        replace hC:=hC.grow hB_
        refine bF 0 (vQ b7) rfl rfl hM14 (fun _=>by exact Yt 0 ZMo rfl sc53.size rfl rfl) (Zc 18 1) (bL 1 (u0_0) rfl rfl hM15 (fun _ hB_=>by exact Yh (hC.grow hB_) 4 (u0_0) rfl sc53 rfl rfl) (Zc 18 3) (bM 2 (vI s10.2.1) rfl hM14 (Zc 18 7) ?_))
        obtain ⟨⟨h24,h25⟩,h⟩:=h
        obtain ⟨Ad15,c17,hv17⟩:=Zw (hC.getP 1 rfl) s10.2.1.toNat (show s10.2.1.toNat < a0.terms.length by omega)
        refine bL 3 (.pointer (some (Ad15.add (s10.2.1.toNat * 9)))) rfl rfl hM15 (fun _ hB_=>by exact Y2 (len:=a0.terms.length) ZMr ag162.size (by exact tr rfl hv17) rfl h24 h25) (Zc 18 15) (bF 4 (.pointer (some (Ad15.add (s10.2.1.toNat * 9+8)))) rfl rfl hM14 (fun _=>by exact Za1 (s10.2.1.toNat * 9+8) ZMw rfl sc2.size rfl rfl) (Zc 18 31) (bL 5 (vI ((a0.terms.getD s10.2.1.toNat ZEo).factor)) rfl rfl hM15 (fun _ hB_=>by exact Xn (vI ((a0.terms.getD s10.2.1.toNat ZEo).factor)) (Jy (o:=8) (k:=1) (Yd ((hC.grow hB_).getP 1 rfl) hv17 s10.2.1.toNat (show s10.2.1.toNat < a0.terms.length by omega)) rfl) sc2 rfl) (Zc 18 63) (bM 6 (vI a2) rfl hM14 (Zc 18 127) (bF 7 (vQ b10) rfl rfl hM14 (fun _=>by exact Yt 0 ZMo rfl sc53.size rfl rfl) (Zc 18 255) (bL 8 (u1_0) rfl rfl hM15 (fun _ hB_=>by exact Yh (hC.grow hB_) 3 (u1_0) rfl sc53 rfl rfl) (Zc 18 511) (bM 9 (vI s10.2.2) rfl hM14 (Zc 18 1023) ?_))))))
        obtain ⟨⟨h26,h27⟩,h⟩:=h
        obtain ⟨Ad16,c18,hv18⟩:=Zw (hC.getP 0 rfl) s10.2.2.toNat (show s10.2.2.toNat < a1.terms.length by omega)
        refine bL 10 (.pointer (some (Ad16.add (s10.2.2.toNat * 9)))) rfl rfl hM15 (fun _ hB_=>by exact Y2 (len:=a1.terms.length) ZMr ag162.size (by exact tr rfl hv18) rfl h26 h27) (Zc 18 2047) (bF 11 (.pointer (some (Ad16.add (s10.2.2.toNat * 9+8)))) rfl rfl hM14 (fun _=>by exact Za1 (s10.2.2.toNat * 9+8) ZMw rfl sc2.size rfl rfl) (Zc 18 4095) (bL 12 (vI ((a1.terms.getD s10.2.2.toNat ZEo).factor)) rfl rfl hM15 (fun _ hB_=>by exact Xn (vI ((a1.terms.getD s10.2.2.toNat ZEo).factor)) (Jy (o:=8) (k:=1) (Yd ((hC.grow hB_).getP 0 rfl) hv18 s10.2.2.toNat (show s10.2.2.toNat < a1.terms.length by omega)) rfl) sc2 rfl) (Zc 18 8191) (bF 13 (vI (ZG5.wrap (a2 * ((a1.terms.getD s10.2.2.toNat ZEo).factor)))) rfl rfl hM14 (fun _=>by exact Zc1 rfl rfl) (Zc 18 16383) (aO 14 rfl (Zf [vI (ZG5.wrap (a2 * ((a1.terms.getD s10.2.2.toNat ZEo).factor)))] _ ZM7 rfl rfl rfl (Zbr (ZG5.wrap (a2 * ((a1.terms.getD s10.2.2.toNat ZEo).factor))) h _) ?_)))))
        rintro _ w32 ⟨r14,rfl,h,hB13⟩
        refine rt ?_
        replace hC:=hC.grow hB13
        refine done (aK (by assumption) (Zc 18 32767) (Z6 15 (by decide) (by decide) (by kernel_rfl) (by kernel_rfl) rfl (Zq rfl rfl (Zf [vI (ZG5.wrap (((a0.terms.getD s10.2.1.toNat ZEo).factor)+r14))] _ ZM7 rfl rfl rfl (Zbr (ZG5.wrap (((a0.terms.getD s10.2.1.toNat ZEo).factor)+r14)) h _) ?_))))
        rintro _ w33 ⟨r11,rfl,h,hB14⟩
        refine rt ?_
        replace hC:=hC.grow hB14
        refine Zd (v:=vI r11) rfl (done (Z7 (Ze (sr (Za (v:=vI r11) rfl (Y6 rfl rfl (dn ?_)))))))
        refine Zs rfl (fun hb18=>?_) (fun hb18=>?_)
        ·replace h:=ift h (ct hb18)
         refine cwd 11 Yo [0,1,0,4,0,28,60,124,0,508,1020,2047,4095,8191] [1,3,5,7,9] [0,2,4,6,8] (fun hM18 hM19 w34 hB_=>?_)
         replace hC:=hC.grow hB_
         refine bF 0 (vQ b11) rfl rfl hM19 (fun _=>by exact Yt 0 ZMo rfl sc53.size rfl rfl) (Zc 14 1) (bL 1 (v10) rfl rfl hM18 (fun _ hB_=>by exact Yh (hC.grow hB_) 1 (v10) rfl sc53 rfl rfl) (Zc 14 3) (bF 2 (vQ b7) rfl rfl hM19 (fun _=>by exact Yt 0 ZMo rfl sc53.size rfl rfl) (Zc 14 7) (bL 3 (u0_0) rfl rfl hM18 (fun _ hB_=>by exact Yh (hC.grow hB_) 4 (u0_0) rfl sc53 rfl rfl) (Zc 14 15) (bM 4 (vI s10.2.1) rfl hM19 (Zc 14 31) ?_))))
         obtain ⟨⟨h28,h29⟩,h⟩:=h
         obtain ⟨Ad17,c19,hv19⟩:=Zw (hC.getP 1 rfl) s10.2.1.toNat (show s10.2.1.toNat < a0.terms.length by omega)
         refine bL 5 (.pointer (some (Ad17.add (s10.2.1.toNat * 9)))) rfl rfl hM18 (fun _ hB_=>by exact Y2 (len:=a0.terms.length) ZMr ag162.size (by exact tr rfl hv19) rfl h28 h29) (Zc 14 63) (bF 6 (.pointer (some (Ad17.add (s10.2.1.toNat * 9+0)))) rfl rfl hM19 (fun _=>by exact Za1 (s10.2.1.toNat * 9+0) ZMw rfl ag136.size rfl rfl) (Zc 14 127) (bL 7 (.agg (ZMf (ZMe .u8 ((a0.terms.getD s10.2.1.toNat ZEo).mono)))) rfl rfl hM18 (fun _ hB_=>by exact Jm (ZMe .u8 ((a0.terms.getD s10.2.1.toNat ZEo).mono)) (Jy (o:=0) (k:=8) (Yd ((hC.grow hB_).getP 1 rfl) hv19 s10.2.1.toNat (show s10.2.1.toNat < a0.terms.length by omega)) rfl) ag136 rfl rfl) (Zc 14 255) (bM 8 (vI r11) rfl hM19 (Zc 14 511) (bL 9 (.agg (ZMf (ZMs (⟨(a0.terms.getD s10.2.1.toNat ZEo).mono,r11⟩:Term)))) rfl rfl hM18 (fun _ hB_=>by exact Zjl [(0,.agg (ZMf (ZMe .u8 ((a0.terms.getD s10.2.1.toNat ZEo).mono)))),(1,vI r11)] rfl (Zg3 ((a0.terms.getD s10.2.1.toNat ZEo).mono) r11  _)) (Zc 14 1023) (aO 10 rfl (Ye (sz:=9) hC [(0,.agg (ZMf (ZMs (⟨(a0.terms.getD s10.2.1.toNat ZEo).mono,r11⟩:Term))))] (ZMi.encs [(⟨(a0.terms.getD s10.2.1.toNat ZEo).mono,r11⟩:Term)]) rfl (fun _=>Zfk (⟨(a0.terms.getD s10.2.1.toNat ZEo).mono,r11⟩:Term) _) rfl (by decide) fun b15 w35 hB_ hC=>done (aK (by assumption) (Zc 14 2047) (Z6 11 (by decide) (by decide) (by kernel_rfl) (by kernel_rfl) rfl ?_))))))))
         obtain ⟨hm12,h⟩:=h
         refine Ja hC 1 ZMr Zfl rfl (by decide) (by decide) rfl (Jx (hC.getM 0 rfl)) (fun q hq=>ZNk (E:=ETerm) _ q hq) rfl rfl hm12 fun v13 w36 hC=>?_
         replace hC:=Yy hC 1 ((s10.1++[(⟨(a0.terms.getD s10.2.1.toNat ZEo).mono,r11⟩:Term)]).length) (ZMi.encs (s10.1++[(⟨(a0.terms.getD s10.2.1.toNat ZEo).mono,r11⟩:Term)])) rfl (by simp) (by first | (simp [ZM9]; done) | simp [ZM9,Enc.encs])
         refine Z0 0 ZMo rfl sc53.size rfl rfl (Z3 (v:=v13) hC 2 [v13] [v13] rfl sc53.size rfl rfl (Zb9 (hC.getM 1 rfl)) rfl (Xp (X4 (hC.getM 1 rfl)) rfl) (ZMq rfl) rfl fun w37 hC=>done (Z7 (Ze (sr (Za (v:=vI s10.2.1) rfl (Zq rfl rfl (Zd (v:=vI (ZG5.wrap (s10.2.1+1))) rfl (dn (Zh (Za (v:=vI s10.2.2) rfl (Zq rfl rfl (Zd (v:=vI (ZG5.wrap (s10.2.2+1))) rfl (done (Zr (Zr ?_)))))))))))))))
         exact hK10 (s10.1++[(⟨(a0.terms.getD s10.2.1.toNat ZEo).mono,r11⟩:Term)],ZG5.wrap (s10.2.1+1),ZG5.wrap (s10.2.2+1)) _ _ ⟨v13,(slq rfl),(hC.xM [1,2,3,4,5] rfl)⟩ h
        ·replace h:=Zk h (cf hb18)
         refine ZMl (Ze (sr (Za (v:=vI s10.2.1) rfl (Zq rfl rfl (Zd (v:=vI (ZG5.wrap (s10.2.1+1))) rfl (dn (Zh (Za (v:=vI s10.2.2) rfl (Zq rfl rfl (Zd (v:=vI (ZG5.wrap (s10.2.2+1))) rfl (done (Zr (Zr ?_)))))))))))))
         exact hK10 (s10.1,ZG5.wrap (s10.2.1+1),ZG5.wrap (s10.2.2+1)) _ _ ⟨v10,(slq rfl),hC⟩ h
   ·replace h:=Zk h (Y4 hb14)
    refine ZMv (Zj (Zj (Zx ?_)))
    refine Ze (sr (Yq hC 1 [v10] rfl ag55 rfl rfl rfl (Z3 (v:=.agg #[v10]) hC 2 [v10] [v10] rfl ag55.size rfl rfl rfl rfl (Xp (X4 (hC.getM 0 rfl)) rfl) (ZMq rfl) rfl fun w38 hC=>dn (ZMp ?_))))
    exact Zi rfl (J8 hC 2 rfl ag55 rfl rfl) ⟨(⟨s10.1⟩:ZMj),v10,(ZNg (ZFi v10)),rfl,h,(Zcn (Xf (hC.getM 0 rfl))),(Y8 hC 0 rfl),hC.below⟩ (.inl rfl)
 ·skip
  replace hC:=hC.pushNil 162 9
  exact⟨.slice none 0 0,(slq rfl),hC⟩
def Zg7 (a0:List Int) (a1:A8) (a2:A8) (K:A8→Int→Prop):Prop :=
 Z8 (fun i10 (s11:A8×Int) nx10=>((0≤(i10:Int)∧(i10:Int) < 8)∧((0≤(i10:Int)∧(i10:Int) < 8)∧((0≤(i10:Int)∧(i10:Int) < 8)∧(if ZFf (a0.getD i10 ZEo) 2=0 then nx10 (s11.1.set i10 (ZMt.wrap ((a1.get i10)+(a2.get i10))),s11.2) else((0≤(i10:Int)∧(i10:Int) < 8)∧(if(s11.1.set i10 (ZMt.wrap ((a1.get i10)+(a2.get i10)))).get i10 > 1 then K ZMm 0 else Xt (fun (s10:Int×Int) nx11=>(if s10.1 < (a0.length:Int) then((0≤(i10:Int)∧(i10:Int) < 8)∧(if a2.get i10=1 then((0≤s10.1∧s10.1 < (a0.length:Int))∧(if ZFf (a0.getD s10.1.toNat ZEo) 2≠0 then((0≤s10.1∧s10.1 < 8)∧(if a1.get s10.1.toNat=1 then nx11 (ZG5.wrap (s10.1+1),ZG5.wrap (0 - s10.2)) else nx11 (ZG5.wrap (s10.1+1),s10.2))) else nx11 (ZG5.wrap (s10.1+1),s10.2))) else nx10 (s11.1.set i10 (ZMt.wrap ((a1.get i10)+(a2.get i10))),s10.2))) else nx10 (s11.1.set i10 (ZMt.wrap ((a1.get i10)+(a2.get i10))),s10.2))) (ZG5.wrap ((i10:Int)+1),s11.2)))))))) (fun (s11:A8×Int)=>K s11.1 s11.2) a0.length 0 (ZMm,1)
theorem Zqj (a0 : List Int) (a1 : A8) (a2 : A8)  {K : A8 → Int → Prop} (h : Zg7 a0 a1 a2 K) (w0 : World) (q0 : TInts.rep a0 [u0_0] fp0 w0) :
  Calls ZMk 196 #[u0_0,.agg (ZMf (ZMe .u8 a1)),.agg (ZMf (ZMe .u8 a2))] w0 fun e w'=>∃ (r0:A8) (r1:Int),
   e=.returned (.tuple #[.agg (ZMf (ZMe .u8 r0)),vI r1])∧K r0 r1∧Bel w0 w':=by
 unfold Zg7 at h
 refine cof ZNq rfl 69 Tryz.ntmps196 ?_
 have hC:=ZM2 (X:=Nox) w0 [ZMg TInts a0 [u0_0] fp0] (al1 q0)
 refine sr (Yg (v:=.agg (ZMf (ZMe .u8 a1))) hC (ZMe .u8 a1) rfl rfl fun b2 w4 hB_ hC=>Yg (v:=.agg (ZMf (ZMe .u8 a2))) hC (ZMe .u8 a2) rfl rfl fun b5 w7 hB_ hC=>Ys hC (ZMe .u8 ZMm) Zbq rfl fun b8 w10 hB_ hC=>Zd (v:=vI 0) rfl (dn (sr (J2 [] rfl (Zm3   _) (Ys hC (ZMe .u8 ZMm) Zbq rfl fun b10 w11 hB_ hC=>Z3 (v:=.agg (ZMf (ZMe .u8 ZMm))) hC 0 (ZMe .u8 ZMm) (ZMe .u8 ZMm) rfl ag136.size rfl rfl rfl rfl rfl (ZMq rfl) rfl fun w12 hC=>Zd (v:=vI 1) rfl (dn (ZMh (sr (Zd (v:=vI 0) rfl (dn (ZMn ?_)))))))))))
 have hN10:a0.length≤9223372036854775807:=Yw (hC.getP 0 rfl)
 refine Yi (S:=A8×Int) _ _ (fun i10 s11 e_ w_=>Zt e_ [(0,u0_0),(4,vQ b2),(5,vQ b5),(6,vQ b8),(8,vQ b10),(9,vI s11.2),(10,vI (i10:Int))]∧Ctx Nox w0 w_ [blk b10 136 (ZMe .u8 s11.1),blk b8 136 (ZMe .u8 ZMm),blk b5 136 (ZMe .u8 a2),blk b2 136 (ZMe .u8 a1)] [ZMg TInts a0 [u0_0] fp0]) a0.length ?_ ?_ (s0:=(ZMm,1)) ?_ h
 ·clear hC h
  rintro i10 s11 e_ w13 nx10 K10 hi10 ⟨hS_,hC⟩ h hK10
  rw [ue hS_]
  refine ZMh (sr (Za (v:=vI (i10:Int)) rfl (Za (v:=u0_0) rfl (Zu hC 0 rfl ZM0 rfl (Zn rfl rfl (dn (Z5 rfl (decide_eq_true (by omega)) (ZMl (Ze (ZMh (ZMn (ZMh ?_))))))))))))
  refine cwd 8 Yo [0,0,2,6,0,16,48,126,255,511] [2,3,5,6] [0,1,4,7] (fun hM10 hM11 w14 hB_=>?_)
  replace hC:=hC.grow hB_
  refine bM 0 (vI (i10:Int)) rfl hM11 (Zc 10 1) (bM 1 (vI (i10:Int)) rfl hM11 (Zc 10 3) ?_)
  obtain ⟨⟨h10,h11⟩,h⟩:=h
  refine bL 2 (.pointer (some ⟨b2,i10,none⟩)) rfl rfl hM10 (fun _ hB_=>by exact Zag i10 ZMz sc5.size rfl rfl h10 h11 (by omega)) (Zc 10 7) (bL 3 (.int .u8 (a1.get i10)) rfl rfl hM10 (fun _ hB_=>by exact Yh (hC.grow hB_) 3 (.int .u8 (a1.get i10)) rfl sc5 rfl (ZMu _ _ (show i10 < 8 by omega))) (Zc 10 15) (bM 4 (vI (i10:Int)) rfl hM11 (Zc 10 31) ?_))
  obtain ⟨⟨h12,h13⟩,h⟩:=h
  refine bL 5 (.pointer (some ⟨b5,i10,none⟩)) rfl rfl hM10 (fun _ hB_=>by exact Zag i10 ZMz sc5.size rfl rfl h12 h13 (by omega)) (Zc 10 63) (bL 6 (.int .u8 (a2.get i10)) rfl rfl hM10 (fun _ hB_=>by exact Yh (hC.grow hB_) 2 (.int .u8 (a2.get i10)) rfl sc5 rfl (ZMu _ _ (show i10 < 8 by omega))) (Zc 10 127) (bF 7 (.int .u8 (ZMt.wrap ((a1.get i10)+(a2.get i10)))) rfl rfl hM11 (fun _=>by exact Zb6 rfl rfl) (Zc 10 255) (Z6 8 (by decide) (by decide) (by kernel_rfl) (by kernel_rfl) rfl ?_)))
  obtain ⟨⟨h14,h15⟩,h⟩:=h
  refine Xs i10 ZMz sc5.size rfl rfl h14 h15 (by omega) (Z3 (v:=.int .u8 (ZMt.wrap ((a1.get i10)+(a2.get i10)))) hC 0 [.int .u8 (ZMt.wrap ((a1.get i10)+(a2.get i10)))] (ZMe .u8 (s11.1.set i10 (ZMt.wrap ((a1.get i10)+(a2.get i10))))) rfl sc5.size rfl rfl rfl rfl rfl (show i10 < 8 by omega) (ZNb _ _ _ (show i10 < 8 by omega)) fun w15 hC=>done (Z7 (Ze (ZMh (sr (Za (v:=u0_0) rfl (Za (v:=vI (i10:Int)) rfl ?_)))))))
  obtain ⟨Ad10,c10,hv10⟩:=Zw (hC.getP 0 rfl) i10 hi10
  refine Yn (len:=a0.length) ZM0 sc2.size (tr rfl hv10) rfl (ZMx _) (ZNf.2 hi10) (Yp (vI (a0.getD i10 ZEo)) (Yd (hC.getP 0 rfl) hv10 i10 hi10) sc2 rfl (X8 rfl rfl (by decide) (Xx rfl rfl (dn ?_))))
  refine Zs rfl (fun hb12=>?_) (fun hb12=>?_)
  ·replace h:=ift h (ct hb12)
   refine ZMv (Zj (Zx ?_))
   refine Ze (Zh (Za (v:=vI (i10:Int)) rfl (Zq rfl rfl (Zd (v:=vI (ZG5.wrap ((i10:Int)+1))) rfl (done ?_)))))
   exact hK10 (s11.1.set i10 (ZMt.wrap ((a1.get i10)+(a2.get i10))),s11.2) _ _ ⟨(sl ⟨rfl,rfl,rfl,rfl,rfl,rfl,(tr rfl (congrArg _ (Z2 hi10 hN10))),trivial⟩),hC⟩ h
  ·replace h:=Zk h (cf hb12)
   refine ZMl (Ze (ZMh (sr (Za (v:=vI (i10:Int)) rfl ?_))))
   obtain ⟨⟨h16,h17⟩,h⟩:=h
   refine Xs i10 ZMz sc5.size rfl rfl h16 h17 (by omega) (Yb hC 0 (.int .u8 ((s11.1.set i10 (ZMt.wrap ((a1.get i10)+(a2.get i10)))).get i10)) rfl sc5 rfl (ZMu _ _ (show i10 < 8 by omega)) (Jh rfl rfl (dn ?_)))
   refine Zs rfl (fun hb13=>?_) (fun hb13=>?_)
   ·replace h:=ift h (ct hb13)
    refine sr (J2 [] rfl (Zm3   _) (Z3 (v:=.agg (ZMf (ZMe .u8 ZMm))) hC 1 (ZMe .u8 ZMm) (ZMe .u8 ZMm) rfl ag136.size rfl rfl rfl rfl rfl (ZMq rfl) rfl fun w16 hC=>Zd (v:=vI 0) rfl (dn ?_)))
    refine ZMp (Zm (Ya (Zm (Zm (Ya (Zm ?_))))))
    exact X9 rfl (J8 hC 1 rfl ag136 rfl rfl) (Zg rfl) ⟨ZMm,0,rfl,h,hC.below⟩ (.inl rfl)
   ·replace h:=Zk h (cf hb13)
    refine ZMl (Ze (sr (Za (v:=vI (i10:Int)) rfl (Zq rfl rfl (Zd (v:=vI (ZG5.wrap ((i10:Int)+1))) rfl (dn (ZMn ?_)))))))
    refine Xz (S:=Int×Int) _ (fun s10 e_ w_=>Zt e_ [(0,u0_0),(4,vQ b2),(5,vQ b5),(6,vQ b8),(8,vQ b10),(9,vI s10.2),(10,vI (i10:Int)),(11,vI s10.1)]∧Ctx Nox w0 w_ [blk b10 136 (ZMe .u8 (s11.1.set i10 (ZMt.wrap ((a1.get i10)+(a2.get i10))))),blk b8 136 (ZMe .u8 ZMm),blk b5 136 (ZMe .u8 a2),blk b2 136 (ZMe .u8 a1)] [ZMg TInts a0 [u0_0] fp0]) ?_ (s0:=(ZG5.wrap ((i10:Int)+1),s11.2)) ?_ h
    ·clear hC h
     rintro s10 e_ w17 nx11 K11 ⟨hS_,hC⟩ h hK11
     rw [ue hS_]
     refine ZMh (sr (Za (v:=vI s10.1) rfl (Za (v:=u0_0) rfl (Zu hC 0 rfl ZM0 rfl (Zn rfl rfl (Za (v:=.bool (decide (s10.1 < (a0.length:Int)))) rfl ?_))))))
     refine Y7 (decide (s10.1 < (a0.length:Int))) (fun hb10=>?_) (fun hb10=>?_)
     ·replace h:=ift h (ct hb10)
      refine Zp 4 45 rfl rfl hb10 (Za (v:=vI (i10:Int)) rfl (Zp 4 45 rfl rfl hb10 ?_))
      obtain ⟨⟨h18,h19⟩,h⟩:=h
      refine Xs i10 ZMz sc5.size rfl rfl h18 h19 (by omega) (Zp 4 45 rfl rfl hb10 (Yb hC 2 (.int .u8 (a2.get i10)) rfl sc5 rfl (ZMu _ _ (show i10 < 8 by omega)) (Zp 4 45 rfl rfl hb10 (Xx rfl rfl (Z4 (v:=.bool (decide (a2.get i10=1))) (b:=true) (tr rfl (congrArg _ hb10)) rfl (dn ?_))))))
      refine Zs rfl (fun hb14=>?_) (fun hb14=>?_)
      ·replace h:=ift h (ct hb14)
       refine ZMl (Ze (ZMh (ZMn (sr (Za (v:=u0_0) rfl (Za (v:=vI s10.1) rfl ?_))))))
       obtain ⟨⟨h20,h21⟩,h⟩:=h
       obtain ⟨Ad11,c11,hv11⟩:=Zw (hC.getP 0 rfl) s10.1.toNat (show s10.1.toNat < a0.length by omega)
       refine Yn (len:=a0.length) ZM0 sc2.size (tr rfl hv11) rfl h20 h21 (Yp (vI (a0.getD s10.1.toNat ZEo)) (Yd (hC.getP 0 rfl) hv11 s10.1.toNat (show s10.1.toNat < a0.length by omega)) sc2 rfl (X8 rfl rfl (by decide) (Y6 rfl rfl (Za (v:=.bool (decide (ZFf (a0.getD s10.1.toNat ZEo) 2≠0))) rfl ?_))))
       refine Y7 (decide (ZFf (a0.getD s10.1.toNat ZEo) 2≠0)) (fun hb11=>?_) (fun hb11=>?_)
       ·replace h:=ift h (ct hb11)
        refine Zp 6 59 rfl rfl hb11 (Za (v:=vI s10.1) rfl (Zp 6 59 rfl rfl hb11 ?_))
        obtain ⟨⟨h22,h23⟩,h⟩:=h
        refine Xs s10.1.toNat ZMz sc5.size rfl rfl h22 h23 (by omega) (Zp 6 59 rfl rfl hb11 (Yb hC 3 (.int .u8 (a1.get s10.1.toNat)) rfl sc5 rfl (ZMu _ _ (show s10.1.toNat < 8 by omega)) (Zp 6 59 rfl rfl hb11 (Xx rfl rfl (Z4 (v:=.bool (decide (a1.get s10.1.toNat=1))) (b:=true) (tr rfl (congrArg _ hb11)) rfl (dn ?_))))))
        refine Zs rfl (fun hb15=>?_) (fun hb15=>?_)
        ·replace h:=ift h (ct hb15)
         refine Zh (Za (v:=vI s10.2) rfl (Zjj rfl (Zd (v:=vI (ZG5.wrap (0 - s10.2))) rfl (done (Zr (Ze (Zh (Za (v:=vI s10.1) rfl (Zq rfl rfl (Zd (v:=vI (ZG5.wrap (s10.1+1))) rfl (done ?_)))))))))))
         exact hK11 (ZG5.wrap (s10.1+1),ZG5.wrap (0 - s10.2)) _ _ ⟨(slq rfl),hC⟩ h
        ·replace h:=Zk h (cf hb15)
         refine ZMl (Zr (Ze (Zh (Za (v:=vI s10.1) rfl (Zq rfl rfl (Zd (v:=vI (ZG5.wrap (s10.1+1))) rfl (done ?_)))))))
         exact hK11 (ZG5.wrap (s10.1+1),s10.2) _ _ ⟨(slq rfl),hC⟩ h
       ·replace h:=Zk h (cf hb11)
        refine Zl (b:=false) 6 59 rfl (tr rfl (congrArg _ hb11)) (by decide) (Zl (b:=false) 6 59 rfl (tr rfl (congrArg _ hb11)) (by decide) (Zl (b:=false) 6 59 rfl (tr rfl (congrArg _ hb11)) (by decide) (Zl (b:=false) 6 59 rfl (tr rfl (congrArg _ hb11)) (by decide) (Z4 (v:=.bool false) (b:=false) (tr rfl (congrArg _ hb11)) rfl (dn (Z1 rfl rfl (ZMl (Zr (Ze (Zh (Za (v:=vI s10.1) rfl (Zq rfl rfl (Zd (v:=vI (ZG5.wrap (s10.1+1))) rfl (done ?_))))))))))))))
        exact hK11 (ZG5.wrap (s10.1+1),s10.2) _ _ ⟨(slq rfl),hC⟩ h
      ·replace h:=Zk h (cf hb14)
       refine ZMv (Zj (Zj (Zx ?_)))
       refine Zr (Ze (Zh (Za (v:=vI (i10:Int)) rfl (Zq rfl rfl (Zd (v:=vI (ZG5.wrap ((i10:Int)+1))) rfl (done ?_))))))
       exact hK10 (s11.1.set i10 (ZMt.wrap ((a1.get i10)+(a2.get i10))),s10.2) _ _ ⟨(sl ⟨rfl,rfl,rfl,rfl,rfl,rfl,(tr rfl (congrArg _ (Z2 hi10 hN10))),trivial⟩),hC⟩ h
     ·replace h:=Zk h (cf hb10)
      refine Zl (b:=false) 4 45 rfl (tr rfl (congrArg _ hb10)) (by decide) (Zl (b:=false) 4 45 rfl (tr rfl (congrArg _ hb10)) (by decide) (Zl (b:=false) 4 45 rfl (tr rfl (congrArg _ hb10)) (by decide) (Zl (b:=false) 4 45 rfl (tr rfl (congrArg _ hb10)) (by decide) (Z4 (v:=.bool false) (b:=false) (tr rfl (congrArg _ hb10)) rfl (dn (Z1 rfl rfl ?_))))))
      refine ZMv (Zj (Zj (Zx ?_)))
      refine Zr (Ze (Zh (Za (v:=vI (i10:Int)) rfl (Zq rfl rfl (Zd (v:=vI (ZG5.wrap ((i10:Int)+1))) rfl (done ?_))))))
      exact hK10 (s11.1.set i10 (ZMt.wrap ((a1.get i10)+(a2.get i10))),s10.2) _ _ ⟨(sl ⟨rfl,rfl,rfl,rfl,rfl,rfl,(tr rfl (congrArg _ (Z2 hi10 hN10))),trivial⟩),hC⟩ h
    ·skip
     exact⟨(slq rfl),hC⟩
 ·clear hC h
  rintro s11 e_ w18 K10 ⟨hS_,hC⟩ h
  rw [ue hS_]
  refine ZMh (sr (Za (v:=vI (a0.length:Int)) rfl (Za (v:=u0_0) rfl (Zu hC 0 rfl ZM0 rfl (Zn rfl rfl (dn (Z1 rfl (decide_eq_false (by omega)) ?_)))))))
  refine ZMv (Zj (Zj (Zx ?_)))
  refine Ze (sr (Yq hC 0 (ZMe .u8 s11.1) rfl ag136 rfl rfl rfl (Za (v:=vI s11.2) rfl (Z3 (v:=.agg (ZMf (ZMe .u8 s11.1))) hC 1 (ZMe .u8 s11.1) (ZMe .u8 s11.1) rfl ag136.size rfl rfl rfl rfl rfl (ZMq rfl) rfl fun w19 hC=>Zd (v:=vI s11.2) rfl (dn (ZMp ?_))))))
  exact X9 rfl (J8 hC 1 rfl ag136 rfl rfl) (Zg rfl) ⟨s11.1,s11.2,rfl,h,hC.below⟩ (.inl rfl)
 ·skip
  exact⟨(slq rfl),hC⟩
def Zg8 (a0:List Int) (a1:Term) (a2:ZMj) (K:ZMj→Prop):Prop :=
 Xt (fun (s10:(List Term)×Int) nx10=>(if s10.2 < (a2.terms.length:Int) then((0≤s10.2∧s10.2 < (a2.terms.length:Int))∧Zg7 a0 a1.mono ((a2.terms.getD s10.2.toNat ZEo).mono) (fun r13 r14=>(if r14≠0 then((0≤s10.2∧s10.2 < (a2.terms.length:Int))∧Je (ZG5.wrap ((ZG5.wrap (r14 * a1.factor)) * ((a2.terms.getD s10.2.toNat ZEo).factor))) (fun r11=>(Zy (s10.1.length+1) 16∧nx10 (s10.1++[(⟨r13,r11⟩:Term)],ZG5.wrap (s10.2+1))))) else nx10 (s10.1,ZG5.wrap (s10.2+1))))) else K (⟨s10.1⟩:ZMj))) ([],0)
theorem Zvx (a0:List Int) (a1:Term) (a2:ZMj)  {K:ZMj→Prop} (h:Zg8 a0 a1 a2 K) (w0:World) (q0:TInts.rep a0 [u0_0] fp0 w0) (q2:ZM3.rep a2 [u2_0] fp2 w0) :
  Calls ZMk 175 #[u0_0,.agg (ZMf (ZMs a1)),.agg #[u2_0]] w0 fun e w'=>∃ (r0:ZMj) (z0_0:Value) (fz0:List Nat),
   e=.returned (.agg #[z0_0])∧K r0∧(ZMy (Yj 162) r0 [z0_0] fz0).holds w'∧(∀ b,b∈fz0→w0.heap.size≤b)∧Bel w0 w':=by
 unfold Zg8 at h
 refine cof Tryz.func175 rfl 54 Tryz.ntmps175 ?_
 have hC:=ZM2 (X:=Nox) w0 [ZMg TInts a0 [u0_0] fp0,ZMg TForm a2 [u2_0] fp2] (alc q0 (al1 q2))
 have hp3:=(hC.getP 1 rfl)
 replace hC:=hC.derive 1 rfl (ZMg ZMi.ty.sl a2.terms [u2_0] fp2) (fun _=>(Xk hp3)) (fun _ hb_=>hb_)
 refine sr (Yg (v:=.agg (ZMf (ZMs a1))) hC (ZMs a1) rfl rfl fun b5 w7 hB_ hC=>Yg (v:=.agg #[u2_0]) hC [u2_0] rfl rfl fun b8 w10 hB_ hC=>Ys hC [.slice none 0 0] z55 rfl fun b11 w11 hB_ hC=>dn (sr (J2 [] rfl (Zfj   _) (Ys hC [.slice none 0 0] z55 rfl fun b10 w12 hB_ hC=>Z3 (v:=.agg #[.slice none 0 0]) hC 0 [.slice none 0 0] [.slice none 0 0] rfl ag55.size rfl rfl rfl rfl rfl (ZMq rfl) rfl fun w13 hC=>dn (ZMh (sr (Zd (v:=vI 0) rfl (dn (ZMn ?_)))))))))
 refine Xz (S:=(List Term)×Int) _ (fun s10 e_ w_=>∃ (v10:Value),Zt e_ [(0,u0_0),(4,vQ b5),(5,vQ b8),(6,vQ b11),(7,vQ b10),(8,vI s10.2)]∧Ctx Nox w0 w_ [own 162 9 v10 s10.1.length (ZMi.encs s10.1),blk b10 55 [v10],blk b11 55 [.slice none 0 0],blk b8 55 [u2_0],blk b5 162 (ZMs a1)] [ZMg ZMi.ty.sl a2.terms [u2_0] fp2,ZMg TInts a0 [u0_0] fp0,ZMg TForm a2 [u2_0] fp2]) ?_ (s0:=([],0)) ?_ h
 ·clear hC h
  rintro s10 e_ w14 nx10 K10 ⟨v10,hS_,hC⟩ h hK10
  rw [ue hS_]
  refine ZMh (sr (Za (v:=vI s10.2) rfl (Z0 0 ZMo rfl sc53.size rfl rfl (Yb hC 3 (u2_0) rfl sc53 rfl rfl (Zu hC 0 rfl ZMr rfl (Zn rfl rfl (dn ?_)))))))
  refine Zs rfl (fun hb10=>?_) (fun hb10=>?_)
  ·replace h:=ift h (ct hb10)
   refine ZMl (Ze (ZMh (ZMn (ZMh ?_))))
   refine cwd 14 Yo [0,0,2,0,8,0,56,120,248,511,1023,2047,2047,0,12287,32767] [2,4,6,8] [0,1,3,5,7,10,11,12] (fun hM13 hM10 w15 hB_=>?_)
   replace hC:=hC.grow hB_
   refine bM 0 (u0_0) rfl hM10 (Zc 16 1) (bF 1 (vQ b5) rfl rfl hM10 (fun _=>by exact Yt 0 ZMw rfl ag136.size rfl rfl) (Zc 16 3) (bL 2 (.agg (ZMf (ZMe .u8 a1.mono))) rfl rfl hM13 (fun _ hB_=>by exact Xa (hC.grow hB_) 4 (ZMe .u8 a1.mono) rfl ag136 rfl rfl rfl) (Zc 16 7) (bF 3 (vQ b8) rfl rfl hM10 (fun _=>by exact Yt 0 ZMo rfl sc53.size rfl rfl) (Zc 16 15) (bL 4 (u2_0) rfl rfl hM13 (fun _ hB_=>by exact Yh (hC.grow hB_) 3 (u2_0) rfl sc53 rfl rfl) (Zc 16 31) (bM 5 (vI s10.2) rfl hM10 (Zc 16 63) ?_)))))
   obtain ⟨⟨h10,h11⟩,h⟩:=h
   obtain ⟨Ad10,c10,hv10⟩:=Zw (hC.getP 0 rfl) s10.2.toNat (show s10.2.toNat < a2.terms.length by omega)
   refine bL 6 (.pointer (some (Ad10.add (s10.2.toNat * 9)))) rfl rfl hM13 (fun _ hB_=>by exact Y2 (len:=a2.terms.length) ZMr ag162.size (by exact tr rfl hv10) rfl h10 h11) (Zc 16 127) (bF 7 (.pointer (some (Ad10.add (s10.2.toNat * 9+0)))) rfl rfl hM10 (fun _=>by exact Za1 (s10.2.toNat * 9+0) ZMw rfl ag136.size rfl rfl) (Zc 16 255) (bL 8 (.agg (ZMf (ZMe .u8 ((a2.terms.getD s10.2.toNat ZEo).mono)))) rfl rfl hM13 (fun _ hB_=>by exact Jm (ZMe .u8 ((a2.terms.getD s10.2.toNat ZEo).mono)) (Jy (o:=0) (k:=8) (Yd ((hC.grow hB_).getP 0 rfl) hv10 s10.2.toNat (show s10.2.toNat < a2.terms.length by omega)) rfl) ag136 rfl rfl) (Zc 16 511) ?_))
   refine Zdn (fun e_ w_=>∃ (b12:Nat),∃ (r10:A8),∃ (r12:Int),Zt e_ [(0,u0_0),(4,vQ b5),(5,vQ b8),(6,vQ b11),(7,vQ b10),(8,vI s10.2),(9,vQ b12),(10,vI r12)]∧Ctx Nox w0 w_ [blk b12 136 (ZMe .u8 r10),own 162 9 v10 s10.1.length (ZMi.encs s10.1),blk b10 55 [v10],blk b11 55 [.slice none 0 0],blk b8 55 [u2_0],blk b5 162 (ZMs a1)] [ZMg ZMi.ty.sl a2.terms [u2_0] fp2,ZMg TInts a0 [u0_0] fp0,ZMg TForm a2 [u2_0] fp2]∧(if r12≠0 then((0≤s10.2∧s10.2 < (a2.terms.length:Int))∧Je (ZG5.wrap ((ZG5.wrap (r12 * a1.factor)) * ((a2.terms.getD s10.2.toNat ZEo).factor))) (fun r11=>(Zy (s10.1.length+1) 16∧nx10 (s10.1++[(⟨r10,r11⟩:Term)],ZG5.wrap (s10.2+1))))) else nx10 (s10.1,ZG5.wrap (s10.2+1)))) ?_ ?_
   ·clear hC h
    rintro e_ w16 ⟨b12,r10,r12,hS_,hC,h⟩
    rw [ue hS_]
    refine Ze (sr (Za (v:=vI r12) rfl (Y6 rfl rfl (dn ?_))))
    refine Zs rfl (fun hb11=>?_) (fun hb11=>?_)
    ·replace h:=ift h (ct hb11)
     refine cwd 17 Yo [0,1,0,0,0,16,56,0,128,0,896,1920,3968,8184,16376,32764,65532,131071,262143,524287] [1,2,5,8,10,12,15] [0,3,4,6,7,9,11,13] (fun hM12 hM11 w17 hB_=>?_)
     replace hC:=hC.grow hB_
     refine bF 0 (vQ b10) rfl rfl hM11 (fun _=>by exact Yt 0 ZMo rfl sc53.size rfl rfl) (Zc 20 1) (bL 1 (v10) rfl rfl hM12 (fun _ hB_=>by exact Yh (hC.grow hB_) 2 (v10) rfl sc53 rfl rfl) (Zc 20 3) (bL 2 (.agg (ZMf (ZMe .u8 r10))) rfl rfl hM12 (fun _ hB_=>by exact Xa (hC.grow hB_) 0 (ZMe .u8 r10) rfl ag136 rfl rfl rfl) (Zc 20 7) (bM 3 (vI r12) rfl hM11 (Zc 20 15) (bF 4 (.pointer (some ⟨b5,8,none⟩)) rfl rfl hM11 (fun _=>by exact Yt 8 ZMw rfl sc2.size rfl rfl) (Zc 20 31) (bL 5 (vI a1.factor) rfl rfl hM12 (fun _ hB_=>by exact Yh (hC.grow hB_) 5 (vI a1.factor) rfl sc2 rfl rfl) (Zc 20 63) (bF 6 (vI (ZG5.wrap (r12 * a1.factor))) rfl rfl hM11 (fun _=>by exact Zc1 rfl rfl) (Zc 20 127) (bF 7 (vQ b8) rfl rfl hM11 (fun _=>by exact Yt 0 ZMo rfl sc53.size rfl rfl) (Zc 20 255) (bL 8 (u2_0) rfl rfl hM12 (fun _ hB_=>by exact Yh (hC.grow hB_) 4 (u2_0) rfl sc53 rfl rfl) (Zc 20 511) (bM 9 (vI s10.2) rfl hM11 (Zc 20 1023) ?_)))))))))
     obtain ⟨⟨h12,h13⟩,h⟩:=h
     obtain ⟨Ad11,c11,hv11⟩:=Zw (hC.getP 0 rfl) s10.2.toNat (show s10.2.toNat < a2.terms.length by omega)
     refine bL 10 (.pointer (some (Ad11.add (s10.2.toNat * 9)))) rfl rfl hM12 (fun _ hB_=>by exact Y2 (len:=a2.terms.length) ZMr ag162.size (by exact tr rfl hv11) rfl h12 h13) (Zc 20 2047) (bF 11 (.pointer (some (Ad11.add (s10.2.toNat * 9+8)))) rfl rfl hM11 (fun _=>by exact Za1 (s10.2.toNat * 9+8) ZMw rfl sc2.size rfl rfl) (Zc 20 4095) (bL 12 (vI ((a2.terms.getD s10.2.toNat ZEo).factor)) rfl rfl hM12 (fun _ hB_=>by exact Xn (vI ((a2.terms.getD s10.2.toNat ZEo).factor)) (Jy (o:=8) (k:=1) (Yd ((hC.grow hB_).getP 0 rfl) hv11 s10.2.toNat (show s10.2.toNat < a2.terms.length by omega)) rfl) sc2 rfl) (Zc 20 8191) (bF 13 (vI (ZG5.wrap ((ZG5.wrap (r12 * a1.factor)) * ((a2.terms.getD s10.2.toNat ZEo).factor)))) rfl rfl hM11 (fun _=>by exact Zc1 rfl rfl) (Zc 20 16383) (aO 14 rfl (Zf [vI (ZG5.wrap ((ZG5.wrap (r12 * a1.factor)) * ((a2.terms.getD s10.2.toNat ZEo).factor)))] _ ZM7 rfl rfl rfl (Zbr (ZG5.wrap ((ZG5.wrap (r12 * a1.factor)) * ((a2.terms.getD s10.2.toNat ZEo).factor))) h _) ?_)))))
     rintro _ w18 ⟨r11,rfl,h,hB10⟩
     refine rt ?_
     replace hC:=hC.grow hB10
     refine done (aK (by assumption) (Zc 20 32767) (bL 15 (.agg (ZMf (ZMs (⟨r10,r11⟩:Term)))) rfl rfl hM12 (fun _ hB_=>by exact Zjl [(0,.agg (ZMf (ZMe .u8 r10))),(1,vI r11)] rfl (Zg3 r10 r11  _)) (Zc 20 65535) (aO 16 rfl (Ye (sz:=9) hC [(0,.agg (ZMf (ZMs (⟨r10,r11⟩:Term))))] (ZMi.encs [(⟨r10,r11⟩:Term)]) rfl (fun _=>Zfk (⟨r10,r11⟩:Term) _) rfl (by decide) fun b15 w19 hB_ hC=>done (aK (by assumption) (Zc 20 131071) (Z6 17 (by decide) (by decide) (by kernel_rfl) (by kernel_rfl) rfl ?_))))))
     obtain ⟨hm10,h⟩:=h
     refine Ja hC 2 ZMr Zfl rfl (by decide) (by decide) rfl (Jx (hC.getM 0 rfl)) (fun q hq=>ZNk (E:=ETerm) _ q hq) rfl rfl hm10 fun v11 w20 hC=>?_
     replace hC:=Yy hC 2 ((s10.1++[(⟨r10,r11⟩:Term)]).length) (ZMi.encs (s10.1++[(⟨r10,r11⟩:Term)])) rfl (by simp) (by first | (simp [ZM9]; done) | simp [ZM9,Enc.encs])
     refine Z0 0 ZMo rfl sc53.size rfl rfl (Z3 (v:=v11) hC 3 [v11] [v11] rfl sc53.size rfl rfl (Zb9 (hC.getM 2 rfl)) rfl (Xp (X4 (hC.getM 2 rfl)) rfl) (ZMq rfl) rfl fun w21 hC=>done (Z7 (Zr (Ze (Zh (Za (v:=vI s10.2) rfl (Zq rfl rfl (Zd (v:=vI (ZG5.wrap (s10.2+1))) rfl (done ?_)))))))))
     exact hK10 (s10.1++[(⟨r10,r11⟩:Term)],ZG5.wrap (s10.2+1)) _ _ ⟨v11,(slq rfl),(hC.xM [2,3,4,5,6] rfl)⟩ h
    ·replace h:=Zk h (cf hb11)
     refine ZMl (Zr (Ze (Zh (Za (v:=vI s10.2) rfl (Zq rfl rfl (Zd (v:=vI (ZG5.wrap (s10.2+1))) rfl (done ?_)))))))
     exact hK10 (s10.1,ZG5.wrap (s10.2+1)) _ _ ⟨v10,(slq rfl),(hC.xM [1,2,3,4,5] rfl)⟩ h
   refine Ju 9 13 rfl rfl (by kernel_rfl) ?_ ?_
   ·skip
    refine Zf [u0_0,.agg (ZMf (ZMe .u8 a1.mono)),.agg (ZMf (ZMe .u8 ((a2.terms.getD s10.2.toNat ZEo).mono)))] _ ZNq rfl rfl rfl (Zqj a0 a1.mono ((a2.terms.getD s10.2.toNat ZEo).mono) h _ (hC.getP 1 rfl)) ?_
    rintro _ w22 ⟨r13,r14,rfl,h,hB11⟩
    refine rt ?_
    replace hC:=hC.grow hB11
    refine done (aK (by assumption) (Zc 16 1023) (bM 10 (.tuple #[.agg (ZMf (ZMe .u8 r13)),vI r14]) rfl hM10 (Zc 16 2047) (bF 11 (.agg (ZMf (ZMe .u8 r13))) rfl rfl hM10 (fun _=>by exact Ze9 (v:=.agg (ZMf (ZMe .u8 r13))) rfl rfl) (Zc 16 4095) (bF 12 (vI r14) rfl rfl hM10 (fun _=>by exact Ze9 (v:=vI r14) rfl rfl) (Zc 16 8191) (aO 13 rfl (Ys hC (ZMe .u8 ZMm) Zbq rfl fun b13 w23 hB_ hC=>done (aK (by assumption) (Zc 16 16383) (aO 14 rfl (Z3 (v:=.agg (ZMf (ZMe .u8 r13))) hC 0 (ZMe .u8 r13) (ZMe .u8 r13) rfl ag136.size rfl rfl rfl rfl rfl (ZMq rfl) rfl fun w24 hC=>done (Zgs (by decide) (l9:=(Zc 16 32767)) (by kernel_rfl) (Z6 15 (by decide) (by decide) (by kernel_rfl) (by kernel_rfl) rfl (Zd (v:=vI r14) rfl (done (Z7 ?_))))))))))))))
    exact⟨rfl,_,rfl,⟨b13,r13,r14,(slq rfl),hC,h⟩⟩
   ·skip
    refine Ys hC (ZMe .u8 ZMm) Zbq rfl fun b14 w25 hB_ hC=>done (aK (by assumption) (Zc 16 8703) (aO 9 rfl (Zf [u0_0,.agg (ZMf (ZMe .u8 a1.mono)),.agg (ZMf (ZMe .u8 ((a2.terms.getD s10.2.toNat ZEo).mono)))] _ ZNq rfl rfl rfl (Zqj a0 a1.mono ((a2.terms.getD s10.2.toNat ZEo).mono) h _ (hC.getP 1 rfl)) ?_)))
    rintro _ w26 ⟨r15,r16,rfl,h,hB12⟩
    refine rt ?_
    replace hC:=hC.grow hB12
    refine done (aK (by assumption) (Zc 16 9215) (bM 10 (.tuple #[.agg (ZMf (ZMe .u8 r15)),vI r16]) rfl hM10 (Zc 16 10239) (bF 11 (.agg (ZMf (ZMe .u8 r15))) rfl rfl hM10 (fun _=>by exact Ze9 (v:=.agg (ZMf (ZMe .u8 r15))) rfl rfl) (Zc 16 12287) (bF 12 (vI r16) rfl rfl hM10 (fun _=>by exact Ze9 (v:=vI r16) rfl rfl) (Zc 16 16383) (aO 14 rfl (Z3 (v:=.agg (ZMf (ZMe .u8 r15))) hC 0 (ZMe .u8 r15) (ZMe .u8 r15) rfl ag136.size rfl rfl rfl rfl rfl (ZMq rfl) rfl fun w27 hC=>done (Zgs (by decide) (l9:=(Zc 16 32767)) (by kernel_rfl) (Z6 15 (by decide) (by decide) (by kernel_rfl) (by kernel_rfl) rfl (Zd (v:=vI r16) rfl (done (Z7 ?_)))))))))))
    exact⟨rfl,_,rfl,⟨b14,r15,r16,(slq rfl),hC,h⟩⟩
  ·replace h:=Zk h (cf hb10)
   refine ZMv (Zj (Zj (Zx ?_)))
   refine Ze (sr (Yq hC 1 [v10] rfl ag55 rfl rfl rfl (Z3 (v:=.agg #[v10]) hC 2 [v10] [v10] rfl ag55.size rfl rfl rfl rfl (Xp (X4 (hC.getM 0 rfl)) rfl) (ZMq rfl) rfl fun w28 hC=>dn (ZMp ?_))))
   exact Zi rfl (J8 hC 2 rfl ag55 rfl rfl) ⟨(⟨s10.1⟩:ZMj),v10,(ZNg (ZFi v10)),rfl,h,(Zcn (Xf (hC.getM 0 rfl))),(Y8 hC 0 rfl),hC.below⟩ (.inl rfl)
 ·skip
  replace hC:=hC.pushNil 162 9
  exact⟨.slice none 0 0,(slq rfl),hC⟩
def Zaj (a0:List Int) (a1:ZMj) (a2:ZMj) (K:ZMj→Prop):Prop :=
 Xt (fun (s10:(List Term)×Int) nx10=>(if s10.2 < (a1.terms.length:Int) then((0≤s10.2∧s10.2 < (a1.terms.length:Int))∧Zg8 a0 (a1.terms.getD s10.2.toNat ZEo) a2 (fun r10=>Zbd (⟨s10.1⟩:ZMj) r10 1 (fun r11=>nx10 (r11.terms,ZG5.wrap (s10.2+1))))) else K (⟨s10.1⟩:ZMj))) ([],0)
theorem Zdt (a0:List Int) (a1:ZMj) (a2:ZMj)  {K:ZMj→Prop} (h:Zaj a0 a1 a2 K) (w0:World) (q0:TInts.rep a0 [u0_0] fp0 w0) (q1:ZM3.rep a1 [u1_0] fp1 w0) (q2:ZM3.rep a2 [u2_0] fp2 w0) :
  Calls ZMk 123 #[u0_0,.agg #[u1_0],.agg #[u2_0]] w0 fun e w'=>∃ (r0:ZMj) (z0_0:Value) (fz0:List Nat),
   e=.returned (.agg #[z0_0])∧K r0∧(ZMy (Yj 162) r0 [z0_0] fz0).holds w'∧(∀ b,b∈fz0→w0.heap.size≤b)∧Bel w0 w':=by
 unfold Zaj at h
 refine cof ZM8 rfl 28 Tryz.ntmps123 ?_
 have hC:=ZM2 (X:=Nox) w0 [ZMg TInts a0 [u0_0] fp0,ZMg TForm a1 [u1_0] fp1,ZMg TForm a2 [u2_0] fp2] (alc q0 (alc q1 (al1 q2)))
 have hp4:=(hC.getP 1 rfl)
 replace hC:=hC.derive 1 rfl (ZMg ZMi.ty.sl a1.terms [u1_0] fp1) (fun _=>(Xk hp4)) (fun _ hb_=>hb_)
 have hp6:=(hC.getP 3 rfl)
 replace hC:=hC.derive 3 rfl (ZMg ZMi.ty.sl a2.terms [u2_0] fp2) (fun _=>(Xk hp6)) (fun _ hb_=>hb_)
 refine sr (Yg (v:=.agg #[u1_0]) hC [u1_0] rfl rfl fun b8 w10 hB_ hC=>Yg (v:=.agg #[u2_0]) hC [u2_0] rfl rfl fun b10 w11 hB_ hC=>Ys hC [.slice none 0 0] z55 rfl fun b11 w12 hB_ hC=>dn (sr (J2 [] rfl (Zfj   _) (Ys hC [.slice none 0 0] z55 rfl fun b12 w13 hB_ hC=>Z3 (v:=.agg #[.slice none 0 0]) hC 0 [.slice none 0 0] [.slice none 0 0] rfl ag55.size rfl rfl rfl rfl rfl (ZMq rfl) rfl fun w14 hC=>dn (ZMh (sr (Zd (v:=vI 0) rfl (dn (ZMn ?_)))))))))
 refine Xz (S:=(List Term)×Int) _ (fun s10 e_ w_=>∃ (v10:Value),Zt e_ [(0,u0_0),(4,vQ b8),(5,vQ b10),(6,vQ b11),(7,vQ b12),(8,vI s10.2)]∧Ctx Nox w0 w_ [own 162 9 v10 s10.1.length (ZMi.encs s10.1),blk b12 55 [v10],blk b11 55 [.slice none 0 0],blk b10 55 [u2_0],blk b8 55 [u1_0]] [ZMg ZMi.ty.sl a2.terms [u2_0] fp2,ZMg ZMi.ty.sl a1.terms [u1_0] fp1,ZMg TInts a0 [u0_0] fp0,ZMg TForm a1 [u1_0] fp1,ZMg TForm a2 [u2_0] fp2]) ?_ (s0:=([],0)) ?_ h
 ·clear hC h
  rintro s10 e_ w15 nx10 K10 ⟨v10,hS_,hC⟩ h hK10
  rw [ue hS_]
  refine ZMh (sr (Za (v:=vI s10.2) rfl (Z0 0 ZMo rfl sc53.size rfl rfl (Yb hC 4 (u1_0) rfl sc53 rfl rfl (Zu hC 1 rfl ZMr rfl (Zn rfl rfl (dn ?_)))))))
  refine Zs rfl (fun hb10=>?_) (fun hb10=>?_)
  ·replace h:=ift h (ct hb10)
   refine ZMl (Ze (ZMh (ZMn ?_)))
   refine cwd 9 Yo [0,0,0,4,0,28,60,0,254,511,1023] [0,3,5,6,7] [1,2,4] (fun hM10 hM11 w16 hB_=>?_)
   replace hC:=hC.grow hB_
   refine bL 0 (.agg #[v10]) rfl rfl hM10 (fun _ hB_=>by exact Xa (hC.grow hB_) 1 [v10] rfl ag55 rfl rfl rfl) (Zc 11 1) (bM 1 (u0_0) rfl hM11 (Zc 11 3) (bF 2 (vQ b8) rfl rfl hM11 (fun _=>by exact Yt 0 ZMo rfl sc53.size rfl rfl) (Zc 11 7) (bL 3 (u1_0) rfl rfl hM10 (fun _ hB_=>by exact Yh (hC.grow hB_) 4 (u1_0) rfl sc53 rfl rfl) (Zc 11 15) (bM 4 (vI s10.2) rfl hM11 (Zc 11 31) ?_))))
   obtain ⟨⟨h10,h11⟩,h⟩:=h
   obtain ⟨Ad10,c10,hv10⟩:=Zw (hC.getP 1 rfl) s10.2.toNat (show s10.2.toNat < a1.terms.length by omega)
   refine bL 5 (.pointer (some (Ad10.add (s10.2.toNat * 9)))) rfl rfl hM10 (fun _ hB_=>by exact Y2 (len:=a1.terms.length) ZMr ag162.size (by exact tr rfl hv10) rfl h10 h11) (Zc 11 63) (bL 6 (.agg (ZMf (ZMs (a1.terms.getD s10.2.toNat ZEo)))) rfl rfl hM10 (fun _ hB_=>by exact Jm (ZMs (a1.terms.getD s10.2.toNat ZEo)) (Yd ((hC.grow hB_).getP 1 rfl) hv10 s10.2.toNat (show s10.2.toNat < a1.terms.length by omega)) ag162 rfl rfl) (Zc 11 127) (bL 7 (.agg #[u2_0]) rfl rfl hM10 (fun _ hB_=>by exact Xa (hC.grow hB_) 3 [u2_0] rfl ag55 rfl rfl rfl) (Zc 11 255) (aO 8 rfl (Zf [u0_0,.agg (ZMf (ZMs (a1.terms.getD s10.2.toNat ZEo))),.agg #[u2_0]] _ Tryz.func175 rfl rfl rfl (Zvx a0 (a1.terms.getD s10.2.toNat ZEo) a2 h _ (hC.getP 2 rfl) (Y3 (hC.getP 0 rfl))) ?_))))
   rintro _ w17 ⟨r10,u11,f10,rfl,h,hr10,hf10,hB10⟩
   refine rt ?_
   replace hC:=hC.push hB10 (ZMy (Yj 162) r10 [u11] f10) hr10 hf10
   obtain ⟨ho10,hf11⟩:=X6 (hC.getM 0 rfl)
   subst hf11
   replace hC:=hC.recast (c:=own 162 9 u11 r10.terms.length (ZMi.encs r10.terms)) (fun _ h_=>h_) (fun _=>ho10)
   refine done (aK (by assumption) (Zc 11 511) (Z6 9 (by decide) (by decide) (by kernel_rfl) (by kernel_rfl) rfl (Zf [.agg #[v10],.agg #[u11],vI 1] _ ZNj rfl rfl rfl (Zm6 (⟨s10.1⟩:ZMj) r10 1 h _ (Y3 (Ym (hC.getM 1 rfl))) (Y3 (Ym (hC.getM 0 rfl)))) ?_)))
   rintro _ w18 ⟨r11,u10,f11,rfl,h,hr11,hf12,hB11⟩
   refine rt ?_
   replace hC:=hC.push hB11 (ZMy (Yj 162) r11 [u10] f11) hr11 hf12
   obtain ⟨ho11,hf13⟩:=X6 (hC.getM 0 rfl)
   subst hf13
   replace hC:=hC.recast (c:=own 162 9 u10 r11.terms.length (ZMi.encs r11.terms)) (fun _ h_=>h_) (fun _=>ho11)
   refine Z3 (v:=.agg #[u10]) hC 3 [u10] [u10] rfl ag55.size rfl rfl rfl rfl (Xp (X4 (hC.getM 0 rfl)) rfl) (ZMq rfl) rfl fun w19 hC=>done (Z7 (Zr (Ze (Zh (Za (v:=vI s10.2) rfl (Zq rfl rfl (Zd (v:=vI (ZG5.wrap (s10.2+1))) rfl (done ?_))))))))
   exact hK10 (r11.terms,ZG5.wrap (s10.2+1)) _ _ ⟨u10,(slq rfl),(hC.xM [0,3,4,5,6] rfl)⟩ h
  ·replace h:=Zk h (cf hb10)
   refine ZMv (Zj (Zj (Zx ?_)))
   refine Ze (sr (Yq hC 1 [v10] rfl ag55 rfl rfl rfl (Z3 (v:=.agg #[v10]) hC 2 [v10] [v10] rfl ag55.size rfl rfl rfl rfl (Xp (X4 (hC.getM 0 rfl)) rfl) (ZMq rfl) rfl fun w20 hC=>dn (ZMp ?_))))
   exact Zi rfl (J8 hC 2 rfl ag55 rfl rfl) ⟨(⟨s10.1⟩:ZMj),v10,(ZNg (ZFi v10)),rfl,h,(Zcn (Xf (hC.getM 0 rfl))),(Y8 hC 0 rfl),hC.below⟩ (.inl rfl)
 ·skip
  replace hC:=hC.pushNil 162 9
  exact⟨.slice none 0 0,(slq rfl),hC⟩
def Zg9 (a0:List Int) (a1:ZMj) (K:Bool→Prop):Prop :=
 Xt (fun (s10:Int) nx10=>(if s10 < (a1.terms.length:Int) then((0≤s10∧s10 < (a1.terms.length:Int))∧Zg6 a0 ((a1.terms.getD s10.toNat ZEo).mono) (fun r11=>(if¬ (r11=true) then K false else Zdr ((a1.terms.getD s10.toNat ZEo).factor) 1 10006 (fun r10=>(if¬ (r10=true) then K false else(if s10 > 0 then((0≤ZG5.wrap (s10 - 1)∧ZG5.wrap (s10 - 1) < (a1.terms.length:Int))∧Zej ((a1.terms.getD ((ZG5.wrap (s10 - 1)).toNat) ZEo).mono) ((a1.terms.getD s10.toNat ZEo).mono) (fun r12=>(if¬ (r12=true) then K false else nx10 (ZG5.wrap (s10+1))))) else nx10 (ZG5.wrap (s10+1)))))))) else K (decide ((a1.terms.length:Int)≤400)))) 0
theorem Zvy (a0:List Int) (a1:ZMj)  {K:Bool→Prop} (h:Zg9 a0 a1 K) (w0:World) (q0:TInts.rep a0 [u0_0] fp0 w0) (q1:ZM3.rep a1 [u1_0] fp1 w0) :
  Calls ZMk 120 #[u0_0,.agg #[u1_0]] w0 fun e w'=>∃ (r0:Bool),
   e=.returned (.bool r0)∧K r0∧Bel w0 w':=by
 unfold Zg9 at h
 refine cof Tryz.func120 rfl 51 Tryz.ntmps120 ?_
 have hC:=ZM2 (X:=Nox) w0 [ZMg TInts a0 [u0_0] fp0,ZMg TForm a1 [u1_0] fp1] (alc q0 (al1 q1))
 have hp3:=(hC.getP 1 rfl)
 replace hC:=hC.derive 1 rfl (ZMg ZMi.ty.sl a1.terms [u1_0] fp1) (fun _=>(Xk hp3)) (fun _ hb_=>hb_)
 refine sr (Yg (v:=.agg #[u1_0]) hC [u1_0] rfl rfl fun b5 w7 hB_ hC=>Zd (v:=.bool false) rfl (dn (ZMh (sr (Zd (v:=vI 0) rfl (dn (ZMn ?_)))))))
 refine Xz (S:=Int) _ (fun s10 e_ w_=>Zt e_ [(0,u0_0),(3,vQ b5),(5,vI s10)]∧Ctx Nox w0 w_ [blk b5 55 [u1_0]] [ZMg ZMi.ty.sl a1.terms [u1_0] fp1,ZMg TInts a0 [u0_0] fp0,ZMg TForm a1 [u1_0] fp1]) ?_ (s0:=0) ?_ h
 ·clear hC h
  rintro s10 e_ w10 nx10 K10 ⟨hS_,hC⟩ h hK10
  rw [ue hS_]
  refine ZMh (sr (Za (v:=vI s10) rfl (Z0 0 ZMo rfl sc53.size rfl rfl (Yb hC 0 (u1_0) rfl sc53 rfl rfl (Zu hC 0 rfl ZMr rfl (Zn rfl rfl (dn ?_)))))))
  refine Zs rfl (fun hb13=>?_) (fun hb13=>?_)
  ·replace h:=ift h (ct hb13)
   refine ZMl (Ze (ZMh (ZMn (sr (Z0 0 ZMo rfl sc53.size rfl rfl (Yb hC 0 (u1_0) rfl sc53 rfl rfl (Za (v:=vI s10) rfl ?_)))))))
   obtain ⟨⟨h10,h11⟩,h⟩:=h
   obtain ⟨Ad11,c10,hv10⟩:=Zw (hC.getP 0 rfl) s10.toNat (show s10.toNat < a1.terms.length by omega)
   refine Yn (len:=a1.terms.length) ZMr ag162.size (tr rfl hv10) rfl h10 h11 (Jd (ZMs (a1.terms.getD s10.toNat ZEo)) (Yd (hC.getP 0 rfl) hv10 s10.toNat (show s10.toNat < a1.terms.length by omega)) ag162 rfl rfl (Ys hC (ZMs (⟨ZMm,0⟩:Term)) Zfm rfl fun b10 w11 hB_ hC=>Z3 (v:=.agg (ZMf (ZMs (a1.terms.getD s10.toNat ZEo)))) hC 0 (ZMs (a1.terms.getD s10.toNat ZEo)) (ZMs (a1.terms.getD s10.toNat ZEo)) rfl ag162.size rfl rfl rfl rfl rfl (ZMq rfl) rfl fun w12 hC=>dn (ZMh ?_)))
   refine cwd 24 Yo [0,0,2,7,15,31,63,127,255,511,1023,2047,4095,8191,16383,32767,65535,32767,163839,524287,1048575,2097151,32767,4227071,16777215,33554431,67108863,134217727] [2,7,16,19,21,23] [0,1,4,5,6,7,8,9,10,11,12,13,14,15,16,17,18,19,20,21,22,23] (fun hM11 hM10 w13 hB_=>?_)
   replace hC:=hC.grow hB_
   refine bM 0 (u0_0) rfl hM10 (Zc 28 1) (bF 1 (vQ b10) rfl rfl hM10 (fun _=>by exact Yt 0 ZMw rfl ag136.size rfl rfl) (Zc 28 3) (bL 2 (.agg (ZMf (ZMe .u8 ((a1.terms.getD s10.toNat ZEo).mono)))) rfl rfl hM11 (fun _ hB_=>by exact Xa (hC.grow hB_) 0 (ZMe .u8 ((a1.terms.getD s10.toNat ZEo).mono)) rfl ag136 rfl rfl rfl) (Zc 28 7) (aO 3 rfl (Zf [u0_0,.agg (ZMf (ZMe .u8 ((a1.terms.getD s10.toNat ZEo).mono)))] _ Tryz.func173 rfl rfl rfl (Zvw a0 ((a1.terms.getD s10.toNat ZEo).mono) h _ (hC.getP 1 rfl)) ?_))))
   rintro _ w14 ⟨r11,rfl,h,hB10⟩
   refine rt ?_
   replace hC:=hC.grow hB10
   refine done (aK (by assumption) (Zc 28 15) (bF 4 (.bool (!r11)) rfl rfl hM10 (fun _=>by exact Zmc rfl) (Zc 28 31) (bM 5 (.bool (!r11)) rfl hM10 (Zc 28 63) ?_)))
   refine Y7 (!r11) (fun hb12=>?_) (fun hb12=>?_)
   ·replace h:=ift h (Y4 (Xi hb12))
    refine Zv Zz 6 undef rfl rfl (by kernel_rfl) (hM10 6 rfl) (fun w_=>.inr ⟨Yf (b:=true) 5 24 rfl (tr rfl (congrArg _ hb12)) (by decide),rfl⟩) (l9:=(Zc 28 127)) (by kernel_rfl) (Zv Zz 7 undef rfl rfl (by kernel_rfl) (hM10 7 rfl) (fun w_=>.inr ⟨Yf (b:=true) 5 24 rfl (tr rfl (congrArg _ hb12)) (by decide),rfl⟩) (l9:=(Zc 28 255)) (by kernel_rfl) (Zv Zz 8 undef rfl rfl (by kernel_rfl) (hM10 8 rfl) (fun w_=>.inr ⟨Yf (b:=true) 5 24 rfl (tr rfl (congrArg _ hb12)) (by decide),rfl⟩) (l9:=(Zc 28 511)) (by kernel_rfl) (Zv Zz 9 undef rfl rfl (by kernel_rfl) (hM10 9 rfl) (fun w_=>.inr ⟨Yf (b:=true) 5 24 rfl (tr rfl (congrArg _ hb12)) (by decide),rfl⟩) (l9:=(Zc 28 1023)) (by kernel_rfl) (bF 10 (.bool true) rfl rfl hM10 (fun _=>by exact Zpe (v:=.bool true) (b:=true) (by exact tr rfl (congrArg _ hb12)) rfl) (Zc 28 2047) (bM 11 (.bool true) rfl hM10 (Zc 28 4095) (Zv Zz 12 undef rfl rfl (by kernel_rfl) (hM10 12 rfl) (fun w_=>.inr ⟨Yf (b:=true) 11 30 rfl (tr rfl (congrArg _ rfl)) (by decide),rfl⟩) (l9:=(Zc 28 8191)) (by kernel_rfl) (Zv Zz 13 undef rfl rfl (by kernel_rfl) (hM10 13 rfl) (fun w_=>.inr ⟨Yf (b:=true) 11 30 rfl (tr rfl (congrArg _ rfl)) (by decide),rfl⟩) (l9:=(Zc 28 16383)) (by kernel_rfl) (Zv Zz 14 undef rfl rfl (by kernel_rfl) (hM10 14 rfl) (fun w_=>.inr ⟨Yf (b:=true) 11 30 rfl (tr rfl (congrArg _ rfl)) (by decide),rfl⟩) (l9:=(Zc 28 32767)) (by kernel_rfl) (Zv Zz 15 undef rfl rfl (by kernel_rfl) (hM10 15 rfl) (fun w_=>.inr ⟨X0 14 33 rfl rfl,rfl⟩) (l9:=(Zc 28 65535)) (by kernel_rfl) (Zv Zz 16 undef rfl rfl (by kernel_rfl) (hM10 16 rfl) (fun w_=>.inr ⟨X0 14 33 rfl rfl,rfl⟩) (l9:=(Zc 28 131071)) (by kernel_rfl) (Zv Zz 17 undef rfl rfl (by kernel_rfl) (hM10 17 rfl) (fun w_=>.inr ⟨X0 14 33 rfl rfl,rfl⟩) (l9:=(Zc 28 262143)) (by kernel_rfl) (Zv Zz 18 undef rfl rfl (by kernel_rfl) (hM10 18 rfl) (fun w_=>.inr ⟨X0 14 33 rfl rfl,rfl⟩) (l9:=(Zc 28 524287)) (by kernel_rfl) (Zv Zz 19 undef rfl rfl (by kernel_rfl) (hM10 19 rfl) (fun w_=>.inr ⟨X0 14 33 rfl rfl,rfl⟩) (l9:=(Zc 28 1048575)) (by kernel_rfl) (Zv Zz 20 undef rfl rfl (by kernel_rfl) (hM10 20 rfl) (fun w_=>.inr ⟨X0 14 33 rfl rfl,rfl⟩) (l9:=(Zc 28 2097151)) (by kernel_rfl) (Zv Zz 21 undef rfl rfl (by kernel_rfl) (hM10 21 rfl) (fun w_=>.inr ⟨X0 14 33 rfl rfl,rfl⟩) (l9:=(Zc 28 4194303)) (by kernel_rfl) (Zv Zz 22 undef rfl rfl (by kernel_rfl) (hM10 22 rfl) (fun w_=>.inr ⟨X0 14 33 rfl rfl,rfl⟩) (l9:=(Zc 28 8388607)) (by kernel_rfl) (Zv Zz 23 undef rfl rfl (by kernel_rfl) (hM10 23 rfl) (fun w_=>.inr ⟨X0 14 33 rfl rfl,rfl⟩) (l9:=(Zc 28 16777215)) (by kernel_rfl) (Z6 24 (by decide) (by decide) (by kernel_rfl) (by kernel_rfl) rfl (J1 14 33 rfl rfl (J1 14 33 rfl rfl (Zl (b:=true) 11 30 rfl (tr rfl (congrArg _ rfl)) (by decide) (Z4 (v:=.bool true) (b:=true) rfl rfl (done (Z7 (Ze (Z5 rfl rfl (sr (Zd (v:=.bool false) rfl (dn ?_)))))))))))))))))))))))))))))
    refine ZMp (Ya (Zm (Zm (Ya (Zm ?_)))))
    exact Zi rfl (Zg rfl) ⟨false,rfl,h,hC.below⟩ (.inl rfl)
   ·replace h:=Zk h (not_not_intro ((Xj hb12)))
    refine aF 6 (.pointer (some ⟨b10,8,none⟩)) rfl rfl (hM10 6 rfl) (Yl 5 24 rfl rfl hb12) (fun _=>by exact Yt 8 ZMw rfl sc2.size rfl rfl) (Zc 28 127) (aL 7 (vI ((a1.terms.getD s10.toNat ZEo).factor)) rfl rfl (hM11 7 rfl) (Yl 5 24 rfl rfl hb12) (fun _ hB_=>by exact Yh (hC.grow hB_) 0 (vI ((a1.terms.getD s10.toNat ZEo).factor)) rfl sc2 rfl rfl) (Zc 28 255) (aO 8 rfl (Zp 5 24 rfl rfl hb12 (Zf [vI ((a1.terms.getD s10.toNat ZEo).factor),vI 1,vI 10006] _ Tryz.func59 rfl rfl rfl (Zj9 ((a1.terms.getD s10.toNat ZEo).factor) 1 10006 h _) ?_))))
    rintro _ w15 ⟨r10,rfl,h,hB11⟩
    refine rt ?_
    replace hC:=hC.grow hB11
    refine done (aK (by assumption) (Zc 28 511) (aF 9 (.bool (!r10)) rfl rfl (hM10 9 rfl) (Yl 5 24 rfl rfl hb12) (fun _=>by exact Zmc rfl) (Zc 28 1023) (bF 10 (.bool (!r10)) rfl rfl hM10 (fun _=>by exact Zpe (v:=.bool (!r10)) (b:=false) (by exact tr rfl (congrArg _ hb12)) rfl) (Zc 28 2047) (bM 11 (.bool (!r10)) rfl hM10 (Zc 28 4095) ?_))))
    refine Y7 (!r10) (fun hb11=>?_) (fun hb11=>?_)
    ·replace h:=ift h (Y4 (Xi hb11))
     refine Zv Zz 12 undef rfl rfl (by kernel_rfl) (hM10 12 rfl) (fun w_=>.inr ⟨Yf (b:=true) 11 30 rfl (tr rfl (congrArg _ hb11)) (by decide),rfl⟩) (l9:=(Zc 28 8191)) (by kernel_rfl) (Zv Zz 13 undef rfl rfl (by kernel_rfl) (hM10 13 rfl) (fun w_=>.inr ⟨Yf (b:=true) 11 30 rfl (tr rfl (congrArg _ hb11)) (by decide),rfl⟩) (l9:=(Zc 28 16383)) (by kernel_rfl) (Zv Zz 14 undef rfl rfl (by kernel_rfl) (hM10 14 rfl) (fun w_=>.inr ⟨Yf (b:=true) 11 30 rfl (tr rfl (congrArg _ hb11)) (by decide),rfl⟩) (l9:=(Zc 28 32767)) (by kernel_rfl) (Zv Zz 15 undef rfl rfl (by kernel_rfl) (hM10 15 rfl) (fun w_=>.inr ⟨X0 14 33 rfl rfl,rfl⟩) (l9:=(Zc 28 65535)) (by kernel_rfl) (Zv Zz 16 undef rfl rfl (by kernel_rfl) (hM10 16 rfl) (fun w_=>.inr ⟨X0 14 33 rfl rfl,rfl⟩) (l9:=(Zc 28 131071)) (by kernel_rfl) (Zv Zz 17 undef rfl rfl (by kernel_rfl) (hM10 17 rfl) (fun w_=>.inr ⟨X0 14 33 rfl rfl,rfl⟩) (l9:=(Zc 28 262143)) (by kernel_rfl) (Zv Zz 18 undef rfl rfl (by kernel_rfl) (hM10 18 rfl) (fun w_=>.inr ⟨X0 14 33 rfl rfl,rfl⟩) (l9:=(Zc 28 524287)) (by kernel_rfl) (Zv Zz 19 undef rfl rfl (by kernel_rfl) (hM10 19 rfl) (fun w_=>.inr ⟨X0 14 33 rfl rfl,rfl⟩) (l9:=(Zc 28 1048575)) (by kernel_rfl) (Zv Zz 20 undef rfl rfl (by kernel_rfl) (hM10 20 rfl) (fun w_=>.inr ⟨X0 14 33 rfl rfl,rfl⟩) (l9:=(Zc 28 2097151)) (by kernel_rfl) (Zv Zz 21 undef rfl rfl (by kernel_rfl) (hM10 21 rfl) (fun w_=>.inr ⟨X0 14 33 rfl rfl,rfl⟩) (l9:=(Zc 28 4194303)) (by kernel_rfl) (Zv Zz 22 undef rfl rfl (by kernel_rfl) (hM10 22 rfl) (fun w_=>.inr ⟨X0 14 33 rfl rfl,rfl⟩) (l9:=(Zc 28 8388607)) (by kernel_rfl) (Zv Zz 23 undef rfl rfl (by kernel_rfl) (hM10 23 rfl) (fun w_=>.inr ⟨X0 14 33 rfl rfl,rfl⟩) (l9:=(Zc 28 16777215)) (by kernel_rfl) (Z6 24 (by decide) (by decide) (by kernel_rfl) (by kernel_rfl) rfl (J1 14 33 rfl rfl (J1 14 33 rfl rfl (Zl (b:=true) 11 30 rfl (tr rfl (congrArg _ hb11)) (by decide) (Z4 (v:=.bool true) (b:=true) (tr rfl (congrArg _ hb11)) rfl (done (Z7 (Ze (Z5 rfl rfl (sr (Zd (v:=.bool false) rfl (dn ?_)))))))))))))))))))))))
     refine ZMp (Ya (Zm (Zm (Ya (Zm ?_)))))
     exact Zi rfl (Zg rfl) ⟨false,rfl,h,hC.below⟩ (.inl rfl)
    ·replace h:=Zk h (not_not_intro ((Xj hb11)))
     refine aF 12 (vI s10) rfl rfl (hM10 12 rfl) (Yl 11 30 rfl rfl hb11) (fun _=>by exact Zax (v:=vI s10) rfl) (Zc 28 8191) (aF 13 (.bool (decide (s10 > 0))) rfl rfl (hM10 13 rfl) (Yl 11 30 rfl rfl hb11) (fun _=>by exact Zpj rfl rfl) (Zc 28 16383) (aF 14 (.bool (decide (s10 > 0))) rfl rfl (hM10 14 rfl) (Yl 11 30 rfl rfl hb11) (fun _=>by exact Zax (v:=.bool (decide (s10 > 0))) rfl) (Zc 28 32767) ?_))
     refine Y7 (decide (s10 > 0)) (fun hb10=>?_) (fun hb10=>?_)
     ·replace h:=ift h (ct hb10)
      refine aF 15 (vQ b5) rfl rfl (hM10 15 rfl) (Yl 14 33 rfl rfl hb10) (fun _=>by exact Yt 0 ZMo rfl sc53.size rfl rfl) (Zc 28 65535) (aL 16 (u1_0) rfl rfl (hM11 16 rfl) (Yl 14 33 rfl rfl hb10) (fun _ hB_=>by exact Yh (hC.grow hB_) 1 (u1_0) rfl sc53 rfl rfl) (Zc 28 131071) (aF 17 (vI s10) rfl rfl (hM10 17 rfl) (Yl 14 33 rfl rfl hb10) (fun _=>by exact Zax (v:=vI s10) rfl) (Zc 28 262143) (aF 18 (vI (ZG5.wrap (s10 - 1))) rfl rfl (hM10 18 rfl) (Yl 14 33 rfl rfl hb10) (fun _=>by exact Zc0 rfl rfl) (Zc 28 524287) ?_)))
      obtain ⟨⟨h12,h13⟩,h⟩:=h
      obtain ⟨Ad10,c11,hv11⟩:=Zw (hC.getP 0 rfl) ((ZG5.wrap (s10 - 1)).toNat) (show (ZG5.wrap (s10 - 1)).toNat < a1.terms.length by omega)
      refine aL 19 (.pointer (some (Ad10.add ((ZG5.wrap (s10 - 1)).toNat * 9)))) rfl rfl (hM11 19 rfl) (Yl 14 33 rfl rfl hb10) (fun _ hB_=>by exact Y2 (len:=a1.terms.length) ZMr ag162.size (by exact tr rfl hv11) rfl h12 h13) (Zc 28 1048575) (aF 20 (.pointer (some (Ad10.add ((ZG5.wrap (s10 - 1)).toNat * 9+0)))) rfl rfl (hM10 20 rfl) (Yl 14 33 rfl rfl hb10) (fun _=>by exact Za1 ((ZG5.wrap (s10 - 1)).toNat * 9+0) ZMw rfl ag136.size rfl rfl) (Zc 28 2097151) (aL 21 (.agg (ZMf (ZMe .u8 ((a1.terms.getD ((ZG5.wrap (s10 - 1)).toNat) ZEo).mono)))) rfl rfl (hM11 21 rfl) (Yl 14 33 rfl rfl hb10) (fun _ hB_=>by exact Jm (ZMe .u8 ((a1.terms.getD ((ZG5.wrap (s10 - 1)).toNat) ZEo).mono)) (Jy (o:=0) (k:=8) (Yd ((hC.grow hB_).getP 0 rfl) hv11 ((ZG5.wrap (s10 - 1)).toNat) (show (ZG5.wrap (s10 - 1)).toNat < a1.terms.length by omega)) rfl) ag136 rfl rfl) (Zc 28 4194303) (aF 22 (vQ b10) rfl rfl (hM10 22 rfl) (Yl 14 33 rfl rfl hb10) (fun _=>by exact Yt 0 ZMw rfl ag136.size rfl rfl) (Zc 28 8388607) (aL 23 (.agg (ZMf (ZMe .u8 ((a1.terms.getD s10.toNat ZEo).mono)))) rfl rfl (hM11 23 rfl) (Yl 14 33 rfl rfl hb10) (fun _ hB_=>by exact Xa (hC.grow hB_) 0 (ZMe .u8 ((a1.terms.getD s10.toNat ZEo).mono)) rfl ag136 rfl rfl rfl) (Zc 28 16777215) (Z6 24 (by decide) (by decide) (by kernel_rfl) (by kernel_rfl) rfl (Zp 14 33 rfl rfl hb10 (Zf [.agg (ZMf (ZMe .u8 ((a1.terms.getD ((ZG5.wrap (s10 - 1)).toNat) ZEo).mono))),.agg (ZMf (ZMe .u8 ((a1.terms.getD s10.toNat ZEo).mono)))] _ ZNi rfl rfl rfl (Zm5 ((a1.terms.getD ((ZG5.wrap (s10 - 1)).toNat) ZEo).mono) ((a1.terms.getD s10.toNat ZEo).mono) h _) ?_)))))))
      rintro _ w16 ⟨r12,rfl,h,hB12⟩
      refine rt ?_
      replace hC:=hC.grow hB12
      refine Zp 14 33 rfl rfl hb10 (Xe rfl (Zp 11 30 rfl rfl hb11 (Z4 (v:=.bool (!r12)) (b:=true) (tr rfl (congrArg _ hb10)) rfl (Z4 (v:=.bool (!r12)) (b:=false) (tr rfl (congrArg _ hb11)) rfl (done (Z7 (Ze ?_)))))))
      refine Zs rfl (fun hb14=>?_) (fun hb14=>?_)
      ·replace h:=ift h (Y4 (Xi hb14))
       refine sr (Zd (v:=.bool false) rfl (dn ?_))
       refine ZMp (Ya (Zm (Zm (Ya (Zm ?_)))))
       exact Zi rfl (Zg rfl) ⟨false,rfl,h,hC.below⟩ (.inl rfl)
      ·replace h:=Zk h (not_not_intro ((Xj hb14)))
       refine ZMl (Zr (Ze (Zh (Za (v:=vI s10) rfl (Zq rfl rfl (Zd (v:=vI (ZG5.wrap (s10+1))) rfl (done ?_)))))))
       exact hK10 (ZG5.wrap (s10+1)) _ _ ⟨(slq rfl),(hC.xM [1] rfl)⟩ h
     ·replace h:=Zk h (cf hb10)
      refine Zv Zz 15 undef rfl rfl (by kernel_rfl) (hM10 15 rfl) (fun w_=>.inr ⟨Yf (b:=false) 14 33 rfl (tr rfl (congrArg _ hb10)) (by decide),rfl⟩) (l9:=(Zc 28 65535)) (by kernel_rfl) (Zv Zz 16 undef rfl rfl (by kernel_rfl) (hM10 16 rfl) (fun w_=>.inr ⟨Yf (b:=false) 14 33 rfl (tr rfl (congrArg _ hb10)) (by decide),rfl⟩) (l9:=(Zc 28 131071)) (by kernel_rfl) (Zv Zz 17 undef rfl rfl (by kernel_rfl) (hM10 17 rfl) (fun w_=>.inr ⟨Yf (b:=false) 14 33 rfl (tr rfl (congrArg _ hb10)) (by decide),rfl⟩) (l9:=(Zc 28 262143)) (by kernel_rfl) (Zv Zz 18 undef rfl rfl (by kernel_rfl) (hM10 18 rfl) (fun w_=>.inr ⟨Yf (b:=false) 14 33 rfl (tr rfl (congrArg _ hb10)) (by decide),rfl⟩) (l9:=(Zc 28 524287)) (by kernel_rfl) (Zv Zz 19 undef rfl rfl (by kernel_rfl) (hM10 19 rfl) (fun w_=>.inr ⟨Yf (b:=false) 14 33 rfl (tr rfl (congrArg _ hb10)) (by decide),rfl⟩) (l9:=(Zc 28 1048575)) (by kernel_rfl) (Zv Zz 20 undef rfl rfl (by kernel_rfl) (hM10 20 rfl) (fun w_=>.inr ⟨Yf (b:=false) 14 33 rfl (tr rfl (congrArg _ hb10)) (by decide),rfl⟩) (l9:=(Zc 28 2097151)) (by kernel_rfl) (Zv Zz 21 undef rfl rfl (by kernel_rfl) (hM10 21 rfl) (fun w_=>.inr ⟨Yf (b:=false) 14 33 rfl (tr rfl (congrArg _ hb10)) (by decide),rfl⟩) (l9:=(Zc 28 4194303)) (by kernel_rfl) (Zv Zz 22 undef rfl rfl (by kernel_rfl) (hM10 22 rfl) (fun w_=>.inr ⟨Yf (b:=false) 14 33 rfl (tr rfl (congrArg _ hb10)) (by decide),rfl⟩) (l9:=(Zc 28 8388607)) (by kernel_rfl) (Zv Zz 23 undef rfl rfl (by kernel_rfl) (hM10 23 rfl) (fun w_=>.inr ⟨Yf (b:=false) 14 33 rfl (tr rfl (congrArg _ hb10)) (by decide),rfl⟩) (l9:=(Zc 28 16777215)) (by kernel_rfl) (Z6 24 (by decide) (by decide) (by kernel_rfl) (by kernel_rfl) rfl (Zl (b:=false) 14 33 rfl (tr rfl (congrArg _ hb10)) (by decide) (Zl (b:=false) 14 33 rfl (tr rfl (congrArg _ hb10)) (by decide) (Zp 11 30 rfl rfl hb11 (Z4 (v:=.bool false) (b:=false) (tr rfl (congrArg _ hb10)) rfl (Z4 (v:=.bool false) (b:=false) (tr rfl (congrArg _ hb11)) rfl (done (Z7 (Ze (Z1 rfl rfl (ZMl (Zr (Ze (Zh (Za (v:=vI s10) rfl (Zq rfl rfl (Zd (v:=vI (ZG5.wrap (s10+1))) rfl (done ?_))))))))))))))))))))))))))
      exact hK10 (ZG5.wrap (s10+1)) _ _ ⟨(slq rfl),(hC.xM [1] rfl)⟩ h
  ·replace h:=Zk h (cf hb13)
   refine ZMv (Zj (Zj (Zx ?_)))
   refine Ze (sr (Z0 0 ZMo rfl sc53.size rfl rfl (Yb hC 0 (u1_0) rfl sc53 rfl rfl (Zu hC 0 rfl ZMr rfl (Zb7 rfl rfl (Zd (v:=.bool (decide ((a1.terms.length:Int)≤400))) rfl (dn (ZMp ?_))))))))
   exact Zi rfl (Zg rfl) ⟨decide ((a1.terms.length:Int)≤400),rfl,h,hC.below⟩ (.inl rfl)
 ·skip
  exact⟨(slq rfl),hC⟩
def Zdu (a0:List Int) (a1:A8) (K:Int→Prop):Prop :=
 Z8 (fun i10 (s10:Int) nx10=>((0≤(i10:Int)∧(i10:Int) < 8)∧nx10 (ZG5.wrap (s10+(ZG5.wrap ((a0.getD i10 ZEo) * (ZG5.wrap (a1.get i10)))))))) (fun (s10:Int)=>K s10) a0.length 0 0
theorem Zm7 (a0:List Int) (a1:A8)  {K:Int→Prop} (h:Zdu a0 a1 K) (w0:World) (q0:TInts.rep a0 [u0_0] fp0 w0) :
  Calls ZMk 121 #[u0_0,.agg (ZMf (ZMe .u8 a1))] w0 fun e w'=>∃ (r0:Int),
   e=.returned (vI r0)∧K r0∧Bel w0 w':=by
 unfold Zdu at h
 refine cof ZNm rfl 25 Tryz.ntmps121 ?_
 have hC:=ZM2 (X:=Nox) w0 [ZMg TInts a0 [u0_0] fp0] (al1 q0)
 refine sr (Yg (v:=.agg (ZMf (ZMe .u8 a1))) hC (ZMe .u8 a1) rfl rfl fun b2 w4 hB_ hC=>Zd (v:=vI 0) rfl (dn (sr (Zd (v:=vI 0) rfl (dn (ZMh (sr (Zd (v:=vI 0) rfl (dn (ZMn ?_))))))))))
 have hN10:a0.length≤9223372036854775807:=Yw (hC.getP 0 rfl)
 refine Yi (S:=Int) _ _ (fun i10 s10 e_ w_=>Zt e_ [(0,u0_0),(3,vQ b2),(5,vI s10),(6,vI (i10:Int))]∧Ctx Nox w0 w_ [blk b2 136 (ZMe .u8 a1)] [ZMg TInts a0 [u0_0] fp0]) a0.length ?_ ?_ (s0:=0) ?_ h
 ·clear hC h
  rintro i10 s10 e_ w10 nx10 K10 hi10 ⟨hS_,hC⟩ h hK10
  rw [ue hS_]
  refine ZMh (sr (Za (v:=vI (i10:Int)) rfl (Za (v:=u0_0) rfl (Zu hC 0 rfl ZM0 rfl (Zn rfl rfl (dn (Z5 rfl (decide_eq_true (by omega)) (ZMl (Ze (ZMh (ZMn ?_)))))))))))
  refine cwd 10 Yo [0,0,0,6,14,0,32,96,224,510,1023,2047] [3,4,6,7] [0,1,2,5,8,9] (fun hM11 hM10 w11 hB_=>?_)
  replace hC:=hC.grow hB_
  refine bM 0 (vI s10) rfl hM10 (Zc 12 1) (bM 1 (u0_0) rfl hM10 (Zc 12 3) (bM 2 (vI (i10:Int)) rfl hM10 (Zc 12 7) ?_))
  obtain ⟨Ad10,c10,hv10⟩:=Zw (hC.getP 0 rfl) i10 hi10
  refine bL 3 (.pointer (some (Ad10.add (i10 * 1)))) rfl rfl hM11 (fun _ hB_=>by exact Y2 (len:=a0.length) ZM0 sc2.size (by exact tr rfl hv10) rfl (ZMx _) (ZNf.2 hi10)) (Zc 12 15) (bL 4 (vI (a0.getD i10 ZEo)) rfl rfl hM11 (fun _ hB_=>by exact Xn (vI (a0.getD i10 ZEo)) (Yd ((hC.grow hB_).getP 0 rfl) hv10 i10 hi10) sc2 rfl) (Zc 12 31) (bM 5 (vI (i10:Int)) rfl hM10 (Zc 12 63) ?_))
  obtain ⟨⟨h10,h11⟩,h⟩:=h
  refine bL 6 (.pointer (some ⟨b2,i10,none⟩)) rfl rfl hM11 (fun _ hB_=>by exact Zag i10 ZMz sc5.size rfl rfl h10 h11 (by omega)) (Zc 12 127) (bL 7 (.int .u8 (a1.get i10)) rfl rfl hM11 (fun _ hB_=>by exact Yh (hC.grow hB_) 0 (.int .u8 (a1.get i10)) rfl sc5 rfl (ZMu _ _ (show i10 < 8 by omega))) (Zc 12 255) (bF 8 (vI (ZG5.wrap (a1.get i10))) rfl rfl hM10 (fun _=>by exact Zpl ZNh ZNn rfl) (Zc 12 511) (bF 9 (vI (ZG5.wrap ((a0.getD i10 ZEo) * (ZG5.wrap (a1.get i10))))) rfl rfl hM10 (fun _=>by exact Zc1 rfl rfl) (Zc 12 1023) (Z6 10 (by decide) (by decide) (by kernel_rfl) (by kernel_rfl) rfl (Zq rfl rfl (Zd (v:=vI (ZG5.wrap (s10+(ZG5.wrap ((a0.getD i10 ZEo) * (ZG5.wrap (a1.get i10))))))) rfl (done (Z7 (Zr (Ze (Zh (Za (v:=vI (i10:Int)) rfl (Zq rfl rfl (Zd (v:=vI (ZG5.wrap ((i10:Int)+1))) rfl (done ?_)))))))))))))))
  exact hK10 (ZG5.wrap (s10+(ZG5.wrap ((a0.getD i10 ZEo) * (ZG5.wrap (a1.get i10)))))) _ _ ⟨(sl ⟨rfl,rfl,rfl,(tr rfl (congrArg _ (Z2 hi10 hN10))),trivial⟩),hC⟩ h
 ·clear hC h
  rintro s10 e_ w12 K10 ⟨hS_,hC⟩ h
  rw [ue hS_]
  refine ZMh (sr (Za (v:=vI (a0.length:Int)) rfl (Za (v:=u0_0) rfl (Zu hC 0 rfl ZM0 rfl (Zn rfl rfl (dn (Z1 rfl (decide_eq_false (by omega)) ?_)))))))
  refine ZMv (Zj (Zj (Zx ?_)))
  refine Ze (sr (Za (v:=vI s10) rfl (Zd (v:=vI s10) rfl (dn (ZMp ?_)))))
  exact Zi rfl (Zg rfl) ⟨s10,rfl,h,hC.below⟩ (.inl rfl)
 ·skip
  exact⟨(slq rfl),hC⟩
def Zha (a0:List Int) (a1:ZMj) (K:Int→Bool→Prop):Prop :=
 (if(a1.terms.length:Int)=0 then K (-1) true else((0≤(0:Int)∧(0:Int) < (a1.terms.length:Int))∧Zdu a0 ((a1.terms.getD 0 ZEo).mono) (fun r10=>Xt (fun (s10:Int) nx10=>(if s10 < (a1.terms.length:Int) then((0≤s10∧s10 < (a1.terms.length:Int))∧Zdu a0 ((a1.terms.getD s10.toNat ZEo).mono) (fun r11=>(if r11≠r10 then K 0 false else nx10 (ZG5.wrap (s10+1))))) else K r10 true)) 1)))
theorem Zvz (a0:List Int) (a1:ZMj)  {K:Int→Bool→Prop} (h:Zha a0 a1 K) (w0:World) (q0:TInts.rep a0 [u0_0] fp0 w0) (q1:ZM3.rep a1 [u1_0] fp1 w0) :
  Calls ZMk 69 #[u0_0,.agg #[u1_0]] w0 fun e w'=>∃ (r0:Int) (r1:Bool),
   e=.returned (.tuple #[vI r0,.bool r1])∧K r0 r1∧Bel w0 w':=by
 unfold Zha at h
 refine cof Tryz.func69 rfl 37 Tryz.ntmps69 ?_
 have hC:=ZM2 (X:=Nox) w0 [ZMg TInts a0 [u0_0] fp0,ZMg TForm a1 [u1_0] fp1] (alc q0 (al1 q1))
 have hp3:=(hC.getP 1 rfl)
 replace hC:=hC.derive 1 rfl (ZMg ZMi.ty.sl a1.terms [u1_0] fp1) (fun _=>(Xk hp3)) (fun _ hb_=>hb_)
 refine sr (Yg (v:=.agg #[u1_0]) hC [u1_0] rfl rfl fun b5 w7 hB_ hC=>Zd (v:=vI 0) rfl (Zd (v:=.bool false) rfl (dn (ZMh (sr (Z0 0 ZMo rfl sc53.size rfl rfl (Yb hC 0 (u1_0) rfl sc53 rfl rfl (Zu hC 0 rfl ZMr rfl (Xx rfl rfl (dn ?_))))))))))
 refine Zs rfl (fun hb10=>?_) (fun hb10=>?_)
 ·replace h:=ift h (ct hb10)
  refine sr (Zd (v:=vI (-1)) rfl (Zd (v:=.bool true) rfl (dn ?_)))
  refine ZMp (Zm ?_)
  exact X9 rfl (Zg rfl) (Zg rfl) ⟨(-1),true,rfl,h,hC.below⟩ (.inl rfl)
 ·replace h:=Zk h (cf hb10)
  refine ZMl (Ze (sr (Za (v:=u0_0) rfl (Z0 0 ZMo rfl sc53.size rfl rfl (Yb hC 0 (u1_0) rfl sc53 rfl rfl ?_)))))
  obtain ⟨⟨h10,h11⟩,h⟩:=h
  obtain ⟨Ad10,c10,hv10⟩:=Zw (hC.getP 0 rfl) 0 (show 0 < a1.terms.length by omega)
  refine Yn (len:=a1.terms.length) ZMr ag162.size (tr rfl hv10) rfl h10 h11 (Zeb (0 * 9+0) ZMw rfl ag136.size rfl rfl (Jd (ZMe .u8 ((a1.terms.getD 0 ZEo).mono)) (Jy (o:=0) (k:=8) (Yd (hC.getP 0 rfl) hv10 0 (show 0 < a1.terms.length by omega)) rfl) ag136 rfl rfl (Zf [u0_0,.agg (ZMf (ZMe .u8 ((a1.terms.getD 0 ZEo).mono)))] _ ZNm rfl rfl rfl (Zm7 a0 ((a1.terms.getD 0 ZEo).mono) h _ (hC.getP 1 rfl)) ?_)))
  rintro _ w10 ⟨r10,rfl,h,hB10⟩
  refine rt ?_
  replace hC:=hC.grow hB10
  refine Zd (v:=vI r10) rfl (dn (ZMh (sr (Zd (v:=vI 1) rfl (dn (ZMn ?_))))))
  refine Xz (S:=Int) _ (fun s10 e_ w_=>Zt e_ [(0,u0_0),(3,vQ b5),(6,vI r10),(7,vI s10)]∧Ctx Nox w0 w_ [blk b5 55 [u1_0]] [ZMg ZMi.ty.sl a1.terms [u1_0] fp1,ZMg TInts a0 [u0_0] fp0,ZMg TForm a1 [u1_0] fp1]) ?_ (s0:=1) ?_ h
  ·clear hC h
   rintro s10 e_ w11 nx10 K10 ⟨hS_,hC⟩ h hK10
   rw [ue hS_]
   refine ZMh (sr (Za (v:=vI s10) rfl (Z0 0 ZMo rfl sc53.size rfl rfl (Yb hC 0 (u1_0) rfl sc53 rfl rfl (Zu hC 0 rfl ZMr rfl (Zn rfl rfl (dn ?_)))))))
   refine Zs rfl (fun hb11=>?_) (fun hb11=>?_)
   ·replace h:=ift h (ct hb11)
    refine ZMl (Ze (ZMh (ZMn (sr (Za (v:=u0_0) rfl (Z0 0 ZMo rfl sc53.size rfl rfl (Yb hC 0 (u1_0) rfl sc53 rfl rfl (Za (v:=vI s10) rfl ?_))))))))
    obtain ⟨⟨h12,h13⟩,h⟩:=h
    obtain ⟨Ad11,c11,hv11⟩:=Zw (hC.getP 0 rfl) s10.toNat (show s10.toNat < a1.terms.length by omega)
    refine Yn (len:=a1.terms.length) ZMr ag162.size (tr rfl hv11) rfl h12 h13 (Zeb (s10.toNat * 9+0) ZMw rfl ag136.size rfl rfl (Jd (ZMe .u8 ((a1.terms.getD s10.toNat ZEo).mono)) (Jy (o:=0) (k:=8) (Yd (hC.getP 0 rfl) hv11 s10.toNat (show s10.toNat < a1.terms.length by omega)) rfl) ag136 rfl rfl (Zf [u0_0,.agg (ZMf (ZMe .u8 ((a1.terms.getD s10.toNat ZEo).mono)))] _ ZNm rfl rfl rfl (Zm7 a0 ((a1.terms.getD s10.toNat ZEo).mono) h _ (hC.getP 1 rfl)) ?_)))
    rintro _ w12 ⟨r11,rfl,h,hB11⟩
    refine rt ?_
    replace hC:=hC.grow hB11
    refine Za (v:=vI r10) rfl (Y6 rfl rfl (dn ?_))
    refine Zs rfl (fun hb12=>?_) (fun hb12=>?_)
    ·replace h:=ift h (ct hb12)
     refine sr (Zd (v:=vI 0) rfl (Zd (v:=.bool false) rfl (dn ?_)))
     refine ZMp (Ya (Zm (Zm (Ya (Zm ?_)))))
     exact X9 rfl (Zg rfl) (Zg rfl) ⟨0,false,rfl,h,hC.below⟩ (.inl rfl)
    ·replace h:=Zk h (cf hb12)
     refine ZMl (Zr (Ze (Zh (Za (v:=vI s10) rfl (Zq rfl rfl (Zd (v:=vI (ZG5.wrap (s10+1))) rfl (done ?_)))))))
     exact hK10 (ZG5.wrap (s10+1)) _ _ ⟨(slq rfl),hC⟩ h
   ·replace h:=Zk h (cf hb11)
    refine ZMv (Zj (Zj (Zx ?_)))
    refine Ze (sr (Za (v:=vI r10) rfl (Zd (v:=vI r10) rfl (Zd (v:=.bool true) rfl (dn (ZMp ?_))))))
    exact X9 rfl (Zg rfl) (Zg rfl) ⟨r10,true,rfl,h,hC.below⟩ (.inl rfl)
  ·skip
   exact⟨(slq rfl),hC⟩
def Zc7 (a0:Alg) (a1:ZMj) (K:ZMj→Prop):Prop :=
 Xt (fun (s11:(List Term)×Int) nx12=>(if s11.2 < (a1.terms.length:Int) then((0≤s11.2∧s11.2 < (a1.terms.length:Int))∧Xt (fun (s10:(List Term)×Int) nx11=>(if s10.2 < (a0.degrees.length:Int) then((0≤s10.2∧s10.2 < 8)∧(if((a1.terms.getD s11.2.toNat ZEo).mono).get s10.2.toNat=0 then nx11 (s10.1,ZG5.wrap (s10.2+1)) else Z8 (fun i10 (s12:A8×A8) nx10=>(if(i10:Int)≥s10.2 then(if(i10:Int)≤s10.2 then nx10 (s12.1.set i10 0,s12.2.set i10 0) else nx10 (s12.1.set i10 0,s12.2)) else(if(i10:Int)≤s10.2 then nx10 (s12.1,s12.2.set i10 0) else nx10 (s12.1,s12.2)))) (fun (s12:A8×A8)=>((0≤s10.2∧s10.2 < 8)∧((0≤s10.2∧s10.2 < 8)∧((0≤s11.2∧s11.2 < (a1.terms.length:Int))∧((0≤s10.2∧s10.2 < 8)∧Zdu a0.degrees s12.1 (fun r24=>(if ZFf r24 2≠0 then((0≤s10.2∧s10.2 < (a0.images.length:Int))∧Zad (s12.1.set s10.2.toNat (ZMt.wrap ((((a1.terms.getD s11.2.toNat ZEo).mono).get s10.2.toNat) - 1))) 1 (fun r16=>Zaj a0.degrees r16 (a0.images.getD s10.2.toNat ZEo) (fun r18=>Zad s12.2 1 (fun r10=>Zaj a0.degrees r18 r10 (fun r11=>Je (ZG5.wrap (0 - (ZG5.wrap (((a1.terms.getD s11.2.toNat ZEo).factor) * (ZG5.wrap (((a1.terms.getD s11.2.toNat ZEo).mono).get s10.2.toNat)))))) (fun r19=>Zbd (⟨s10.1⟩:ZMj) r11 r19 (fun r12=>nx11 (r12.terms,ZG5.wrap (s10.2+1))))))))) else((0≤s10.2∧s10.2 < (a0.images.length:Int))∧Zad (s12.1.set s10.2.toNat (ZMt.wrap ((((a1.terms.getD s11.2.toNat ZEo).mono).get s10.2.toNat) - 1))) 1 (fun r17=>Zaj a0.degrees r17 (a0.images.getD s10.2.toNat ZEo) (fun r20=>Zad s12.2 1 (fun r13=>Zaj a0.degrees r20 r13 (fun r14=>Je (ZG5.wrap (((a1.terms.getD s11.2.toNat ZEo).factor) * (ZG5.wrap (((a1.terms.getD s11.2.toNat ZEo).mono).get s10.2.toNat)))) (fun r21=>Zbd (⟨s10.1⟩:ZMj) r14 r21 (fun r15=>nx11 (r15.terms,ZG5.wrap (s10.2+1)))))))))))))))) 8 0 ((a1.terms.getD s11.2.toNat ZEo).mono,(a1.terms.getD s11.2.toNat ZEo).mono))) else nx12 (s10.1,ZG5.wrap (s11.2+1)))) (s11.1,0)) else K (⟨s11.1⟩:ZMj))) ([],0)
theorem Zhb (a0 : Alg) (a1 : ZMj)  {K : ZMj → Prop} (h : Zc7 a0 a1 K) (w0 : World) (q0 : TAlg.rep a0 [u0_0, u0_1] fp0 w0) (q1 : ZM3.rep a1 [u1_0] fp1 w0) :
  Calls ZMk 71 #[.agg #[u0_0,u0_1],.agg #[u1_0]] w0 fun e w'=>∃ (r0:ZMj) (z0_0:Value) (fz0:List Nat),
   e=.returned (.agg #[z0_0])∧K r0∧(ZMy (Yj 162) r0 [z0_0] fz0).holds w'∧(∀ b,b∈fz0→w0.heap.size≤b)∧Bel w0 w':=by
 unfold Zc7 at h
 refine cof Tryz.func71 rfl 103 Tryz.ntmps71 ?_
 have hC:=ZM2 (X:=Nox) w0 [ZMg TAlg a0 [u0_0,u0_1] fp0,ZMg TForm a1 [u1_0] fp1] (alc q0 (al1 q1))
 replace hC:=hC.dAlg 0 rfl
 have hp5:=(hC.getP 3 rfl)
 replace hC:=hC.derive 3 rfl (ZMg ZMi.ty.sl a1.terms [u1_0] fp1) (fun _=>(Xk hp5)) (fun _ hb_=>hb_)
 refine sr (Yg (v:=.agg #[u0_0,u0_1]) hC [u0_0,u0_1] rfl rfl fun b7 w9 hB_ hC=>Yg (v:=.agg #[u1_0]) hC [u1_0] rfl rfl fun b10 w11 hB_ hC=>Ys hC [.slice none 0 0] z55 rfl fun b11 w12 hB_ hC=>dn (sr (J2 [] rfl (Zfj   _) (Ys hC [.slice none 0 0] z55 rfl fun b12 w13 hB_ hC=>Z3 (v:=.agg #[.slice none 0 0]) hC 0 [.slice none 0 0] [.slice none 0 0] rfl ag55.size rfl rfl rfl rfl rfl (ZMq rfl) rfl fun w14 hC=>dn (ZMh (sr (Zd (v:=vI 0) rfl (dn (ZMn ?_)))))))))
 refine Xz (S:=(List Term)×Int) _ (fun s11 e_ w_=>∃ (v11:Value),Zt e_ [(2,vQ b7),(3,vQ b10),(4,vQ b11),(5,vQ b12),(6,vI s11.2)]∧Ctx Nox w0 w_ [own 162 9 v11 s11.1.length (ZMi.encs s11.1),blk b12 55 [v11],blk b11 55 [.slice none 0 0],blk b10 55 [u1_0],blk b7 32 [u0_0,u0_1]] [ZMg ZMi.ty.sl a1.terms [u1_0] fp1,ZMg ZM3.sl a0.images [u0_1] fp0,ZMg TInts a0.degrees [u0_0] fp0,ZMg TAlg a0 [u0_0,u0_1] fp0,ZMg TForm a1 [u1_0] fp1]) ?_ (s0:=([],0)) ?_ h
 ·clear hC h
  rintro s11 e_ w15 nx12 K11 ⟨v11,hS_,hC⟩ h hK12
  rw [ue hS_]
  refine ZMh (sr (Za (v:=vI s11.2) rfl (Z0 0 ZMo rfl sc53.size rfl rfl (Yb hC 3 (u1_0) rfl sc53 rfl rfl (Zu hC 0 rfl ZMr rfl (Zn rfl rfl (dn ?_)))))))
  refine Zs rfl (fun hb10=>?_) (fun hb10=>?_)
  ·replace h := ift h (ct hb10)
   refine ZMl (Ze (ZMh (ZMn (sr (Z0 0 ZMo rfl sc53.size rfl rfl (Yb hC 3 (u1_0) rfl sc53 rfl rfl (Za (v:=vI s11.2) rfl ?_)))))))
   obtain ⟨⟨h10,h11⟩,h⟩:=h
   obtain ⟨Ad13,c10,hv10⟩:=Zw (hC.getP 0 rfl) s11.2.toNat (show s11.2.toNat < a1.terms.length by omega)
   refine Yn (len:=a1.terms.length) ZMr ag162.size (tr rfl hv10) rfl h10 h11 (Zeb (s11.2.toNat * 9+0) ZMw rfl ag136.size rfl rfl (Jd (ZMe .u8 ((a1.terms.getD s11.2.toNat ZEo).mono)) (Jy (o:=0) (k:=8) (Yd (hC.getP 0 rfl) hv10 s11.2.toNat (show s11.2.toNat < a1.terms.length by omega)) rfl) ag136 rfl rfl (Ys hC (ZMe .u8 ZMm) Zbq rfl fun b13 w16 hB_ hC=>Z3 (v:=.agg (ZMf (ZMe .u8 ((a1.terms.getD s11.2.toNat ZEo).mono)))) hC 0 (ZMe .u8 ((a1.terms.getD s11.2.toNat ZEo).mono)) (ZMe .u8 ((a1.terms.getD s11.2.toNat ZEo).mono)) rfl ag136.size rfl rfl rfl rfl rfl (ZMq rfl) rfl fun w17 hC=>dn (sr (Zd (v:=vI 0) rfl (dn (ZMn ?_)))))))
   refine Xz (S:=(List Term)×Int) _ (fun s10 e_ w_=>∃ (v10:Value),Zt e_ [(2,vQ b7),(3,vQ b10),(4,vQ b11),(5,vQ b12),(6,vI s11.2),(7,vQ b13),(8,vI s10.2)]∧Ctx Nox w0 w_ [own 162 9 v10 s10.1.length (ZMi.encs s10.1),blk b13 136 (ZMe .u8 ((a1.terms.getD s11.2.toNat ZEo).mono)),blk b12 55 [v10],blk b11 55 [.slice none 0 0],blk b10 55 [u1_0],blk b7 32 [u0_0,u0_1]] [ZMg ZMi.ty.sl a1.terms [u1_0] fp1,ZMg ZM3.sl a0.images [u0_1] fp0,ZMg TInts a0.degrees [u0_0] fp0,ZMg TAlg a0 [u0_0,u0_1] fp0,ZMg TForm a1 [u1_0] fp1]) ?_ (s0:=(s11.1,0)) ?_ h
   ·clear hC h
    rintro s10 e_ w18 nx11 K12 ⟨v10,hS_,hC⟩ h hK11
    rw [ue hS_]
    refine ZMh (sr (Za (v:=vI s10.2) rfl (Z0 0 ZM1 rfl sc22.size rfl rfl (Yb hC 5 (u0_0) rfl sc22 rfl rfl (Zu hC 2 rfl ZM0 rfl (Zn rfl rfl (dn ?_)))))))
    refine Zs rfl (fun hb11=>?_) (fun hb11=>?_)
    ·replace h:=ift h (ct hb11)
     refine ZMl (Ze (ZMh (ZMn (ZMh (sr (Za (v:=vI s10.2) rfl ?_))))))
     obtain ⟨⟨h12,h13⟩,h⟩:=h
     refine Xs s10.2.toNat ZMz sc5.size rfl rfl h12 h13 (by omega) (Yb hC 1 (.int .u8 (((a1.terms.getD s11.2.toNat ZEo).mono).get s10.2.toNat)) rfl sc5 rfl (ZMu _ _ (show s10.2.toNat < 8 by omega)) (Xx rfl rfl (dn ?_)))
     refine Zs rfl (fun hb12=>?_) (fun hb12=>?_)
     ·replace h:=ift h (ct hb12)
      refine ZMv (Zj (Zx ?_))
      refine Ze (Zh (Za (v:=vI s10.2) rfl (Zq rfl rfl (Zd (v:=vI (ZG5.wrap (s10.2+1))) rfl (done ?_)))))
      exact hK11 (s10.1,ZG5.wrap (s10.2+1)) _ _ ⟨v10,(slq rfl),hC⟩ h
     ·replace h:=Zk h (cf hb12)
      refine ZMl (Ze (ZMh ?_))
      refine Zm2 5 Yo [0,0,0,0,13,31] [0,1] [] (fun hM18 hM21 w10 hB_=>?_)
      replace hC:=hC.grow hB_
      have hN_:w10.heap.size≤w10.heap.size:=Nat.le_refl _
      refine Za3 (Xc _) 0 (.agg (ZMf (ZMe .u8 ((a1.terms.getD s11.2.toNat ZEo).mono)))) rfl rfl (by kernel_rfl) (hM18 0 rfl) (fun w_ hB_=>.inl ⟨rfl,by exact Xa (hC.grow (Zcp hB_)) 1 (ZMe .u8 ((a1.terms.getD s11.2.toNat ZEo).mono)) rfl ag136 rfl rfl rfl⟩) (l9:=(Zc 6 1)) (by kernel_rfl) (Za3 (Xc _) 1 (.agg (ZMf (ZMe .u8 ((a1.terms.getD s11.2.toNat ZEo).mono)))) rfl rfl (by kernel_rfl) (hM18 1 rfl) (fun w_ hB_=>.inl ⟨rfl,by exact Xa (hC.grow (Zcp hB_)) 1 (ZMe .u8 ((a1.terms.getD s11.2.toNat ZEo).mono)) rfl ag136 rfl rfl rfl⟩) (l9:=(Zc 6 3)) (by kernel_rfl) ?_)
      refine Zdn (fun e_ w_=>∃ (b14:Nat),∃ (b15:Nat),Zt e_ [(2,vQ b7),(3,vQ b10),(4,vQ b11),(5,vQ b12),(6,vI s11.2),(7,vQ b13),(8,vI s10.2),(9,vQ b15),(10,vQ b14)]∧Ctx Nox w0 w_ [blk b14 136 (ZMe .u8 ((a1.terms.getD s11.2.toNat ZEo).mono)),blk b15 136 (ZMe .u8 ((a1.terms.getD s11.2.toNat ZEo).mono)),own 162 9 v10 s10.1.length (ZMi.encs s10.1),blk b13 136 (ZMe .u8 ((a1.terms.getD s11.2.toNat ZEo).mono)),blk b12 55 [v10],blk b11 55 [.slice none 0 0],blk b10 55 [u1_0],blk b7 32 [u0_0,u0_1]] [ZMg ZMi.ty.sl a1.terms [u1_0] fp1,ZMg ZM3.sl a0.images [u0_1] fp0,ZMg TInts a0.degrees [u0_0] fp0,ZMg TAlg a0 [u0_0,u0_1] fp0,ZMg TForm a1 [u1_0] fp1]∧(Z8 (fun i10 (s12:A8×A8) nx10=>(if(i10:Int)≥s10.2 then(if(i10:Int)≤s10.2 then nx10 (s12.1.set i10 0,s12.2.set i10 0) else nx10 (s12.1.set i10 0,s12.2)) else(if(i10:Int)≤s10.2 then nx10 (s12.1,s12.2.set i10 0) else nx10 (s12.1,s12.2)))) (fun (s12:A8×A8)=>((0≤s10.2∧s10.2 < 8)∧((0≤s10.2∧s10.2 < 8)∧((0≤s11.2∧s11.2 < (a1.terms.length:Int))∧((0≤s10.2∧s10.2 < 8)∧Zdu a0.degrees s12.1 (fun r24=>(if ZFf r24 2≠0 then((0≤s10.2∧s10.2 < (a0.images.length:Int))∧Zad (s12.1.set s10.2.toNat (ZMt.wrap ((((a1.terms.getD s11.2.toNat ZEo).mono).get s10.2.toNat) - 1))) 1 (fun r16=>Zaj a0.degrees r16 (a0.images.getD s10.2.toNat ZEo) (fun r18=>Zad s12.2 1 (fun r10=>Zaj a0.degrees r18 r10 (fun r11=>Je (ZG5.wrap (0 - (ZG5.wrap (((a1.terms.getD s11.2.toNat ZEo).factor) * (ZG5.wrap (((a1.terms.getD s11.2.toNat ZEo).mono).get s10.2.toNat)))))) (fun r19=>Zbd (⟨s10.1⟩:ZMj) r11 r19 (fun r12=>nx11 (r12.terms,ZG5.wrap (s10.2+1))))))))) else((0≤s10.2∧s10.2 < (a0.images.length:Int))∧Zad (s12.1.set s10.2.toNat (ZMt.wrap ((((a1.terms.getD s11.2.toNat ZEo).mono).get s10.2.toNat) - 1))) 1 (fun r17=>Zaj a0.degrees r17 (a0.images.getD s10.2.toNat ZEo) (fun r20=>Zad s12.2 1 (fun r13=>Zaj a0.degrees r20 r13 (fun r14=>Je (ZG5.wrap (((a1.terms.getD s11.2.toNat ZEo).factor) * (ZG5.wrap (((a1.terms.getD s11.2.toNat ZEo).mono).get s10.2.toNat)))) (fun r21=>Zbd (⟨s10.1⟩:ZMj) r14 r21 (fun r15=>nx11 (r15.terms,ZG5.wrap (s10.2+1)))))))))))))))) 8 0 ((a1.terms.getD s11.2.toNat ZEo).mono,(a1.terms.getD s11.2.toNat ZEo).mono))) ?_ ?_
      ·clear hC h
       rintro e_ w19 ⟨b14,b15,hS_,hC,h⟩
       rw [ue hS_]
       refine Ze (ZMh (sr (Zd (v:=vI 0) rfl (dn (ZMn ?_)))))
       refine Yi (S:=A8×A8) _ _ (fun i10 s12 e_ w_=>Zt e_ [(2,vQ b7),(3,vQ b10),(4,vQ b11),(5,vQ b12),(6,vI s11.2),(7,vQ b13),(8,vI s10.2),(9,vQ b15),(10,vQ b14),(11,vI (i10:Int))]∧Ctx Nox w0 w_ [blk b14 136 (ZMe .u8 s12.2),blk b15 136 (ZMe .u8 s12.1),own 162 9 v10 s10.1.length (ZMi.encs s10.1),blk b13 136 (ZMe .u8 ((a1.terms.getD s11.2.toNat ZEo).mono)),blk b12 55 [v10],blk b11 55 [.slice none 0 0],blk b10 55 [u1_0],blk b7 32 [u0_0,u0_1]] [ZMg ZMi.ty.sl a1.terms [u1_0] fp1,ZMg ZM3.sl a0.images [u0_1] fp0,ZMg TInts a0.degrees [u0_0] fp0,ZMg TAlg a0 [u0_0,u0_1] fp0,ZMg TForm a1 [u1_0] fp1]) 8 ?_ ?_ (s0:=((a1.terms.getD s11.2.toNat ZEo).mono,(a1.terms.getD s11.2.toNat ZEo).mono)) ?_ h
       ·clear hC h
        rintro i10 s12 e_ w20 nx10 K10 hi10 ⟨hS_,hC⟩ h hK10
        rw [ue hS_]
        refine ZMh (sr (Za (v:=vI (i10:Int)) rfl (Zn rfl rfl (dn (Z5 rfl (decide_eq_true (by omega)) (ZMl (Ze (ZMh (ZMn (ZMh (sr (Za (v:=vI (i10:Int)) rfl (Za (v:=vI s10.2) rfl (J7 rfl rfl (dn ?_)))))))))))))))
        refine Zs rfl (fun hb13=>?_) (fun hb13=>?_)
        ·replace h:=ift h (ct hb13)
         refine Zh (Za (v:=vI (i10:Int)) rfl (Xs i10 ZMz sc5.size rfl rfl (ZMx _) (by omega) (by omega) (Z3 (v:=.int .u8 0) hC 1 [.int .u8 0] (ZMe .u8 (s12.1.set i10 0)) rfl sc5.size rfl rfl rfl rfl rfl hi10 (ZNb _ _ _ hi10) fun w21 hC=>dn (sr (Za (v:=vI (i10:Int)) rfl (Za (v:=vI s10.2) rfl (Zb7 rfl rfl (dn ?_))))))))
         refine Zs rfl (fun hb14=>?_) (fun hb14=>?_)
         ·replace h:=ift h (ct hb14)
          refine Zh (Za (v:=vI (i10:Int)) rfl (Xs i10 ZMz sc5.size rfl rfl (ZMx _) (by omega) (by omega) (Z3 (v:=.int .u8 0) hC 0 [.int .u8 0] (ZMe .u8 (s12.2.set i10 0)) rfl sc5.size rfl rfl rfl rfl rfl hi10 (ZNb _ _ _ hi10) fun w22 hC=>done (Zr (Ze (Zh (Za (v:=vI (i10:Int)) rfl (Zq rfl rfl (Zd (v:=vI (ZG5.wrap ((i10:Int)+1))) rfl (done ?_))))))))))
          exact hK10 (s12.1.set i10 0,s12.2.set i10 0) _ _ ⟨(sl ⟨rfl,rfl,rfl,rfl,rfl,rfl,rfl,rfl,rfl,(tr rfl (congrArg _ (Z2 hi10 (by decide)))),trivial⟩),hC⟩ h
         ·replace h:=Zk h (cf hb14)
          refine ZMl (Zr (Ze (Zh (Za (v:=vI (i10:Int)) rfl (Zq rfl rfl (Zd (v:=vI (ZG5.wrap ((i10:Int)+1))) rfl (done ?_)))))))
          exact hK10 (s12.1.set i10 0,s12.2) _ _ ⟨(sl ⟨rfl,rfl,rfl,rfl,rfl,rfl,rfl,rfl,rfl,(tr rfl (congrArg _ (Z2 hi10 (by decide)))),trivial⟩),hC⟩ h
        ·replace h:=Zk h (cf hb13)
         refine ZMl (Ze (sr (Za (v:=vI (i10:Int)) rfl (Za (v:=vI s10.2) rfl (Zb7 rfl rfl (dn ?_))))))
         refine Zs rfl (fun hb15=>?_) (fun hb15=>?_)
         ·replace h:=ift h (ct hb15)
          refine Zh (Za (v:=vI (i10:Int)) rfl (Xs i10 ZMz sc5.size rfl rfl (ZMx _) (by omega) (by omega) (Z3 (v:=.int .u8 0) hC 0 [.int .u8 0] (ZMe .u8 (s12.2.set i10 0)) rfl sc5.size rfl rfl rfl rfl rfl hi10 (ZNb _ _ _ hi10) fun w23 hC=>done (Zr (Ze (Zh (Za (v:=vI (i10:Int)) rfl (Zq rfl rfl (Zd (v:=vI (ZG5.wrap ((i10:Int)+1))) rfl (done ?_))))))))))
          exact hK10 (s12.1,s12.2.set i10 0) _ _ ⟨(sl ⟨rfl,rfl,rfl,rfl,rfl,rfl,rfl,rfl,rfl,(tr rfl (congrArg _ (Z2 hi10 (by decide)))),trivial⟩),hC⟩ h
         ·replace h:=Zk h (cf hb15)
          refine ZMl (Zr (Ze (Zh (Za (v:=vI (i10:Int)) rfl (Zq rfl rfl (Zd (v:=vI (ZG5.wrap ((i10:Int)+1))) rfl (done ?_)))))))
          exact hK10 (s12.1,s12.2) _ _ ⟨(sl ⟨rfl,rfl,rfl,rfl,rfl,rfl,rfl,rfl,rfl,(tr rfl (congrArg _ (Z2 hi10 (by decide)))),trivial⟩),hC⟩ h
       ·clear hC h
        rintro s12 e_ w24 K10 ⟨hS_,hC⟩ h
        rw [ue hS_]
        refine ZMh (sr (Za (v:=vI 8) rfl (Zn rfl rfl (dn (Z1 rfl (decide_eq_false (by omega)) ?_)))))
        refine ZMv (Zj (Zj (Zx ?_)))
        refine Ze (sr (Yq hC 1 (ZMe .u8 s12.1) rfl ag136 rfl rfl rfl (Ys hC (ZMe .u8 ZMm) Zbq rfl fun b28 w25 hB_ hC=>Z3 (v:=.agg (ZMf (ZMe .u8 s12.1))) hC 0 (ZMe .u8 s12.1) (ZMe .u8 s12.1) rfl ag136.size rfl rfl rfl rfl rfl (ZMq rfl) rfl fun w26 hC=>dn (sr (Za (v:=vI s10.2) rfl (Za (v:=vI s10.2) rfl ?_))))))
        obtain ⟨⟨h14,h15⟩,h⟩:=h
        refine Xs s10.2.toNat ZMz sc5.size rfl rfl h14 h15 (by omega) (Yb hC 4 (.int .u8 (((a1.terms.getD s11.2.toNat ZEo).mono).get s10.2.toNat)) rfl sc5 rfl (ZMu _ _ (show s10.2.toNat < 8 by omega)) (X3 rfl rfl ?_))
        obtain ⟨⟨h16,h17⟩,h⟩:=h
        refine Xs s10.2.toNat ZMz sc5.size rfl rfl h16 h17 (by omega) (Z3 (v:=.int .u8 (ZMt.wrap ((((a1.terms.getD s11.2.toNat ZEo).mono).get s10.2.toNat) - 1))) hC 0 [.int .u8 (ZMt.wrap ((((a1.terms.getD s11.2.toNat ZEo).mono).get s10.2.toNat) - 1))] (ZMe .u8 (s12.1.set s10.2.toNat (ZMt.wrap ((((a1.terms.getD s11.2.toNat ZEo).mono).get s10.2.toNat) - 1)))) rfl sc5.size rfl rfl rfl rfl rfl (show s10.2.toNat < 8 by omega) (ZNb _ _ _ (show s10.2.toNat < 8 by omega)) fun w27 hC=>dn (ZMh ?_))
        refine cwd 10 Yo [0,1,0,7,15,31,0,64,192,448,1023,2047] [1,3,5,7,8] [0,2,4,6,9] (fun hM10 hM11 w28 hB_=>?_)
        replace hC:=hC.grow hB_
        refine bF 0 (vQ b10) rfl rfl hM11 (fun _=>by exact Yt 0 ZMo rfl sc53.size rfl rfl) (Zc 12 1) (bL 1 (u1_0) rfl rfl hM10 (fun _ hB_=>by exact Yh (hC.grow hB_) 7 (u1_0) rfl sc53 rfl rfl) (Zc 12 3) (bM 2 (vI s11.2) rfl hM11 (Zc 12 7) ?_))
        obtain ⟨⟨h18,h19⟩,h⟩:=h
        obtain ⟨Ad10,c11,hv11⟩:=Zw (hC.getP 0 rfl) s11.2.toNat (show s11.2.toNat < a1.terms.length by omega)
        refine bL 3 (.pointer (some (Ad10.add (s11.2.toNat * 9)))) rfl rfl hM10 (fun _ hB_=>by exact Y2 (len:=a1.terms.length) ZMr ag162.size (by exact tr rfl hv11) rfl h18 h19) (Zc 12 15) (bF 4 (.pointer (some (Ad10.add (s11.2.toNat * 9+8)))) rfl rfl hM11 (fun _=>by exact Za1 (s11.2.toNat * 9+8) ZMw rfl sc2.size rfl rfl) (Zc 12 31) (bL 5 (vI ((a1.terms.getD s11.2.toNat ZEo).factor)) rfl rfl hM10 (fun _ hB_=>by exact Xn (vI ((a1.terms.getD s11.2.toNat ZEo).factor)) (Jy (o:=8) (k:=1) (Yd ((hC.grow hB_).getP 0 rfl) hv11 s11.2.toNat (show s11.2.toNat < a1.terms.length by omega)) rfl) sc2 rfl) (Zc 12 63) (bM 6 (vI s10.2) rfl hM11 (Zc 12 127) ?_)))
        obtain ⟨⟨h20,h21⟩,h⟩:=h
        refine bL 7 (.pointer (some ⟨b13,s10.2.toNat,none⟩)) rfl rfl hM10 (fun _ hB_=>by exact Zag s10.2.toNat ZMz sc5.size rfl rfl h20 h21 (by omega)) (Zc 12 255) (bL 8 (.int .u8 (((a1.terms.getD s11.2.toNat ZEo).mono).get s10.2.toNat)) rfl rfl hM10 (fun _ hB_=>by exact Yh (hC.grow hB_) 4 (.int .u8 (((a1.terms.getD s11.2.toNat ZEo).mono).get s10.2.toNat)) rfl sc5 rfl (ZMu _ _ (show s10.2.toNat < 8 by omega))) (Zc 12 511) (bF 9 (vI (ZG5.wrap (((a1.terms.getD s11.2.toNat ZEo).mono).get s10.2.toNat))) rfl rfl hM11 (fun _=>by exact Zpl ZNh ZNn rfl) (Zc 12 1023) (Z6 10 (by decide) (by decide) (by kernel_rfl) (by kernel_rfl) rfl (Zan rfl rfl (Zd (v:=vI (ZG5.wrap (((a1.terms.getD s11.2.toNat ZEo).factor) * (ZG5.wrap (((a1.terms.getD s11.2.toNat ZEo).mono).get s10.2.toNat))))) rfl (done (Z7 (Ze (ZMh (sr (Z0 0 ZM1 rfl sc22.size rfl rfl (Yb hC 8 (u0_0) rfl sc22 rfl rfl (Yq hC 2 (ZMe .u8 s12.1) rfl ag136 rfl rfl rfl (Zf [u0_0,.agg (ZMf (ZMe .u8 s12.1))] _ ZNm rfl rfl rfl (Zm7 a0.degrees s12.1 h _ (hC.getP 2 rfl)) ?_))))))))))))))
        rintro _ w29 ⟨r24,rfl,h,hB10⟩
        refine rt ?_
        replace hC:=hC.grow hB10
        refine X8 rfl rfl (by decide) (Y6 rfl rfl (dn ?_))
        refine Zs rfl (fun hb16=>?_) (fun hb16=>?_)
        ·replace h:=ift h (ct hb16)
         refine Zh (Za (v:=vI (ZG5.wrap (((a1.terms.getD s11.2.toNat ZEo).factor) * (ZG5.wrap (((a1.terms.getD s11.2.toNat ZEo).mono).get s10.2.toNat))))) rfl (Zjj rfl (Zd (v:=vI (ZG5.wrap (0 - (ZG5.wrap (((a1.terms.getD s11.2.toNat ZEo).factor) * (ZG5.wrap (((a1.terms.getD s11.2.toNat ZEo).mono).get s10.2.toNat))))))) rfl (dn (ZMh ?_)))))
         refine cwd 11 Yo [0,1,0,4,0,16,0,112,240,511,0,2047] [1,2,5,7,8] [0,4,6] (fun hM12 hM16 w30 hB_=>?_)
         replace hC:=hC.grow hB_
         refine bF 0 (vQ b7) rfl rfl hM16 (fun _=>by exact Yt 0 ZM1 rfl sc22.size rfl rfl) (Zc 12 1) (bL 1 (u0_0) rfl rfl hM12 (fun _ hB_=>by exact Yh (hC.grow hB_) 8 (u0_0) rfl sc22 rfl rfl) (Zc 12 3) (bL 2 (.agg (ZMf (ZMe .u8 (s12.1.set s10.2.toNat (ZMt.wrap ((((a1.terms.getD s11.2.toNat ZEo).mono).get s10.2.toNat) - 1)))))) rfl rfl hM12 (fun _ hB_=>by exact Xa (hC.grow hB_) 0 (ZMe .u8 (s12.1.set s10.2.toNat (ZMt.wrap ((((a1.terms.getD s11.2.toNat ZEo).mono).get s10.2.toNat) - 1)))) rfl ag136 rfl rfl rfl) (Zc 12 7) (bF 4 (.pointer (some ⟨b7,1,none⟩)) rfl rfl hM16 (fun _=>by exact Yt 1 ZM1 rfl sc30.size rfl rfl) (Zc 12 23) (bL 5 (u0_1) rfl rfl hM12 (fun _ hB_=>by exact Yh (hC.grow hB_) 8 (u0_1) rfl sc30 rfl rfl) (Zc 12 55) (bM 6 (vI s10.2) rfl hM16 (Zc 12 119) ?_)))))
         obtain ⟨⟨h22,h23⟩,h⟩:=h
         obtain ⟨Ad11,c12,hv12⟩:=Zw (hC.getP 1 rfl) s10.2.toNat (show s10.2.toNat < a0.images.length by omega)
         refine bL 7 (.pointer (some (Ad11.add (s10.2.toNat * 1)))) rfl rfl hM12 (fun _ hB_=>by exact Y2 (len:=a0.images.length) ZM5 ag55.size (by exact tr rfl hv12) rfl h22 h23) (Zc 12 247) ?_
         obtain ⟨cs_,hl10,hc10,hr10⟩:=Xg (hC.getP 1 rfl) hv12 s10.2.toNat (show s10.2.toNat < a0.images.length by omega)
         obtain ⟨u10,rfl⟩:=ZNd.1 hl10
         clear hl10
         rw [Xd _ _ (show s10.2.toNat < a0.images.length by omega)] at hr10
         have hp10:=hr10
         replace hC:=hC.derive 1 rfl (ZMg ZMi.ty.sl ((a0.images.getD s10.2.toNat ZEo).terms) [u10] fp0) (fun _=>(Xk hp10)) (fun _ hb_=>hb_)
         refine bL 8 (.agg #[u10]) rfl rfl hM12 (fun _ hB_=>by exact Jm [u10] (Zay hB_ hc10) ag55 rfl rfl) (Zc 12 503) ?_
         refine Zdn (fun e_ w_=>∃ (b16:Nat),∃ (u12:Value),∃ (r22:ZMj),Zt e_ [(2,vQ b7),(3,vQ b10),(4,vQ b11),(5,vQ b12),(6,vI s11.2),(7,vQ b13),(8,vI s10.2),(10,vQ b14),(13,vI (ZG5.wrap (0 - (ZG5.wrap (((a1.terms.getD s11.2.toNat ZEo).factor) * (ZG5.wrap (((a1.terms.getD s11.2.toNat ZEo).mono).get s10.2.toNat))))))),(14,vQ b16)]∧Ctx Nox w0 w_ [blk b16 55 [u12],own 162 9 u12 r22.terms.length (ZMi.encs r22.terms),blk b14 136 (ZMe .u8 s12.2),own 162 9 v10 s10.1.length (ZMi.encs s10.1),blk b13 136 (ZMe .u8 ((a1.terms.getD s11.2.toNat ZEo).mono)),blk b12 55 [v10],blk b11 55 [.slice none 0 0],blk b10 55 [u1_0],blk b7 32 [u0_0,u0_1]] [ZMg ZMi.ty.sl ((a0.images.getD s10.2.toNat ZEo).terms) [u10] fp0,ZMg ZMi.ty.sl a1.terms [u1_0] fp1,ZMg ZM3.sl a0.images [u0_1] fp0,ZMg TInts a0.degrees [u0_0] fp0,ZMg TAlg a0 [u0_0,u0_1] fp0,ZMg TForm a1 [u1_0] fp1]∧(Zad s12.2 1 (fun r10=>Zaj a0.degrees r22 r10 (fun r11=>Je (ZG5.wrap (0 - (ZG5.wrap (((a1.terms.getD s11.2.toNat ZEo).factor) * (ZG5.wrap (((a1.terms.getD s11.2.toNat ZEo).mono).get s10.2.toNat)))))) (fun r19=>Zbd (⟨s10.1⟩:ZMj) r11 r19 (fun r12=>nx11 (r12.terms,ZG5.wrap (s10.2+1)))))))) ?_ ?_
         ·clear hC h
          rintro e_ w31 ⟨b16,u12,r22,hS_,hC,h⟩
          rw [ue hS_]
          refine Ze ?_
          refine cwd 9 Yo [0,0,2,0,0,16,62,0,254,511,1023] [0,2,3,4] [1,7] (fun hM14 hM19 w32 hB_=>?_)
          replace hC:=hC.grow hB_
          refine bL 0 (.agg #[v10]) rfl rfl hM14 (fun _ hB_=>by exact Xa (hC.grow hB_) 5 [v10] rfl ag55 rfl rfl rfl) (Zc 11 1) (bF 1 (vQ b7) rfl rfl hM19 (fun _=>by exact Yt 0 ZM1 rfl sc22.size rfl rfl) (Zc 11 3) (bL 2 (u0_0) rfl rfl hM14 (fun _ hB_=>by exact Yh (hC.grow hB_) 8 (u0_0) rfl sc22 rfl rfl) (Zc 11 7) (bL 3 (.agg #[u12]) rfl rfl hM14 (fun _ hB_=>by exact Xa (hC.grow hB_) 0 [u12] rfl ag55 rfl rfl rfl) (Zc 11 15) (bL 4 (.agg (ZMf (ZMe .u8 s12.2))) rfl rfl hM14 (fun _ hB_=>by exact Xa (hC.grow hB_) 2 (ZMe .u8 s12.2) rfl ag136 rfl rfl rfl) (Zc 11 31) (bM 7 (vI (ZG5.wrap (0 - (ZG5.wrap (((a1.terms.getD s11.2.toNat ZEo).factor) * (ZG5.wrap (((a1.terms.getD s11.2.toNat ZEo).mono).get s10.2.toNat))))))) rfl hM19 (Zc 11 159) (aO 5 rfl (Zf [.agg (ZMf (ZMe .u8 s12.2)),vI 1] _ ZNa rfl rfl rfl (Zds s12.2 1 h _) ?_)))))))
          rintro _ w33 ⟨r10,u24,f10,rfl,h,hr12,hf10,hB11⟩
          refine rt ?_
          replace hC:=hC.push hB11 (ZMy (Yj 162) r10 [u24] f10) hr12 hf10
          obtain ⟨ho10,hf11⟩:=X6 (hC.getM 0 rfl)
          subst hf11
          replace hC:=hC.recast (c:=own 162 9 u24 r10.terms.length (ZMi.encs r10.terms)) (fun _ h_=>h_) (fun _=>ho10)
          refine done (aK (by assumption) (Zc 11 191) (aO 6 rfl (Zf [u0_0,.agg #[u12],.agg #[u24]] _ ZM8 rfl rfl rfl (Zdt a0.degrees r22 r10 h _ (hC.getP 3 rfl) (Y3 (Ym (hC.getM 2 rfl))) (Y3 (Ym (hC.getM 0 rfl)))) ?_)))
          rintro _ w34 ⟨r11,u25,f11,rfl,h,hr13,hf12,hB12⟩
          refine rt ?_
          replace hC:=hC.push hB12 (ZMy (Yj 162) r11 [u25] f11) hr13 hf12
          obtain ⟨ho11,hf13⟩:=X6 (hC.getM 0 rfl)
          subst hf13
          replace hC:=hC.recast (c:=own 162 9 u25 r11.terms.length (ZMi.encs r11.terms)) (fun _ h_=>h_) (fun _=>ho11)
          refine done (aK (by assumption) (Zc 11 255) (aO 8 rfl (Zf [vI (ZG5.wrap (0 - (ZG5.wrap (((a1.terms.getD s11.2.toNat ZEo).factor) * (ZG5.wrap (((a1.terms.getD s11.2.toNat ZEo).mono).get s10.2.toNat))))))] _ ZM7 rfl rfl rfl (Zbr (ZG5.wrap (0 - (ZG5.wrap (((a1.terms.getD s11.2.toNat ZEo).factor) * (ZG5.wrap (((a1.terms.getD s11.2.toNat ZEo).mono).get s10.2.toNat)))))) h _) ?_)))
          rintro _ w35 ⟨r19,rfl,h,hB13⟩
          refine rt ?_
          replace hC:=hC.grow hB13
          refine done (aK (by assumption) (Zc 11 511) (Z6 9 (by decide) (by decide) (by kernel_rfl) (by kernel_rfl) rfl (Zf [.agg #[v10],.agg #[u25],vI r19] _ ZNj rfl rfl rfl (Zm6 (⟨s10.1⟩:ZMj) r11 r19 h _ (Y3 (Ym (hC.getM 5 rfl))) (Y3 (Ym (hC.getM 0 rfl)))) ?_)))
          rintro _ w36 ⟨r12,u13,f12,rfl,h,hr14,hf14,hB14⟩
          refine rt ?_
          replace hC:=hC.push hB14 (ZMy (Yj 162) r12 [u13] f12) hr14 hf14
          obtain ⟨ho12,hf15⟩:=X6 (hC.getM 0 rfl)
          subst hf15
          replace hC:=hC.recast (c:=own 162 9 u13 r12.terms.length (ZMi.encs r12.terms)) (fun _ h_=>h_) (fun _=>ho12)
          refine Z3 (v:=.agg #[u13]) hC 8 [u13] [u13] rfl ag55.size rfl rfl rfl rfl (Xp (X4 (hC.getM 0 rfl)) rfl) (ZMq rfl) rfl fun w37 hC=>done (Z7 (Zr (Ze (Zh (Za (v:=vI s10.2) rfl (Zq rfl rfl (Zd (v:=vI (ZG5.wrap (s10.2+1))) rfl (done ?_))))))))
          exact hK11 (r12.terms,ZG5.wrap (s10.2+1)) _ _ ⟨u13,(slq rfl),((hC.xM [0,7,8,9,10,11] rfl).sP [1,2,3,4,5] rfl)⟩ h
         refine Ju 3 10 rfl rfl (by kernel_rfl) ?_ ?_
         ·skip
          refine Zf [.agg (ZMf (ZMe .u8 (s12.1.set s10.2.toNat (ZMt.wrap ((((a1.terms.getD s11.2.toNat ZEo).mono).get s10.2.toNat) - 1))))),vI 1] _ ZNa rfl rfl rfl (Zds (s12.1.set s10.2.toNat (ZMt.wrap ((((a1.terms.getD s11.2.toNat ZEo).mono).get s10.2.toNat) - 1))) 1 h _) ?_
          rintro _ w38 ⟨r16,u22,f13,rfl,h,hr15,hf16,hB15⟩
          refine rt ?_
          replace hC:=hC.push hB15 (ZMy (Yj 162) r16 [u22] f13) hr15 hf16
          obtain ⟨ho13,hf17⟩:=X6 (hC.getM 0 rfl)
          subst hf17
          replace hC:=hC.recast (c:=own 162 9 u22 r16.terms.length (ZMi.encs r16.terms)) (fun _ h_=>h_) (fun _=>ho13)
          refine done (aK (by assumption) (Zc 12 511) ?_)
          refine Ju 9 10 rfl rfl (by kernel_rfl) ?_ ?_
          ·skip
           refine Zf [u0_0,.agg #[u22],.agg #[u10]] _ ZM8 rfl rfl rfl (Zdt a0.degrees r16 (a0.images.getD s10.2.toNat ZEo) h _ (hC.getP 3 rfl) (Y3 (Ym (hC.getM 0 rfl))) (Y3 (hC.getP 0 rfl))) ?_
           rintro _ w39 ⟨r18,u14,f14,rfl,h,hr16,hf18,hB16⟩
           refine rt ?_
           replace hC:=hC.push hB16 (ZMy (Yj 162) r18 [u14] f14) hr16 hf18
           obtain ⟨ho14,hf19⟩:=X6 (hC.getM 0 rfl)
           subst hf19
           replace hC:=hC.recast (c:=own 162 9 u14 r18.terms.length (ZMi.encs r18.terms)) (fun _ h_=>h_) (fun _=>ho14)
           refine done (aK (by assumption) (Zc 12 1023) (aO 10 rfl (Ys hC [.slice none 0 0] z55 rfl fun b18 w40 hB_ hC=>done (aK (by assumption) (Zc 12 2047) (Z6 11 (by decide) (by decide) (by kernel_rfl) (by kernel_rfl) rfl (Z3 (v:=.agg #[u14]) hC 0 [u14] [u14] rfl ag55.size rfl rfl rfl rfl (Xp (X4 (hC.getM 1 rfl)) rfl) (ZMq rfl) rfl fun w41 hC=>done (Z7 ?_)))))))
           exact⟨rfl,_,rfl,⟨b18,u14,r18,(slq rfl),(hC.xM [0,1,4,6,7,8,9,10,11] rfl),h⟩⟩
          ·skip
           refine Ys hC [.slice none 0 0] z55 rfl fun b19 w42 hB_ hC=>done (aK (by assumption) (Zc 12 1535) (aO 9 rfl (Zf [u0_0,.agg #[u22],.agg #[u10]] _ ZM8 rfl rfl rfl (Zdt a0.degrees r16 (a0.images.getD s10.2.toNat ZEo) h _ (hC.getP 3 rfl) (Y3 (Ym (hC.getM 1 rfl))) (Y3 (hC.getP 0 rfl))) ?_)))
           rintro _ w43 ⟨r25,u15,f15,rfl,h,hr17,hf20,hB17⟩
           refine rt ?_
           replace hC:=hC.push hB17 (ZMy (Yj 162) r25 [u15] f15) hr17 hf20
           obtain ⟨ho15,hf21⟩:=X6 (hC.getM 0 rfl)
           subst hf21
           replace hC:=hC.recast (c:=own 162 9 u15 r25.terms.length (ZMi.encs r25.terms)) (fun _ h_=>h_) (fun _=>ho15)
           refine done (aK (by assumption) (Zc 12 2047) (Z6 11 (by decide) (by decide) (by kernel_rfl) (by kernel_rfl) rfl (Z3 (v:=.agg #[u15]) hC 1 [u15] [u15] rfl ag55.size rfl rfl rfl rfl (Xp (X4 (hC.getM 0 rfl)) rfl) (ZMq rfl) rfl fun w44 hC=>done (Z7 ?_))))
           exact⟨rfl,_,rfl,⟨b19,u15,r25,(slq rfl),(hC.xM [1,0,4,6,7,8,9,10,11] rfl),h⟩⟩
         ·skip
          refine Ys hC [.slice none 0 0] z55 rfl fun b20 w45 hB_ hC=>done (aK (by assumption) (Zc 12 1527) (aO 3 rfl (Zf [.agg (ZMf (ZMe .u8 (s12.1.set s10.2.toNat (ZMt.wrap ((((a1.terms.getD s11.2.toNat ZEo).mono).get s10.2.toNat) - 1))))),vI 1] _ ZNa rfl rfl rfl (Zds (s12.1.set s10.2.toNat (ZMt.wrap ((((a1.terms.getD s11.2.toNat ZEo).mono).get s10.2.toNat) - 1))) 1 h _) ?_)))
          rintro _ w46 ⟨r26,u26,f16,rfl,h,hr18,hf22,hB18⟩
          refine rt ?_
          replace hC:=hC.push hB18 (ZMy (Yj 162) r26 [u26] f16) hr18 hf22
          obtain ⟨ho16,hf23⟩:=X6 (hC.getM 0 rfl)
          subst hf23
          replace hC:=hC.recast (c:=own 162 9 u26 r26.terms.length (ZMi.encs r26.terms)) (fun _ h_=>h_) (fun _=>ho16)
          refine done (aK (by assumption) (Zc 12 1535) (aO 9 rfl (Zf [u0_0,.agg #[u26],.agg #[u10]] _ ZM8 rfl rfl rfl (Zdt a0.degrees r26 (a0.images.getD s10.2.toNat ZEo) h _ (hC.getP 3 rfl) (Y3 (Ym (hC.getM 0 rfl))) (Y3 (hC.getP 0 rfl))) ?_)))
          rintro _ w47 ⟨r27,u16,f17,rfl,h,hr19,hf24,hB19⟩
          refine rt ?_
          replace hC:=hC.push hB19 (ZMy (Yj 162) r27 [u16] f17) hr19 hf24
          obtain ⟨ho17,hf25⟩:=X6 (hC.getM 0 rfl)
          subst hf25
          replace hC:=hC.recast (c:=own 162 9 u16 r27.terms.length (ZMi.encs r27.terms)) (fun _ h_=>h_) (fun _=>ho17)
          refine done (aK (by assumption) (Zc 12 2047) (Z6 11 (by decide) (by decide) (by kernel_rfl) (by kernel_rfl) rfl (Z3 (v:=.agg #[u16]) hC 2 [u16] [u16] rfl ag55.size rfl rfl rfl rfl (Xp (X4 (hC.getM 0 rfl)) rfl) (ZMq rfl) rfl fun w48 hC=>done (Z7 ?_))))
          exact⟨rfl,_,rfl,⟨b20,u16,r27,(slq rfl),(hC.xM [2,0,4,6,7,8,9,10,11] rfl),h⟩⟩
        ·replace h:=Zk h (cf hb16)
         refine ZMl (Ze (ZMh ?_))
         refine cwd 11 Yo [0,1,0,4,0,16,0,112,240,511,0,2047] [1,2,5,7,8] [0,4,6] (fun hM13 hM17 w49 hB_=>?_)
         replace hC:=hC.grow hB_
         refine bF 0 (vQ b7) rfl rfl hM17 (fun _=>by exact Yt 0 ZM1 rfl sc22.size rfl rfl) (Zc 12 1) (bL 1 (u0_0) rfl rfl hM13 (fun _ hB_=>by exact Yh (hC.grow hB_) 8 (u0_0) rfl sc22 rfl rfl) (Zc 12 3) (bL 2 (.agg (ZMf (ZMe .u8 (s12.1.set s10.2.toNat (ZMt.wrap ((((a1.terms.getD s11.2.toNat ZEo).mono).get s10.2.toNat) - 1)))))) rfl rfl hM13 (fun _ hB_=>by exact Xa (hC.grow hB_) 0 (ZMe .u8 (s12.1.set s10.2.toNat (ZMt.wrap ((((a1.terms.getD s11.2.toNat ZEo).mono).get s10.2.toNat) - 1)))) rfl ag136 rfl rfl rfl) (Zc 12 7) (bF 4 (.pointer (some ⟨b7,1,none⟩)) rfl rfl hM17 (fun _=>by exact Yt 1 ZM1 rfl sc30.size rfl rfl) (Zc 12 23) (bL 5 (u0_1) rfl rfl hM13 (fun _ hB_=>by exact Yh (hC.grow hB_) 8 (u0_1) rfl sc30 rfl rfl) (Zc 12 55) (bM 6 (vI s10.2) rfl hM17 (Zc 12 119) ?_)))))
         obtain ⟨⟨h24,h25⟩,h⟩:=h
         obtain ⟨Ad12,c13,hv13⟩:=Zw (hC.getP 1 rfl) s10.2.toNat (show s10.2.toNat < a0.images.length by omega)
         refine bL 7 (.pointer (some (Ad12.add (s10.2.toNat * 1)))) rfl rfl hM13 (fun _ hB_=>by exact Y2 (len:=a0.images.length) ZM5 ag55.size (by exact tr rfl hv13) rfl h24 h25) (Zc 12 247) ?_
         obtain ⟨cs_,hl11,hc11,hr11⟩:=Xg (hC.getP 1 rfl) hv13 s10.2.toNat (show s10.2.toNat < a0.images.length by omega)
         obtain ⟨u11,rfl⟩:=ZNd.1 hl11
         clear hl11
         rw [Xd _ _ (show s10.2.toNat < a0.images.length by omega)] at hr11
         have hp11:=hr11
         replace hC:=hC.derive 1 rfl (ZMg ZMi.ty.sl ((a0.images.getD s10.2.toNat ZEo).terms) [u11] fp0) (fun _=>(Xk hp11)) (fun _ hb_=>hb_)
         refine bL 8 (.agg #[u11]) rfl rfl hM13 (fun _ hB_=>by exact Jm [u11] (Zay hB_ hc11) ag55 rfl rfl) (Zc 12 503) ?_
         refine Zdn (fun e_ w_=>∃ (b17:Nat),∃ (u17:Value),∃ (r23:ZMj),Zt e_ [(2,vQ b7),(3,vQ b10),(4,vQ b11),(5,vQ b12),(6,vI s11.2),(7,vQ b13),(8,vI s10.2),(10,vQ b14),(13,vI (ZG5.wrap (((a1.terms.getD s11.2.toNat ZEo).factor) * (ZG5.wrap (((a1.terms.getD s11.2.toNat ZEo).mono).get s10.2.toNat))))),(14,vQ b17)]∧Ctx Nox w0 w_ [blk b17 55 [u17],own 162 9 u17 r23.terms.length (ZMi.encs r23.terms),blk b14 136 (ZMe .u8 s12.2),own 162 9 v10 s10.1.length (ZMi.encs s10.1),blk b13 136 (ZMe .u8 ((a1.terms.getD s11.2.toNat ZEo).mono)),blk b12 55 [v10],blk b11 55 [.slice none 0 0],blk b10 55 [u1_0],blk b7 32 [u0_0,u0_1]] [ZMg ZMi.ty.sl ((a0.images.getD s10.2.toNat ZEo).terms) [u11] fp0,ZMg ZMi.ty.sl a1.terms [u1_0] fp1,ZMg ZM3.sl a0.images [u0_1] fp0,ZMg TInts a0.degrees [u0_0] fp0,ZMg TAlg a0 [u0_0,u0_1] fp0,ZMg TForm a1 [u1_0] fp1]∧(Zad s12.2 1 (fun r13=>Zaj a0.degrees r23 r13 (fun r14=>Je (ZG5.wrap (((a1.terms.getD s11.2.toNat ZEo).factor) * (ZG5.wrap (((a1.terms.getD s11.2.toNat ZEo).mono).get s10.2.toNat)))) (fun r21=>Zbd (⟨s10.1⟩:ZMj) r14 r21 (fun r15=>nx11 (r15.terms,ZG5.wrap (s10.2+1)))))))) ?_ ?_
         ·clear hC h
          rintro e_ w50 ⟨b17,u17,r23,hS_,hC,h⟩
          rw [ue hS_]
          refine Ze ?_
          refine cwd 9 Yo [0,0,2,0,0,16,62,0,254,511,1023] [0,2,3,4] [1,7] (fun hM15 hM20 w51 hB_=>?_)
          replace hC:=hC.grow hB_
          refine bL 0 (.agg #[v10]) rfl rfl hM15 (fun _ hB_=>by exact Xa (hC.grow hB_) 5 [v10] rfl ag55 rfl rfl rfl) (Zc 11 1) (bF 1 (vQ b7) rfl rfl hM20 (fun _=>by exact Yt 0 ZM1 rfl sc22.size rfl rfl) (Zc 11 3) (bL 2 (u0_0) rfl rfl hM15 (fun _ hB_=>by exact Yh (hC.grow hB_) 8 (u0_0) rfl sc22 rfl rfl) (Zc 11 7) (bL 3 (.agg #[u17]) rfl rfl hM15 (fun _ hB_=>by exact Xa (hC.grow hB_) 0 [u17] rfl ag55 rfl rfl rfl) (Zc 11 15) (bL 4 (.agg (ZMf (ZMe .u8 s12.2))) rfl rfl hM15 (fun _ hB_=>by exact Xa (hC.grow hB_) 2 (ZMe .u8 s12.2) rfl ag136 rfl rfl rfl) (Zc 11 31) (bM 7 (vI (ZG5.wrap (((a1.terms.getD s11.2.toNat ZEo).factor) * (ZG5.wrap (((a1.terms.getD s11.2.toNat ZEo).mono).get s10.2.toNat))))) rfl hM20 (Zc 11 159) (aO 5 rfl (Zf [.agg (ZMf (ZMe .u8 s12.2)),vI 1] _ ZNa rfl rfl rfl (Zds s12.2 1 h _) ?_)))))))
          rintro _ w52 ⟨r13,u27,f18,rfl,h,hr20,hf26,hB20⟩
          refine rt ?_
          replace hC:=hC.push hB20 (ZMy (Yj 162) r13 [u27] f18) hr20 hf26
          obtain ⟨ho18,hf27⟩:=X6 (hC.getM 0 rfl)
          subst hf27
          replace hC:=hC.recast (c:=own 162 9 u27 r13.terms.length (ZMi.encs r13.terms)) (fun _ h_=>h_) (fun _=>ho18)
          refine done (aK (by assumption) (Zc 11 191) (aO 6 rfl (Zf [u0_0,.agg #[u17],.agg #[u27]] _ ZM8 rfl rfl rfl (Zdt a0.degrees r23 r13 h _ (hC.getP 3 rfl) (Y3 (Ym (hC.getM 2 rfl))) (Y3 (Ym (hC.getM 0 rfl)))) ?_)))
          rintro _ w53 ⟨r14,u28,f19,rfl,h,hr21,hf28,hB21⟩
          refine rt ?_
          replace hC:=hC.push hB21 (ZMy (Yj 162) r14 [u28] f19) hr21 hf28
          obtain ⟨ho19,hf29⟩:=X6 (hC.getM 0 rfl)
          subst hf29
          replace hC:=hC.recast (c:=own 162 9 u28 r14.terms.length (ZMi.encs r14.terms)) (fun _ h_=>h_) (fun _=>ho19)
          refine done (aK (by assumption) (Zc 11 255) (aO 8 rfl (Zf [vI (ZG5.wrap (((a1.terms.getD s11.2.toNat ZEo).factor) * (ZG5.wrap (((a1.terms.getD s11.2.toNat ZEo).mono).get s10.2.toNat))))] _ ZM7 rfl rfl rfl (Zbr (ZG5.wrap (((a1.terms.getD s11.2.toNat ZEo).factor) * (ZG5.wrap (((a1.terms.getD s11.2.toNat ZEo).mono).get s10.2.toNat)))) h _) ?_)))
          rintro _ w54 ⟨r21,rfl,h,hB22⟩
          refine rt ?_
          replace hC:=hC.grow hB22
          refine done (aK (by assumption) (Zc 11 511) (Z6 9 (by decide) (by decide) (by kernel_rfl) (by kernel_rfl) rfl (Zf [.agg #[v10],.agg #[u28],vI r21] _ ZNj rfl rfl rfl (Zm6 (⟨s10.1⟩:ZMj) r14 r21 h _ (Y3 (Ym (hC.getM 5 rfl))) (Y3 (Ym (hC.getM 0 rfl)))) ?_)))
          rintro _ w55 ⟨r15,u18,f20,rfl,h,hr22,hf30,hB23⟩
          refine rt ?_
          replace hC:=hC.push hB23 (ZMy (Yj 162) r15 [u18] f20) hr22 hf30
          obtain ⟨ho20,hf31⟩:=X6 (hC.getM 0 rfl)
          subst hf31
          replace hC:=hC.recast (c:=own 162 9 u18 r15.terms.length (ZMi.encs r15.terms)) (fun _ h_=>h_) (fun _=>ho20)
          refine Z3 (v:=.agg #[u18]) hC 8 [u18] [u18] rfl ag55.size rfl rfl rfl rfl (Xp (X4 (hC.getM 0 rfl)) rfl) (ZMq rfl) rfl fun w56 hC=>done (Z7 (Zr (Ze (Zh (Za (v:=vI s10.2) rfl (Zq rfl rfl (Zd (v:=vI (ZG5.wrap (s10.2+1))) rfl (done ?_))))))))
          exact hK11 (r15.terms,ZG5.wrap (s10.2+1)) _ _ ⟨u18,(slq rfl),((hC.xM [0,7,8,9,10,11] rfl).sP [1,2,3,4,5] rfl)⟩ h
         refine Ju 3 10 rfl rfl (by kernel_rfl) ?_ ?_
         ·skip
          refine Zf [.agg (ZMf (ZMe .u8 (s12.1.set s10.2.toNat (ZMt.wrap ((((a1.terms.getD s11.2.toNat ZEo).mono).get s10.2.toNat) - 1))))),vI 1] _ ZNa rfl rfl rfl (Zds (s12.1.set s10.2.toNat (ZMt.wrap ((((a1.terms.getD s11.2.toNat ZEo).mono).get s10.2.toNat) - 1))) 1 h _) ?_
          rintro _ w57 ⟨r17,u23,f21,rfl,h,hr23,hf32,hB24⟩
          refine rt ?_
          replace hC:=hC.push hB24 (ZMy (Yj 162) r17 [u23] f21) hr23 hf32
          obtain ⟨ho21,hf33⟩:=X6 (hC.getM 0 rfl)
          subst hf33
          replace hC:=hC.recast (c:=own 162 9 u23 r17.terms.length (ZMi.encs r17.terms)) (fun _ h_=>h_) (fun _=>ho21)
          refine done (aK (by assumption) (Zc 12 511) ?_)
          refine Ju 9 10 rfl rfl (by kernel_rfl) ?_ ?_
          ·skip
           refine Zf [u0_0,.agg #[u23],.agg #[u11]] _ ZM8 rfl rfl rfl (Zdt a0.degrees r17 (a0.images.getD s10.2.toNat ZEo) h _ (hC.getP 3 rfl) (Y3 (Ym (hC.getM 0 rfl))) (Y3 (hC.getP 0 rfl))) ?_
           rintro _ w58 ⟨r20,u19,f22,rfl,h,hr24,hf34,hB25⟩
           refine rt ?_
           replace hC:=hC.push hB25 (ZMy (Yj 162) r20 [u19] f22) hr24 hf34
           obtain ⟨ho22,hf35⟩:=X6 (hC.getM 0 rfl)
           subst hf35
           replace hC:=hC.recast (c:=own 162 9 u19 r20.terms.length (ZMi.encs r20.terms)) (fun _ h_=>h_) (fun _=>ho22)
           refine done (aK (by assumption) (Zc 12 1023) (aO 10 rfl (Ys hC [.slice none 0 0] z55 rfl fun b21 w59 hB_ hC=>done (aK (by assumption) (Zc 12 2047) (Z6 11 (by decide) (by decide) (by kernel_rfl) (by kernel_rfl) rfl (Z3 (v:=.agg #[u19]) hC 0 [u19] [u19] rfl ag55.size rfl rfl rfl rfl (Xp (X4 (hC.getM 1 rfl)) rfl) (ZMq rfl) rfl fun w60 hC=>done (Z7 ?_)))))))
           exact⟨rfl,_,rfl,⟨b21,u19,r20,(slq rfl),(hC.xM [0,1,4,6,7,8,9,10,11] rfl),h⟩⟩
          ·skip
           refine Ys hC [.slice none 0 0] z55 rfl fun b22 w61 hB_ hC=>done (aK (by assumption) (Zc 12 1535) (aO 9 rfl (Zf [u0_0,.agg #[u23],.agg #[u11]] _ ZM8 rfl rfl rfl (Zdt a0.degrees r17 (a0.images.getD s10.2.toNat ZEo) h _ (hC.getP 3 rfl) (Y3 (Ym (hC.getM 1 rfl))) (Y3 (hC.getP 0 rfl))) ?_)))
           rintro _ w62 ⟨r28,u20,f23,rfl,h,hr25,hf36,hB26⟩
           refine rt ?_
           replace hC:=hC.push hB26 (ZMy (Yj 162) r28 [u20] f23) hr25 hf36
           obtain ⟨ho23,hf37⟩:=X6 (hC.getM 0 rfl)
           subst hf37
           replace hC:=hC.recast (c:=own 162 9 u20 r28.terms.length (ZMi.encs r28.terms)) (fun _ h_=>h_) (fun _=>ho23)
           refine done (aK (by assumption) (Zc 12 2047) (Z6 11 (by decide) (by decide) (by kernel_rfl) (by kernel_rfl) rfl (Z3 (v:=.agg #[u20]) hC 1 [u20] [u20] rfl ag55.size rfl rfl rfl rfl (Xp (X4 (hC.getM 0 rfl)) rfl) (ZMq rfl) rfl fun w63 hC=>done (Z7 ?_))))
           exact⟨rfl,_,rfl,⟨b22,u20,r28,(slq rfl),(hC.xM [1,0,4,6,7,8,9,10,11] rfl),h⟩⟩
         ·skip
          refine Ys hC [.slice none 0 0] z55 rfl fun b23 w64 hB_ hC=>done (aK (by assumption) (Zc 12 1527) (aO 3 rfl (Zf [.agg (ZMf (ZMe .u8 (s12.1.set s10.2.toNat (ZMt.wrap ((((a1.terms.getD s11.2.toNat ZEo).mono).get s10.2.toNat) - 1))))),vI 1] _ ZNa rfl rfl rfl (Zds (s12.1.set s10.2.toNat (ZMt.wrap ((((a1.terms.getD s11.2.toNat ZEo).mono).get s10.2.toNat) - 1))) 1 h _) ?_)))
          rintro _ w65 ⟨r29,u29,f24,rfl,h,hr26,hf38,hB27⟩
          refine rt ?_
          replace hC:=hC.push hB27 (ZMy (Yj 162) r29 [u29] f24) hr26 hf38
          obtain ⟨ho24,hf39⟩:=X6 (hC.getM 0 rfl)
          subst hf39
          replace hC:=hC.recast (c:=own 162 9 u29 r29.terms.length (ZMi.encs r29.terms)) (fun _ h_=>h_) (fun _=>ho24)
          refine done (aK (by assumption) (Zc 12 1535) (aO 9 rfl (Zf [u0_0,.agg #[u29],.agg #[u11]] _ ZM8 rfl rfl rfl (Zdt a0.degrees r29 (a0.images.getD s10.2.toNat ZEo) h _ (hC.getP 3 rfl) (Y3 (Ym (hC.getM 0 rfl))) (Y3 (hC.getP 0 rfl))) ?_)))
          rintro _ w66 ⟨r30,u21,f25,rfl,h,hr27,hf40,hB28⟩
          refine rt ?_
          replace hC:=hC.push hB28 (ZMy (Yj 162) r30 [u21] f25) hr27 hf40
          obtain ⟨ho25,hf41⟩:=X6 (hC.getM 0 rfl)
          subst hf41
          replace hC:=hC.recast (c:=own 162 9 u21 r30.terms.length (ZMi.encs r30.terms)) (fun _ h_=>h_) (fun _=>ho25)
          refine done (aK (by assumption) (Zc 12 2047) (Z6 11 (by decide) (by decide) (by kernel_rfl) (by kernel_rfl) rfl (Z3 (v:=.agg #[u21]) hC 2 [u21] [u21] rfl ag55.size rfl rfl rfl rfl (Xp (X4 (hC.getM 0 rfl)) rfl) (ZMq rfl) rfl fun w67 hC=>done (Z7 ?_))))
          exact⟨rfl,_,rfl,⟨b23,u21,r30,(slq rfl),(hC.xM [2,0,4,6,7,8,9,10,11] rfl),h⟩⟩
       ·skip
        exact⟨(slq rfl),hC⟩
      refine Ju 2 3 rfl rfl (by kernel_rfl) ?_ ?_
      ·skip
       refine Zj6 hC (ZMe .u8 ZMm) Zbq rfl fun b24 w68 hn_ hB_ hC=>?_
       have hnb_b13098:=ZEp hN_ hn_
       refine done ?_
       refine Xb (Jj hN_ (by assumption)) hN_ (l9:=(Zc 6 7)) (by kernel_rfl) (fun hN_=>?_)
       refine aO 3 rfl (Zj6 hC (ZMe .u8 ZMm) Zbq rfl fun b25 w69 hn_ hB_ hC=>?_)
       have hnb_b13101:=ZEp hN_ hn_
       refine done ?_
       refine Xb (Jj hN_ (by assumption)) hN_ (l9:=(Zc 6 15)) (by kernel_rfl) (fun hN_=>?_)
       refine aO 4 rfl (Zqi (v:=.agg (ZMf (ZMe .u8 ((a1.terms.getD s11.2.toNat ZEo).mono)))) hC 1 (ZMe .u8 ((a1.terms.getD s11.2.toNat ZEo).mono)) (ZMe .u8 ((a1.terms.getD s11.2.toNat ZEo).mono)) rfl ag136.size rfl rfl rfl rfl rfl (ZMq rfl) rfl fun w70 hBB_ hC=>done ?_)
       refine Xb (Zab hN_ hnb_b13098 hBB_) hN_ (l9:=(Zc 6 31)) (by kernel_rfl) (fun hN_=>?_)
       refine Z6 5 (by decide) (by decide) (by kernel_rfl) (by kernel_rfl) rfl (Z3 (v:=.agg (ZMf (ZMe .u8 ((a1.terms.getD s11.2.toNat ZEo).mono)))) hC 0 (ZMe .u8 ((a1.terms.getD s11.2.toNat ZEo).mono)) (ZMe .u8 ((a1.terms.getD s11.2.toNat ZEo).mono)) rfl ag136.size rfl rfl rfl rfl rfl (ZMq rfl) rfl fun w71 hC=>done (Z7 ?_))
       exact⟨rfl,_,rfl,⟨b25,b24,(slq rfl),hC,h⟩⟩
      ·skip
       refine Zj6 hC (ZMe .u8 ZMm) Zbq rfl fun b26 w72 hn_ hB_ hC=>?_
       have hnb_b13106:=ZEp hN_ hn_
       refine done ?_
       refine Xb (Jj hN_ (by assumption)) hN_ (l9:=(Zc 6 11)) (by kernel_rfl) (fun hN_=>?_)
       refine aO 2 rfl (Zj6 hC (ZMe .u8 ZMm) Zbq rfl fun b27 w73 hn_ hB_ hC=>?_)
       have hnb_b13109:=ZEp hN_ hn_
       refine done ?_
       refine Xb (Jj hN_ (by assumption)) hN_ (l9:=(Zc 6 15)) (by kernel_rfl) (fun hN_=>?_)
       refine aO 4 rfl (Zqi (v:=.agg (ZMf (ZMe .u8 ((a1.terms.getD s11.2.toNat ZEo).mono)))) hC 0 (ZMe .u8 ((a1.terms.getD s11.2.toNat ZEo).mono)) (ZMe .u8 ((a1.terms.getD s11.2.toNat ZEo).mono)) rfl ag136.size rfl rfl rfl rfl rfl (ZMq rfl) rfl fun w74 hBB_ hC=>done ?_)
       refine Xb (Zab hN_ hnb_b13109 hBB_) hN_ (l9:=(Zc 6 31)) (by kernel_rfl) (fun hN_=>?_)
       refine Z6 5 (by decide) (by decide) (by kernel_rfl) (by kernel_rfl) rfl (Z3 (v:=.agg (ZMf (ZMe .u8 ((a1.terms.getD s11.2.toNat ZEo).mono)))) hC 1 (ZMe .u8 ((a1.terms.getD s11.2.toNat ZEo).mono)) (ZMe .u8 ((a1.terms.getD s11.2.toNat ZEo).mono)) rfl ag136.size rfl rfl rfl rfl rfl (ZMq rfl) rfl fun w75 hC=>done (Z7 ?_))
       exact⟨rfl,_,rfl,⟨b26,b27,(slq rfl),(hC.xM [1,0,2,3,4,5,6,7] rfl),h⟩⟩
    ·replace h:=Zk h (cf hb11)
     refine ZMv (Zj (Zj (Zx ?_)))
     refine Zr (Ze (Zh (Za (v:=vI s11.2) rfl (Zq rfl rfl (Zd (v:=vI (ZG5.wrap (s11.2+1))) rfl (done ?_))))))
     exact hK12 (s10.1,ZG5.wrap (s11.2+1)) _ _ ⟨v10,(slq rfl),(hC.xM [0,2,3,4,5] rfl)⟩ h
   ·skip
    exact⟨v11,(slq rfl),(hC.xM [1,0,2,3,4,5] rfl)⟩
  ·replace h:=Zk h (cf hb10)
   refine ZMv (Zj (Zj (Zx ?_)))
   refine Ze (sr (Yq hC 1 [v11] rfl ag55 rfl rfl rfl (Z3 (v:=.agg #[v11]) hC 2 [v11] [v11] rfl ag55.size rfl rfl rfl rfl (Xp (X4 (hC.getM 0 rfl)) rfl) (ZMq rfl) rfl fun w76 hC=>dn (ZMp ?_))))
   exact Zi rfl (J8 hC 2 rfl ag55 rfl rfl) ⟨(⟨s11.1⟩:ZMj),v11,(ZNg (ZFi v11)),rfl,h,(Zcn (Xf (hC.getM 0 rfl))),(Y8 hC 0 rfl),hC.below⟩ (.inl rfl)
 ·skip
  replace hC:=hC.pushNil 162 9
  exact⟨.slice none 0 0,(slq rfl),hC⟩
def Zfn (a0:Alg) (K:Bool→Prop):Prop :=
 Zg5 a0.degrees (fun r13=>(if¬ (r13=true) then K false else(if(a0.images.length:Int)≠(a0.degrees.length:Int) then K false else Xt (fun (s10:Int) nx10=>(if s10 < (a0.images.length:Int) then((0≤s10∧s10 < (a0.images.length:Int))∧Zg9 a0.degrees (a0.images.getD s10.toNat ZEo) (fun r14=>(if¬ (r14=true) then K false else((0≤s10∧s10 < (a0.images.length:Int))∧Zha a0.degrees (a0.images.getD s10.toNat ZEo) (fun r10 r11=>(if¬ (r11=true) then K false else((0≤s10∧s10 < (a0.images.length:Int))∧(if(((a0.images.getD s10.toNat ZEo).terms).length:Int) > 0 then((0≤s10∧s10 < (a0.degrees.length:Int))∧(if r10≠ZG5.wrap ((a0.degrees.getD s10.toNat ZEo)+1) then K false else nx10 (ZG5.wrap (s10+1)))) else nx10 (ZG5.wrap (s10+1)))))))))) else Xt (fun (s11:Int) nx11=>(if s11 < (a0.images.length:Int) then((0≤s11∧s11 < (a0.images.length:Int))∧Zc7 a0 (a0.images.getD s11.toNat ZEo) (fun r12=>(if(r12.terms.length:Int) > 0 then K false else nx11 (ZG5.wrap (s11+1))))) else K true)) 0)) 0)))
theorem Zqk (a0 : Alg)  {K : Bool → Prop} (h : Zfn a0 K) (w0 : World) (q0 : TAlg.rep a0 [u0_0, u0_1] fp0 w0) :
  Calls ZMk 92 #[.agg #[u0_0,u0_1]] w0 fun e w'=>∃ (r0:Bool),
   e=.returned (.bool r0)∧K r0∧Bel w0 w':=by
 unfold Zfn at h
 refine cof Tryz.func92 rfl 86 Tryz.ntmps92 ?_
 have hC:=ZM2 (X:=Nox) w0 [ZMg TAlg a0 [u0_0,u0_1] fp0] (al1 q0)
 replace hC:=hC.dAlg 0 rfl
 refine sr (Yg (v:=.agg #[u0_0,u0_1]) hC [u0_0,u0_1] rfl rfl fun b4 w6 hB_ hC=>Zd (v:=.bool false) rfl (dn (ZMh (sr (Z0 0 ZM1 rfl sc22.size rfl rfl (Yb hC 0 (u0_0) rfl sc22 rfl rfl (Zf [u0_0] _ Tryz.func149 rfl rfl rfl (Zvv a0.degrees h _ (hC.getP 1 rfl)) ?_)))))))
 rintro _ w9 ⟨r13,rfl,h,hB10⟩
 refine rt ?_
 replace hC:=hC.grow hB10
 refine Xe rfl (Za (v:=.bool (!r13)) rfl ?_)
 refine Y7 (!r13) (fun hb12=>?_) (fun hb12=>?_)
 ·replace h:=ift h (Y4 (Xi hb12))
  refine Zl (b:=true) 4 11 rfl (tr rfl (congrArg _ hb12)) (by decide) (Zl (b:=true) 4 11 rfl (tr rfl (congrArg _ hb12)) (by decide) (Zl (b:=true) 4 11 rfl (tr rfl (congrArg _ hb12)) (by decide) (Zl (b:=true) 4 11 rfl (tr rfl (congrArg _ hb12)) (by decide) (Zl (b:=true) 4 11 rfl (tr rfl (congrArg _ hb12)) (by decide) (Zl (b:=true) 4 11 rfl (tr rfl (congrArg _ hb12)) (by decide) (Zl (b:=true) 4 11 rfl (tr rfl (congrArg _ hb12)) (by decide) (Z4 (v:=.bool true) (b:=true) (tr rfl (congrArg _ hb12)) rfl (dn (Z5 rfl rfl (sr (Zd (v:=.bool false) rfl (dn ?_))))))))))))
  refine ZMp (Zm ?_)
  exact Zi rfl (Zg rfl) ⟨false,rfl,h,hC.below⟩ (.inl rfl)
 ·replace h:=Zk h (not_not_intro ((Xj hb12)))
  refine Zp 4 11 rfl rfl hb12 (Z0 1 ZM1 rfl sc30.size rfl rfl (Zp 4 11 rfl rfl hb12 (Yb hC 0 (u0_1) rfl sc30 rfl rfl (Zp 4 11 rfl rfl hb12 (Zu hC 0 rfl ZM5 rfl (Zp 4 11 rfl rfl hb12 (Z0 0 ZM1 rfl sc22.size rfl rfl (Zp 4 11 rfl rfl hb12 (Yb hC 0 (u0_0) rfl sc22 rfl rfl (Zp 4 11 rfl rfl hb12 (Zu hC 1 rfl ZM0 rfl (Zp 4 11 rfl rfl hb12 (Y6 rfl rfl (Z4 (v:=.bool (decide ((a0.images.length:Int)≠(a0.degrees.length:Int)))) (b:=false) (tr rfl (congrArg _ hb12)) rfl (dn ?_)))))))))))))))
  refine Zs rfl (fun hb13=>?_) (fun hb13=>?_)
  ·replace h:=ift h (ct hb13)
   refine sr (Zd (v:=.bool false) rfl (dn ?_))
   refine ZMp (Zm ?_)
   exact Zi rfl (Zg rfl) ⟨false,rfl,h,hC.below⟩ (.inl rfl)
  ·replace h:=Zk h (cf hb13)
   refine ZMl (Ze (ZMh (sr (Zd (v:=vI 0) rfl (dn (ZMn ?_))))))
   refine Xz (S:=Int) _ (fun s10 e_ w_=>Zt e_ [(1,vQ b4),(3,vI s10)]∧Ctx Nox w0 w_ [blk b4 32 [u0_0,u0_1]] [ZMg ZM3.sl a0.images [u0_1] fp0,ZMg TInts a0.degrees [u0_0] fp0,ZMg TAlg a0 [u0_0,u0_1] fp0]) ?_ (s0:=0) ?_ h
   ·clear hC h
    rintro s10 e_ w10 nx10 K10 ⟨hS_,hC⟩ h hK10
    rw [ue hS_]
    refine ZMh (sr (Za (v:=vI s10) rfl (Z0 1 ZM1 rfl sc30.size rfl rfl (Yb hC 0 (u0_1) rfl sc30 rfl rfl (Zu hC 0 rfl ZM5 rfl (Zn rfl rfl (dn ?_)))))))
    refine Zs rfl (fun hb14=>?_) (fun hb14=>?_)
    ·replace h:=ift h (ct hb14)
     refine ZMl (Ze (ZMh (ZMn (ZMh (ZMh ?_)))))
     refine cwd 7 Yo [0,1,0,4,0,28,60,127,255] [1,3,5,6] [0,2,4] (fun hM11 hM14 w11 hB_=>?_)
     replace hC:=hC.grow hB_
     refine bF 0 (vQ b4) rfl rfl hM14 (fun _=>by exact Yt 0 ZM1 rfl sc22.size rfl rfl) (Zc 9 1) (bL 1 (u0_0) rfl rfl hM11 (fun _ hB_=>by exact Yh (hC.grow hB_) 0 (u0_0) rfl sc22 rfl rfl) (Zc 9 3) (bF 2 (.pointer (some ⟨b4,1,none⟩)) rfl rfl hM14 (fun _=>by exact Yt 1 ZM1 rfl sc30.size rfl rfl) (Zc 9 7) (bL 3 (u0_1) rfl rfl hM11 (fun _ hB_=>by exact Yh (hC.grow hB_) 0 (u0_1) rfl sc30 rfl rfl) (Zc 9 15) (bM 4 (vI s10) rfl hM14 (Zc 9 31) ?_))))
     obtain ⟨⟨h10,h11⟩,h⟩:=h
     obtain ⟨Ad10,c10,hv10⟩:=Zw (hC.getP 0 rfl) s10.toNat (show s10.toNat < a0.images.length by omega)
     refine bL 5 (.pointer (some (Ad10.add (s10.toNat * 1)))) rfl rfl hM11 (fun _ hB_=>by exact Y2 (len:=a0.images.length) ZM5 ag55.size (by exact tr rfl hv10) rfl h10 h11) (Zc 9 63) ?_
     obtain ⟨cs_,hl10,hc10,hr10⟩:=Xg (hC.getP 0 rfl) hv10 s10.toNat (show s10.toNat < a0.images.length by omega)
     obtain ⟨u10,rfl⟩:=ZNd.1 hl10
     clear hl10
     rw [Xd _ _ (show s10.toNat < a0.images.length by omega)] at hr10
     have hp10:=hr10
     replace hC:=hC.derive 0 rfl (ZMg ZMi.ty.sl ((a0.images.getD s10.toNat ZEo).terms) [u10] fp0) (fun _=>(Xk hp10)) (fun _ hb_=>hb_)
     refine bL 6 (.agg #[u10]) rfl rfl hM11 (fun _ hB_=>by exact Jm [u10] (Zay hB_ hc10) ag55 rfl rfl) (Zc 9 127) (Z6 7 (by decide) (by decide) (by kernel_rfl) (by kernel_rfl) rfl (Zf [u0_0,.agg #[u10]] _ Tryz.func120 rfl rfl rfl (Zvy a0.degrees (a0.images.getD s10.toNat ZEo) h _ (hC.getP 2 rfl) (Y3 (hC.getP 0 rfl))) ?_))
     rintro _ w12 ⟨r14,rfl,h,hB11⟩
     refine rt ?_
     replace hC:=hC.grow hB11
     refine Xe rfl (done (Z7 (Ze ?_)))
     refine Zs rfl (fun hb15=>?_) (fun hb15=>?_)
     ·replace h:=ift h (Y4 (Xi hb15))
      refine sr (Zd (v:=.bool false) rfl (dn ?_))
      refine ZMp (Zm (Ya (Zm (Zm (Ya (Zm ?_))))))
      exact Zi rfl (Zg rfl) ⟨false,rfl,h,hC.below⟩ (.inl rfl)
     ·replace h:=Zk h (not_not_intro ((Xj hb15)))
      refine ZMl (Ze (ZMh ?_))
      refine cwd 12 Yo [0,1,0,4,0,28,60,127,255,511,511,1023,4095] [1,3,5,6] [0,2,4,8,9,10,11] (fun hM12 hM10 w13 hB_=>?_)
      replace hC:=hC.grow hB_
      refine bF 0 (vQ b4) rfl rfl hM10 (fun _=>by exact Yt 0 ZM1 rfl sc22.size rfl rfl) (Zc 13 1) (bL 1 (u0_0) rfl rfl hM12 (fun _ hB_=>by exact Yh (hC.grow hB_) 0 (u0_0) rfl sc22 rfl rfl) (Zc 13 3) (bF 2 (.pointer (some ⟨b4,1,none⟩)) rfl rfl hM10 (fun _=>by exact Yt 1 ZM1 rfl sc30.size rfl rfl) (Zc 13 7) (bL 3 (u0_1) rfl rfl hM12 (fun _ hB_=>by exact Yh (hC.grow hB_) 0 (u0_1) rfl sc30 rfl rfl) (Zc 13 15) (bM 4 (vI s10) rfl hM10 (Zc 13 31) ?_))))
      obtain ⟨⟨h12,h13⟩,h⟩:=h
      obtain ⟨Ad11,c11,hv11⟩:=Zw (hC.getP 1 rfl) s10.toNat (show s10.toNat < a0.images.length by omega)
      refine bL 5 (.pointer (some (Ad11.add (s10.toNat * 1)))) rfl rfl hM12 (fun _ hB_=>by exact Y2 (len:=a0.images.length) ZM5 ag55.size (by exact tr rfl hv11) rfl h12 h13) (Zc 13 63) ?_
      obtain ⟨cs_,hl11,hc11,hr11⟩:=Xg (hC.getP 1 rfl) hv11 s10.toNat (show s10.toNat < a0.images.length by omega)
      obtain ⟨u11,rfl⟩:=ZNd.1 hl11
      clear hl11
      rw [Xd _ _ (show s10.toNat < a0.images.length by omega)] at hr11
      have hp11:=hr11
      replace hC:=hC.derive 1 rfl (ZMg ZMi.ty.sl ((a0.images.getD s10.toNat ZEo).terms) [u11] fp0) (fun _=>(Xk hp11)) (fun _ hb_=>hb_)
      refine bL 6 (.agg #[u11]) rfl rfl hM12 (fun _ hB_=>by exact Jm [u11] (Zay hB_ hc11) ag55 rfl rfl) (Zc 13 127) (aO 7 rfl (Zf [u0_0,.agg #[u11]] _ Tryz.func69 rfl rfl rfl (Zvz a0.degrees (a0.images.getD s10.toNat ZEo) h _ (hC.getP 3 rfl) (Y3 (hC.getP 0 rfl))) ?_))
      rintro _ w14 ⟨r10,r11,rfl,h,hB12⟩
      refine rt ?_
      replace hC:=hC.grow hB12
      refine done (aK (by assumption) (Zc 13 255) (bM 8 (.tuple #[vI r10,.bool r11]) rfl hM10 (Zc 13 511) (bF 9 (vI r10) rfl rfl hM10 (fun _=>by exact Ze9 (v:=vI r10) rfl rfl) (Zc 13 1023) (bF 10 (.bool r11) rfl rfl hM10 (fun _=>by exact Ze9 (v:=.bool r11) rfl rfl) (Zc 13 2047) (bA 11 (vI r10) rfl hM10 (Zc 13 4095) (Z6 12 (by decide) (by decide) (by kernel_rfl) (by kernel_rfl) rfl (Zd (v:=.bool r11) rfl (done (Z7 (Ze (sr (Za (v:=.bool r11) rfl (Xe rfl (Za (v:=.bool (!r11)) rfl ?_))))))))))))))
      refine Y7 (!r11) (fun hb10=>?_) (fun hb10=>?_)
      ·replace h:=ift h (Y4 (Xi hb10))
       refine Zl (b:=true) 2 49 rfl (tr rfl (congrArg _ hb10)) (by decide) (Zl (b:=true) 2 49 rfl (tr rfl (congrArg _ hb10)) (by decide) (Zl (b:=true) 2 49 rfl (tr rfl (congrArg _ hb10)) (by decide) (Zl (b:=true) 2 49 rfl (tr rfl (congrArg _ hb10)) (by decide) (Zl (b:=true) 2 49 rfl (tr rfl (congrArg _ hb10)) (by decide) (Zl (b:=true) 2 49 rfl (tr rfl (congrArg _ hb10)) (by decide) (Zl (b:=true) 2 49 rfl (tr rfl (congrArg _ hb10)) (by decide) (Zl (b:=true) 2 49 rfl (tr rfl (congrArg _ hb10)) (by decide) (Zl (b:=true) 2 49 rfl (tr rfl (congrArg _ hb10)) (by decide) (J1 11 58 rfl rfl (J1 11 58 rfl rfl (J1 11 58 rfl rfl (J1 11 58 rfl rfl (J1 11 58 rfl rfl (J1 11 58 rfl rfl (J1 11 58 rfl rfl (J1 11 58 rfl rfl (Zl (b:=true) 2 49 rfl (tr rfl (congrArg _ hb10)) (by decide) (Z4 (v:=.bool true) (b:=true) (tr rfl (congrArg _ hb10)) rfl (dn (Z5 rfl rfl (sr (Zd (v:=.bool false) rfl (dn ?_)))))))))))))))))))))))
       refine ZMp (Ya (Zm (Zm (Ya (Zm ?_)))))
       exact Zi rfl (Zg rfl) ⟨false,rfl,h,hC.below⟩ (.inl rfl)
      ·replace h:=Zk h (not_not_intro ((Xj hb10)))
       refine Zp 2 49 rfl rfl hb10 (Z0 1 ZM1 rfl sc30.size rfl rfl (Zp 2 49 rfl rfl hb10 (Yb hC 0 (u0_1) rfl sc30 rfl rfl (Zp 2 49 rfl rfl hb10 (Za (v:=vI s10) rfl (Zp 2 49 rfl rfl hb10 ?_))))))
       obtain ⟨⟨h14,h15⟩,h⟩:=h
       obtain ⟨Ad13,c12,hv12⟩:=Zw (hC.getP 2 rfl) s10.toNat (show s10.toNat < a0.images.length by omega)
       refine Yn (len:=a0.images.length) ZM5 ag55.size (tr rfl hv12) rfl h14 h15 (Zp 2 49 rfl rfl hb10 (Zeb (s10.toNat * 1+0) ZMo rfl sc53.size rfl rfl (Zp 2 49 rfl rfl hb10 ?_)))
       obtain ⟨cs_,hl12,hc12,hr12⟩:=Xg (hC.getP 2 rfl) hv12 s10.toNat (show s10.toNat < a0.images.length by omega)
       obtain ⟨u14,rfl⟩:=ZNd.1 hl12
       clear hl12
       rw [Xd _ _ (show s10.toNat < a0.images.length by omega)] at hr12
       have hp12:=hr12
       replace hC:=hC.derive 2 rfl (ZMg ZMi.ty.sl ((a0.images.getD s10.toNat ZEo).terms) [u14] fp0) (fun _=>(Xk hp12)) (fun _ hb_=>hb_)
       refine Yp (u14) (Jy (o:=0) (k:=1) hc12 rfl) sc53 rfl (Zp 2 49 rfl rfl hb10 (Zu hC 0 rfl ZMr rfl (Zp 2 49 rfl rfl hb10 (Jh rfl rfl (Zp 2 49 rfl rfl hb10 (Za (v:=.bool (decide ((((a0.images.getD s10.toNat ZEo).terms).length:Int) > 0))) rfl ?_))))))
       refine Y7 (decide ((((a0.images.getD s10.toNat ZEo).terms).length:Int) > 0)) (fun hb11=>?_) (fun hb11=>?_)
       ·replace h:=ift h (ct hb11)
        refine Zp 11 58 rfl rfl hb11 (Za (v:=vI r10) rfl (Zp 11 58 rfl rfl hb11 (Z0 0 ZM1 rfl sc22.size rfl rfl (Zp 11 58 rfl rfl hb11 (Yb hC 0 (u0_0) rfl sc22 rfl rfl (Zp 11 58 rfl rfl hb11 (Za (v:=vI s10) rfl (Zp 11 58 rfl rfl hb11 ?_))))))))
        obtain ⟨⟨h16,h17⟩,h⟩:=h
        obtain ⟨Ad14,c13,hv13⟩:=Zw (hC.getP 4 rfl) s10.toNat (show s10.toNat < a0.degrees.length by omega)
        refine Yn (len:=a0.degrees.length) ZM0 sc2.size (tr rfl hv13) rfl h16 h17 (Zp 11 58 rfl rfl hb11 (Yp (vI (a0.degrees.getD s10.toNat ZEo)) (Yd (hC.getP 4 rfl) hv13 s10.toNat (show s10.toNat < a0.degrees.length by omega)) sc2 rfl (Zp 11 58 rfl rfl hb11 (Zq rfl rfl (Zp 11 58 rfl rfl hb11 (Y6 rfl rfl (Zp 2 49 rfl rfl hb10 (Z4 (v:=.bool (decide (r10≠ZG5.wrap ((a0.degrees.getD s10.toNat ZEo)+1)))) (b:=true) (tr rfl (congrArg _ hb11)) rfl (Z4 (v:=.bool (decide (r10≠ZG5.wrap ((a0.degrees.getD s10.toNat ZEo)+1)))) (b:=false) (tr rfl (congrArg _ hb10)) rfl (dn ?_))))))))))
        refine Zs rfl (fun hb16=>?_) (fun hb16=>?_)
        ·replace h:=ift h (ct hb16)
         refine sr (Zd (v:=.bool false) rfl (dn ?_))
         refine ZMp (Ya (Zm (Zm (Ya (Zm ?_)))))
         exact Zi rfl (Zg rfl) ⟨false,rfl,h,hC.below⟩ (.inl rfl)
        ·replace h:=Zk h (cf hb16)
         refine ZMl (Zr (Ze (Zh (Za (v:=vI s10) rfl (Zq rfl rfl (Zd (v:=vI (ZG5.wrap (s10+1))) rfl (done ?_)))))))
         exact hK10 (ZG5.wrap (s10+1)) _ _ ⟨(slq rfl),(hC.sP [3,4,5] rfl)⟩ h
       ·replace h:=Zk h (cf hb11)
        refine Zl (b:=false) 11 58 rfl (tr rfl (congrArg _ hb11)) (by decide) (Zl (b:=false) 11 58 rfl (tr rfl (congrArg _ hb11)) (by decide) (Zl (b:=false) 11 58 rfl (tr rfl (congrArg _ hb11)) (by decide) (Zl (b:=false) 11 58 rfl (tr rfl (congrArg _ hb11)) (by decide) (Zl (b:=false) 11 58 rfl (tr rfl (congrArg _ hb11)) (by decide) (Zl (b:=false) 11 58 rfl (tr rfl (congrArg _ hb11)) (by decide) (Zl (b:=false) 11 58 rfl (tr rfl (congrArg _ hb11)) (by decide) (Zl (b:=false) 11 58 rfl (tr rfl (congrArg _ hb11)) (by decide) (Zp 2 49 rfl rfl hb10 (Z4 (v:=.bool false) (b:=false) (tr rfl (congrArg _ hb11)) rfl (Z4 (v:=.bool false) (b:=false) (tr rfl (congrArg _ hb10)) rfl (dn (Z1 rfl rfl (ZMl (Zr (Ze (Zh (Za (v:=vI s10) rfl (Zq rfl rfl (Zd (v:=vI (ZG5.wrap (s10+1))) rfl (done ?_))))))))))))))))))))
        exact hK10 (ZG5.wrap (s10+1)) _ _ ⟨(slq rfl),(hC.sP [3,4,5] rfl)⟩ h
    ·replace h:=Zk h (cf hb14)
     refine ZMv (Zj (Zj (Zx ?_)))
     refine Ze (ZMh (sr (Zd (v:=vI 0) rfl (dn (ZMn ?_)))))
     refine Xz (S:=Int) _ (fun s11 e_ w_=>Zt e_ [(1,vQ b4),(6,vI s11)]∧Ctx Nox w0 w_ [blk b4 32 [u0_0,u0_1]] [ZMg ZM3.sl a0.images [u0_1] fp0,ZMg TInts a0.degrees [u0_0] fp0,ZMg TAlg a0 [u0_0,u0_1] fp0]) ?_ (s0:=0) ?_ h
     ·clear hC h
      rintro s11 e_ w15 nx11 K11 ⟨hS_,hC⟩ h hK11
      rw [ue hS_]
      refine ZMh (sr (Za (v:=vI s11) rfl (Z0 1 ZM1 rfl sc30.size rfl rfl (Yb hC 0 (u0_1) rfl sc30 rfl rfl (Zu hC 0 rfl ZM5 rfl (Zn rfl rfl (dn ?_)))))))
      refine Zs rfl (fun hb17=>?_) (fun hb17=>?_)
      ·replace h:=ift h (ct hb17)
       refine ZMl (Ze (ZMh (ZMn (ZMh ?_))))
       refine cwd 6 Yo [0,0,2,0,14,30,63,127,255,511] [0,2,4,5] [1,3] (fun hM13 hM15 w16 hB_=>?_)
       replace hC:=hC.grow hB_
       refine bL 0 (.agg #[u0_0,u0_1]) rfl rfl hM13 (fun _ hB_=>by exact Xa (hC.grow hB_) 0 [u0_0,u0_1] rfl ag32 rfl rfl rfl) (Zc 10 1) (bF 1 (.pointer (some ⟨b4,1,none⟩)) rfl rfl hM15 (fun _=>by exact Yt 1 ZM1 rfl sc30.size rfl rfl) (Zc 10 3) (bL 2 (u0_1) rfl rfl hM13 (fun _ hB_=>by exact Yh (hC.grow hB_) 0 (u0_1) rfl sc30 rfl rfl) (Zc 10 7) (bM 3 (vI s11) rfl hM15 (Zc 10 15) ?_)))
       obtain ⟨⟨h18,h19⟩,h⟩:=h
       obtain ⟨Ad12,c14,hv14⟩:=Zw (hC.getP 0 rfl) s11.toNat (show s11.toNat < a0.images.length by omega)
       refine bL 4 (.pointer (some (Ad12.add (s11.toNat * 1)))) rfl rfl hM13 (fun _ hB_=>by exact Y2 (len:=a0.images.length) ZM5 ag55.size (by exact tr rfl hv14) rfl h18 h19) (Zc 10 31) ?_
       obtain ⟨cs_,hl13,hc13,hr13⟩:=Xg (hC.getP 0 rfl) hv14 s11.toNat (show s11.toNat < a0.images.length by omega)
       obtain ⟨u12,rfl⟩:=ZNd.1 hl13
       clear hl13
       rw [Xd _ _ (show s11.toNat < a0.images.length by omega)] at hr13
       have hp13:=hr13
       replace hC:=hC.derive 0 rfl (ZMg ZMi.ty.sl ((a0.images.getD s11.toNat ZEo).terms) [u12] fp0) (fun _=>(Xk hp13)) (fun _ hb_=>hb_)
       refine bL 5 (.agg #[u12]) rfl rfl hM13 (fun _ hB_=>by exact Jm [u12] (Zay hB_ hc13) ag55 rfl rfl) (Zc 10 63) (Z6 6 (by decide) (by decide) (by kernel_rfl) (by kernel_rfl) rfl (Zf [.agg #[u0_0,u0_1],.agg #[u12]] _ Tryz.func71 rfl rfl rfl (Zhb a0 (a0.images.getD s11.toNat ZEo) h _ (Yk (hC.getP 2 rfl) (hC.getP 1 rfl)) (Y3 (hC.getP 0 rfl))) ?_))
       rintro _ w17 ⟨r12,u13,f10,rfl,h,hr14,hf10,hB13⟩
       refine rt ?_
       replace hC:=hC.push hB13 (ZMy (Yj 162) r12 [u13] f10) hr14 hf10
       obtain ⟨ho10,hf11⟩:=X6 (hC.getM 0 rfl)
       subst hf11
       replace hC:=hC.recast (c:=own 162 9 u13 r12.terms.length (ZMi.encs r12.terms)) (fun _ h_=>h_) (fun _=>ho10)
       refine Zvd (u13) ZMo rfl sc53 rfl rfl (Zac hC 0 rfl ZMr rfl (Jh rfl rfl (done (Z7 (Ze ?_)))))
       refine Zs rfl (fun hb18=>?_) (fun hb18=>?_)
       ·replace h:=ift h (ct hb18)
        refine sr (Zd (v:=.bool false) rfl (dn ?_))
        refine ZMp (Ya (Zm (Zm (Ya (Zm ?_)))))
        exact Zi rfl (Zg rfl) ⟨false,rfl,h,hC.below⟩ (.inl rfl)
       ·replace h:=Zk h (cf hb18)
        refine ZMl (Zr (Ze (Zh (Za (v:=vI s11) rfl (Zq rfl rfl (Zd (v:=vI (ZG5.wrap (s11+1))) rfl (done ?_)))))))
        exact hK11 (ZG5.wrap (s11+1)) _ _ ⟨(slq rfl),((hC.xM [1] rfl).sP [1,2,3] rfl)⟩ h
      ·replace h:=Zk h (cf hb17)
       refine ZMv (Zj (Zj (Zx ?_)))
       refine Ze (sr (Zd (v:=.bool true) rfl (dn (ZMp ?_))))
       exact Zi rfl (Zg rfl) ⟨true,rfl,h,hC.below⟩ (.inl rfl)
     ·skip
      exact⟨(slq rfl),hC⟩
   ·skip
    exact⟨(slq rfl),hC⟩
def Zc8 (a0:Int) (K:Int→Prop):Prop :=
 K (ZFf (ZG5.wrap ((ZFf a0 10007)+10007)) 10007)
theorem Zm8 (a0:Int)  {K:Int→Prop} (h:Zc8 a0 K) (w0:World)  :
  Calls ZMk 187 #[vI a0] w0 fun e w'=>∃ (r0:Int),
   e=.returned (vI r0)∧K r0∧Bel w0 w':=by
 unfold Zc8 at h
 refine cof Tryz.func187 rfl 7 Tryz.ntmps187 ?_
 have hC:=ZM2 (X:=Nox) w0 [] (by simp)
 refine sr (Zd (v:=vI 0) rfl (dn (sr (Za (v:=vI a0) rfl (X8 rfl rfl (by decide) (Zq rfl rfl (X8 rfl rfl (by decide) (Zd (v:=vI (ZFf (ZG5.wrap ((ZFf a0 10007)+10007)) 10007)) rfl (dn (ZMp ?_))))))))))
 exact Zi rfl (Zg rfl) ⟨ZFf (ZG5.wrap ((ZFf a0 10007)+10007)) 10007,rfl,h,hC.below⟩ (.inl rfl)
def Zdv (a0:A8) (K:A8→Prop):Prop :=
 Z8 (fun i10 (s10:A8) nx10=>nx10 (s10.set i10 (ZG5.wrap (a0.get i10)))) (fun (s10:A8)=>K s10) 8 0 ZMm
theorem Zka (a0:A8)  {K:A8→Prop} (h:Zdv a0 K) (w0:World)  :
  Calls ZMk 134 #[.agg (ZMf (ZMe .u8 a0))] w0 fun e w'=>∃ (r0:A8),
   e=.returned (.agg (ZMf (ZMe .i64 r0)))∧K r0∧Bel w0 w':=by
 unfold Zdv at h
 refine cof Tryz.func134 rfl 18 Tryz.ntmps134 ?_
 have hC:=ZM2 (X:=Nox) w0 [] (by simp)
 refine sr (Yg (v:=.agg (ZMf (ZMe .u8 a0))) hC (ZMe .u8 a0) rfl rfl fun b1 w3 hB_ hC=>Ys hC (ZMe .i64 ZMm) z73 rfl fun b4 w6 hB_ hC=>dn (sr (J2 [] rfl (Zg4   _) (Ys hC (ZMe .i64 ZMm) z73 rfl fun b7 w9 hB_ hC=>Z3 (v:=.agg (ZMf (ZMe .i64 ZMm))) hC 0 (ZMe .i64 ZMm) (ZMe .i64 ZMm) rfl ag73.size rfl rfl rfl rfl rfl (ZMq rfl) rfl fun w10 hC=>dn (ZMh (sr (Yq hC 2 (ZMe .u8 a0) rfl ag136 rfl rfl rfl (Za (v:=vI 0) rfl (dn (ZMn ?_))))))))))
 refine Yi (S:=A8) _ _ (fun i10 s10 e_ w_=>Zt e_ [(2,vQ b4),(3,vQ b7),(7,.agg (ZMf (ZMe .u8 a0))),(8,vI (i10:Int))]∧Ctx Nox w0 w_ [blk b7 73 (ZMe .i64 s10),blk b4 73 (ZMe .i64 ZMm)] []) 8 ?_ ?_ (s0:=ZMm) ?_ h
 ·clear hC h
  rintro i10 s10 e_ w11 nx10 K10 hi10 ⟨hS_,hC⟩ h hK10
  rw [ue hS_]
  refine sr (Zn rfl rfl (dn (ZMh (Z5 rfl (decide_eq_true (by omega)) (ZMl (Ze (ZMh (ZMn (sr (Za (v:=vI (i10:Int)) rfl (Zjk (.int .u8 (a0.get i10)) ZMz rfl rfl (ZMx _) (by omega) sc5 (ZMu _ _ hi10) (Zd (v:=vI (i10:Int)) rfl (Zd (v:=.int .u8 (a0.get i10)) rfl (dn (Zh (Za (v:=vI (i10:Int)) rfl (Za (v:=.int .u8 (a0.get i10)) rfl (Zgp ZNh ZNo rfl (Xs i10 ZM4 sc3.size rfl rfl (ZMx _) (by omega) (by omega) (Z3 (v:=vI (ZG5.wrap (a0.get i10))) hC 0 [vI (ZG5.wrap (a0.get i10))] (ZMe .i64 (s10.set i10 (ZG5.wrap (a0.get i10)))) rfl sc3.size rfl rfl rfl rfl rfl hi10 (ZNb _ _ _ hi10) fun w12 hC=>done (Zr (Ze (Zh (Zq rfl rfl (Za (v:=vI (ZG5.wrap ((i10:Int)+1))) rfl (done ?_))))))))))))))))))))))))))
  exact hK10 (s10.set i10 (ZG5.wrap (a0.get i10))) _ _ ⟨(sl ⟨rfl,rfl,rfl,(tr rfl (congrArg _ (Z2 hi10 (by decide)))),trivial⟩),hC⟩ h
 ·clear hC h
  rintro s10 e_ w13 K10 ⟨hS_,hC⟩ h
  rw [ue hS_]
  refine sr (Zn rfl rfl (dn (ZMh (Z1 rfl (decide_eq_false (by omega)) ?_))))
  refine ZMv (Zj (Zj (Zx ?_)))
  refine Ze (sr (Yq hC 0 (ZMe .i64 s10) rfl ag73 rfl rfl rfl (Z3 (v:=.agg (ZMf (ZMe .i64 s10))) hC 1 (ZMe .i64 s10) (ZMe .i64 s10) rfl ag73.size rfl rfl rfl rfl rfl (ZMq rfl) rfl fun w14 hC=>dn (ZMp ?_))))
  exact Zi rfl (J8 hC 1 rfl ag73 rfl rfl) ⟨s10,rfl,h,hC.below⟩ (.inl rfl)
 ·skip
  exact⟨(slq rfl),(hC.xM [0,1] rfl)⟩
def Zhc (a0:A8) (a1:List Int) (a2:A8) (K:A8→Int→Prop):Prop :=
 Z8 (fun i10 (s12:Int) nx10=>(if ZFf (a1.getD i10 ZEo) 2=0 then nx10 s12 else((0≤(i10:Int)∧(i10:Int) < 8)∧(if a0.get i10 > 0 then((0≤(i10:Int)∧(i10:Int) < 8)∧(if a2.get i10 > 0 then K ZMm 0 else((0≤(i10:Int)∧(i10:Int) < 8)∧nx10 s12))) else((0≤(i10:Int)∧(i10:Int) < 8)∧(if a2.get i10 > 0 then Xt (fun (s10:Int×Int) nx11=>(if s10.1 < (a1.length:Int) then((0≤s10.1∧s10.1 < (a1.length:Int))∧((0≤s10.1∧s10.1 < 8)∧nx11 (ZG5.wrap (s10.1+1),ZG5.wrap (s10.2+(ZG5.wrap ((ZFf (a1.getD s10.1.toNat ZEo) 2) * (a0.get s10.1.toNat))))))) else nx10 s10.2)) (ZG5.wrap ((i10:Int)+1),s12) else nx10 s12)))))) (fun (s12:Int)=>Z8 (fun i11 (s11:A8) nx12=>nx12 (s11.set i11 (ZG5.wrap ((s11.get i11)+(a2.get i11))))) (fun (s11:A8)=>(if ZFf s12 2=1 then K s11 (-1) else K s11 1)) 8 0 a0) a1.length 0 0
theorem Zv0 (a0:A8) (a1:List Int) (a2:A8)  {K:A8→Int→Prop} (h:Zhc a0 a1 a2 K) (w0:World) (q1:TInts.rep a1 [u1_0] fp1 w0) :
  Calls ZMk 199 #[.agg (ZMf (ZMe .i64 a0)),u1_0,.agg (ZMf (ZMe .i64 a2))] w0 fun e w'=>∃ (r0:A8) (r1:Int),
   e=.returned (.tuple #[.agg (ZMf (ZMe .i64 r0)),vI r1])∧K r0 r1∧Bel w0 w':=by
 unfold Zhc at h
 refine cof Tryz.func199 rfl 75 Tryz.ntmps199 ?_
 have hC:=ZM2 (X:=Nox) w0 [ZMg TInts a1 [u1_0] fp1] (al1 q1)
 refine sr (Yg (v:=.agg (ZMf (ZMe .i64 a0))) hC (ZMe .i64 a0) rfl rfl fun b2 w4 hB_ hC=>Yg (v:=.agg (ZMf (ZMe .i64 a2))) hC (ZMe .i64 a2) rfl rfl fun b5 w7 hB_ hC=>Ys hC (ZMe .i64 ZMm) z73 rfl fun b8 w10 hB_ hC=>Zd (v:=vI 0) rfl (dn (sr (Zd (v:=vI 0) rfl (dn (ZMh (sr (Za (v:=u1_0) rfl (Zu hC 0 rfl ZM0 rfl (Za (v:=vI 0) rfl (dn (ZMn ?_))))))))))))
 have hN10:a1.length≤9223372036854775807:=Yw (hC.getP 0 rfl)
 refine Yi (S:=Int) _ _ (fun i10 s12 e_ w_=>Zt e_ [(1,u1_0),(3,vQ b2),(5,vQ b5),(6,vQ b8),(8,vI s12),(13,u1_0),(14,vI (a1.length:Int)),(15,vI (i10:Int))]∧Ctx Nox w0 w_ [blk b8 73 (ZMe .i64 ZMm),blk b5 73 (ZMe .i64 a2),blk b2 73 (ZMe .i64 a0)] [ZMg TInts a1 [u1_0] fp1]) a1.length ?_ ?_ (s0:=0) ?_ h
 ·clear hC h
  rintro i10 s12 e_ w11 nx10 K10 hi10 ⟨hS_,hC⟩ h hK10
  rw [ue hS_]
  refine sr (Zn rfl rfl (dn (ZMh (Z5 rfl (decide_eq_true (by omega)) (ZMl (Ze (ZMh (ZMn (sr (Za (v:=vI (i10:Int)) rfl ?_))))))))))
  obtain ⟨Ad11,c10,hv10⟩:=Zw (hC.getP 0 rfl) i10 hi10
  refine Yn (len:=a1.length) ZM0 sc2.size (tr rfl hv10) rfl (ZMx _) (ZNf.2 hi10) (Yp (vI (a1.getD i10 ZEo)) (Yd (hC.getP 0 rfl) hv10 i10 hi10) sc2 rfl (Zd (v:=vI (i10:Int)) rfl (Zd (v:=vI (a1.getD i10 ZEo)) rfl (dn (ZMh (sr (Za (v:=vI (a1.getD i10 ZEo)) rfl (X8 rfl rfl (by decide) (Xx rfl rfl (dn ?_))))))))))
  refine Zs rfl (fun hb12=>?_) (fun hb12=>?_)
  ·replace h:=ift h (ct hb12)
   refine ZMv (Zj (Zx ?_))
   refine Ze (Zh (Zq rfl rfl (Za (v:=vI (ZG5.wrap ((i10:Int)+1))) rfl (done ?_))))
   exact hK10 s12 _ _ ⟨(sl ⟨rfl,rfl,rfl,rfl,rfl,rfl,rfl,(tr rfl (congrArg _ (Z2 hi10 hN10))),trivial⟩),hC⟩ h
  ·replace h:=Zk h (cf hb12)
   refine ZMl (Ze (ZMh (sr (Za (v:=vI (i10:Int)) rfl ?_))))
   obtain ⟨⟨h10,h11⟩,h⟩:=h
   refine Xs i10 ZM4 sc3.size rfl rfl h10 h11 (by omega) (Yb hC 2 (vI (a0.get i10)) rfl sc3 rfl (ZMu _ _ (show i10 < 8 by omega)) (Jh rfl rfl (Za (v:=.bool (decide (a0.get i10 > 0))) rfl ?_)))
   refine Y7 (decide (a0.get i10 > 0)) (fun hb10=>?_) (fun hb10=>?_)
   ·replace h:=ift h (ct hb10)
    refine Zp 4 27 rfl rfl hb10 (Za (v:=vI (i10:Int)) rfl (Zp 4 27 rfl rfl hb10 ?_))
    obtain ⟨⟨h12,h13⟩,h⟩:=h
    refine Xs i10 ZM4 sc3.size rfl rfl h12 h13 (by omega) (Zp 4 27 rfl rfl hb10 (Yb hC 1 (vI (a2.get i10)) rfl sc3 rfl (ZMu _ _ (show i10 < 8 by omega)) (Zp 4 27 rfl rfl hb10 (Jh rfl rfl (Z4 (v:=.bool (decide (a2.get i10 > 0))) (b:=true) (tr rfl (congrArg _ hb10)) rfl (dn ?_))))))
    refine Zs rfl (fun hb11=>?_) (fun hb11=>?_)
    ·replace h:=ift h (ct hb11)
     refine sr (J2 [] rfl (Zg4   _) (Z3 (v:=.agg (ZMf (ZMe .i64 ZMm))) hC 0 (ZMe .i64 ZMm) (ZMe .i64 ZMm) rfl ag73.size rfl rfl rfl rfl rfl (ZMq rfl) rfl fun w12 hC=>Zd (v:=vI 0) rfl (dn ?_)))
     refine ZMp (Zm (Ya (Zm (Zm (Ya (Zm ?_))))))
     exact X9 rfl (J8 hC 0 rfl ag73 rfl rfl) (Zg rfl) ⟨ZMm,0,rfl,h,hC.below⟩ (.inl rfl)
    ·replace h:=Zk h (cf hb11)
     refine ZMl (Ze (sr (Za (v:=vI (i10:Int)) rfl ?_)))
     obtain ⟨⟨h14,h15⟩,h⟩:=h
     refine Xs i10 ZM4 sc3.size rfl rfl h14 h15 (by omega) (Yb hC 1 (vI (a2.get i10)) rfl sc3 rfl (ZMu _ _ (show i10 < 8 by omega)) (Jh rfl rfl (dn (Z1 rfl hb11 (ZMl (Zr (Ze (Zh (Zq rfl rfl (Za (v:=vI (ZG5.wrap ((i10:Int)+1))) rfl (done ?_)))))))))))
     exact hK10 s12 _ _ ⟨(sl ⟨rfl,rfl,rfl,rfl,rfl,rfl,rfl,(tr rfl (congrArg _ (Z2 hi10 hN10))),trivial⟩),hC⟩ h
   ·replace h:=Zk h (cf hb10)
    refine Zl (b:=false) 4 27 rfl (tr rfl (congrArg _ hb10)) (by decide) (Zl (b:=false) 4 27 rfl (tr rfl (congrArg _ hb10)) (by decide) (Zl (b:=false) 4 27 rfl (tr rfl (congrArg _ hb10)) (by decide) (Zl (b:=false) 4 27 rfl (tr rfl (congrArg _ hb10)) (by decide) (Z4 (v:=.bool false) (b:=false) (tr rfl (congrArg _ hb10)) rfl (dn (Z1 rfl rfl (ZMl (Ze (sr (Za (v:=vI (i10:Int)) rfl ?_))))))))))
    obtain ⟨⟨h16,h17⟩,h⟩:=h
    refine Xs i10 ZM4 sc3.size rfl rfl h16 h17 (by omega) (Yb hC 1 (vI (a2.get i10)) rfl sc3 rfl (ZMu _ _ (show i10 < 8 by omega)) (Jh rfl rfl (dn ?_)))
    refine Zs rfl (fun hb13=>?_) (fun hb13=>?_)
    ·replace h:=ift h (ct hb13)
     refine sr (Za (v:=vI (i10:Int)) rfl (Zq rfl rfl (Zd (v:=vI (ZG5.wrap ((i10:Int)+1))) rfl (dn (ZMn ?_)))))
     refine Xz (S:=Int×Int) _ (fun s10 e_ w_=>Zt e_ [(1,u1_0),(3,vQ b2),(5,vQ b5),(6,vQ b8),(8,vI s10.2),(11,vI s10.1),(13,u1_0),(14,vI (a1.length:Int)),(15,vI (i10:Int))]∧Ctx Nox w0 w_ [blk b8 73 (ZMe .i64 ZMm),blk b5 73 (ZMe .i64 a2),blk b2 73 (ZMe .i64 a0)] [ZMg TInts a1 [u1_0] fp1]) ?_ (s0:=(ZG5.wrap ((i10:Int)+1),s12)) ?_ h
     ·clear hC h
      rintro s10 e_ w13 nx11 K12 ⟨hS_,hC⟩ h hK11
      rw [ue hS_]
      refine ZMh (sr (Za (v:=vI s10.1) rfl (Za (v:=u1_0) rfl (Zu hC 0 rfl ZM0 rfl (Zn rfl rfl (dn ?_))))))
      refine Zs rfl (fun hb14=>?_) (fun hb14=>?_)
      ·replace h:=ift h (ct hb14)
       refine ZMl (Ze (ZMh (ZMn ?_)))
       refine cwd 10 Yo [0,0,0,6,14,30,0,64,192,510,1023,2047] [3,4,7,8] [0,1,2,5,6,9] (fun hM11 hM10 w14 hB_=>?_)
       replace hC:=hC.grow hB_
       refine bM 0 (vI s10.2) rfl hM10 (Zc 12 1) (bM 1 (u1_0) rfl hM10 (Zc 12 3) (bM 2 (vI s10.1) rfl hM10 (Zc 12 7) ?_))
       obtain ⟨⟨h18,h19⟩,h⟩:=h
       obtain ⟨Ad10,c11,hv11⟩:=Zw (hC.getP 0 rfl) s10.1.toNat (show s10.1.toNat < a1.length by omega)
       refine bL 3 (.pointer (some (Ad10.add (s10.1.toNat * 1)))) rfl rfl hM11 (fun _ hB_=>by exact Y2 (len:=a1.length) ZM0 sc2.size (by exact tr rfl hv11) rfl h18 h19) (Zc 12 15) (bL 4 (vI (a1.getD s10.1.toNat ZEo)) rfl rfl hM11 (fun _ hB_=>by exact Xn (vI (a1.getD s10.1.toNat ZEo)) (Yd ((hC.grow hB_).getP 0 rfl) hv11 s10.1.toNat (show s10.1.toNat < a1.length by omega)) sc2 rfl) (Zc 12 31) (bF 5 (vI (ZFf (a1.getD s10.1.toNat ZEo) 2)) rfl rfl hM10 (fun _=>by exact Zpf rfl rfl (by decide)) (Zc 12 63) (bM 6 (vI s10.1) rfl hM10 (Zc 12 127) ?_)))
       obtain ⟨⟨h20,h21⟩,h⟩:=h
       refine bL 7 (.pointer (some ⟨b2,s10.1.toNat,none⟩)) rfl rfl hM11 (fun _ hB_=>by exact Zag s10.1.toNat ZM4 sc3.size rfl rfl h20 h21 (by omega)) (Zc 12 255) (bL 8 (vI (a0.get s10.1.toNat)) rfl rfl hM11 (fun _ hB_=>by exact Yh (hC.grow hB_) 2 (vI (a0.get s10.1.toNat)) rfl sc3 rfl (ZMu _ _ (show s10.1.toNat < 8 by omega))) (Zc 12 511) (bF 9 (vI (ZG5.wrap ((ZFf (a1.getD s10.1.toNat ZEo) 2) * (a0.get s10.1.toNat)))) rfl rfl hM10 (fun _=>by exact Zc1 rfl rfl) (Zc 12 1023) (Z6 10 (by decide) (by decide) (by kernel_rfl) (by kernel_rfl) rfl (Zq rfl rfl (Zd (v:=vI (ZG5.wrap (s10.2+(ZG5.wrap ((ZFf (a1.getD s10.1.toNat ZEo) 2) * (a0.get s10.1.toNat)))))) rfl (done (Z7 (Zr (Ze (Zh (Za (v:=vI s10.1) rfl (Zq rfl rfl (Zd (v:=vI (ZG5.wrap (s10.1+1))) rfl (done ?_))))))))))))))
       exact hK11 (ZG5.wrap (s10.1+1),ZG5.wrap (s10.2+(ZG5.wrap ((ZFf (a1.getD s10.1.toNat ZEo) 2) * (a0.get s10.1.toNat))))) _ _ ⟨(slq rfl),hC⟩ h
      ·replace h:=Zk h (cf hb14)
       refine ZMv (Zj (Zj (Zx ?_)))
       refine Zr (Ze (Zh (Zq rfl rfl (Za (v:=vI (ZG5.wrap ((i10:Int)+1))) rfl (done ?_)))))
       exact hK10 s10.2 _ _ ⟨(sl ⟨rfl,rfl,rfl,rfl,rfl,rfl,rfl,(tr rfl (congrArg _ (Z2 hi10 hN10))),trivial⟩),hC⟩ h
     ·skip
      exact⟨(slq rfl),hC⟩
    ·replace h:=Zk h (cf hb13)
     refine ZMl (Zr (Ze (Zh (Zq rfl rfl (Za (v:=vI (ZG5.wrap ((i10:Int)+1))) rfl (done ?_))))))
     exact hK10 s12 _ _ ⟨(sl ⟨rfl,rfl,rfl,rfl,rfl,rfl,rfl,(tr rfl (congrArg _ (Z2 hi10 hN10))),trivial⟩),hC⟩ h
 ·clear hC h
  rintro s12 e_ w15 K10 ⟨hS_,hC⟩ h
  rw [ue hS_]
  refine sr (Zn rfl rfl (dn (ZMh (Z1 rfl (decide_eq_false (by omega)) ?_))))
  refine ZMv (Zj (Zj (Zx ?_)))
  refine Ze (ZMh (sr (Za (v:=vI 0) rfl (dn (ZMn ?_)))))
  refine Yi (S:=A8) _ _ (fun i11 s11 e_ w_=>Zt e_ [(3,vQ b2),(5,vQ b5),(6,vQ b8),(8,vI s12),(58,vI (i11:Int))]∧Ctx Nox w0 w_ [blk b8 73 (ZMe .i64 ZMm),blk b5 73 (ZMe .i64 a2),blk b2 73 (ZMe .i64 s11)] [ZMg TInts a1 [u1_0] fp1]) 8 ?_ ?_ (s0:=a0) ?_ h
  ·clear hC h
   rintro i11 s11 e_ w16 nx12 K11 hi11 ⟨hS_,hC⟩ h hK12
   rw [ue hS_]
   refine sr (Zn rfl rfl (dn (ZMh (Z5 rfl (decide_eq_true (by omega)) (ZMl (Ze (ZMh (ZMn (sr (Za (v:=vI (i11:Int)) rfl (Zd (v:=vI (i11:Int)) rfl (dn ?_))))))))))))
   refine cwd 6 Yo [0,1,3,0,8,24,63,127,255] [1,2,4,5] [0,3] (fun hM12 hM13 w17 hB_=>?_)
   replace hC:=hC.grow hB_
   refine bM 0 (vI (i11:Int)) rfl hM13 (Zc 9 1) (bL 1 (.pointer (some ⟨b2,i11,none⟩)) rfl rfl hM12 (fun _ hB_=>by exact Zag i11 ZM4 sc3.size rfl rfl (ZMx _) (by omega) (by omega)) (Zc 9 3) (bL 2 (vI (s11.get i11)) rfl rfl hM12 (fun _ hB_=>by exact Yh (hC.grow hB_) 2 (vI (s11.get i11)) rfl sc3 rfl (ZMu _ _ hi11)) (Zc 9 7) (bM 3 (vI (i11:Int)) rfl hM13 (Zc 9 15) (bL 4 (.pointer (some ⟨b5,i11,none⟩)) rfl rfl hM12 (fun _ hB_=>by exact Zag i11 ZM4 sc3.size rfl rfl (ZMx _) (by omega) (by omega)) (Zc 9 31) (bL 5 (vI (a2.get i11)) rfl rfl hM12 (fun _ hB_=>by exact Yh (hC.grow hB_) 1 (vI (a2.get i11)) rfl sc3 rfl (ZMu _ _ hi11)) (Zc 9 63) (Z6 6 (by decide) (by decide) (by kernel_rfl) (by kernel_rfl) rfl (Zq rfl rfl (Xs i11 ZM4 sc3.size rfl rfl (ZMx _) (by omega) (by omega) (Z3 (v:=vI (ZG5.wrap ((s11.get i11)+(a2.get i11)))) hC 2 [vI (ZG5.wrap ((s11.get i11)+(a2.get i11)))] (ZMe .i64 (s11.set i11 (ZG5.wrap ((s11.get i11)+(a2.get i11))))) rfl sc3.size rfl rfl rfl rfl rfl hi11 (ZNb _ _ _ hi11) fun w18 hC=>done (Z7 (Zr (Ze (Zh (Zq rfl rfl (Za (v:=vI (ZG5.wrap ((i11:Int)+1))) rfl (done ?_))))))))))))))))
   exact hK12 (s11.set i11 (ZG5.wrap ((s11.get i11)+(a2.get i11)))) _ _ ⟨(sl ⟨rfl,rfl,rfl,rfl,(tr rfl (congrArg _ (Z2 hi11 (by decide)))),trivial⟩),hC⟩ h
  ·clear hC h
   rintro s11 e_ w19 K11 ⟨hS_,hC⟩ h
   rw [ue hS_]
   refine sr (Zn rfl rfl (dn (ZMh (Z1 rfl (decide_eq_false (by omega)) ?_))))
   refine ZMv (Zj (Zj (Zx ?_)))
   refine Ze (ZMh (sr (Za (v:=vI s12) rfl (X8 rfl rfl (by decide) (Xx rfl rfl (dn ?_))))))
   refine Zs rfl (fun hb15=>?_) (fun hb15=>?_)
   ·replace h:=ift h (ct hb15)
    refine sr (Yq hC 2 (ZMe .i64 s11) rfl ag73 rfl rfl rfl (Z3 (v:=.agg (ZMf (ZMe .i64 s11))) hC 0 (ZMe .i64 s11) (ZMe .i64 s11) rfl ag73.size rfl rfl rfl rfl rfl (ZMq rfl) rfl fun w20 hC=>Zd (v:=vI (-1)) rfl (dn ?_)))
    refine ZMp (Zm ?_)
    exact X9 rfl (J8 hC 0 rfl ag73 rfl rfl) (Zg rfl) ⟨s11,(-1),rfl,h,hC.below⟩ (.inl rfl)
   ·replace h:=Zk h (cf hb15)
    refine ZMl (Ze (sr (Yq hC 2 (ZMe .i64 s11) rfl ag73 rfl rfl rfl (Z3 (v:=.agg (ZMf (ZMe .i64 s11))) hC 0 (ZMe .i64 s11) (ZMe .i64 s11) rfl ag73.size rfl rfl rfl rfl rfl (ZMq rfl) rfl fun w21 hC=>Zd (v:=vI 1) rfl (dn (ZMp ?_))))))
    exact X9 rfl (J8 hC 0 rfl ag73 rfl rfl) (Zg rfl) ⟨s11,1,rfl,h,hC.below⟩ (.inl rfl)
  ·skip
   exact⟨(slq rfl),hC⟩
 ·skip
  exact⟨(slq rfl),hC⟩
def Zek (a0:List (A8×Int)) (a1:A8) (a2:Int) (K:List (A8×Int)→Prop):Prop :=
 Zc8 (ZG5.wrap (((Y9 a0 a1).getD 0)+a2)) (fun r8=>(if r8≠0 then K (Yu a0 a1 r8) else K (Jo a0 a1)))
theorem Zm9 (a0:List (A8×Int)) (a1:A8) (a2:Int)  {K:List (A8×Int)→Prop} (h:Zek a0 a1 a2 K) (w0:World) (q0:(mapS b0 a0).holds w0) :
  Calls ZMk 195 #[.map (some b0),.agg (ZMf (ZMe .i64 a1)),vI a2] w0 fun e w'=>∃ (m0:List (A8×Int)),
   e=.returned (.tuple #[])∧K m0∧(mapS b0 m0).holds w'∧BelB b0 w0 w':=by
 unfold Zek at h
 refine cof Tryz.func195 rfl 20 Tryz.ntmps195 ?_
 have hC:=Ctx.start1 w0 b0 (it:=mapS b0 a0) rfl [] q0 (by simp) (by simp)
 refine sr (Yg (v:=.agg (ZMf (ZMe .i64 a1))) hC (ZMe .i64 a1) rfl rfl fun b2 w4 hB_ hC=>dn (sr (Za (v:=.map (some b0)) rfl (Yq hC 0 (ZMe .i64 a1) rfl ag73 rfl rfl rfl (Zp3 a1 0 (hC.getM 1 rfl) Js ZNe z2 rfl rfl (Za (v:=vI a2) rfl (Zq rfl rfl (Zf [vI (ZG5.wrap (((Y9 a0 a1).getD 0)+a2))] _ Tryz.func187 rfl rfl rfl (Zm8 (ZG5.wrap (((Y9 a0 a1).getD 0)+a2)) h _) ?_))))))))
 rintro _ w7 ⟨r8,rfl,h,hB9⟩
 refine rt ?_
 replace hC:=hC.grow hB9
 refine Zd (v:=vI r8) rfl (dn (sr (Za (v:=vI r8) rfl (Y6 rfl rfl (dn ?_)))))
 refine Zs rfl (fun hb10=>?_) (fun hb10=>?_)
 ·replace h:=ift h (ct hb10)
  refine Zh (Za (v:=.map (some b0)) rfl (Yq hC 0 (ZMe .i64 a1) rfl ag73 rfl rfl rfl (Za (v:=vI r8) rfl ?_)))
  refine Zj1 hC 1 a1 r8 rfl Js ZNe rfl rfl rfl (fun w10 hC=>?_) (.inl rfl)
  refine done ?_
  exact Zc2 rfl  ⟨Yu a0 a1 r8,rfl,h,(hC.getM 1 rfl),hC.belB⟩ (.inr rfl)
 ·replace h:=Zk h (cf hb10)
  refine Zh (Za (v:=.map (some b0)) rfl (Yq hC 0 (ZMe .i64 a1) rfl ag73 rfl rfl rfl (Zum hC 1 a1 rfl Js ZNe rfl rfl rfl fun w11 hC=>done ?_)))
  exact Zc2 rfl  ⟨Jo a0 a1,rfl,h,(hC.getM 1 rfl),hC.belB⟩ (.inr rfl)
def Zel (a0:ZMj) (K:List (A8×Int)→Prop):Prop :=
 Z8 (fun i10 (s10:(List (A8×Int))) nx10=>Zdv ((a0.terms.getD i10 ZEo).mono) (fun r10=>nx10 (Yu s10 r10 ((a0.terms.getD i10 ZEo).factor)))) (fun (s10:(List (A8×Int)))=>K s10) a0.terms.length 0 ([]:List (A8×Int))
theorem Zna (a0:ZMj)  {K:List (A8×Int)→Prop} (h:Zel a0 K) (w0:World) (q0:ZM3.rep a0 [u0_0] fp0 w0) :
  Calls ZMk 78 #[.agg #[u0_0]] w0 fun e w'=>∃ (r0:List (A8×Int)) (zb0:Nat),
   e=.returned (.map (some zb0))∧K r0∧(mapS zb0 r0).holds w'∧w0.heap.size≤zb0∧Bel w0 w':=by
 unfold Zel at h
 refine cof Tryz.func78 rfl 22 Tryz.ntmps78 ?_
 have hC:=ZM2 (X:=Nox) w0 [ZMg TForm a0 [u0_0] fp0] (al1 q0)
 have hp2:=(hC.getP 0 rfl)
 replace hC:=hC.derive 0 rfl (ZMg ZMi.ty.sl a0.terms [u0_0] fp0) (fun _=>(Xk hp2)) (fun _ hb_=>hb_)
 refine sr (Yg (v:=.agg #[u0_0]) hC [u0_0] rfl rfl fun b4 w6 hB_ hC=>Zd (v:=.map none) rfl (dn (sr (Zfh hC (kvA .i64) (vvI .i64) fun b7 w9 hB_ hC=>Zd (v:=.map (some b7)) rfl (dn (ZMh (sr (Z0 0 ZMo rfl sc53.size rfl rfl (Yb hC 1 (u0_0) rfl sc53 rfl rfl (Zu hC 0 rfl ZMr rfl (Za (v:=vI 0) rfl (dn (ZMn ?_)))))))))))))
 have hN10:a0.terms.length≤9223372036854775807:=Yw (hC.getP 0 rfl)
 refine Yi (S:=(List (A8×Int))) _ _ (fun i10 s10 e_ w_=>Zt e_ [(3,.map (some b7)),(8,u0_0),(9,vI (a0.terms.length:Int)),(10,vI (i10:Int))]∧Ctx Nox w0 w_ [mapS b7 s10] [ZMg ZMi.ty.sl a0.terms [u0_0] fp0,ZMg TForm a0 [u0_0] fp0]) a0.terms.length ?_ ?_ (s0:=([]:List (A8×Int))) ?_ h
 ·clear hC h
  rintro i10 s10 e_ w10 nx10 K10 hi10 ⟨hS_,hC⟩ h hK10
  rw [ue hS_]
  refine sr (Zn rfl rfl (dn (ZMh (Z5 rfl (decide_eq_true (by omega)) (ZMl (Ze (ZMh (ZMn (sr ?_)))))))))
  obtain ⟨Ad10,c10,hv10⟩:=Zw (hC.getP 0 rfl) i10 hi10
  refine Yn (len:=a0.terms.length) ZMr ag162.size (tr rfl hv10) rfl (ZMx _) (ZNf.2 hi10) (Jd (ZMs (a0.terms.getD i10 ZEo)) (Yd (hC.getP 0 rfl) hv10 i10 hi10) ag162 rfl rfl (Ys hC (ZMs (⟨ZMm,0⟩:Term)) Zfm rfl fun b10 w11 hB_ hC=>Z3 (v:=.agg (ZMf (ZMs (a0.terms.getD i10 ZEo)))) hC 0 (ZMs (a0.terms.getD i10 ZEo)) (ZMs (a0.terms.getD i10 ZEo)) rfl ag162.size rfl rfl rfl rfl rfl (ZMq rfl) rfl fun w12 hC=>dn ?_))
  refine cwd 6 Yo [0,0,2,6,0,16,63] [2,5] [0,1,4] (fun hM11 hM10 w13 hB_=>?_)
  replace hC:=hC.grow hB_
  refine bM 0 (.map (some b7)) rfl hM10 (Zc 7 1) (bF 1 (vQ b10) rfl rfl hM10 (fun _=>by exact Yt 0 ZMw rfl ag136.size rfl rfl) (Zc 7 3) (bL 2 (.agg (ZMf (ZMe .u8 ((a0.terms.getD i10 ZEo).mono)))) rfl rfl hM11 (fun _ hB_=>by exact Xa (hC.grow hB_) 0 (ZMe .u8 ((a0.terms.getD i10 ZEo).mono)) rfl ag136 rfl rfl rfl) (Zc 7 7) (bF 4 (.pointer (some ⟨b10,8,none⟩)) rfl rfl hM10 (fun _=>by exact Yt 8 ZMw rfl sc2.size rfl rfl) (Zc 7 23) (bL 5 (vI ((a0.terms.getD i10 ZEo).factor)) rfl rfl hM11 (fun _ hB_=>by exact Yh (hC.grow hB_) 0 (vI ((a0.terms.getD i10 ZEo).factor)) rfl sc2 rfl rfl) (Zc 7 55) (aO 3 rfl (Zf [.agg (ZMf (ZMe .u8 ((a0.terms.getD i10 ZEo).mono)))] _ Tryz.func134 rfl rfl rfl (Zka ((a0.terms.getD i10 ZEo).mono) h _) ?_))))))
  rintro _ w14 ⟨r10,rfl,h,hB10⟩
  refine rt ?_
  replace hC:=hC.grow hB10
  refine done (aK (by assumption) (Zc 7 63) (Z6 6 (by decide) (by decide) (by kernel_rfl) (by kernel_rfl) rfl ?_))
  refine Zj1 hC 1 r10 ((a0.terms.getD i10 ZEo).factor) rfl Js ZNe rfl rfl rfl (fun w15 hC=>?_) (.inl rfl)
  refine done (Z7 (Zr (Ze (Zh (Zq rfl rfl (Za (v:=vI (ZG5.wrap ((i10:Int)+1))) rfl (done ?_)))))))
  exact hK10 (Yu s10 r10 ((a0.terms.getD i10 ZEo).factor)) _ _ ⟨(sl ⟨rfl,rfl,rfl,(tr rfl (congrArg _ (Z2 hi10 hN10))),trivial⟩),(hC.xM [1] rfl)⟩ h
 ·clear hC h
  rintro s10 e_ w16 K10 ⟨hS_,hC⟩ h
  rw [ue hS_]
  refine sr (Zn rfl rfl (dn (ZMh (Z1 rfl (decide_eq_false (by omega)) ?_))))
  refine ZMv (Zj (Zj (Zx ?_)))
  refine Ze (sr (Za (v:=.map (some b7)) rfl (Zd (v:=.map (some b7)) rfl (dn (ZMp ?_)))))
  exact Zi rfl (Zg rfl) ⟨s10,b7,rfl,h,(hC.getM 0 rfl),(Zgv hC 0 rfl),hC.below⟩ (.inl rfl)
 ·skip
  exact⟨(slq rfl),(hC.xM [0] rfl)⟩
def Zkb (a0:A8) (a1:A8) (K:Int→Prop):Prop :=
 Z8 (fun i10 (s10:Unit) nx10=>(if a0.get i10≠a1.get i10 then K (ZG5.wrap ((a1.get i10) - (a0.get i10))) else nx10 ())) (fun (s10:Unit)=>K 0) 8 0 ()
theorem Zv1 (a0:A8) (a1:A8)  {K:Int→Prop} (h:Zkb a0 a1 K) (w0:World)  :
  Calls ZMk 158 #[.agg (ZMf (ZMe .i64 a0)),.agg (ZMf (ZMe .i64 a1))] w0 fun e w'=>∃ (r0:Int),
   e=.returned (vI r0)∧K r0∧Bel w0 w':=by
 unfold Zkb at h
 refine cof Tryz.func158 rfl 24 Tryz.ntmps158 ?_
 have hC:=ZM2 (X:=Nox) w0 [] (by simp)
 refine sr (Yg (v:=.agg (ZMf (ZMe .i64 a0))) hC (ZMe .i64 a0) rfl rfl fun b1 w3 hB_ hC=>Yg (v:=.agg (ZMf (ZMe .i64 a1))) hC (ZMe .i64 a1) rfl rfl fun b4 w6 hB_ hC=>Zd (v:=vI 0) rfl (dn (ZMh (sr (Za (v:=vI 0) rfl (dn (ZMn ?_)))))))
 refine Yi (S:=Unit) _ _ (fun i10 s10 e_ w_=>Zt e_ [(2,vQ b1),(3,vQ b4),(6,vI (i10:Int))]∧Ctx Nox w0 w_ [blk b4 73 (ZMe .i64 a1),blk b1 73 (ZMe .i64 a0)] []) 8 ?_ ?_ (s0:=()) ?_ h
 ·clear hC h
  rintro i10 s10 e_ w10 nx10 K10 hi10 ⟨hS_,hC⟩ h hK10
  rw [ue hS_]
  refine sr (Zn rfl rfl (dn (ZMh (Z5 rfl (decide_eq_true (by omega)) (ZMl (Ze (ZMh (ZMn (sr (Za (v:=vI (i10:Int)) rfl (Zd (v:=vI (i10:Int)) rfl (dn (ZMh ?_)))))))))))))
  refine cwd 6 Yo [0,1,3,0,8,24,63] [1,2,4,5] [0,3] (fun hM10 hM12 w11 hB_=>?_)
  replace hC:=hC.grow hB_
  refine bM 0 (vI (i10:Int)) rfl hM12 (Zc 7 1) (bL 1 (.pointer (some ⟨b1,i10,none⟩)) rfl rfl hM10 (fun _ hB_=>by exact Zag i10 ZM4 sc3.size rfl rfl (ZMx _) (by omega) (by omega)) (Zc 7 3) (bL 2 (vI (a0.get i10)) rfl rfl hM10 (fun _ hB_=>by exact Yh (hC.grow hB_) 1 (vI (a0.get i10)) rfl sc3 rfl (ZMu _ _ hi10)) (Zc 7 7) (bM 3 (vI (i10:Int)) rfl hM12 (Zc 7 15) (bL 4 (.pointer (some ⟨b4,i10,none⟩)) rfl rfl hM10 (fun _ hB_=>by exact Zag i10 ZM4 sc3.size rfl rfl (ZMx _) (by omega) (by omega)) (Zc 7 31) (bL 5 (vI (a1.get i10)) rfl rfl hM10 (fun _ hB_=>by exact Yh (hC.grow hB_) 0 (vI (a1.get i10)) rfl sc3 rfl (ZMu _ _ hi10)) (Zc 7 63) (Z6 6 (by decide) (by decide) (by kernel_rfl) (by kernel_rfl) rfl (Y6 rfl rfl (done (Z7 (Ze ?_))))))))))
  refine Zs rfl (fun hb10=>?_) (fun hb10=>?_)
  ·replace h:=ift h (ct hb10)
   refine ZMh ?_
   refine cwd 6 Yo [0,1,3,0,8,24,63,127] [1,2,4,5] [0,3] (fun hM11 hM13 w12 hB_=>?_)
   replace hC:=hC.grow hB_
   refine bM 0 (vI (i10:Int)) rfl hM13 (Zc 8 1) (bL 1 (.pointer (some ⟨b4,i10,none⟩)) rfl rfl hM11 (fun _ hB_=>by exact Zag i10 ZM4 sc3.size rfl rfl (ZMx _) (by omega) (by omega)) (Zc 8 3) (bL 2 (vI (a1.get i10)) rfl rfl hM11 (fun _ hB_=>by exact Yh (hC.grow hB_) 0 (vI (a1.get i10)) rfl sc3 rfl (ZMu _ _ hi10)) (Zc 8 7) (bM 3 (vI (i10:Int)) rfl hM13 (Zc 8 15) (bL 4 (.pointer (some ⟨b1,i10,none⟩)) rfl rfl hM11 (fun _ hB_=>by exact Zag i10 ZM4 sc3.size rfl rfl (ZMx _) (by omega) (by omega)) (Zc 8 31) (bL 5 (vI (a0.get i10)) rfl rfl hM11 (fun _ hB_=>by exact Yh (hC.grow hB_) 1 (vI (a0.get i10)) rfl sc3 rfl (ZMu _ _ hi10)) (Zc 8 63) (Z6 6 (by decide) (by decide) (by kernel_rfl) (by kernel_rfl) rfl (X3 rfl rfl (Zd (v:=vI (ZG5.wrap ((a1.get i10) - (a0.get i10)))) rfl (done (Z7 (Ze ?_)))))))))))
   refine ZMp (Ya (Zm (Zm (Ya (Zm ?_)))))
   exact Zi rfl (Zg rfl) ⟨ZG5.wrap ((a1.get i10) - (a0.get i10)),rfl,h,hC.below⟩ (.inl rfl)
  ·replace h:=Zk h (cf hb10)
   refine ZMl (Zr (Ze (Zh (Zq rfl rfl (Za (v:=vI (ZG5.wrap ((i10:Int)+1))) rfl (done ?_))))))
   exact hK10 () _ _ ⟨(sl ⟨rfl,rfl,(tr rfl (congrArg _ (Z2 hi10 (by decide)))),trivial⟩),hC⟩ h
 ·clear hC h
  rintro s10 e_ w13 K10 ⟨hS_,hC⟩ h
  rw [ue hS_]
  refine sr (Zn rfl rfl (dn (ZMh (Z1 rfl (decide_eq_false (by omega)) ?_))))
  refine ZMv (Zj (Zj (Zx ?_)))
  refine Ze (sr (Zd (v:=vI 0) rfl (dn (ZMp ?_))))
  exact Zi rfl (Zg rfl) ⟨0,rfl,h,hC.below⟩ (.inl rfl)
 ·skip
  exact⟨(slq rfl),hC⟩
end Go.Proofs.YtaagfepgbofmlaaGreat
