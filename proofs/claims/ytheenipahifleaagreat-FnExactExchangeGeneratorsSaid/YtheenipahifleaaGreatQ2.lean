import Derived.Test.YtheenipahifleaaGreatQ1
set_option linter.unusedSectionVars false
set_option linter.unusedSimpArgs false
set_option linter.unusedVariables false
open Go renaming wp_seq→ZF5,wp_skip→ZF8,wp_block→ZGb,wp_ret→ZGd,wp_exit→ZGj
open Go.Instr renaming build→ZG0,buildSlice→ZHc
open Go.IntKind renaming i64→Zxa,u8→ZGh
open Go.Proofs.Tryz renaming prog→ZF7,underlying55→ZGc,underlying53→ZGf,underlying90→ZGl,underlying88→ZGn,underlying22→ZGo,underlying32→ZGp,underlying110→ZGs,underlying28→ZGt,func40→ZGw,func60→ZGx,func59→ZGy,underlying99→ZG1,underlying5→ZG7,func69→ZG8,func41→ZG9,func82→ZHa,underlying2→ZHb,underlying3→ZHd,func100→ZHf
open Go.Value renaming ownBlock→Zvi
open Inhabited renaming default→Zuw
open Int renaming tmod→Zvh,natCast_nonneg→ZGm,ofNat_lt→ZG4
open List renaming toArray→ZF4,length_eq_one_iff→ZG3
open Nat renaming le_of_ble_eq_true→ZGe,le_trans→Zux
open Option renaming toList→ZG2
open Vc renaming ETerm→ZF6,Form→ZF9,TForm→ZGr
open Vc.A8 renaming enc→ZF3,zero→ZGa,enc_get→ZGi,enc_set→ZGz
open Vc.Ctx renaming start→ZGq
open Vc.Enc renaming encs_append→ZGu,encs_one'→ZG5,encs→ZG6
open Vc.Term renaming enc→ZGg
open Vc.Tr renaming item→ZGk
open Vc.Ty renaming item→ZCh
set_option maxRecDepth 4000
set_option maxHeartbeats 4000000
namespace Go.Proofs.YtheenipahifleaaGreat
open Go Go.RowKit Vc
variable {b0 bp0 b1 bp1 b2 bp2 b3 bp3 b4 bp4 b5 bp5 b6 bp6 b7 bp7 mb0:Nat} {u0_0 u0_1 u0_2 u0_3 u0_4 u0_5 u1_0 u1_1 u1_2 u1_3 u1_4 u1_5 u2_0 u2_1 u2_2 u2_3 u2_4 u2_5 u3_0 u3_1 u3_2 u3_3 u3_4 u3_5 u4_0 u4_1 u4_2 u4_3 u4_4 u4_5 u5_0 u5_1 u5_2 u5_3 u5_4 u5_5 u6_0 u6_1 u6_2 u6_3 u6_4 u6_5 u7_0 u7_1 u7_2 u7_3 u7_4 u7_5:Value} {fp0 fp1 fp2 fp3 fp4 fp5 fp6 fp7 fp0_0 fp0_1 fp0_2 fp0_3 fp0_4 fp0_5 fp1_0 fp1_1 fp1_2 fp1_3 fp1_4 fp1_5 F0:List Nat}
theorem sc2:ScaT ZF7 2:=⟨⟨_,ZHb,rfl⟩,by kernel_rfl⟩
theorem sc5:ScaT ZF7 5:=⟨⟨_,ZG7,rfl⟩,by kernel_rfl⟩
theorem z55:Xc ZF7 55 (.agg #[.slice none 0 0]):=by unfold Xc; kernel_rfl
theorem Za5  (w:World):(ZG0 55 #[]).run ZF7 w=.ok (.agg #[.slice none 0 0]) w:=by kernel_rfl
theorem ag55:AggT ZF7 55 1:=⟨⟨_,ZGc,rfl⟩,by kernel_rfl⟩
theorem mixed:ZF7.follows .mixedOrders=true:=by kernel_rfl
theorem ag88:AggT ZF7 88 8:=⟨⟨_,ZGn,rfl⟩,by kernel_rfl⟩
theorem Zee (x0:A8) (x1:Int) (w:World):(ZG0 90 #[(0,.agg (ZF4 (ZF3 .u8 x0))),(1,.int .i64 x1)]).run ZF7 w=.ok (.agg (ZF4 (ZGg (⟨x0,x1⟩:Term)))) w:=by kernel_rfl
theorem Zdd (x0:Term) (w:World):(ZHc 53 1 #[(0,.agg (ZF4 (ZGg x0)))]).run ZF7 w=.ok (.slice (some ⟨w.heap.size,0,none⟩) 1 1) (w.alloc (.cells (ZF4 (ZF6.encs [x0])) 90)):=by kernel_rfl
theorem Zpa (x0:Value) (hx0:Zbh x0) (w:World):(ZG0 55 #[(0,x0)]).run ZF7 w=.ok (.agg #[x0]) w:=by obtain ⟨_,_,_,rfl⟩:=hx0; kernel_rfl
theorem sc53:ScaT ZF7 53:=⟨⟨_,ZGf,rfl⟩,by kernel_rfl⟩
theorem ag90:AggT ZF7 90 9:=⟨⟨_,ZGl,rfl⟩,by kernel_rfl⟩
theorem Zde:Ju ZF7 90 (.agg (ZF4 (ZGg (⟨ZGa,0⟩:Term)))) 9 16:=by unfold Ju; kernel_rfl
theorem z88:Xc ZF7 88 (.agg (ZF4 (ZF3 .u8 ZGa))):=by unfold Xc; kernel_rfl
theorem Zdf  (w:World):(ZG0 88 #[]).run ZF7 w=.ok (.agg (ZF4 (ZF3 .u8 ZGa))) w:=by kernel_rfl
theorem z90:Xc ZF7 90 (.agg (ZF4 (ZGg (⟨ZGa,0⟩:Term)))):=by unfold Xc; kernel_rfl
theorem sc22:ScaT ZF7 22:=⟨⟨_,ZGo,rfl⟩,by kernel_rfl⟩
theorem sc28:ScaT ZF7 28:=⟨⟨_,ZGt,rfl⟩,by kernel_rfl⟩
theorem ag32:AggT ZF7 32 2:=⟨⟨_,ZGp,rfl⟩,by kernel_rfl⟩
theorem Js:Xc ZF7 110 (.agg (ZF4 (ZF3 .i64 ZGa))):=by unfold Xc; kernel_rfl
theorem Zef  (w:World):(ZG0 110 #[]).run ZF7 w=.ok (.agg (ZF4 (ZF3 .i64 ZGa))) w:=by kernel_rfl
theorem ag110:AggT ZF7 110 8:=⟨⟨_,ZGs,rfl⟩,by kernel_rfl⟩
theorem sc3:ScaT ZF7 3:=⟨⟨_,ZHd,rfl⟩,by kernel_rfl⟩
theorem Xw:KeyT ZF7 110 (kvA .i64):=Zn8 ZGs ZHd sc3
theorem z2:Xc ZF7 2 (.int .i64 0):=by unfold Xc; kernel_rfl
theorem Zpb  (w:World):(ZHc 128 0 #[]).run ZF7 w=.ok (.slice (some ⟨w.heap.size,0,none⟩) 0 0) (w.alloc (.cells (ZF4 ((EA .i64).encs [])) 110)):=by kernel_rfl
theorem Zpc (x0:A8) (w:World):(ZHc 128 1 #[(0,.agg (ZF4 (ZF3 .i64 x0)))]).run ZF7 w=.ok (.slice (some ⟨w.heap.size,0,none⟩) 1 1) (w.alloc (.cells (ZF4 ((EA .i64).encs [x0])) 110)):=by kernel_rfl
theorem Zpd:Ju ZF7 110 (.agg (ZF4 (ZF3 .i64 ZGa))) 8 64:=by unfold Ju; kernel_rfl
theorem Ziv:Xc ZF7 145 (.agg (ZF4 (List.replicate 8 (Value.map none)))):=by unfold Xc; kernel_rfl
theorem Zpe (w:World):(ZG0 145 #[]).run ZF7 w=.ok (.agg (ZF4 (List.replicate 8 (Value.map none)))) w:=by kernel_rfl
theorem ag145:AggT ZF7 145 8:=⟨⟨_,Tryz.underlying145,rfl⟩,by kernel_rfl⟩
theorem sc99:ScaT ZF7 99:=⟨⟨_,ZG1,rfl⟩,by kernel_rfl⟩
theorem el2:Ju ZF7 2 (.int .i64 0) 1 8:=by unfold Ju; kernel_rfl
theorem ag87:AggT ZF7 87 8:=⟨⟨_,Tryz.underlying87,rfl⟩,by kernel_rfl⟩
theorem ag122:AggT ZF7 122 9:=⟨⟨_,Tryz.underlying122,rfl⟩,by kernel_rfl⟩
theorem sc49:ScaT ZF7 49:=⟨⟨_,Tryz.underlying49,rfl⟩,by kernel_rfl⟩
def Zcb (a0:Int) (a1:Int) (a2:Int) (K:Bool→Prop):Prop :=
 (if a0≥a1 then K (decide (a0≤a2)) else K false)
theorem Ziw (a0:Int) (a1:Int) (a2:Int)  {K:Bool→Prop} (h:Zcb a0 a1 a2 K) (w0:World)  :
  Calls ZF7 39 #[vI a0,vI a1,vI a2] w0 fun e w'=>∃ (r0:Bool),
   e=.returned (.bool r0)∧K r0∧Bel w0 w':=by
 unfold Zcb at h
 refine cof Tryz.func39 rfl 15 Tryz.ntmps39 ?_
 have hC:=ZGq (X:=Nox) w0 [] (by simp)
 refine sr (Zc (v:=.bool false) rfl (dn (sr (Zb (v:=vI a0) rfl (Zb (v:=vI a1) rfl (Zbf rfl rfl (Zb (v:=.bool (decide (a0≥a1))) rfl ?_)))))))
 refine Y1 (decide (a0≥a1)) (fun hb1=>?_) (fun hb1=>?_)
 ·replace h:=ift h (ct hb1)
  refine Zi 3 10 rfl rfl hb1 (Zb (v:=vI a0) rfl (Zi 3 10 rfl rfl hb1 (Zb (v:=vI a2) rfl (Zi 3 10 rfl rfl hb1 (Zbz rfl rfl (Z0 (v:=.bool (decide (a0≤a2))) (b:=true) (tr rfl (congrArg _ hb1)) rfl (Zc (v:=.bool (decide (a0≤a2))) rfl (dn (ZGd ?_)))))))))
  exact Zj rfl (Zg rfl) ⟨decide (a0≤a2),rfl,h,hC.below⟩ (.inl rfl)
 ·replace h:=Zk h (cf hb1)
  refine Zh (b:=false) 3 10 rfl (tr rfl (congrArg _ hb1)) (by decide) (Zh (b:=false) 3 10 rfl (tr rfl (congrArg _ hb1)) (by decide) (Zh (b:=false) 3 10 rfl (tr rfl (congrArg _ hb1)) (by decide) (Z0 (v:=.bool false) (b:=false) (tr rfl (congrArg _ hb1)) rfl (Zc (v:=.bool false) rfl (dn (ZGd ?_))))))
  exact Zj rfl (Zg rfl) ⟨false,rfl,h,hC.below⟩ (.inl rfl)
def Zeg (a0:List Int) (K:Bool→Prop):Prop :=
 Yi (fun i10 (s10:Unit) nx10=>Zcb (a0.getD i10 Zuw) 1 12 (fun r10=>(if¬ (r10=true) then K false else nx10 ()))) (fun (s10:Unit)=>K (decide ((a0.length:Int)≤8))) a0.length 0 ()
theorem Zpf (a0:List Int)  {K:Bool→Prop} (h:Zeg a0 K) (w0:World) (q0:TInts.rep a0 [u0_0] fp0 w0) :
  Calls ZF7 68 #[u0_0] w0 fun e w'=>∃ (r0:Bool),
   e=.returned (.bool r0)∧K r0∧Bel w0 w':=by
 unfold Zeg at h
 refine cof Tryz.func68 rfl 19 Tryz.ntmps68 ?_
 have hC:=ZGq (X:=Nox) w0 [ZCh TInts a0 [u0_0] fp0] (al1 q0)
 refine sr (Zc (v:=.bool false) rfl (dn (ZF5 (sr (Zc (v:=vI 0) rfl (dn (ZGb ?_)))))))
 have hN10:a0.length≤9223372036854775807:=Y3 (hC.getP 0 rfl)
 refine Yn (S:=Unit) _ _ (fun i10 s10 e_ w_=>Zy e_ [(0,u0_0),(3,vI (i10:Int))]∧Ctx Nox w0 w_ [] [ZCh TInts a0 [u0_0] fp0]) a0.length ?_ ?_ (s0:=()) ?_ h
 ·clear hC h
  rintro i10 s10 e_ w10 nx10 K10 hi10 ⟨hS_,hC⟩ h hK10
  rw [ue hS_]
  refine ZF5 (sr (Zb (v:=vI (i10:Int)) rfl (Zb (v:=u0_0) rfl (Zv hC 0 rfl ZGo rfl (Zn rfl rfl (dn (Z8 rfl (decide_eq_true (by omega)) (ZF8 (Zd (ZF5 (ZGb (sr (Zb (v:=u0_0) rfl (Zb (v:=vI (i10:Int)) rfl ?_))))))))))))))
  obtain ⟨Ad10,c10,hv10⟩:=Zz (hC.getP 0 rfl) i10 hi10
  refine Yq (len:=a0.length) ZGo sc2.size (tr rfl hv10) rfl (ZGm _) (ZG4.2 hi10) (Xb (vI (a0.getD i10 Zuw)) (Yf (hC.getP 0 rfl) hv10 i10 hi10) sc2 rfl (Zf [vI (a0.getD i10 Zuw),vI 1,vI 12] _ Tryz.func39 rfl rfl rfl (Ziw (a0.getD i10 Zuw) 1 12 h _) ?_))
  rintro _ w11 ⟨r10,rfl,h,hB10⟩
  refine rt ?_
  replace hC:=hC.grow hB10
  refine Xa rfl (dn ?_)
  refine Zq rfl (fun hb10=>?_) (fun hb10=>?_)
  ·replace h:=ift h (Y0 (Xf hb10))
   refine sr (Zc (v:=.bool false) rfl (dn ?_))
   refine ZGd (Zw (Ze (Ze (Zw (Ze ?_)))))
   exact Zj rfl (Zg rfl) ⟨false,rfl,h,hC.below⟩ (.inl rfl)
  ·replace h:=Zk h (not_not_intro ((Xg hb10)))
   refine ZF8 (Zs (Zd (Zm (Zb (v:=vI (i10:Int)) rfl (Zp rfl rfl (Zc (v:=vI (Zxa.wrap ((i10:Int)+1))) rfl (done ?_)))))))
   exact hK10 () _ _ ⟨(sl ⟨rfl,(tr rfl (congrArg _ (Z6 hi10 hN10))),trivial⟩),hC⟩ h
 ·clear hC h
  rintro s10 e_ w12 K10 ⟨hS_,hC⟩ h
  rw [ue hS_]
  refine ZF5 (sr (Zb (v:=vI (a0.length:Int)) rfl (Zb (v:=u0_0) rfl (Zv hC 0 rfl ZGo rfl (Zn rfl rfl (dn (Z9 rfl (decide_eq_false (by omega)) ?_)))))))
  refine ZGj (Zl (Zl (Z5 ?_)))
  refine Zd (sr (Zb (v:=u0_0) rfl (Zv hC 0 rfl ZGo rfl (Zbz rfl rfl (Zc (v:=.bool (decide ((a0.length:Int)≤8))) rfl (dn (ZGd ?_)))))))
  exact Zj rfl (Zg rfl) ⟨decide ((a0.length:Int)≤8),rfl,h,hC.below⟩ (.inl rfl)
 ·skip
  exact⟨(slq rfl),hC⟩
def Zeh (a0:List Int) (a1:A8) (K:Bool→Prop):Prop :=
 Yi (fun i10 (s10:Unit) nx10=>(if(i10:Int)≥(a0.length:Int) then(if a1.get i10≠0 then K false else nx10 ()) else(if a1.get i10 > 20 then K false else((0≤(i10:Int)∧(i10:Int) < (a0.length:Int))∧(if Zvh (a0.getD i10 Zuw) 2≠0 then(if a1.get i10 > 1 then K false else nx10 ()) else nx10 ()))))) (fun (s10:Unit)=>K true) 8 0 ()
theorem Zpg (a0:List Int) (a1:A8)  {K:Bool→Prop} (h:Zeh a0 a1 K) (w0:World) (q0:TInts.rep a0 [u0_0] fp0 w0) :
  Calls ZF7 81 #[u0_0,.agg (ZF4 (ZF3 .u8 a1))] w0 fun e w'=>∃ (r0:Bool),
   e=.returned (.bool r0)∧K r0∧Bel w0 w':=by
 unfold Zeh at h
 refine cof Tryz.func81 rfl 38 Tryz.ntmps81 ?_
 have hC:=ZGq (X:=Nox) w0 [ZCh TInts a0 [u0_0] fp0] (al1 q0)
 refine sr (Yj (v:=.agg (ZF4 (ZF3 .u8 a1))) hC (ZF3 .u8 a1) rfl rfl fun b2 w4 hB_ hC=>Zc (v:=.bool false) rfl (dn (ZF5 (sr (Zc (v:=vI 0) rfl (dn (ZGb ?_)))))))
 refine Yn (S:=Unit) _ _ (fun i10 s10 e_ w_=>Zy e_ [(0,u0_0),(3,vQ b2),(5,vI (i10:Int))]∧Ctx Nox w0 w_ [blk b2 88 (ZF3 .u8 a1)] [ZCh TInts a0 [u0_0] fp0]) 8 ?_ ?_ (s0:=()) ?_ h
 ·clear hC h
  rintro i10 s10 e_ w10 nx10 K10 hi10 ⟨hS_,hC⟩ h hK10
  rw [ue hS_]
  refine ZF5 (sr (Zb (v:=vI (i10:Int)) rfl (Zn rfl rfl (dn (Z8 rfl (decide_eq_true (by omega)) (ZF8 (Zd (ZF5 (ZGb (ZGb (sr (Zb (v:=vI (i10:Int)) rfl (Zb (v:=u0_0) rfl (Zv hC 0 rfl ZGo rfl (Zbf rfl rfl (Zc (v:=.bool (decide ((i10:Int)≥(a0.length:Int)))) rfl (dn ?_)))))))))))))))))
  refine Zq rfl (fun hb12=>?_) (fun hb12=>?_)
  ·replace h:=ift h (ct hb12)
   refine sr (Zb (v:=vI (i10:Int)) rfl (Y6 i10 ZGn sc5.size rfl rfl (ZGm _) (by omega) (by omega) (Z4 hC 0 (.int .u8 (a1.get i10)) rfl sc5 rfl (ZGi _ _ hi10) (Y4 rfl rfl (dn ?_)))))
   refine Zq rfl (fun hb13=>?_) (fun hb13=>?_)
   ·replace h:=ift h (ct hb13)
    refine sr (Zc (v:=.bool false) rfl (dn ?_))
    refine ZGd (Zw (Zw (Ze (Ze (Zw (Ze ?_))))))
    exact Zj rfl (Zg rfl) ⟨false,rfl,h,hC.below⟩ (.inl rfl)
   ·replace h:=Zk h (cf hb13)
    refine ZF8 (Zs (Zs (Zd (Zm (Zb (v:=vI (i10:Int)) rfl (Zp rfl rfl (Zc (v:=vI (Zxa.wrap ((i10:Int)+1))) rfl (done ?_))))))))
    exact hK10 () _ _ ⟨(sl ⟨rfl,rfl,(tr rfl (congrArg _ (Z6 hi10 (by decide)))),trivial⟩),hC⟩ h
  ·replace h:=Zk h (cf hb12)
   refine sr (Zb (v:=vI (i10:Int)) rfl (Y6 i10 ZGn sc5.size rfl rfl (ZGm _) (by omega) (by omega) (Z4 hC 0 (.int .u8 (a1.get i10)) rfl sc5 rfl (ZGi _ _ hi10) (Xy rfl rfl (Zb (v:=.bool (decide (a1.get i10 > 20))) rfl ?_)))))
   refine Y1 (decide (a1.get i10 > 20)) (fun hb10=>?_) (fun hb10=>?_)
   ·replace h:=ift h (ct hb10)
    refine Zh (b:=true) 4 24 rfl (tr rfl (congrArg _ hb10)) (by decide) (Zh (b:=true) 4 24 rfl (tr rfl (congrArg _ hb10)) (by decide) (Zh (b:=true) 4 24 rfl (tr rfl (congrArg _ hb10)) (by decide) (Zh (b:=true) 4 24 rfl (tr rfl (congrArg _ hb10)) (by decide) (Zh (b:=true) 4 24 rfl (tr rfl (congrArg _ hb10)) (by decide) (Zh (b:=true) 4 24 rfl (tr rfl (congrArg _ hb10)) (by decide) (Zh (b:=true) 4 24 rfl (tr rfl (congrArg _ hb10)) (by decide) (X7 11 31 rfl rfl (X7 11 31 rfl rfl (X7 11 31 rfl rfl (X7 11 31 rfl rfl (Zh (b:=true) 4 24 rfl (tr rfl (congrArg _ hb10)) (by decide) (Z0 (v:=.bool true) (b:=true) (tr rfl (congrArg _ hb10)) rfl (Zc (v:=.bool true) rfl (dn (Z8 rfl rfl (sr (Zc (v:=.bool false) rfl (dn ?_))))))))))))))))))
    refine ZGd (Zw (Zw (Ze (Ze (Zw (Ze ?_))))))
    exact Zj rfl (Zg rfl) ⟨false,rfl,h,hC.below⟩ (.inl rfl)
   ·replace h:=Zk h (cf hb10)
    refine Zi 4 24 rfl rfl hb10 (Zb (v:=u0_0) rfl (Zi 4 24 rfl rfl hb10 (Zb (v:=vI (i10:Int)) rfl (Zi 4 24 rfl rfl hb10 ?_))))
    obtain ⟨⟨h10,h11⟩,h⟩:=h
    obtain ⟨Ad10,c10,hv10⟩:=Zz (hC.getP 0 rfl) i10 (show i10 < a0.length by omega)
    refine Yq (len:=a0.length) ZGo sc2.size (tr rfl hv10) rfl h10 h11 (Zi 4 24 rfl rfl hb10 (Xb (vI (a0.getD i10 Zuw)) (Yf (hC.getP 0 rfl) hv10 i10 (show i10 < a0.length by omega)) sc2 rfl (Zi 4 24 rfl rfl hb10 (Jp rfl rfl (by decide) (Zi 4 24 rfl rfl hb10 (Y4 rfl rfl (Zi 4 24 rfl rfl hb10 (Zb (v:=.bool (decide (Zvh (a0.getD i10 Zuw) 2≠0))) rfl ?_))))))))
    refine Y1 (decide (Zvh (a0.getD i10 Zuw) 2≠0)) (fun hb11=>?_) (fun hb11=>?_)
    ·replace h:=ift h (ct hb11)
     refine Zi 11 31 rfl rfl hb11 (Zb (v:=vI (i10:Int)) rfl (Zi 11 31 rfl rfl hb11 (Y6 i10 ZGn sc5.size rfl rfl (ZGm _) (by omega) (by omega) (Zi 11 31 rfl rfl hb11 (Z4 hC 0 (.int .u8 (a1.get i10)) rfl sc5 rfl (ZGi _ _ hi10) (Zi 11 31 rfl rfl hb11 (Xy rfl rfl (Zi 4 24 rfl rfl hb10 (Z0 (v:=.bool (decide (a1.get i10 > 1))) (b:=true) (tr rfl (congrArg _ hb11)) rfl (Z0 (v:=.bool (decide (a1.get i10 > 1))) (b:=false) (tr rfl (congrArg _ hb10)) rfl (Zc (v:=.bool (decide (a1.get i10 > 1))) rfl (dn ?_))))))))))))
     refine Zq rfl (fun hb14=>?_) (fun hb14=>?_)
     ·replace h:=ift h (ct hb14)
      refine sr (Zc (v:=.bool false) rfl (dn ?_))
      refine ZGd (Zw (Zw (Ze (Ze (Zw (Ze ?_))))))
      exact Zj rfl (Zg rfl) ⟨false,rfl,h,hC.below⟩ (.inl rfl)
     ·replace h:=Zk h (cf hb14)
      refine ZF8 (Zs (Zs (Zd (Zm (Zb (v:=vI (i10:Int)) rfl (Zp rfl rfl (Zc (v:=vI (Zxa.wrap ((i10:Int)+1))) rfl (done ?_))))))))
      exact hK10 () _ _ ⟨(sl ⟨rfl,rfl,(tr rfl (congrArg _ (Z6 hi10 (by decide)))),trivial⟩),hC⟩ h
    ·replace h:=Zk h (cf hb11)
     refine Zh (b:=false) 11 31 rfl (tr rfl (congrArg _ hb11)) (by decide) (Zh (b:=false) 11 31 rfl (tr rfl (congrArg _ hb11)) (by decide) (Zh (b:=false) 11 31 rfl (tr rfl (congrArg _ hb11)) (by decide) (Zh (b:=false) 11 31 rfl (tr rfl (congrArg _ hb11)) (by decide) (Zi 4 24 rfl rfl hb10 (Z0 (v:=.bool false) (b:=false) (tr rfl (congrArg _ hb11)) rfl (Z0 (v:=.bool false) (b:=false) (tr rfl (congrArg _ hb10)) rfl (Zc (v:=.bool false) rfl (dn (Z9 rfl rfl (ZF8 (Zs (Zs (Zd (Zm (Zb (v:=vI (i10:Int)) rfl (Zp rfl rfl (Zc (v:=vI (Zxa.wrap ((i10:Int)+1))) rfl (done ?_))))))))))))))))))
     exact hK10 () _ _ ⟨(sl ⟨rfl,rfl,(tr rfl (congrArg _ (Z6 hi10 (by decide)))),trivial⟩),hC⟩ h
 ·clear hC h
  rintro s10 e_ w11 K10 ⟨hS_,hC⟩ h
  rw [ue hS_]
  refine ZF5 (sr (Zb (v:=vI 8) rfl (Zn rfl rfl (dn (Z9 rfl (decide_eq_false (by omega)) ?_)))))
  refine ZGj (Zl (Zl (Z5 ?_)))
  refine Zd (sr (Zc (v:=.bool true) rfl (dn (ZGd ?_))))
  exact Zj rfl (Zg rfl) ⟨true,rfl,h,hC.below⟩ (.inl rfl)
 ·skip
  exact⟨(slq rfl),hC⟩
def Xz (a0:Int) (K:Int→Prop):Prop :=
 K (Zvh (Zxa.wrap ((Zvh a0 10007)+10007)) 10007)
theorem Zbj (a0:Int)  {K:Int→Prop} (h:Xz a0 K) (w0:World)  :
  Calls ZF7 40 #[vI a0] w0 fun e w'=>∃ (r0:Int),
   e=.returned (vI r0)∧K r0∧Bel w0 w':=by
 unfold Xz at h
 refine cof ZGw rfl 7 Tryz.ntmps40 ?_
 have hC:=ZGq (X:=Nox) w0 [] (by simp)
 refine sr (Zc (v:=vI 0) rfl (dn (sr (Zb (v:=vI a0) rfl (Jp rfl rfl (by decide) (Zp rfl rfl (Jp rfl rfl (by decide) (Zc (v:=vI (Zvh (Zxa.wrap ((Zvh a0 10007)+10007)) 10007)) rfl (dn (ZGd ?_))))))))))
 exact Zj rfl (Zg rfl) ⟨Zvh (Zxa.wrap ((Zvh a0 10007)+10007)) 10007,rfl,h,hC.below⟩ (.inl rfl)
def Xs (a0:A8) (a1:Int) (K:ZF9→Prop):Prop :=
 Xz a1 (fun r11=>(if r11=0 then K (⟨[]⟩:ZF9) else Xz a1 (fun r10=>K (⟨[(⟨a0,r10⟩:Term)]⟩:ZF9))))
theorem Za6 (a0:A8) (a1:Int)  {K:ZF9→Prop} (h:Xs a0 a1 K) (w0:World)  :
  Calls ZF7 59 #[.agg (ZF4 (ZF3 .u8 a0)),vI a1] w0 fun e w'=>∃ (r0:ZF9) (z0_0:Value) (fz0:List Nat),
   e=.returned (.agg #[z0_0])∧K r0∧(ZGk (Zr 90) r0 [z0_0] fz0).holds w'∧(∀ b,b∈fz0→w0.heap.size≤b)∧Bel w0 w':=by
 unfold Xs at h
 refine cof ZGy rfl 15 Tryz.ntmps59 ?_
 have hC:=ZGq (X:=Nox) w0 [] (by simp)
 refine sr (Yj (v:=.agg (ZF4 (ZF3 .u8 a0))) hC (ZF3 .u8 a0) rfl rfl fun b1 w3 hB_ hC=>Z1 hC [.slice none 0 0] z55 rfl fun b4 w6 hB_ hC=>dn (ZF5 (sr (Zb (v:=vI a1) rfl (Zf [vI a1] _ ZGw rfl rfl rfl (Zbj a1 h _) ?_)))))
 rintro _ w9 ⟨r11,rfl,h,hB10⟩
 refine rt ?_
 replace hC:=hC.grow hB10
 refine Je rfl rfl (dn ?_)
 refine Zq rfl (fun hb10=>?_) (fun hb10=>?_)
 ·replace h:=ift h (ct hb10)
  refine sr (Y5 [] rfl (Za5   _) (Zo (v:=.agg #[.slice none 0 0]) hC 0 [.slice none 0 0] [.slice none 0 0] rfl ag55.size rfl rfl rfl rfl rfl (ZGe rfl) rfl fun w10 hC=>dn ?_))
  refine ZGd (Ze ?_)
  exact Zj rfl (Y2 hC 0 rfl ag55 rfl rfl) ⟨(⟨[]⟩:ZF9),.slice none 0 0,[],rfl,h,(X5 (J7 _ _ _)),(fun b hb=>absurd hb (by simp)),hC.below⟩ (.inl rfl)
 ·replace h:=Zk h (cf hb10)
  refine ZF8 (Zd (ZF5 ?_))
  refine cwd 3 mixed [0,0,2,7,15,31,63] [0] [1] (fun hM10 hM11 w11 hB_=>?_)
  replace hC:=hC.grow hB_
  refine bL 0 (.agg (ZF4 (ZF3 .u8 a0))) rfl rfl hM10 (fun _ hB_=>by exact Y9 (hC.grow hB_) 1 (ZF3 .u8 a0) rfl ag88 rfl rfl rfl) (Za 7 1) (bM 1 (vI a1) rfl hM11 (Za 7 3) (aO 2 rfl (Zf [vI a1] _ ZGw rfl rfl rfl (Zbj a1 h _) ?_)))
  rintro _ w12 ⟨r10,rfl,h,hB11⟩
  refine rt ?_
  replace hC:=hC.grow hB11
  refine done (aK (by assumption) (Za 7 7) (Z2 3 (by decide) (by decide) (by kernel_rfl) (by kernel_rfl) rfl (Y5 [(0,.agg (ZF4 (ZF3 .u8 a0))),(1,vI r10)] rfl (Zee a0 r10  _) (Jk (sz:=9) hC [(0,.agg (ZF4 (ZGg (⟨a0,r10⟩:Term))))] (ZF6.encs [(⟨a0,r10⟩:Term)]) rfl (fun _=>Zdd (⟨a0,r10⟩:Term) _) rfl (by decide) fun b10 w13 hB_ hC=>Y5 [(0,.slice (some ⟨b10,0,none⟩) 1 1)] rfl (Zpa (.slice (some ⟨b10,0,none⟩) 1 1) (Zgf (hC.getM 0 rfl)) _) (Zo (v:=.agg #[.slice (some ⟨b10,0,none⟩) 1 1]) hC 1 [.slice (some ⟨b10,0,none⟩) 1 1] [.slice (some ⟨b10,0,none⟩) 1 1] rfl ag55.size rfl rfl rfl rfl (Ye (Yr (hC.getM 0 rfl)) rfl) (ZGe rfl) rfl fun w14 hC=>done (Z3 (Zd (ZGd ?_))))))))
  exact Zj rfl (Y2 hC 1 rfl ag55 rfl rfl) ⟨(⟨[(⟨a0,r10⟩:Term)]⟩:ZF9),.slice (some ⟨b10,0,none⟩) 1 1,(ZG2 (Zvi (.slice (some ⟨b10,0,none⟩) 1 1))),rfl,h,(X5 (Jc (hC.getM 0 rfl))),(X3 hC 0 rfl),hC.below⟩ (.inl rfl)
def Zcc (a0:A8) (a1:A8) (K:Bool→Prop):Prop :=
 Yi (fun i10 (s10:Unit) nx10=>(if a0.get i10≠a1.get i10 then K (decide (a0.get i10 > a1.get i10)) else nx10 ())) (fun (s10:Unit)=>K false) 8 0 ()
theorem Zix (a0:A8) (a1:A8)  {K:Bool→Prop} (h:Zcc a0 a1 K) (w0:World)  :
  Calls ZF7 69 #[.agg (ZF4 (ZF3 .u8 a0)),.agg (ZF4 (ZF3 .u8 a1))] w0 fun e w'=>∃ (r0:Bool),
   e=.returned (.bool r0)∧K r0∧Bel w0 w':=by
 unfold Zcc at h
 refine cof ZG8 rfl 24 Tryz.ntmps69 ?_
 have hC:=ZGq (X:=Nox) w0 [] (by simp)
 refine sr (Yj (v:=.agg (ZF4 (ZF3 .u8 a0))) hC (ZF3 .u8 a0) rfl rfl fun b1 w3 hB_ hC=>Yj (v:=.agg (ZF4 (ZF3 .u8 a1))) hC (ZF3 .u8 a1) rfl rfl fun b4 w6 hB_ hC=>Zc (v:=.bool false) rfl (dn (ZF5 (sr (Zc (v:=vI 0) rfl (dn (ZGb ?_)))))))
 refine Yn (S:=Unit) _ _ (fun i10 s10 e_ w_=>Zy e_ [(2,vQ b1),(3,vQ b4),(5,vI (i10:Int))]∧Ctx Nox w0 w_ [blk b4 88 (ZF3 .u8 a1),blk b1 88 (ZF3 .u8 a0)] []) 8 ?_ ?_ (s0:=()) ?_ h
 ·clear hC h
  rintro i10 s10 e_ w10 nx10 K10 hi10 ⟨hS_,hC⟩ h hK10
  rw [ue hS_]
  refine ZF5 (sr (Zb (v:=vI (i10:Int)) rfl (Zn rfl rfl (dn (Z8 rfl (decide_eq_true (by omega)) (ZF8 (Zd (ZF5 (ZGb (ZF5 ?_))))))))))
  refine cwd 6 mixed [0,1,3,0,8,24,63] [1,2,4,5] [0,3] (fun hM10 hM12 w11 hB_=>?_)
  replace hC:=hC.grow hB_
  refine bM 0 (vI (i10:Int)) rfl hM12 (Za 7 1) (bL 1 (.pointer (some ⟨b1,i10,none⟩)) rfl rfl hM10 (fun _ hB_=>by exact Jf i10 ZGn sc5.size rfl rfl (ZGm _) (by omega) (by omega)) (Za 7 3) (bL 2 (.int .u8 (a0.get i10)) rfl rfl hM10 (fun _ hB_=>by exact Yd (hC.grow hB_) 1 (.int .u8 (a0.get i10)) rfl sc5 rfl (ZGi _ _ hi10)) (Za 7 7) (bM 3 (vI (i10:Int)) rfl hM12 (Za 7 15) (bL 4 (.pointer (some ⟨b4,i10,none⟩)) rfl rfl hM10 (fun _ hB_=>by exact Jf i10 ZGn sc5.size rfl rfl (ZGm _) (by omega) (by omega)) (Za 7 31) (bL 5 (.int .u8 (a1.get i10)) rfl rfl hM10 (fun _ hB_=>by exact Yd (hC.grow hB_) 0 (.int .u8 (a1.get i10)) rfl sc5 rfl (ZGi _ _ hi10)) (Za 7 63) (Z2 6 (by decide) (by decide) (by kernel_rfl) (by kernel_rfl) rfl (Y4 rfl rfl (done (Z3 (Zd ?_))))))))))
  refine Zq rfl (fun hb10=>?_) (fun hb10=>?_)
  ·replace h:=ift h (ct hb10)
   refine ZF5 ?_
   refine cwd 6 mixed [0,1,3,0,8,24,63,127] [1,2,4,5] [0,3] (fun hM11 hM13 w12 hB_=>?_)
   replace hC:=hC.grow hB_
   refine bM 0 (vI (i10:Int)) rfl hM13 (Za 8 1) (bL 1 (.pointer (some ⟨b1,i10,none⟩)) rfl rfl hM11 (fun _ hB_=>by exact Jf i10 ZGn sc5.size rfl rfl (ZGm _) (by omega) (by omega)) (Za 8 3) (bL 2 (.int .u8 (a0.get i10)) rfl rfl hM11 (fun _ hB_=>by exact Yd (hC.grow hB_) 1 (.int .u8 (a0.get i10)) rfl sc5 rfl (ZGi _ _ hi10)) (Za 8 7) (bM 3 (vI (i10:Int)) rfl hM13 (Za 8 15) (bL 4 (.pointer (some ⟨b4,i10,none⟩)) rfl rfl hM11 (fun _ hB_=>by exact Jf i10 ZGn sc5.size rfl rfl (ZGm _) (by omega) (by omega)) (Za 8 31) (bL 5 (.int .u8 (a1.get i10)) rfl rfl hM11 (fun _ hB_=>by exact Yd (hC.grow hB_) 0 (.int .u8 (a1.get i10)) rfl sc5 rfl (ZGi _ _ hi10)) (Za 8 63) (Z2 6 (by decide) (by decide) (by kernel_rfl) (by kernel_rfl) rfl (Xy rfl rfl (Zc (v:=.bool (decide (a0.get i10 > a1.get i10))) rfl (done (Z3 (Zd ?_)))))))))))
   refine ZGd (Zw (Ze (Ze (Zw (Ze ?_)))))
   exact Zj rfl (Zg rfl) ⟨decide (a0.get i10 > a1.get i10),rfl,h,hC.below⟩ (.inl rfl)
  ·replace h:=Zk h (cf hb10)
   refine ZF8 (Zs (Zd (Zm (Zb (v:=vI (i10:Int)) rfl (Zp rfl rfl (Zc (v:=vI (Zxa.wrap ((i10:Int)+1))) rfl (done ?_)))))))
   exact hK10 () _ _ ⟨(sl ⟨rfl,rfl,(tr rfl (congrArg _ (Z6 hi10 (by decide)))),trivial⟩),hC⟩ h
 ·clear hC h
  rintro s10 e_ w13 K10 ⟨hS_,hC⟩ h
  rw [ue hS_]
  refine ZF5 (sr (Zb (v:=vI 8) rfl (Zn rfl rfl (dn (Z9 rfl (decide_eq_false (by omega)) ?_)))))
  refine ZGj (Zl (Zl (Z5 ?_)))
  refine Zd (sr (Zc (v:=.bool false) rfl (dn (ZGd ?_))))
  exact Zj rfl (Zg rfl) ⟨false,rfl,h,hC.below⟩ (.inl rfl)
 ·skip
  exact⟨(slq rfl),hC⟩
def J2 (a0:ZF9) (a1:ZF9) (a2:Int) (K:ZF9→Prop):Prop :=
 X8 (fun (s10:(List Term)×Int×Int) nx10=>joinP (fun (jn11:Bool→Prop)=>(if s10.2.1 < (a0.terms.length:Int) then jn11 true else jn11 (decide (s10.2.2 < (a1.terms.length:Int))))) (fun (x10:Bool)=>(if x10=true then joinP (fun (jn10:Bool→Prop)=>(if s10.2.2=(a1.terms.length:Int) then jn10 true else(if s10.2.1 < (a0.terms.length:Int) then((0≤s10.2.1∧s10.2.1 < (a0.terms.length:Int))∧((0≤s10.2.2∧s10.2.2 < (a1.terms.length:Int))∧Zcc ((a0.terms.getD s10.2.1.toNat Zuw).mono) ((a1.terms.getD s10.2.2.toNat Zuw).mono) (fun r12=>jn10 r12))) else jn10 false))) (fun (x11:Bool)=>(if x11=true then((0≤s10.2.1∧s10.2.1 < (a0.terms.length:Int))∧(Xd (s10.1.length+1) 16∧nx10 (s10.1++[a0.terms.getD s10.2.1.toNat Zuw],Zxa.wrap (s10.2.1+1),s10.2.2))) else joinP (fun (jn12:Bool→Prop)=>(if s10.2.1=(a0.terms.length:Int) then jn12 true else((0≤s10.2.2∧s10.2.2 < (a1.terms.length:Int))∧((0≤s10.2.1∧s10.2.1 < (a0.terms.length:Int))∧Zcc ((a1.terms.getD s10.2.2.toNat Zuw).mono) ((a0.terms.getD s10.2.1.toNat Zuw).mono) (fun r13=>jn12 r13))))) (fun (x12:Bool)=>(if x12=true then((0≤s10.2.2∧s10.2.2 < (a1.terms.length:Int))∧Xz (Zxa.wrap (a2 * ((a1.terms.getD s10.2.2.toNat Zuw).factor))) (fun r10=>(if r10≠0 then((0≤s10.2.2∧s10.2.2 < (a1.terms.length:Int))∧(Xd (s10.1.length+1) 16∧nx10 (s10.1++[(⟨(a1.terms.getD s10.2.2.toNat Zuw).mono,r10⟩:Term)],s10.2.1,Zxa.wrap (s10.2.2+1)))) else nx10 (s10.1,s10.2.1,Zxa.wrap (s10.2.2+1))))) else((0≤s10.2.1∧s10.2.1 < (a0.terms.length:Int))∧((0≤s10.2.2∧s10.2.2 < (a1.terms.length:Int))∧Xz (Zxa.wrap (a2 * ((a1.terms.getD s10.2.2.toNat Zuw).factor))) (fun r14=>Xz (Zxa.wrap (((a0.terms.getD s10.2.1.toNat Zuw).factor)+r14)) (fun r11=>(if r11≠0 then((0≤s10.2.1∧s10.2.1 < (a0.terms.length:Int))∧(Xd (s10.1.length+1) 16∧nx10 (s10.1++[(⟨(a0.terms.getD s10.2.1.toNat Zuw).mono,r11⟩:Term)],Zxa.wrap (s10.2.1+1),Zxa.wrap (s10.2.2+1)))) else nx10 (s10.1,Zxa.wrap (s10.2.1+1),Zxa.wrap (s10.2.2+1))))))))))) else K (⟨s10.1⟩:ZF9)))) ([],0,0)
theorem Zgp (a0 : ZF9) (a1 : ZF9) (a2 : Int)  {K : ZF9 → Prop} (h : J2 a0 a1 a2 K) (w0 : World) (q0 : ZGr.rep a0 [u0_0] fp0 w0) (q1 : ZGr.rep a1 [u1_0] fp1 w0) :
  Calls ZF7 41 #[.agg #[u0_0],.agg #[u1_0],vI a2] w0 fun e w'=>∃ (r0:ZF9) (z0_0:Value) (fz0:List Nat),
   e=.returned (.agg #[z0_0])∧K r0∧(ZGk (Zr 90) r0 [z0_0] fz0).holds w'∧(∀ b,b∈fz0→w0.heap.size≤b)∧Bel w0 w':=by
 unfold J2 at h
 refine cof ZG9 rfl 149 Tryz.ntmps41 ?_
 have hC:=ZGq (X:=Nox) w0 [ZCh TForm a0 [u0_0] fp0,ZCh TForm a1 [u1_0] fp1] (alc q0 (al1 q1))
 have hp3:=(hC.getP 0 rfl)
 replace hC:=hC.derive 0 rfl (ZCh ZF6.ty.sl a0.terms [u0_0] fp0) (fun _=>(Yx hp3)) (fun _ hb_=>hb_)
 have hp5:=(hC.getP 2 rfl)
 replace hC:=hC.derive 2 rfl (ZCh ZF6.ty.sl a1.terms [u1_0] fp1) (fun _=>(Yx hp5)) (fun _ hb_=>hb_)
 refine sr (Yj (v:=.agg #[u0_0]) hC [u0_0] rfl rfl fun b7 w9 hB_ hC=>Yj (v:=.agg #[u1_0]) hC [u1_0] rfl rfl fun b10 w10 hB_ hC=>Z1 hC [.slice none 0 0] z55 rfl fun b12 w11 hB_ hC=>dn (sr (Y5 [] rfl (Za5   _) (Z1 hC [.slice none 0 0] z55 rfl fun b11 w12 hB_ hC=>Zo (v:=.agg #[.slice none 0 0]) hC 0 [.slice none 0 0] [.slice none 0 0] rfl ag55.size rfl rfl rfl rfl rfl (ZGe rfl) rfl fun w13 hC=>dn (sr (Zc (v:=vI 0) rfl (Zc (v:=vI 0) rfl (dn (ZF5 (ZGb ?_))))))))))
 refine Jj (S:=(List Term)×Int×Int) _ (fun s10 e_ w_=>∃ (v10:Value),Zy e_ [(2,vI a2),(3,vQ b7),(4,vQ b10),(6,vQ b12),(7,vQ b11),(8,vI s10.2.1),(9,vI s10.2.2)]∧Ctx Nox w0 w_ [own 90 9 v10 s10.1.length (ZF6.encs s10.1),blk b11 55 [v10],blk b12 55 [.slice none 0 0],blk b10 55 [u1_0],blk b7 55 [u0_0]] [ZCh ZF6.ty.sl a1.terms [u1_0] fp1,ZCh ZF6.ty.sl a0.terms [u0_0] fp0,ZCh TForm a0 [u0_0] fp0,ZCh TForm a1 [u1_0] fp1]) ?_ (s0:=([],0,0)) ?_ h
 ·clear hC h
  rintro s10 e_ w14 nx10 K10 ⟨v10,hS_,hC⟩ h hK10
  rw [ue hS_]
  refine ZF5 (ZF5 ?_)
  obtain ⟨jn11,hj10,h⟩:=Zh6 h
  refine Zif (fun e_ w_=>∃ (x10:Bool),Zy e_ [(2,vI a2),(3,vQ b7),(4,vQ b10),(6,vQ b12),(7,vQ b11),(8,vI s10.2.1),(9,vI s10.2.2),(24,.bool x10)]∧Ctx Nox w0 w_ [own 90 9 v10 s10.1.length (ZF6.encs s10.1),blk b11 55 [v10],blk b12 55 [.slice none 0 0],blk b10 55 [u1_0],blk b7 55 [u0_0]] [ZCh ZF6.ty.sl a1.terms [u1_0] fp1,ZCh ZF6.ty.sl a0.terms [u0_0] fp0,ZCh TForm a0 [u0_0] fp0,ZCh TForm a1 [u1_0] fp1]∧jn11 x10) ?_ ?_
  ·skip
   refine Zm (Zb (v:=vI s10.2.1) rfl (Zx 0 ZGc rfl sc53.size rfl rfl (Z4 hC 4 (u0_0) rfl sc53 rfl rfl (Zv hC 1 rfl ZGf rfl (Zn rfl rfl (Zb (v:=.bool (decide (s10.2.1 < (a0.terms.length:Int)))) rfl ?_))))))
   refine Y1 (decide (s10.2.1 < (a0.terms.length:Int))) (fun hb13=>?_) (fun hb13=>?_)
   ·replace h:=ift h (ct hb13)
    refine Zh (b:=true) 5 18 rfl (tr rfl (congrArg _ hb13)) (by decide) (Zh (b:=true) 5 18 rfl (tr rfl (congrArg _ hb13)) (by decide) (Zh (b:=true) 5 18 rfl (tr rfl (congrArg _ hb13)) (by decide) (Zh (b:=true) 5 18 rfl (tr rfl (congrArg _ hb13)) (by decide) (Zh (b:=true) 5 18 rfl (tr rfl (congrArg _ hb13)) (by decide) (Z0 (v:=.bool true) (b:=true) (tr rfl (congrArg _ hb13)) rfl (done ?_))))))
    exact⟨rfl,_,rfl,true,(slq rfl),hC,h⟩
   ·replace h:=Zk h (cf hb13)
    refine Zi 5 18 rfl rfl hb13 (Zb (v:=vI s10.2.2) rfl (Zi 5 18 rfl rfl hb13 (Zx 0 ZGc rfl sc53.size rfl rfl (Zi 5 18 rfl rfl hb13 (Z4 hC 3 (u1_0) rfl sc53 rfl rfl (Zi 5 18 rfl rfl hb13 (Zv hC 0 rfl ZGf rfl (Zi 5 18 rfl rfl hb13 (Zn rfl rfl (Z0 (v:=.bool (decide (s10.2.2 < (a1.terms.length:Int)))) (b:=false) (tr rfl (congrArg _ hb13)) rfl (done ?_)))))))))))
    exact⟨rfl,_,rfl,decide (s10.2.2 < (a1.terms.length:Int)),(slq rfl),hC,h⟩
  ·clear hC h
   rintro e_ w15 ⟨x10,hS_,hC,h⟩
   replace h:=hj10 _ h
   rw [ue hS_]
   refine Zd ?_
   refine Zq rfl (fun hb14=>?_) (fun hb14=>?_)
   ·replace h:=ift h (hb14)
    refine ZF8 (Zd (ZGb (ZGb (ZF5 ?_))))
    obtain ⟨jn10,hj11,h⟩:=Zh6 h
    refine Zif (fun e_ w_=>∃ (x11:Bool),Zy e_ [(2,vI a2),(3,vQ b7),(4,vQ b10),(6,vQ b12),(7,vQ b11),(8,vI s10.2.1),(9,vI s10.2.2),(61,.bool x11)]∧Ctx Nox w0 w_ [own 90 9 v10 s10.1.length (ZF6.encs s10.1),blk b11 55 [v10],blk b12 55 [.slice none 0 0],blk b10 55 [u1_0],blk b7 55 [u0_0]] [ZCh ZF6.ty.sl a1.terms [u1_0] fp1,ZCh ZF6.ty.sl a0.terms [u0_0] fp0,ZCh TForm a0 [u0_0] fp0,ZCh TForm a1 [u1_0] fp1]∧jn10 x11) ?_ ?_
    ·skip
     refine cwd 24 mixed [0,0,2,6,15,31,63,63,191,447,1023,2047,4095,8191,4095,32767,65535,131071,4095,266239,4095,1839103,3936255,8130559,16777215,33554431,67108863,134217727] [2,3,8,9,13,15,17,19,21,23] [0,1,4,5,6,7,8,9,10,11,12,13,14,15,16,17,18,19,20,21,22,23] (fun hM12 hM10 w16 hB_=>?_)
     replace hC:=hC.grow hB_
     refine bM 0 (vI s10.2.2) rfl hM10 (Za 28 1) (bF 1 (vQ b10) rfl rfl hM10 (fun _=>by exact Yh 0 ZGc rfl sc53.size rfl rfl) (Za 28 3) (bL 2 (u1_0) rfl rfl hM12 (fun _ hB_=>by exact Yd (hC.grow hB_) 3 (u1_0) rfl sc53 rfl rfl) (Za 28 7) (bL 3 (vI (a1.terms.length:Int)) rfl rfl hM12 (fun _ hB_=>by exact Zgn (hC.grow hB_) 0 rfl ZGf rfl) (Za 28 15) (bF 4 (.bool (decide (s10.2.2=(a1.terms.length:Int)))) rfl rfl hM10 (fun _=>by exact Zju rfl rfl) (Za 28 31) (bM 5 (.bool (decide (s10.2.2=(a1.terms.length:Int)))) rfl hM10 (Za 28 63) ?_)))))
     refine Y1 (decide (s10.2.2=(a1.terms.length:Int))) (fun hb12=>?_) (fun hb12=>?_)
     ·replace h:=ift h (ct hb12)
      refine Zt Zu 6 undef rfl rfl (by kernel_rfl) (hM10 6 rfl) (fun w_=>.inr ⟨Ya (b:=true) 5 67 rfl (tr rfl (congrArg _ hb12)) (by decide),rfl⟩) (l9:=(Za 28 127)) (by kernel_rfl) (Zt Zu 7 undef rfl rfl (by kernel_rfl) (hM10 7 rfl) (fun w_=>.inr ⟨Ya (b:=true) 5 67 rfl (tr rfl (congrArg _ hb12)) (by decide),rfl⟩) (l9:=(Za 28 255)) (by kernel_rfl) (Zt Zu 8 undef rfl rfl (by kernel_rfl) (hM10 8 rfl) (fun w_=>.inr ⟨Ya (b:=true) 5 67 rfl (tr rfl (congrArg _ hb12)) (by decide),rfl⟩) (l9:=(Za 28 511)) (by kernel_rfl) (Zt Zu 9 undef rfl rfl (by kernel_rfl) (hM10 9 rfl) (fun w_=>.inr ⟨Ya (b:=true) 5 67 rfl (tr rfl (congrArg _ hb12)) (by decide),rfl⟩) (l9:=(Za 28 1023)) (by kernel_rfl) (Zt Zu 10 undef rfl rfl (by kernel_rfl) (hM10 10 rfl) (fun w_=>.inr ⟨Ya (b:=true) 5 67 rfl (tr rfl (congrArg _ hb12)) (by decide),rfl⟩) (l9:=(Za 28 2047)) (by kernel_rfl) (Zt Zu 11 undef rfl rfl (by kernel_rfl) (hM10 11 rfl) (fun w_=>.inr ⟨Ya (b:=true) 5 67 rfl (tr rfl (congrArg _ hb12)) (by decide),rfl⟩) (l9:=(Za 28 4095)) (by kernel_rfl) (Zt Zu 12 undef rfl rfl (by kernel_rfl) (hM10 12 rfl) (fun w_=>.inr ⟨Xe 11 73 rfl rfl,rfl⟩) (l9:=(Za 28 8191)) (by kernel_rfl) (Zt Zu 13 undef rfl rfl (by kernel_rfl) (hM10 13 rfl) (fun w_=>.inr ⟨Xe 11 73 rfl rfl,rfl⟩) (l9:=(Za 28 16383)) (by kernel_rfl) (Zt Zu 14 undef rfl rfl (by kernel_rfl) (hM10 14 rfl) (fun w_=>.inr ⟨Xe 11 73 rfl rfl,rfl⟩) (l9:=(Za 28 32767)) (by kernel_rfl) (Zt Zu 15 undef rfl rfl (by kernel_rfl) (hM10 15 rfl) (fun w_=>.inr ⟨Xe 11 73 rfl rfl,rfl⟩) (l9:=(Za 28 65535)) (by kernel_rfl) (Zt Zu 16 undef rfl rfl (by kernel_rfl) (hM10 16 rfl) (fun w_=>.inr ⟨Xe 11 73 rfl rfl,rfl⟩) (l9:=(Za 28 131071)) (by kernel_rfl) (Zt Zu 17 undef rfl rfl (by kernel_rfl) (hM10 17 rfl) (fun w_=>.inr ⟨Xe 11 73 rfl rfl,rfl⟩) (l9:=(Za 28 262143)) (by kernel_rfl) (Zt Zu 18 undef rfl rfl (by kernel_rfl) (hM10 18 rfl) (fun w_=>.inr ⟨Xe 11 73 rfl rfl,rfl⟩) (l9:=(Za 28 524287)) (by kernel_rfl) (Zt Zu 19 undef rfl rfl (by kernel_rfl) (hM10 19 rfl) (fun w_=>.inr ⟨Xe 11 73 rfl rfl,rfl⟩) (l9:=(Za 28 1048575)) (by kernel_rfl) (Zt Zu 20 undef rfl rfl (by kernel_rfl) (hM10 20 rfl) (fun w_=>.inr ⟨Xe 11 73 rfl rfl,rfl⟩) (l9:=(Za 28 2097151)) (by kernel_rfl) (Zt Zu 21 undef rfl rfl (by kernel_rfl) (hM10 21 rfl) (fun w_=>.inr ⟨Xe 11 73 rfl rfl,rfl⟩) (l9:=(Za 28 4194303)) (by kernel_rfl) (Zt Zu 22 undef rfl rfl (by kernel_rfl) (hM10 22 rfl) (fun w_=>.inr ⟨Xe 11 73 rfl rfl,rfl⟩) (l9:=(Za 28 8388607)) (by kernel_rfl) (Zt Zu 23 undef rfl rfl (by kernel_rfl) (hM10 23 rfl) (fun w_=>.inr ⟨Xe 11 73 rfl rfl,rfl⟩) (l9:=(Za 28 16777215)) (by kernel_rfl) (Z2 24 (by decide) (by decide) (by kernel_rfl) (by kernel_rfl) rfl (X7 11 73 rfl rfl (Zh (b:=true) 5 67 rfl (tr rfl (congrArg _ hb12)) (by decide) (Z0 (v:=.bool true) (b:=true) (tr rfl (congrArg _ hb12)) rfl (Zc (v:=.bool true) rfl (done (Z3 ?_))))))))))))))))))))))))
      exact⟨rfl,_,rfl,true,(slq rfl),hC,h⟩
     ·replace h:=Zk h (cf hb12)
      refine aF 6 (vI s10.2.1) rfl rfl (hM10 6 rfl) (Yg 5 67 rfl rfl hb12) (fun _=>by exact Jo (v:=vI s10.2.1) rfl) (Za 28 127) (aF 7 (vQ b7) rfl rfl (hM10 7 rfl) (Yg 5 67 rfl rfl hb12) (fun _=>by exact Yh 0 ZGc rfl sc53.size rfl rfl) (Za 28 255) (aL 8 (u0_0) rfl rfl (hM12 8 rfl) (Yg 5 67 rfl rfl hb12) (fun _ hB_=>by exact Yd (hC.grow hB_) 4 (u0_0) rfl sc53 rfl rfl) (Za 28 511) (aL 9 (vI (a0.terms.length:Int)) rfl rfl (hM12 9 rfl) (Yg 5 67 rfl rfl hb12) (fun _ hB_=>by exact Zgn (hC.grow hB_) 1 rfl ZGf rfl) (Za 28 1023) (aF 10 (.bool (decide (s10.2.1 < (a0.terms.length:Int)))) rfl rfl (hM10 10 rfl) (Yg 5 67 rfl rfl hb12) (fun _=>by exact Znb rfl rfl) (Za 28 2047) (aF 11 (.bool (decide (s10.2.1 < (a0.terms.length:Int)))) rfl rfl (hM10 11 rfl) (Yg 5 67 rfl rfl hb12) (fun _=>by exact Jo (v:=.bool (decide (s10.2.1 < (a0.terms.length:Int)))) rfl) (Za 28 4095) ?_)))))
      refine Y1 (decide (s10.2.1 < (a0.terms.length:Int))) (fun hb10=>?_) (fun hb10=>?_)
      ·replace h:=ift h (ct hb10)
       refine aF 12 (vQ b7) rfl rfl (hM10 12 rfl) (Yg 11 73 rfl rfl hb10) (fun _=>by exact Yh 0 ZGc rfl sc53.size rfl rfl) (Za 28 8191) (aL 13 (u0_0) rfl rfl (hM12 13 rfl) (Yg 11 73 rfl rfl hb10) (fun _ hB_=>by exact Yd (hC.grow hB_) 4 (u0_0) rfl sc53 rfl rfl) (Za 28 16383) (aF 14 (vI s10.2.1) rfl rfl (hM10 14 rfl) (Yg 11 73 rfl rfl hb10) (fun _=>by exact Jo (v:=vI s10.2.1) rfl) (Za 28 32767) ?_))
       obtain ⟨⟨h10,h11⟩,h⟩:=h
       obtain ⟨Ad10,c10,hv10⟩:=Zz (hC.getP 1 rfl) s10.2.1.toNat (show s10.2.1.toNat < a0.terms.length by omega)
       refine aL 15 (.pointer (some (Ad10.add (s10.2.1.toNat * 9)))) rfl rfl (hM12 15 rfl) (Yg 11 73 rfl rfl hb10) (fun _ hB_=>by exact Yw (len:=a0.terms.length) ZGf ag90.size (by exact tr rfl hv10) rfl h10 h11) (Za 28 65535) (aF 16 (.pointer (some (Ad10.add (s10.2.1.toNat * 9+0)))) rfl rfl (hM10 16 rfl) (Yg 11 73 rfl rfl hb10) (fun _=>by exact Jz (s10.2.1.toNat * 9+0) ZGl rfl ag88.size rfl rfl) (Za 28 131071) (aL 17 (.agg (ZF4 (ZF3 .u8 ((a0.terms.getD s10.2.1.toNat Zuw).mono)))) rfl rfl (hM12 17 rfl) (Yg 11 73 rfl rfl hb10) (fun _ hB_=>by exact Xn (ZF3 .u8 ((a0.terms.getD s10.2.1.toNat Zuw).mono)) (Xp (o:=0) (k:=8) (Yf ((hC.grow hB_).getP 1 rfl) hv10 s10.2.1.toNat (show s10.2.1.toNat < a0.terms.length by omega)) rfl) ag88 rfl rfl) (Za 28 262143) (aF 18 (vQ b10) rfl rfl (hM10 18 rfl) (Yg 11 73 rfl rfl hb10) (fun _=>by exact Yh 0 ZGc rfl sc53.size rfl rfl) (Za 28 524287) (aL 19 (u1_0) rfl rfl (hM12 19 rfl) (Yg 11 73 rfl rfl hb10) (fun _ hB_=>by exact Yd (hC.grow hB_) 3 (u1_0) rfl sc53 rfl rfl) (Za 28 1048575) (aF 20 (vI s10.2.2) rfl rfl (hM10 20 rfl) (Yg 11 73 rfl rfl hb10) (fun _=>by exact Jo (v:=vI s10.2.2) rfl) (Za 28 2097151) ?_)))))
       obtain ⟨⟨h12,h13⟩,h⟩:=h
       obtain ⟨Ad11,c11,hv11⟩:=Zz (hC.getP 0 rfl) s10.2.2.toNat (show s10.2.2.toNat < a1.terms.length by omega)
       refine aL 21 (.pointer (some (Ad11.add (s10.2.2.toNat * 9)))) rfl rfl (hM12 21 rfl) (Yg 11 73 rfl rfl hb10) (fun _ hB_=>by exact Yw (len:=a1.terms.length) ZGf ag90.size (by exact tr rfl hv11) rfl h12 h13) (Za 28 4194303) (aF 22 (.pointer (some (Ad11.add (s10.2.2.toNat * 9+0)))) rfl rfl (hM10 22 rfl) (Yg 11 73 rfl rfl hb10) (fun _=>by exact Jz (s10.2.2.toNat * 9+0) ZGl rfl ag88.size rfl rfl) (Za 28 8388607) (aL 23 (.agg (ZF4 (ZF3 .u8 ((a1.terms.getD s10.2.2.toNat Zuw).mono)))) rfl rfl (hM12 23 rfl) (Yg 11 73 rfl rfl hb10) (fun _ hB_=>by exact Xn (ZF3 .u8 ((a1.terms.getD s10.2.2.toNat Zuw).mono)) (Xp (o:=0) (k:=8) (Yf ((hC.grow hB_).getP 0 rfl) hv11 s10.2.2.toNat (show s10.2.2.toNat < a1.terms.length by omega)) rfl) ag88 rfl rfl) (Za 28 16777215) (Z2 24 (by decide) (by decide) (by kernel_rfl) (by kernel_rfl) rfl (Zi 11 73 rfl rfl hb10 (Zf [.agg (ZF4 (ZF3 .u8 ((a0.terms.getD s10.2.1.toNat Zuw).mono))),.agg (ZF4 (ZF3 .u8 ((a1.terms.getD s10.2.2.toNat Zuw).mono)))] _ ZG8 rfl rfl rfl (Zix ((a0.terms.getD s10.2.1.toNat Zuw).mono) ((a1.terms.getD s10.2.2.toNat Zuw).mono) h _) ?_)))))
       rintro _ w17 ⟨r12,rfl,h,hB10⟩
       refine rt ?_
       replace hC:=hC.grow hB10
       refine Zi 5 67 rfl rfl hb12 (Z0 (v:=.bool r12) (b:=true) (tr rfl (congrArg _ hb10)) rfl (Z0 (v:=.bool r12) (b:=false) (tr rfl (congrArg _ hb12)) rfl (Zc (v:=.bool r12) rfl (done (Z3 ?_)))))
       exact⟨rfl,_,rfl,r12,(slq rfl),hC,h⟩
      ·replace h:=Zk h (cf hb10)
       refine Zt Zu 12 undef rfl rfl (by kernel_rfl) (hM10 12 rfl) (fun w_=>.inr ⟨Ya (b:=false) 11 73 rfl (tr rfl (congrArg _ hb10)) (by decide),rfl⟩) (l9:=(Za 28 8191)) (by kernel_rfl) (Zt Zu 13 undef rfl rfl (by kernel_rfl) (hM10 13 rfl) (fun w_=>.inr ⟨Ya (b:=false) 11 73 rfl (tr rfl (congrArg _ hb10)) (by decide),rfl⟩) (l9:=(Za 28 16383)) (by kernel_rfl) (Zt Zu 14 undef rfl rfl (by kernel_rfl) (hM10 14 rfl) (fun w_=>.inr ⟨Ya (b:=false) 11 73 rfl (tr rfl (congrArg _ hb10)) (by decide),rfl⟩) (l9:=(Za 28 32767)) (by kernel_rfl) (Zt Zu 15 undef rfl rfl (by kernel_rfl) (hM10 15 rfl) (fun w_=>.inr ⟨Ya (b:=false) 11 73 rfl (tr rfl (congrArg _ hb10)) (by decide),rfl⟩) (l9:=(Za 28 65535)) (by kernel_rfl) (Zt Zu 16 undef rfl rfl (by kernel_rfl) (hM10 16 rfl) (fun w_=>.inr ⟨Ya (b:=false) 11 73 rfl (tr rfl (congrArg _ hb10)) (by decide),rfl⟩) (l9:=(Za 28 131071)) (by kernel_rfl) (Zt Zu 17 undef rfl rfl (by kernel_rfl) (hM10 17 rfl) (fun w_=>.inr ⟨Ya (b:=false) 11 73 rfl (tr rfl (congrArg _ hb10)) (by decide),rfl⟩) (l9:=(Za 28 262143)) (by kernel_rfl) (Zt Zu 18 undef rfl rfl (by kernel_rfl) (hM10 18 rfl) (fun w_=>.inr ⟨Ya (b:=false) 11 73 rfl (tr rfl (congrArg _ hb10)) (by decide),rfl⟩) (l9:=(Za 28 524287)) (by kernel_rfl) (Zt Zu 19 undef rfl rfl (by kernel_rfl) (hM10 19 rfl) (fun w_=>.inr ⟨Ya (b:=false) 11 73 rfl (tr rfl (congrArg _ hb10)) (by decide),rfl⟩) (l9:=(Za 28 1048575)) (by kernel_rfl) (Zt Zu 20 undef rfl rfl (by kernel_rfl) (hM10 20 rfl) (fun w_=>.inr ⟨Ya (b:=false) 11 73 rfl (tr rfl (congrArg _ hb10)) (by decide),rfl⟩) (l9:=(Za 28 2097151)) (by kernel_rfl) (Zt Zu 21 undef rfl rfl (by kernel_rfl) (hM10 21 rfl) (fun w_=>.inr ⟨Ya (b:=false) 11 73 rfl (tr rfl (congrArg _ hb10)) (by decide),rfl⟩) (l9:=(Za 28 4194303)) (by kernel_rfl) (Zt Zu 22 undef rfl rfl (by kernel_rfl) (hM10 22 rfl) (fun w_=>.inr ⟨Ya (b:=false) 11 73 rfl (tr rfl (congrArg _ hb10)) (by decide),rfl⟩) (l9:=(Za 28 8388607)) (by kernel_rfl) (Zt Zu 23 undef rfl rfl (by kernel_rfl) (hM10 23 rfl) (fun w_=>.inr ⟨Ya (b:=false) 11 73 rfl (tr rfl (congrArg _ hb10)) (by decide),rfl⟩) (l9:=(Za 28 16777215)) (by kernel_rfl) (Z2 24 (by decide) (by decide) (by kernel_rfl) (by kernel_rfl) rfl (Zh (b:=false) 11 73 rfl (tr rfl (congrArg _ hb10)) (by decide) (Zi 5 67 rfl rfl hb12 (Z0 (v:=.bool false) (b:=false) (tr rfl (congrArg _ hb10)) rfl (Z0 (v:=.bool false) (b:=false) (tr rfl (congrArg _ hb12)) rfl (Zc (v:=.bool false) rfl (done (Z3 ?_)))))))))))))))))))
       exact⟨rfl,_,rfl,false,(slq rfl),hC,h⟩
    ·clear hC h
     rintro e_ w18 ⟨x11,hS_,hC,h⟩
     replace h:=hj11 _ h
     rw [ue hS_]
     refine Zd ?_
     refine Zq rfl (fun hb15=>?_) (fun hb15=>?_)
     ·replace h:=ift h (hb15)
      refine ZF5 ?_
      refine cwd 8 mixed [0,1,0,4,0,28,60,124,255,511,1023] [1,3,5,6] [0,2,4] (fun hM20 hM21 w19 hB_=>?_)
      replace hC:=hC.grow hB_
      refine bF 0 (vQ b11) rfl rfl hM21 (fun _=>by exact Yh 0 ZGc rfl sc53.size rfl rfl) (Za 11 1) (bL 1 (v10) rfl rfl hM20 (fun _ hB_=>by exact Yd (hC.grow hB_) 1 (v10) rfl sc53 rfl rfl) (Za 11 3) (bF 2 (vQ b7) rfl rfl hM21 (fun _=>by exact Yh 0 ZGc rfl sc53.size rfl rfl) (Za 11 7) (bL 3 (u0_0) rfl rfl hM20 (fun _ hB_=>by exact Yd (hC.grow hB_) 4 (u0_0) rfl sc53 rfl rfl) (Za 11 15) (bM 4 (vI s10.2.1) rfl hM21 (Za 11 31) ?_))))
      obtain ⟨⟨h14,h15⟩,h⟩:=h
      obtain ⟨Ad18,c12,hv12⟩:=Zz (hC.getP 1 rfl) s10.2.1.toNat (show s10.2.1.toNat < a0.terms.length by omega)
      refine bL 5 (.pointer (some (Ad18.add (s10.2.1.toNat * 9)))) rfl rfl hM20 (fun _ hB_=>by exact Yw (len:=a0.terms.length) ZGf ag90.size (by exact tr rfl hv12) rfl h14 h15) (Za 11 63) (bL 6 (.agg (ZF4 (ZGg (a0.terms.getD s10.2.1.toNat Zuw)))) rfl rfl hM20 (fun _ hB_=>by exact Xn (ZGg (a0.terms.getD s10.2.1.toNat Zuw)) (Yf ((hC.grow hB_).getP 1 rfl) hv12 s10.2.1.toNat (show s10.2.1.toNat < a0.terms.length by omega)) ag90 rfl rfl) (Za 11 127) (aO 7 rfl (Jk (sz:=9) hC [(0,.agg (ZF4 (ZGg (a0.terms.getD s10.2.1.toNat Zuw))))] (ZF6.encs [a0.terms.getD s10.2.1.toNat Zuw]) rfl (fun _=>Zdd (a0.terms.getD s10.2.1.toNat Zuw) _) rfl (by decide) fun b13 w20 hB_ hC=>done (aK (by assumption) (Za 11 255) (Z2 8 (by decide) (by decide) (by kernel_rfl) (by kernel_rfl) rfl ?_)))))
      obtain ⟨hm10,h⟩:=h
      refine Zap hC 1 ZGf Zde rfl (by decide) (by decide) rfl (J5 (hC.getM 0 rfl)) (fun q hq=>ZG5 (E:=ETerm) _ q hq) rfl rfl hm10 fun v11 w21 hC=>?_
      replace hC:=Jm hC 1 ((s10.1++[a0.terms.getD s10.2.1.toNat Zuw]).length) (ZF6.encs (s10.1++[a0.terms.getD s10.2.1.toNat Zuw])) rfl (by simp) (by first | (simp [ZGu]; done) | simp [ZGu,ZG6])
      refine Zx 0 ZGc rfl sc53.size rfl rfl (Zo (v:=v11) hC 2 [v11] [v11] rfl sc53.size rfl rfl (Za2 (hC.getM 1 rfl)) rfl (Ye (Yr (hC.getM 1 rfl)) rfl) (ZGe rfl) rfl fun w22 hC=>done (Z3 (Zd (Zm (Zb (v:=vI s10.2.1) rfl (Zp rfl rfl (Zc (v:=vI (Zxa.wrap (s10.2.1+1))) rfl (done (Zs (Zs ?_))))))))))
      exact hK10 (s10.1++[a0.terms.getD s10.2.1.toNat Zuw],Zxa.wrap (s10.2.1+1),s10.2.2) _ _ ⟨v11,(slq rfl),(hC.xM [1,2,3,4,5] rfl)⟩ h
     ·replace h:=Zk h (Y0 hb15)
      refine ZF5 ?_
      obtain ⟨jn12,hj12,h⟩:=Zh6 h
      refine Zif (fun e_ w_=>∃ (x12:Bool),Zy e_ [(2,vI a2),(3,vQ b7),(4,vQ b10),(6,vQ b12),(7,vQ b11),(8,vI s10.2.1),(9,vI s10.2.2),(101,.bool x12)]∧Ctx Nox w0 w_ [own 90 9 v10 s10.1.length (ZF6.encs s10.1),blk b11 55 [v10],blk b12 55 [.slice none 0 0],blk b10 55 [u1_0],blk b7 55 [u0_0]] [ZCh ZF6.ty.sl a1.terms [u1_0] fp1,ZCh ZF6.ty.sl a0.terms [u0_0] fp0,ZCh TForm a0 [u0_0] fp0,ZCh TForm a1 [u1_0] fp1]∧jn12 x12) ?_ ?_
      ·skip
       refine cwd 18 mixed [0,0,2,6,15,31,63,127,63,511,1023,2047,63,4159,63,28735,61503,127039,262143,524287,1048575] [2,3,7,9,11,13,15,17] [0,1,4,5,6,7,8,9,10,11,12,13,14,15,16,17] (fun hM13 hM11 w23 hB_=>?_)
       replace hC:=hC.grow hB_
       refine bM 0 (vI s10.2.1) rfl hM11 (Za 21 1) (bF 1 (vQ b7) rfl rfl hM11 (fun _=>by exact Yh 0 ZGc rfl sc53.size rfl rfl) (Za 21 3) (bL 2 (u0_0) rfl rfl hM13 (fun _ hB_=>by exact Yd (hC.grow hB_) 4 (u0_0) rfl sc53 rfl rfl) (Za 21 7) (bL 3 (vI (a0.terms.length:Int)) rfl rfl hM13 (fun _ hB_=>by exact Zgn (hC.grow hB_) 1 rfl ZGf rfl) (Za 21 15) (bF 4 (.bool (decide (s10.2.1=(a0.terms.length:Int)))) rfl rfl hM11 (fun _=>by exact Zju rfl rfl) (Za 21 31) (bM 5 (.bool (decide (s10.2.1=(a0.terms.length:Int)))) rfl hM11 (Za 21 63) ?_)))))
       refine Y1 (decide (s10.2.1=(a0.terms.length:Int))) (fun hb11=>?_) (fun hb11=>?_)
       ·replace h:=ift h (ct hb11)
        refine Zt Zu 6 undef rfl rfl (by kernel_rfl) (hM11 6 rfl) (fun w_=>.inr ⟨Ya (b:=true) 5 107 rfl (tr rfl (congrArg _ hb11)) (by decide),rfl⟩) (l9:=(Za 21 127)) (by kernel_rfl) (Zt Zu 7 undef rfl rfl (by kernel_rfl) (hM11 7 rfl) (fun w_=>.inr ⟨Ya (b:=true) 5 107 rfl (tr rfl (congrArg _ hb11)) (by decide),rfl⟩) (l9:=(Za 21 255)) (by kernel_rfl) (Zt Zu 8 undef rfl rfl (by kernel_rfl) (hM11 8 rfl) (fun w_=>.inr ⟨Ya (b:=true) 5 107 rfl (tr rfl (congrArg _ hb11)) (by decide),rfl⟩) (l9:=(Za 21 511)) (by kernel_rfl) (Zt Zu 9 undef rfl rfl (by kernel_rfl) (hM11 9 rfl) (fun w_=>.inr ⟨Ya (b:=true) 5 107 rfl (tr rfl (congrArg _ hb11)) (by decide),rfl⟩) (l9:=(Za 21 1023)) (by kernel_rfl) (Zt Zu 10 undef rfl rfl (by kernel_rfl) (hM11 10 rfl) (fun w_=>.inr ⟨Ya (b:=true) 5 107 rfl (tr rfl (congrArg _ hb11)) (by decide),rfl⟩) (l9:=(Za 21 2047)) (by kernel_rfl) (Zt Zu 11 undef rfl rfl (by kernel_rfl) (hM11 11 rfl) (fun w_=>.inr ⟨Ya (b:=true) 5 107 rfl (tr rfl (congrArg _ hb11)) (by decide),rfl⟩) (l9:=(Za 21 4095)) (by kernel_rfl) (Zt Zu 12 undef rfl rfl (by kernel_rfl) (hM11 12 rfl) (fun w_=>.inr ⟨Ya (b:=true) 5 107 rfl (tr rfl (congrArg _ hb11)) (by decide),rfl⟩) (l9:=(Za 21 8191)) (by kernel_rfl) (Zt Zu 13 undef rfl rfl (by kernel_rfl) (hM11 13 rfl) (fun w_=>.inr ⟨Ya (b:=true) 5 107 rfl (tr rfl (congrArg _ hb11)) (by decide),rfl⟩) (l9:=(Za 21 16383)) (by kernel_rfl) (Zt Zu 14 undef rfl rfl (by kernel_rfl) (hM11 14 rfl) (fun w_=>.inr ⟨Ya (b:=true) 5 107 rfl (tr rfl (congrArg _ hb11)) (by decide),rfl⟩) (l9:=(Za 21 32767)) (by kernel_rfl) (Zt Zu 15 undef rfl rfl (by kernel_rfl) (hM11 15 rfl) (fun w_=>.inr ⟨Ya (b:=true) 5 107 rfl (tr rfl (congrArg _ hb11)) (by decide),rfl⟩) (l9:=(Za 21 65535)) (by kernel_rfl) (Zt Zu 16 undef rfl rfl (by kernel_rfl) (hM11 16 rfl) (fun w_=>.inr ⟨Ya (b:=true) 5 107 rfl (tr rfl (congrArg _ hb11)) (by decide),rfl⟩) (l9:=(Za 21 131071)) (by kernel_rfl) (Zt Zu 17 undef rfl rfl (by kernel_rfl) (hM11 17 rfl) (fun w_=>.inr ⟨Ya (b:=true) 5 107 rfl (tr rfl (congrArg _ hb11)) (by decide),rfl⟩) (l9:=(Za 21 262143)) (by kernel_rfl) (Z2 18 (by decide) (by decide) (by kernel_rfl) (by kernel_rfl) rfl (Zh (b:=true) 5 107 rfl (tr rfl (congrArg _ hb11)) (by decide) (Z0 (v:=.bool true) (b:=true) (tr rfl (congrArg _ hb11)) rfl (Zc (v:=.bool true) rfl (done (Z3 ?_)))))))))))))))))
        exact⟨rfl,_,rfl,true,(slq rfl),hC,h⟩
       ·replace h:=Zk h (cf hb11)
        refine aF 6 (vQ b10) rfl rfl (hM11 6 rfl) (Yg 5 107 rfl rfl hb11) (fun _=>by exact Yh 0 ZGc rfl sc53.size rfl rfl) (Za 21 127) (aL 7 (u1_0) rfl rfl (hM13 7 rfl) (Yg 5 107 rfl rfl hb11) (fun _ hB_=>by exact Yd (hC.grow hB_) 3 (u1_0) rfl sc53 rfl rfl) (Za 21 255) (aF 8 (vI s10.2.2) rfl rfl (hM11 8 rfl) (Yg 5 107 rfl rfl hb11) (fun _=>by exact Jo (v:=vI s10.2.2) rfl) (Za 21 511) ?_))
        obtain ⟨⟨h16,h17⟩,h⟩:=h
        obtain ⟨Ad12,c13,hv13⟩:=Zz (hC.getP 0 rfl) s10.2.2.toNat (show s10.2.2.toNat < a1.terms.length by omega)
        refine aL 9 (.pointer (some (Ad12.add (s10.2.2.toNat * 9)))) rfl rfl (hM13 9 rfl) (Yg 5 107 rfl rfl hb11) (fun _ hB_=>by exact Yw (len:=a1.terms.length) ZGf ag90.size (by exact tr rfl hv13) rfl h16 h17) (Za 21 1023) (aF 10 (.pointer (some (Ad12.add (s10.2.2.toNat * 9+0)))) rfl rfl (hM11 10 rfl) (Yg 5 107 rfl rfl hb11) (fun _=>by exact Jz (s10.2.2.toNat * 9+0) ZGl rfl ag88.size rfl rfl) (Za 21 2047) (aL 11 (.agg (ZF4 (ZF3 .u8 ((a1.terms.getD s10.2.2.toNat Zuw).mono)))) rfl rfl (hM13 11 rfl) (Yg 5 107 rfl rfl hb11) (fun _ hB_=>by exact Xn (ZF3 .u8 ((a1.terms.getD s10.2.2.toNat Zuw).mono)) (Xp (o:=0) (k:=8) (Yf ((hC.grow hB_).getP 0 rfl) hv13 s10.2.2.toNat (show s10.2.2.toNat < a1.terms.length by omega)) rfl) ag88 rfl rfl) (Za 21 4095) (aF 12 (vQ b7) rfl rfl (hM11 12 rfl) (Yg 5 107 rfl rfl hb11) (fun _=>by exact Yh 0 ZGc rfl sc53.size rfl rfl) (Za 21 8191) (aL 13 (u0_0) rfl rfl (hM13 13 rfl) (Yg 5 107 rfl rfl hb11) (fun _ hB_=>by exact Yd (hC.grow hB_) 4 (u0_0) rfl sc53 rfl rfl) (Za 21 16383) (aF 14 (vI s10.2.1) rfl rfl (hM11 14 rfl) (Yg 5 107 rfl rfl hb11) (fun _=>by exact Jo (v:=vI s10.2.1) rfl) (Za 21 32767) ?_)))))
        obtain ⟨⟨h18,h19⟩,h⟩:=h
        obtain ⟨Ad13,c14,hv14⟩:=Zz (hC.getP 1 rfl) s10.2.1.toNat (show s10.2.1.toNat < a0.terms.length by omega)
        refine aL 15 (.pointer (some (Ad13.add (s10.2.1.toNat * 9)))) rfl rfl (hM13 15 rfl) (Yg 5 107 rfl rfl hb11) (fun _ hB_=>by exact Yw (len:=a0.terms.length) ZGf ag90.size (by exact tr rfl hv14) rfl h18 h19) (Za 21 65535) (aF 16 (.pointer (some (Ad13.add (s10.2.1.toNat * 9+0)))) rfl rfl (hM11 16 rfl) (Yg 5 107 rfl rfl hb11) (fun _=>by exact Jz (s10.2.1.toNat * 9+0) ZGl rfl ag88.size rfl rfl) (Za 21 131071) (aL 17 (.agg (ZF4 (ZF3 .u8 ((a0.terms.getD s10.2.1.toNat Zuw).mono)))) rfl rfl (hM13 17 rfl) (Yg 5 107 rfl rfl hb11) (fun _ hB_=>by exact Xn (ZF3 .u8 ((a0.terms.getD s10.2.1.toNat Zuw).mono)) (Xp (o:=0) (k:=8) (Yf ((hC.grow hB_).getP 1 rfl) hv14 s10.2.1.toNat (show s10.2.1.toNat < a0.terms.length by omega)) rfl) ag88 rfl rfl) (Za 21 262143) (Z2 18 (by decide) (by decide) (by kernel_rfl) (by kernel_rfl) rfl (Zi 5 107 rfl rfl hb11 (Zf [.agg (ZF4 (ZF3 .u8 ((a1.terms.getD s10.2.2.toNat Zuw).mono))),.agg (ZF4 (ZF3 .u8 ((a0.terms.getD s10.2.1.toNat Zuw).mono)))] _ ZG8 rfl rfl rfl (Zix ((a1.terms.getD s10.2.2.toNat Zuw).mono) ((a0.terms.getD s10.2.1.toNat Zuw).mono) h _) ?_)))))
        rintro _ w24 ⟨r13,rfl,h,hB11⟩
        refine rt ?_
        replace hC:=hC.grow hB11
        refine Z0 (v:=.bool r13) (b:=false) (tr rfl (congrArg _ hb11)) rfl (Zc (v:=.bool r13) rfl (done (Z3 ?_)))
        exact⟨rfl,_,rfl,r13,(slq rfl),hC,h⟩
      ·clear hC h
       rintro e_ w25 ⟨x12,hS_,hC,h⟩
       replace h:=hj12 _ h
       rw [ue hS_]
       refine Zd ?_
       refine Zq rfl (fun hb16=>?_) (fun hb16=>?_)
       ·replace h:=ift h (hb16)
        refine ZF5 (sr (Zb (v:=vI a2) rfl (Zx 0 ZGc rfl sc53.size rfl rfl (Z4 hC 3 (u1_0) rfl sc53 rfl rfl (Zb (v:=vI s10.2.2) rfl ?_)))))
        obtain ⟨⟨h20,h21⟩,h⟩:=h
        obtain ⟨Ad19,c15,hv15⟩:=Zz (hC.getP 0 rfl) s10.2.2.toNat (show s10.2.2.toNat < a1.terms.length by omega)
        refine Yq (len:=a1.terms.length) ZGf ag90.size (tr rfl hv15) rfl h20 h21 (Zao (s10.2.2.toNat * 9+8) ZGl rfl sc2.size rfl rfl (Xb (vI ((a1.terms.getD s10.2.2.toNat Zuw).factor)) (Xp (o:=8) (k:=1) (Yf (hC.getP 0 rfl) hv15 s10.2.2.toNat (show s10.2.2.toNat < a1.terms.length by omega)) rfl) sc2 rfl (Zbe rfl rfl (Zf [vI (Zxa.wrap (a2 * ((a1.terms.getD s10.2.2.toNat Zuw).factor)))] _ ZGw rfl rfl rfl (Zbj (Zxa.wrap (a2 * ((a1.terms.getD s10.2.2.toNat Zuw).factor))) h _) ?_))))
        rintro _ w26 ⟨r10,rfl,h,hB12⟩
        refine rt ?_
        replace hC:=hC.grow hB12
        refine Zc (v:=vI r10) rfl (dn (sr (Zb (v:=vI r10) rfl (Y4 rfl rfl (dn ?_)))))
        refine Zq rfl (fun hb17=>?_) (fun hb17=>?_)
        ·replace h:=ift h (ct hb17)
         refine cwd 11 mixed [0,1,0,4,0,28,60,124,0,508,1020,2047,4095,8191] [1,3,5,7,9] [0,2,4,6,8] (fun hM16 hM17 w27 hB_=>?_)
         replace hC:=hC.grow hB_
         refine bF 0 (vQ b11) rfl rfl hM17 (fun _=>by exact Yh 0 ZGc rfl sc53.size rfl rfl) (Za 14 1) (bL 1 (v10) rfl rfl hM16 (fun _ hB_=>by exact Yd (hC.grow hB_) 1 (v10) rfl sc53 rfl rfl) (Za 14 3) (bF 2 (vQ b10) rfl rfl hM17 (fun _=>by exact Yh 0 ZGc rfl sc53.size rfl rfl) (Za 14 7) (bL 3 (u1_0) rfl rfl hM16 (fun _ hB_=>by exact Yd (hC.grow hB_) 3 (u1_0) rfl sc53 rfl rfl) (Za 14 15) (bM 4 (vI s10.2.2) rfl hM17 (Za 14 31) ?_))))
         obtain ⟨⟨h22,h23⟩,h⟩:=h
         obtain ⟨Ad14,c16,hv16⟩:=Zz (hC.getP 0 rfl) s10.2.2.toNat (show s10.2.2.toNat < a1.terms.length by omega)
         refine bL 5 (.pointer (some (Ad14.add (s10.2.2.toNat * 9)))) rfl rfl hM16 (fun _ hB_=>by exact Yw (len:=a1.terms.length) ZGf ag90.size (by exact tr rfl hv16) rfl h22 h23) (Za 14 63) (bF 6 (.pointer (some (Ad14.add (s10.2.2.toNat * 9+0)))) rfl rfl hM17 (fun _=>by exact Jz (s10.2.2.toNat * 9+0) ZGl rfl ag88.size rfl rfl) (Za 14 127) (bL 7 (.agg (ZF4 (ZF3 .u8 ((a1.terms.getD s10.2.2.toNat Zuw).mono)))) rfl rfl hM16 (fun _ hB_=>by exact Xn (ZF3 .u8 ((a1.terms.getD s10.2.2.toNat Zuw).mono)) (Xp (o:=0) (k:=8) (Yf ((hC.grow hB_).getP 0 rfl) hv16 s10.2.2.toNat (show s10.2.2.toNat < a1.terms.length by omega)) rfl) ag88 rfl rfl) (Za 14 255) (bM 8 (vI r10) rfl hM17 (Za 14 511) (bL 9 (.agg (ZF4 (ZGg (⟨(a1.terms.getD s10.2.2.toNat Zuw).mono,r10⟩:Term)))) rfl rfl hM16 (fun _ hB_=>by exact Zd1 [(0,.agg (ZF4 (ZF3 .u8 ((a1.terms.getD s10.2.2.toNat Zuw).mono)))),(1,vI r10)] rfl (Zee ((a1.terms.getD s10.2.2.toNat Zuw).mono) r10  _)) (Za 14 1023) (aO 10 rfl (Jk (sz:=9) hC [(0,.agg (ZF4 (ZGg (⟨(a1.terms.getD s10.2.2.toNat Zuw).mono,r10⟩:Term))))] (ZF6.encs [(⟨(a1.terms.getD s10.2.2.toNat Zuw).mono,r10⟩:Term)]) rfl (fun _=>Zdd (⟨(a1.terms.getD s10.2.2.toNat Zuw).mono,r10⟩:Term) _) rfl (by decide) fun b14 w28 hB_ hC=>done (aK (by assumption) (Za 14 2047) (Z2 11 (by decide) (by decide) (by kernel_rfl) (by kernel_rfl) rfl ?_))))))))
         obtain ⟨hm11,h⟩:=h
         refine Zap hC 1 ZGf Zde rfl (by decide) (by decide) rfl (J5 (hC.getM 0 rfl)) (fun q hq=>ZG5 (E:=ETerm) _ q hq) rfl rfl hm11 fun v12 w29 hC=>?_
         replace hC:=Jm hC 1 ((s10.1++[(⟨(a1.terms.getD s10.2.2.toNat Zuw).mono,r10⟩:Term)]).length) (ZF6.encs (s10.1++[(⟨(a1.terms.getD s10.2.2.toNat Zuw).mono,r10⟩:Term)])) rfl (by simp) (by first | (simp [ZGu]; done) | simp [ZGu,ZG6])
         refine Zx 0 ZGc rfl sc53.size rfl rfl (Zo (v:=v12) hC 2 [v12] [v12] rfl sc53.size rfl rfl (Za2 (hC.getM 1 rfl)) rfl (Ye (Yr (hC.getM 1 rfl)) rfl) (ZGe rfl) rfl fun w30 hC=>done (Z3 (Zd (Zm (Zb (v:=vI s10.2.2) rfl (Zp rfl rfl (Zc (v:=vI (Zxa.wrap (s10.2.2+1))) rfl (done (Zs (Zs ?_))))))))))
         exact hK10 (s10.1++[(⟨(a1.terms.getD s10.2.2.toNat Zuw).mono,r10⟩:Term)],s10.2.1,Zxa.wrap (s10.2.2+1)) _ _ ⟨v12,(slq rfl),(hC.xM [1,2,3,4,5] rfl)⟩ h
        ·replace h:=Zk h (cf hb17)
         refine ZF8 (Zd (Zm (Zb (v:=vI s10.2.2) rfl (Zp rfl rfl (Zc (v:=vI (Zxa.wrap (s10.2.2+1))) rfl (done (Zs (Zs ?_))))))))
         exact hK10 (s10.1,s10.2.1,Zxa.wrap (s10.2.2+1)) _ _ ⟨v10,(slq rfl),hC⟩ h
       ·replace h:=Zk h (Y0 hb16)
        refine ZF5 (ZF5 ?_)
        refine cwd 15 mixed [0,1,0,7,15,31,0,0,128,0,896,1920,3968,8128,16320,32767,65535,131071] [1,3,5,8,10,12] [0,2,4,6,7,9,11,13] (fun hM15 hM14 w31 hB_=>?_)
        replace hC:=hC.grow hB_
        refine bF 0 (vQ b7) rfl rfl hM14 (fun _=>by exact Yh 0 ZGc rfl sc53.size rfl rfl) (Za 18 1) (bL 1 (u0_0) rfl rfl hM15 (fun _ hB_=>by exact Yd (hC.grow hB_) 4 (u0_0) rfl sc53 rfl rfl) (Za 18 3) (bM 2 (vI s10.2.1) rfl hM14 (Za 18 7) ?_))
        obtain ⟨⟨h24,h25⟩,h⟩:=h
        obtain ⟨Ad15,c17,hv17⟩:=Zz (hC.getP 1 rfl) s10.2.1.toNat (show s10.2.1.toNat < a0.terms.length by omega)
        refine bL 3 (.pointer (some (Ad15.add (s10.2.1.toNat * 9)))) rfl rfl hM15 (fun _ hB_=>by exact Yw (len:=a0.terms.length) ZGf ag90.size (by exact tr rfl hv17) rfl h24 h25) (Za 18 15) (bF 4 (.pointer (some (Ad15.add (s10.2.1.toNat * 9+8)))) rfl rfl hM14 (fun _=>by exact Jz (s10.2.1.toNat * 9+8) ZGl rfl sc2.size rfl rfl) (Za 18 31) (bL 5 (vI ((a0.terms.getD s10.2.1.toNat Zuw).factor)) rfl rfl hM15 (fun _ hB_=>by exact Jw (vI ((a0.terms.getD s10.2.1.toNat Zuw).factor)) (Xp (o:=8) (k:=1) (Yf ((hC.grow hB_).getP 1 rfl) hv17 s10.2.1.toNat (show s10.2.1.toNat < a0.terms.length by omega)) rfl) sc2 rfl) (Za 18 63) (bM 6 (vI a2) rfl hM14 (Za 18 127) (bF 7 (vQ b10) rfl rfl hM14 (fun _=>by exact Yh 0 ZGc rfl sc53.size rfl rfl) (Za 18 255) (bL 8 (u1_0) rfl rfl hM15 (fun _ hB_=>by exact Yd (hC.grow hB_) 3 (u1_0) rfl sc53 rfl rfl) (Za 18 511) (bM 9 (vI s10.2.2) rfl hM14 (Za 18 1023) ?_))))))
        obtain ⟨⟨h26,h27⟩,h⟩:=h
        obtain ⟨Ad16,c18,hv18⟩:=Zz (hC.getP 0 rfl) s10.2.2.toNat (show s10.2.2.toNat < a1.terms.length by omega)
        refine bL 10 (.pointer (some (Ad16.add (s10.2.2.toNat * 9)))) rfl rfl hM15 (fun _ hB_=>by exact Yw (len:=a1.terms.length) ZGf ag90.size (by exact tr rfl hv18) rfl h26 h27) (Za 18 2047) (bF 11 (.pointer (some (Ad16.add (s10.2.2.toNat * 9+8)))) rfl rfl hM14 (fun _=>by exact Jz (s10.2.2.toNat * 9+8) ZGl rfl sc2.size rfl rfl) (Za 18 4095) (bL 12 (vI ((a1.terms.getD s10.2.2.toNat Zuw).factor)) rfl rfl hM15 (fun _ hB_=>by exact Jw (vI ((a1.terms.getD s10.2.2.toNat Zuw).factor)) (Xp (o:=8) (k:=1) (Yf ((hC.grow hB_).getP 0 rfl) hv18 s10.2.2.toNat (show s10.2.2.toNat < a1.terms.length by omega)) rfl) sc2 rfl) (Za 18 8191) (bF 13 (vI (Zxa.wrap (a2 * ((a1.terms.getD s10.2.2.toNat Zuw).factor)))) rfl rfl hM14 (fun _=>by exact Zd0 rfl rfl) (Za 18 16383) (aO 14 rfl (Zf [vI (Zxa.wrap (a2 * ((a1.terms.getD s10.2.2.toNat Zuw).factor)))] _ ZGw rfl rfl rfl (Zbj (Zxa.wrap (a2 * ((a1.terms.getD s10.2.2.toNat Zuw).factor))) h _) ?_)))))
        rintro _ w32 ⟨r14,rfl,h,hB13⟩
        refine rt ?_
        replace hC:=hC.grow hB13
        refine done (aK (by assumption) (Za 18 32767) (Z2 15 (by decide) (by decide) (by kernel_rfl) (by kernel_rfl) rfl (Zp rfl rfl (Zf [vI (Zxa.wrap (((a0.terms.getD s10.2.1.toNat Zuw).factor)+r14))] _ ZGw rfl rfl rfl (Zbj (Zxa.wrap (((a0.terms.getD s10.2.1.toNat Zuw).factor)+r14)) h _) ?_))))
        rintro _ w33 ⟨r11,rfl,h,hB14⟩
        refine rt ?_
        replace hC:=hC.grow hB14
        refine Zc (v:=vI r11) rfl (done (Z3 (Zd (sr (Zb (v:=vI r11) rfl (Y4 rfl rfl (dn ?_)))))))
        refine Zq rfl (fun hb18=>?_) (fun hb18=>?_)
        ·replace h:=ift h (ct hb18)
         refine cwd 11 mixed [0,1,0,4,0,28,60,124,0,508,1020,2047,4095,8191] [1,3,5,7,9] [0,2,4,6,8] (fun hM18 hM19 w34 hB_=>?_)
         replace hC:=hC.grow hB_
         refine bF 0 (vQ b11) rfl rfl hM19 (fun _=>by exact Yh 0 ZGc rfl sc53.size rfl rfl) (Za 14 1) (bL 1 (v10) rfl rfl hM18 (fun _ hB_=>by exact Yd (hC.grow hB_) 1 (v10) rfl sc53 rfl rfl) (Za 14 3) (bF 2 (vQ b7) rfl rfl hM19 (fun _=>by exact Yh 0 ZGc rfl sc53.size rfl rfl) (Za 14 7) (bL 3 (u0_0) rfl rfl hM18 (fun _ hB_=>by exact Yd (hC.grow hB_) 4 (u0_0) rfl sc53 rfl rfl) (Za 14 15) (bM 4 (vI s10.2.1) rfl hM19 (Za 14 31) ?_))))
         obtain ⟨⟨h28,h29⟩,h⟩:=h
         obtain ⟨Ad17,c19,hv19⟩:=Zz (hC.getP 1 rfl) s10.2.1.toNat (show s10.2.1.toNat < a0.terms.length by omega)
         refine bL 5 (.pointer (some (Ad17.add (s10.2.1.toNat * 9)))) rfl rfl hM18 (fun _ hB_=>by exact Yw (len:=a0.terms.length) ZGf ag90.size (by exact tr rfl hv19) rfl h28 h29) (Za 14 63) (bF 6 (.pointer (some (Ad17.add (s10.2.1.toNat * 9+0)))) rfl rfl hM19 (fun _=>by exact Jz (s10.2.1.toNat * 9+0) ZGl rfl ag88.size rfl rfl) (Za 14 127) (bL 7 (.agg (ZF4 (ZF3 .u8 ((a0.terms.getD s10.2.1.toNat Zuw).mono)))) rfl rfl hM18 (fun _ hB_=>by exact Xn (ZF3 .u8 ((a0.terms.getD s10.2.1.toNat Zuw).mono)) (Xp (o:=0) (k:=8) (Yf ((hC.grow hB_).getP 1 rfl) hv19 s10.2.1.toNat (show s10.2.1.toNat < a0.terms.length by omega)) rfl) ag88 rfl rfl) (Za 14 255) (bM 8 (vI r11) rfl hM19 (Za 14 511) (bL 9 (.agg (ZF4 (ZGg (⟨(a0.terms.getD s10.2.1.toNat Zuw).mono,r11⟩:Term)))) rfl rfl hM18 (fun _ hB_=>by exact Zd1 [(0,.agg (ZF4 (ZF3 .u8 ((a0.terms.getD s10.2.1.toNat Zuw).mono)))),(1,vI r11)] rfl (Zee ((a0.terms.getD s10.2.1.toNat Zuw).mono) r11  _)) (Za 14 1023) (aO 10 rfl (Jk (sz:=9) hC [(0,.agg (ZF4 (ZGg (⟨(a0.terms.getD s10.2.1.toNat Zuw).mono,r11⟩:Term))))] (ZF6.encs [(⟨(a0.terms.getD s10.2.1.toNat Zuw).mono,r11⟩:Term)]) rfl (fun _=>Zdd (⟨(a0.terms.getD s10.2.1.toNat Zuw).mono,r11⟩:Term) _) rfl (by decide) fun b15 w35 hB_ hC=>done (aK (by assumption) (Za 14 2047) (Z2 11 (by decide) (by decide) (by kernel_rfl) (by kernel_rfl) rfl ?_))))))))
         obtain ⟨hm12,h⟩:=h
         refine Zap hC 1 ZGf Zde rfl (by decide) (by decide) rfl (J5 (hC.getM 0 rfl)) (fun q hq=>ZG5 (E:=ETerm) _ q hq) rfl rfl hm12 fun v13 w36 hC=>?_
         replace hC:=Jm hC 1 ((s10.1++[(⟨(a0.terms.getD s10.2.1.toNat Zuw).mono,r11⟩:Term)]).length) (ZF6.encs (s10.1++[(⟨(a0.terms.getD s10.2.1.toNat Zuw).mono,r11⟩:Term)])) rfl (by simp) (by first | (simp [ZGu]; done) | simp [ZGu,ZG6])
         refine Zx 0 ZGc rfl sc53.size rfl rfl (Zo (v:=v13) hC 2 [v13] [v13] rfl sc53.size rfl rfl (Za2 (hC.getM 1 rfl)) rfl (Ye (Yr (hC.getM 1 rfl)) rfl) (ZGe rfl) rfl fun w37 hC=>done (Z3 (Zd (sr (Zb (v:=vI s10.2.1) rfl (Zp rfl rfl (Zc (v:=vI (Zxa.wrap (s10.2.1+1))) rfl (dn (Zm (Zb (v:=vI s10.2.2) rfl (Zp rfl rfl (Zc (v:=vI (Zxa.wrap (s10.2.2+1))) rfl (done (Zs (Zs ?_)))))))))))))))
         exact hK10 (s10.1++[(⟨(a0.terms.getD s10.2.1.toNat Zuw).mono,r11⟩:Term)],Zxa.wrap (s10.2.1+1),Zxa.wrap (s10.2.2+1)) _ _ ⟨v13,(slq rfl),(hC.xM [1,2,3,4,5] rfl)⟩ h
        ·replace h:=Zk h (cf hb18)
         refine ZF8 (Zd (sr (Zb (v:=vI s10.2.1) rfl (Zp rfl rfl (Zc (v:=vI (Zxa.wrap (s10.2.1+1))) rfl (dn (Zm (Zb (v:=vI s10.2.2) rfl (Zp rfl rfl (Zc (v:=vI (Zxa.wrap (s10.2.2+1))) rfl (done (Zs (Zs ?_)))))))))))))
         exact hK10 (s10.1,Zxa.wrap (s10.2.1+1),Zxa.wrap (s10.2.2+1)) _ _ ⟨v10,(slq rfl),hC⟩ h
   ·replace h:=Zk h (Y0 hb14)
    refine ZGj (Zl (Zl (Z5 ?_)))
    refine Zd (sr (Yb hC 1 [v10] rfl ag55 rfl rfl rfl (Zo (v:=.agg #[v10]) hC 2 [v10] [v10] rfl ag55.size rfl rfl rfl rfl (Ye (Yr (hC.getM 0 rfl)) rfl) (ZGe rfl) rfl fun w38 hC=>dn (ZGd ?_))))
    exact Zj rfl (Y2 hC 2 rfl ag55 rfl rfl) ⟨(⟨s10.1⟩:ZF9),v10,(ZG2 (Zvi v10)),rfl,h,(X5 (Jc (hC.getM 0 rfl))),(X3 hC 0 rfl),hC.below⟩ (.inl rfl)
 ·skip
  replace hC:=hC.pushNil 90 9
  exact⟨.slice none 0 0,(slq rfl),hC⟩
def Zei (a0:List Int) (a1:A8) (a2:A8) (K:A8→Int→Prop):Prop :=
 Yi (fun i10 (s11:A8×Int) nx10=>((0≤(i10:Int)∧(i10:Int) < 8)∧((0≤(i10:Int)∧(i10:Int) < 8)∧((0≤(i10:Int)∧(i10:Int) < 8)∧(if Zvh (a0.getD i10 Zuw) 2=0 then nx10 (s11.1.set i10 (ZGh.wrap ((a1.get i10)+(a2.get i10))),s11.2) else((0≤(i10:Int)∧(i10:Int) < 8)∧(if(s11.1.set i10 (ZGh.wrap ((a1.get i10)+(a2.get i10)))).get i10 > 1 then K ZGa 0 else X8 (fun (s10:Int×Int) nx11=>(if s10.1 < (a0.length:Int) then((0≤(i10:Int)∧(i10:Int) < 8)∧(if a2.get i10=1 then((0≤s10.1∧s10.1 < (a0.length:Int))∧(if Zvh (a0.getD s10.1.toNat Zuw) 2≠0 then((0≤s10.1∧s10.1 < 8)∧(if a1.get s10.1.toNat=1 then nx11 (Zxa.wrap (s10.1+1),Zxa.wrap (0 - s10.2)) else nx11 (Zxa.wrap (s10.1+1),s10.2))) else nx11 (Zxa.wrap (s10.1+1),s10.2))) else nx10 (s11.1.set i10 (ZGh.wrap ((a1.get i10)+(a2.get i10))),s10.2))) else nx10 (s11.1.set i10 (ZGh.wrap ((a1.get i10)+(a2.get i10))),s10.2))) (Zxa.wrap ((i10:Int)+1),s11.2)))))))) (fun (s11:A8×Int)=>K s11.1 s11.2) a0.length 0 (ZGa,1)
theorem Zk2 (a0 : List Int) (a1 : A8) (a2 : A8)  {K : A8 → Int → Prop} (h : Zei a0 a1 a2 K) (w0 : World) (q0 : TInts.rep a0 [u0_0] fp0 w0) :
  Calls ZF7 100 #[u0_0,.agg (ZF4 (ZF3 .u8 a1)),.agg (ZF4 (ZF3 .u8 a2))] w0 fun e w'=>∃ (r0:A8) (r1:Int),
   e=.returned (.tuple #[.agg (ZF4 (ZF3 .u8 r0)),vI r1])∧K r0 r1∧Bel w0 w':=by
 unfold Zei at h
 refine cof ZHf rfl 69 Tryz.ntmps100 ?_
 have hC:=ZGq (X:=Nox) w0 [ZCh TInts a0 [u0_0] fp0] (al1 q0)
 refine sr (Yj (v:=.agg (ZF4 (ZF3 .u8 a1))) hC (ZF3 .u8 a1) rfl rfl fun b2 w4 hB_ hC=>Yj (v:=.agg (ZF4 (ZF3 .u8 a2))) hC (ZF3 .u8 a2) rfl rfl fun b5 w7 hB_ hC=>Z1 hC (ZF3 .u8 ZGa) z88 rfl fun b8 w10 hB_ hC=>Zc (v:=vI 0) rfl (dn (sr (Y5 [] rfl (Zdf   _) (Z1 hC (ZF3 .u8 ZGa) z88 rfl fun b10 w11 hB_ hC=>Zo (v:=.agg (ZF4 (ZF3 .u8 ZGa))) hC 0 (ZF3 .u8 ZGa) (ZF3 .u8 ZGa) rfl ag88.size rfl rfl rfl rfl rfl (ZGe rfl) rfl fun w12 hC=>Zc (v:=vI 1) rfl (dn (ZF5 (sr (Zc (v:=vI 0) rfl (dn (ZGb ?_)))))))))))
 have hN10:a0.length≤9223372036854775807:=Y3 (hC.getP 0 rfl)
 refine Yn (S:=A8×Int) _ _ (fun i10 s11 e_ w_=>Zy e_ [(0,u0_0),(4,vQ b2),(5,vQ b5),(6,vQ b8),(8,vQ b10),(9,vI s11.2),(10,vI (i10:Int))]∧Ctx Nox w0 w_ [blk b10 88 (ZF3 .u8 s11.1),blk b8 88 (ZF3 .u8 ZGa),blk b5 88 (ZF3 .u8 a2),blk b2 88 (ZF3 .u8 a1)] [ZCh TInts a0 [u0_0] fp0]) a0.length ?_ ?_ (s0:=(ZGa,1)) ?_ h
 ·clear hC h
  rintro i10 s11 e_ w13 nx10 K10 hi10 ⟨hS_,hC⟩ h hK10
  rw [ue hS_]
  refine ZF5 (sr (Zb (v:=vI (i10:Int)) rfl (Zb (v:=u0_0) rfl (Zv hC 0 rfl ZGo rfl (Zn rfl rfl (dn (Z8 rfl (decide_eq_true (by omega)) (ZF8 (Zd (ZF5 (ZGb (ZF5 ?_))))))))))))
  refine cwd 8 mixed [0,0,2,6,0,16,48,126,255,511] [2,3,5,6] [0,1,4,7] (fun hM10 hM11 w14 hB_=>?_)
  replace hC:=hC.grow hB_
  refine bM 0 (vI (i10:Int)) rfl hM11 (Za 10 1) (bM 1 (vI (i10:Int)) rfl hM11 (Za 10 3) ?_)
  obtain ⟨⟨h10,h11⟩,h⟩:=h
  refine bL 2 (.pointer (some ⟨b2,i10,none⟩)) rfl rfl hM10 (fun _ hB_=>by exact Jf i10 ZGn sc5.size rfl rfl h10 h11 (by omega)) (Za 10 7) (bL 3 (.int .u8 (a1.get i10)) rfl rfl hM10 (fun _ hB_=>by exact Yd (hC.grow hB_) 3 (.int .u8 (a1.get i10)) rfl sc5 rfl (ZGi _ _ (show i10 < 8 by omega))) (Za 10 15) (bM 4 (vI (i10:Int)) rfl hM11 (Za 10 31) ?_))
  obtain ⟨⟨h12,h13⟩,h⟩:=h
  refine bL 5 (.pointer (some ⟨b5,i10,none⟩)) rfl rfl hM10 (fun _ hB_=>by exact Jf i10 ZGn sc5.size rfl rfl h12 h13 (by omega)) (Za 10 63) (bL 6 (.int .u8 (a2.get i10)) rfl rfl hM10 (fun _ hB_=>by exact Yd (hC.grow hB_) 2 (.int .u8 (a2.get i10)) rfl sc5 rfl (ZGi _ _ (show i10 < 8 by omega))) (Za 10 127) (bF 7 (.int .u8 (ZGh.wrap ((a1.get i10)+(a2.get i10)))) rfl rfl hM11 (fun _=>by exact Zjt rfl rfl) (Za 10 255) (Z2 8 (by decide) (by decide) (by kernel_rfl) (by kernel_rfl) rfl ?_)))
  obtain ⟨⟨h14,h15⟩,h⟩:=h
  refine Y6 i10 ZGn sc5.size rfl rfl h14 h15 (by omega) (Zo (v:=.int .u8 (ZGh.wrap ((a1.get i10)+(a2.get i10)))) hC 0 [.int .u8 (ZGh.wrap ((a1.get i10)+(a2.get i10)))] (ZF3 .u8 (s11.1.set i10 (ZGh.wrap ((a1.get i10)+(a2.get i10))))) rfl sc5.size rfl rfl rfl rfl rfl (show i10 < 8 by omega) (ZGz _ _ _ (show i10 < 8 by omega)) fun w15 hC=>done (Z3 (Zd (ZF5 (sr (Zb (v:=u0_0) rfl (Zb (v:=vI (i10:Int)) rfl ?_)))))))
  obtain ⟨Ad10,c10,hv10⟩:=Zz (hC.getP 0 rfl) i10 hi10
  refine Yq (len:=a0.length) ZGo sc2.size (tr rfl hv10) rfl (ZGm _) (ZG4.2 hi10) (Xb (vI (a0.getD i10 Zuw)) (Yf (hC.getP 0 rfl) hv10 i10 hi10) sc2 rfl (Jp rfl rfl (by decide) (Je rfl rfl (dn ?_))))
  refine Zq rfl (fun hb12=>?_) (fun hb12=>?_)
  ·replace h:=ift h (ct hb12)
   refine ZGj (Zl (Z5 ?_))
   refine Zd (Zm (Zb (v:=vI (i10:Int)) rfl (Zp rfl rfl (Zc (v:=vI (Zxa.wrap ((i10:Int)+1))) rfl (done ?_)))))
   exact hK10 (s11.1.set i10 (ZGh.wrap ((a1.get i10)+(a2.get i10))),s11.2) _ _ ⟨(sl ⟨rfl,rfl,rfl,rfl,rfl,rfl,(tr rfl (congrArg _ (Z6 hi10 hN10))),trivial⟩),hC⟩ h
  ·replace h:=Zk h (cf hb12)
   refine ZF8 (Zd (ZF5 (sr (Zb (v:=vI (i10:Int)) rfl ?_))))
   obtain ⟨⟨h16,h17⟩,h⟩:=h
   refine Y6 i10 ZGn sc5.size rfl rfl h16 h17 (by omega) (Z4 hC 0 (.int .u8 ((s11.1.set i10 (ZGh.wrap ((a1.get i10)+(a2.get i10)))).get i10)) rfl sc5 rfl (ZGi _ _ (show i10 < 8 by omega)) (Xy rfl rfl (dn ?_)))
   refine Zq rfl (fun hb13=>?_) (fun hb13=>?_)
   ·replace h:=ift h (ct hb13)
    refine sr (Y5 [] rfl (Zdf   _) (Zo (v:=.agg (ZF4 (ZF3 .u8 ZGa))) hC 1 (ZF3 .u8 ZGa) (ZF3 .u8 ZGa) rfl ag88.size rfl rfl rfl rfl rfl (ZGe rfl) rfl fun w16 hC=>Zc (v:=vI 0) rfl (dn ?_)))
    refine ZGd (Ze (Zw (Ze (Ze (Zw (Ze ?_))))))
    exact Xi rfl (Y2 hC 1 rfl ag88 rfl rfl) (Zg rfl) ⟨ZGa,0,rfl,h,hC.below⟩ (.inl rfl)
   ·replace h:=Zk h (cf hb13)
    refine ZF8 (Zd (sr (Zb (v:=vI (i10:Int)) rfl (Zp rfl rfl (Zc (v:=vI (Zxa.wrap ((i10:Int)+1))) rfl (dn (ZGb ?_)))))))
    refine Jj (S:=Int×Int) _ (fun s10 e_ w_=>Zy e_ [(0,u0_0),(4,vQ b2),(5,vQ b5),(6,vQ b8),(8,vQ b10),(9,vI s10.2),(10,vI (i10:Int)),(11,vI s10.1)]∧Ctx Nox w0 w_ [blk b10 88 (ZF3 .u8 (s11.1.set i10 (ZGh.wrap ((a1.get i10)+(a2.get i10))))),blk b8 88 (ZF3 .u8 ZGa),blk b5 88 (ZF3 .u8 a2),blk b2 88 (ZF3 .u8 a1)] [ZCh TInts a0 [u0_0] fp0]) ?_ (s0:=(Zxa.wrap ((i10:Int)+1),s11.2)) ?_ h
    ·clear hC h
     rintro s10 e_ w17 nx11 K11 ⟨hS_,hC⟩ h hK11
     rw [ue hS_]
     refine ZF5 (sr (Zb (v:=vI s10.1) rfl (Zb (v:=u0_0) rfl (Zv hC 0 rfl ZGo rfl (Zn rfl rfl (Zb (v:=.bool (decide (s10.1 < (a0.length:Int)))) rfl ?_))))))
     refine Y1 (decide (s10.1 < (a0.length:Int))) (fun hb10=>?_) (fun hb10=>?_)
     ·replace h:=ift h (ct hb10)
      refine Zi 4 45 rfl rfl hb10 (Zb (v:=vI (i10:Int)) rfl (Zi 4 45 rfl rfl hb10 ?_))
      obtain ⟨⟨h18,h19⟩,h⟩:=h
      refine Y6 i10 ZGn sc5.size rfl rfl h18 h19 (by omega) (Zi 4 45 rfl rfl hb10 (Z4 hC 2 (.int .u8 (a2.get i10)) rfl sc5 rfl (ZGi _ _ (show i10 < 8 by omega)) (Zi 4 45 rfl rfl hb10 (Je rfl rfl (Z0 (v:=.bool (decide (a2.get i10=1))) (b:=true) (tr rfl (congrArg _ hb10)) rfl (dn ?_))))))
      refine Zq rfl (fun hb14=>?_) (fun hb14=>?_)
      ·replace h:=ift h (ct hb14)
       refine ZF8 (Zd (ZF5 (ZGb (sr (Zb (v:=u0_0) rfl (Zb (v:=vI s10.1) rfl ?_))))))
       obtain ⟨⟨h20,h21⟩,h⟩:=h
       obtain ⟨Ad11,c11,hv11⟩:=Zz (hC.getP 0 rfl) s10.1.toNat (show s10.1.toNat < a0.length by omega)
       refine Yq (len:=a0.length) ZGo sc2.size (tr rfl hv11) rfl h20 h21 (Xb (vI (a0.getD s10.1.toNat Zuw)) (Yf (hC.getP 0 rfl) hv11 s10.1.toNat (show s10.1.toNat < a0.length by omega)) sc2 rfl (Jp rfl rfl (by decide) (Y4 rfl rfl (Zb (v:=.bool (decide (Zvh (a0.getD s10.1.toNat Zuw) 2≠0))) rfl ?_))))
       refine Y1 (decide (Zvh (a0.getD s10.1.toNat Zuw) 2≠0)) (fun hb11=>?_) (fun hb11=>?_)
       ·replace h:=ift h (ct hb11)
        refine Zi 6 59 rfl rfl hb11 (Zb (v:=vI s10.1) rfl (Zi 6 59 rfl rfl hb11 ?_))
        obtain ⟨⟨h22,h23⟩,h⟩:=h
        refine Y6 s10.1.toNat ZGn sc5.size rfl rfl h22 h23 (by omega) (Zi 6 59 rfl rfl hb11 (Z4 hC 3 (.int .u8 (a1.get s10.1.toNat)) rfl sc5 rfl (ZGi _ _ (show s10.1.toNat < 8 by omega)) (Zi 6 59 rfl rfl hb11 (Je rfl rfl (Z0 (v:=.bool (decide (a1.get s10.1.toNat=1))) (b:=true) (tr rfl (congrArg _ hb11)) rfl (dn ?_))))))
        refine Zq rfl (fun hb15=>?_) (fun hb15=>?_)
        ·replace h:=ift h (ct hb15)
         refine Zm (Zb (v:=vI s10.2) rfl (Zf0 rfl (Zc (v:=vI (Zxa.wrap (0 - s10.2))) rfl (done (Zs (Zd (Zm (Zb (v:=vI s10.1) rfl (Zp rfl rfl (Zc (v:=vI (Zxa.wrap (s10.1+1))) rfl (done ?_)))))))))))
         exact hK11 (Zxa.wrap (s10.1+1),Zxa.wrap (0 - s10.2)) _ _ ⟨(slq rfl),hC⟩ h
        ·replace h:=Zk h (cf hb15)
         refine ZF8 (Zs (Zd (Zm (Zb (v:=vI s10.1) rfl (Zp rfl rfl (Zc (v:=vI (Zxa.wrap (s10.1+1))) rfl (done ?_)))))))
         exact hK11 (Zxa.wrap (s10.1+1),s10.2) _ _ ⟨(slq rfl),hC⟩ h
       ·replace h:=Zk h (cf hb11)
        refine Zh (b:=false) 6 59 rfl (tr rfl (congrArg _ hb11)) (by decide) (Zh (b:=false) 6 59 rfl (tr rfl (congrArg _ hb11)) (by decide) (Zh (b:=false) 6 59 rfl (tr rfl (congrArg _ hb11)) (by decide) (Zh (b:=false) 6 59 rfl (tr rfl (congrArg _ hb11)) (by decide) (Z0 (v:=.bool false) (b:=false) (tr rfl (congrArg _ hb11)) rfl (dn (Z9 rfl rfl (ZF8 (Zs (Zd (Zm (Zb (v:=vI s10.1) rfl (Zp rfl rfl (Zc (v:=vI (Zxa.wrap (s10.1+1))) rfl (done ?_))))))))))))))
        exact hK11 (Zxa.wrap (s10.1+1),s10.2) _ _ ⟨(slq rfl),hC⟩ h
      ·replace h:=Zk h (cf hb14)
       refine ZGj (Zl (Zl (Z5 ?_)))
       refine Zs (Zd (Zm (Zb (v:=vI (i10:Int)) rfl (Zp rfl rfl (Zc (v:=vI (Zxa.wrap ((i10:Int)+1))) rfl (done ?_))))))
       exact hK10 (s11.1.set i10 (ZGh.wrap ((a1.get i10)+(a2.get i10))),s10.2) _ _ ⟨(sl ⟨rfl,rfl,rfl,rfl,rfl,rfl,(tr rfl (congrArg _ (Z6 hi10 hN10))),trivial⟩),hC⟩ h
     ·replace h:=Zk h (cf hb10)
      refine Zh (b:=false) 4 45 rfl (tr rfl (congrArg _ hb10)) (by decide) (Zh (b:=false) 4 45 rfl (tr rfl (congrArg _ hb10)) (by decide) (Zh (b:=false) 4 45 rfl (tr rfl (congrArg _ hb10)) (by decide) (Zh (b:=false) 4 45 rfl (tr rfl (congrArg _ hb10)) (by decide) (Z0 (v:=.bool false) (b:=false) (tr rfl (congrArg _ hb10)) rfl (dn (Z9 rfl rfl ?_))))))
      refine ZGj (Zl (Zl (Z5 ?_)))
      refine Zs (Zd (Zm (Zb (v:=vI (i10:Int)) rfl (Zp rfl rfl (Zc (v:=vI (Zxa.wrap ((i10:Int)+1))) rfl (done ?_))))))
      exact hK10 (s11.1.set i10 (ZGh.wrap ((a1.get i10)+(a2.get i10))),s10.2) _ _ ⟨(sl ⟨rfl,rfl,rfl,rfl,rfl,rfl,(tr rfl (congrArg _ (Z6 hi10 hN10))),trivial⟩),hC⟩ h
    ·skip
     exact⟨(slq rfl),hC⟩
 ·clear hC h
  rintro s11 e_ w18 K10 ⟨hS_,hC⟩ h
  rw [ue hS_]
  refine ZF5 (sr (Zb (v:=vI (a0.length:Int)) rfl (Zb (v:=u0_0) rfl (Zv hC 0 rfl ZGo rfl (Zn rfl rfl (dn (Z9 rfl (decide_eq_false (by omega)) ?_)))))))
  refine ZGj (Zl (Zl (Z5 ?_)))
  refine Zd (sr (Yb hC 0 (ZF3 .u8 s11.1) rfl ag88 rfl rfl rfl (Zb (v:=vI s11.2) rfl (Zo (v:=.agg (ZF4 (ZF3 .u8 s11.1))) hC 1 (ZF3 .u8 s11.1) (ZF3 .u8 s11.1) rfl ag88.size rfl rfl rfl rfl rfl (ZGe rfl) rfl fun w19 hC=>Zc (v:=vI s11.2) rfl (dn (ZGd ?_))))))
  exact Xi rfl (Y2 hC 1 rfl ag88 rfl rfl) (Zg rfl) ⟨s11.1,s11.2,rfl,h,hC.below⟩ (.inl rfl)
 ·skip
  exact⟨(slq rfl),hC⟩
def Zej (a0:List Int) (a1:Term) (a2:ZF9) (K:ZF9→Prop):Prop :=
 X8 (fun (s10:(List Term)×Int) nx10=>(if s10.2 < (a2.terms.length:Int) then((0≤s10.2∧s10.2 < (a2.terms.length:Int))∧Zei a0 a1.mono ((a2.terms.getD s10.2.toNat Zuw).mono) (fun r13 r14=>(if r14≠0 then((0≤s10.2∧s10.2 < (a2.terms.length:Int))∧Xz (Zxa.wrap ((Zxa.wrap (r14 * a1.factor)) * ((a2.terms.getD s10.2.toNat Zuw).factor))) (fun r11=>(Xd (s10.1.length+1) 16∧nx10 (s10.1++[(⟨r13,r11⟩:Term)],Zxa.wrap (s10.2+1))))) else nx10 (s10.1,Zxa.wrap (s10.2+1))))) else K (⟨s10.1⟩:ZF9))) ([],0)
theorem Zph (a0:List Int) (a1:Term) (a2:ZF9)  {K:ZF9→Prop} (h:Zej a0 a1 a2 K) (w0:World) (q0:TInts.rep a0 [u0_0] fp0 w0) (q2:ZGr.rep a2 [u2_0] fp2 w0) :
  Calls ZF7 83 #[u0_0,.agg (ZF4 (ZGg a1)),.agg #[u2_0]] w0 fun e w'=>∃ (r0:ZF9) (z0_0:Value) (fz0:List Nat),
   e=.returned (.agg #[z0_0])∧K r0∧(ZGk (Zr 90) r0 [z0_0] fz0).holds w'∧(∀ b,b∈fz0→w0.heap.size≤b)∧Bel w0 w':=by
 unfold Zej at h
 refine cof Tryz.func83 rfl 54 Tryz.ntmps83 ?_
 have hC:=ZGq (X:=Nox) w0 [ZCh TInts a0 [u0_0] fp0,ZCh TForm a2 [u2_0] fp2] (alc q0 (al1 q2))
 have hp3:=(hC.getP 1 rfl)
 replace hC:=hC.derive 1 rfl (ZCh ZF6.ty.sl a2.terms [u2_0] fp2) (fun _=>(Yx hp3)) (fun _ hb_=>hb_)
 refine sr (Yj (v:=.agg (ZF4 (ZGg a1))) hC (ZGg a1) rfl rfl fun b5 w7 hB_ hC=>Yj (v:=.agg #[u2_0]) hC [u2_0] rfl rfl fun b8 w10 hB_ hC=>Z1 hC [.slice none 0 0] z55 rfl fun b11 w11 hB_ hC=>dn (sr (Y5 [] rfl (Za5   _) (Z1 hC [.slice none 0 0] z55 rfl fun b10 w12 hB_ hC=>Zo (v:=.agg #[.slice none 0 0]) hC 0 [.slice none 0 0] [.slice none 0 0] rfl ag55.size rfl rfl rfl rfl rfl (ZGe rfl) rfl fun w13 hC=>dn (ZF5 (sr (Zc (v:=vI 0) rfl (dn (ZGb ?_)))))))))
 refine Jj (S:=(List Term)×Int) _ (fun s10 e_ w_=>∃ (v10:Value),Zy e_ [(0,u0_0),(4,vQ b5),(5,vQ b8),(6,vQ b11),(7,vQ b10),(8,vI s10.2)]∧Ctx Nox w0 w_ [own 90 9 v10 s10.1.length (ZF6.encs s10.1),blk b10 55 [v10],blk b11 55 [.slice none 0 0],blk b8 55 [u2_0],blk b5 90 (ZGg a1)] [ZCh ZF6.ty.sl a2.terms [u2_0] fp2,ZCh TInts a0 [u0_0] fp0,ZCh TForm a2 [u2_0] fp2]) ?_ (s0:=([],0)) ?_ h
 ·clear hC h
  rintro s10 e_ w14 nx10 K10 ⟨v10,hS_,hC⟩ h hK10
  rw [ue hS_]
  refine ZF5 (sr (Zb (v:=vI s10.2) rfl (Zx 0 ZGc rfl sc53.size rfl rfl (Z4 hC 3 (u2_0) rfl sc53 rfl rfl (Zv hC 0 rfl ZGf rfl (Zn rfl rfl (dn ?_)))))))
  refine Zq rfl (fun hb10=>?_) (fun hb10=>?_)
  ·replace h:=ift h (ct hb10)
   refine ZF8 (Zd (ZF5 (ZGb (ZF5 ?_))))
   refine cwd 14 mixed [0,0,2,0,8,0,56,120,248,511,1023,2047,2047,0,12287,32767] [2,4,6,8] [0,1,3,5,7,10,11,12] (fun hM13 hM10 w15 hB_=>?_)
   replace hC:=hC.grow hB_
   refine bM 0 (u0_0) rfl hM10 (Za 16 1) (bF 1 (vQ b5) rfl rfl hM10 (fun _=>by exact Yh 0 ZGl rfl ag88.size rfl rfl) (Za 16 3) (bL 2 (.agg (ZF4 (ZF3 .u8 a1.mono))) rfl rfl hM13 (fun _ hB_=>by exact Y9 (hC.grow hB_) 4 (ZF3 .u8 a1.mono) rfl ag88 rfl rfl rfl) (Za 16 7) (bF 3 (vQ b8) rfl rfl hM10 (fun _=>by exact Yh 0 ZGc rfl sc53.size rfl rfl) (Za 16 15) (bL 4 (u2_0) rfl rfl hM13 (fun _ hB_=>by exact Yd (hC.grow hB_) 3 (u2_0) rfl sc53 rfl rfl) (Za 16 31) (bM 5 (vI s10.2) rfl hM10 (Za 16 63) ?_)))))
   obtain ⟨⟨h10,h11⟩,h⟩:=h
   obtain ⟨Ad10,c10,hv10⟩:=Zz (hC.getP 0 rfl) s10.2.toNat (show s10.2.toNat < a2.terms.length by omega)
   refine bL 6 (.pointer (some (Ad10.add (s10.2.toNat * 9)))) rfl rfl hM13 (fun _ hB_=>by exact Yw (len:=a2.terms.length) ZGf ag90.size (by exact tr rfl hv10) rfl h10 h11) (Za 16 127) (bF 7 (.pointer (some (Ad10.add (s10.2.toNat * 9+0)))) rfl rfl hM10 (fun _=>by exact Jz (s10.2.toNat * 9+0) ZGl rfl ag88.size rfl rfl) (Za 16 255) (bL 8 (.agg (ZF4 (ZF3 .u8 ((a2.terms.getD s10.2.toNat Zuw).mono)))) rfl rfl hM13 (fun _ hB_=>by exact Xn (ZF3 .u8 ((a2.terms.getD s10.2.toNat Zuw).mono)) (Xp (o:=0) (k:=8) (Yf ((hC.grow hB_).getP 0 rfl) hv10 s10.2.toNat (show s10.2.toNat < a2.terms.length by omega)) rfl) ag88 rfl rfl) (Za 16 511) ?_))
   refine Zb3 (fun e_ w_=>∃ (b12:Nat),∃ (r10:A8),∃ (r12:Int),Zy e_ [(0,u0_0),(4,vQ b5),(5,vQ b8),(6,vQ b11),(7,vQ b10),(8,vI s10.2),(9,vQ b12),(10,vI r12)]∧Ctx Nox w0 w_ [blk b12 88 (ZF3 .u8 r10),own 90 9 v10 s10.1.length (ZF6.encs s10.1),blk b10 55 [v10],blk b11 55 [.slice none 0 0],blk b8 55 [u2_0],blk b5 90 (ZGg a1)] [ZCh ZF6.ty.sl a2.terms [u2_0] fp2,ZCh TInts a0 [u0_0] fp0,ZCh TForm a2 [u2_0] fp2]∧(if r12≠0 then((0≤s10.2∧s10.2 < (a2.terms.length:Int))∧Xz (Zxa.wrap ((Zxa.wrap (r12 * a1.factor)) * ((a2.terms.getD s10.2.toNat Zuw).factor))) (fun r11=>(Xd (s10.1.length+1) 16∧nx10 (s10.1++[(⟨r10,r11⟩:Term)],Zxa.wrap (s10.2+1))))) else nx10 (s10.1,Zxa.wrap (s10.2+1)))) ?_ ?_
   ·clear hC h
    rintro e_ w16 ⟨b12,r10,r12,hS_,hC,h⟩
    rw [ue hS_]
    refine Zd (sr (Zb (v:=vI r12) rfl (Y4 rfl rfl (dn ?_))))
    refine Zq rfl (fun hb11=>?_) (fun hb11=>?_)
    ·replace h:=ift h (ct hb11)
     refine cwd 17 mixed [0,1,0,0,0,16,56,0,128,0,896,1920,3968,8184,16376,32764,65532,131071,262143,524287] [1,2,5,8,10,12,15] [0,3,4,6,7,9,11,13] (fun hM12 hM11 w17 hB_=>?_)
     replace hC:=hC.grow hB_
     refine bF 0 (vQ b10) rfl rfl hM11 (fun _=>by exact Yh 0 ZGc rfl sc53.size rfl rfl) (Za 20 1) (bL 1 (v10) rfl rfl hM12 (fun _ hB_=>by exact Yd (hC.grow hB_) 2 (v10) rfl sc53 rfl rfl) (Za 20 3) (bL 2 (.agg (ZF4 (ZF3 .u8 r10))) rfl rfl hM12 (fun _ hB_=>by exact Y9 (hC.grow hB_) 0 (ZF3 .u8 r10) rfl ag88 rfl rfl rfl) (Za 20 7) (bM 3 (vI r12) rfl hM11 (Za 20 15) (bF 4 (.pointer (some ⟨b5,8,none⟩)) rfl rfl hM11 (fun _=>by exact Yh 8 ZGl rfl sc2.size rfl rfl) (Za 20 31) (bL 5 (vI a1.factor) rfl rfl hM12 (fun _ hB_=>by exact Yd (hC.grow hB_) 5 (vI a1.factor) rfl sc2 rfl rfl) (Za 20 63) (bF 6 (vI (Zxa.wrap (r12 * a1.factor))) rfl rfl hM11 (fun _=>by exact Zd0 rfl rfl) (Za 20 127) (bF 7 (vQ b8) rfl rfl hM11 (fun _=>by exact Yh 0 ZGc rfl sc53.size rfl rfl) (Za 20 255) (bL 8 (u2_0) rfl rfl hM12 (fun _ hB_=>by exact Yd (hC.grow hB_) 4 (u2_0) rfl sc53 rfl rfl) (Za 20 511) (bM 9 (vI s10.2) rfl hM11 (Za 20 1023) ?_)))))))))
     obtain ⟨⟨h12,h13⟩,h⟩:=h
     obtain ⟨Ad11,c11,hv11⟩:=Zz (hC.getP 0 rfl) s10.2.toNat (show s10.2.toNat < a2.terms.length by omega)
     refine bL 10 (.pointer (some (Ad11.add (s10.2.toNat * 9)))) rfl rfl hM12 (fun _ hB_=>by exact Yw (len:=a2.terms.length) ZGf ag90.size (by exact tr rfl hv11) rfl h12 h13) (Za 20 2047) (bF 11 (.pointer (some (Ad11.add (s10.2.toNat * 9+8)))) rfl rfl hM11 (fun _=>by exact Jz (s10.2.toNat * 9+8) ZGl rfl sc2.size rfl rfl) (Za 20 4095) (bL 12 (vI ((a2.terms.getD s10.2.toNat Zuw).factor)) rfl rfl hM12 (fun _ hB_=>by exact Jw (vI ((a2.terms.getD s10.2.toNat Zuw).factor)) (Xp (o:=8) (k:=1) (Yf ((hC.grow hB_).getP 0 rfl) hv11 s10.2.toNat (show s10.2.toNat < a2.terms.length by omega)) rfl) sc2 rfl) (Za 20 8191) (bF 13 (vI (Zxa.wrap ((Zxa.wrap (r12 * a1.factor)) * ((a2.terms.getD s10.2.toNat Zuw).factor)))) rfl rfl hM11 (fun _=>by exact Zd0 rfl rfl) (Za 20 16383) (aO 14 rfl (Zf [vI (Zxa.wrap ((Zxa.wrap (r12 * a1.factor)) * ((a2.terms.getD s10.2.toNat Zuw).factor)))] _ ZGw rfl rfl rfl (Zbj (Zxa.wrap ((Zxa.wrap (r12 * a1.factor)) * ((a2.terms.getD s10.2.toNat Zuw).factor))) h _) ?_)))))
     rintro _ w18 ⟨r11,rfl,h,hB10⟩
     refine rt ?_
     replace hC:=hC.grow hB10
     refine done (aK (by assumption) (Za 20 32767) (bL 15 (.agg (ZF4 (ZGg (⟨r10,r11⟩:Term)))) rfl rfl hM12 (fun _ hB_=>by exact Zd1 [(0,.agg (ZF4 (ZF3 .u8 r10))),(1,vI r11)] rfl (Zee r10 r11  _)) (Za 20 65535) (aO 16 rfl (Jk (sz:=9) hC [(0,.agg (ZF4 (ZGg (⟨r10,r11⟩:Term))))] (ZF6.encs [(⟨r10,r11⟩:Term)]) rfl (fun _=>Zdd (⟨r10,r11⟩:Term) _) rfl (by decide) fun b15 w19 hB_ hC=>done (aK (by assumption) (Za 20 131071) (Z2 17 (by decide) (by decide) (by kernel_rfl) (by kernel_rfl) rfl ?_))))))
     obtain ⟨hm10,h⟩:=h
     refine Zap hC 2 ZGf Zde rfl (by decide) (by decide) rfl (J5 (hC.getM 0 rfl)) (fun q hq=>ZG5 (E:=ETerm) _ q hq) rfl rfl hm10 fun v11 w20 hC=>?_
     replace hC:=Jm hC 2 ((s10.1++[(⟨r10,r11⟩:Term)]).length) (ZF6.encs (s10.1++[(⟨r10,r11⟩:Term)])) rfl (by simp) (by first | (simp [ZGu]; done) | simp [ZGu,ZG6])
     refine Zx 0 ZGc rfl sc53.size rfl rfl (Zo (v:=v11) hC 3 [v11] [v11] rfl sc53.size rfl rfl (Za2 (hC.getM 2 rfl)) rfl (Ye (Yr (hC.getM 2 rfl)) rfl) (ZGe rfl) rfl fun w21 hC=>done (Z3 (Zs (Zd (Zm (Zb (v:=vI s10.2) rfl (Zp rfl rfl (Zc (v:=vI (Zxa.wrap (s10.2+1))) rfl (done ?_)))))))))
     exact hK10 (s10.1++[(⟨r10,r11⟩:Term)],Zxa.wrap (s10.2+1)) _ _ ⟨v11,(slq rfl),(hC.xM [2,3,4,5,6] rfl)⟩ h
    ·replace h:=Zk h (cf hb11)
     refine ZF8 (Zs (Zd (Zm (Zb (v:=vI s10.2) rfl (Zp rfl rfl (Zc (v:=vI (Zxa.wrap (s10.2+1))) rfl (done ?_)))))))
     exact hK10 (s10.1,Zxa.wrap (s10.2+1)) _ _ ⟨v10,(slq rfl),(hC.xM [1,2,3,4,5] rfl)⟩ h
   refine X9 9 13 rfl rfl (by kernel_rfl) ?_ ?_
   ·skip
    refine Zf [u0_0,.agg (ZF4 (ZF3 .u8 a1.mono)),.agg (ZF4 (ZF3 .u8 ((a2.terms.getD s10.2.toNat Zuw).mono)))] _ ZHf rfl rfl rfl (Zk2 a0 a1.mono ((a2.terms.getD s10.2.toNat Zuw).mono) h _ (hC.getP 1 rfl)) ?_
    rintro _ w22 ⟨r13,r14,rfl,h,hB11⟩
    refine rt ?_
    replace hC:=hC.grow hB11
    refine done (aK (by assumption) (Za 16 1023) (bM 10 (.tuple #[.agg (ZF4 (ZF3 .u8 r13)),vI r14]) rfl hM10 (Za 16 2047) (bF 11 (.agg (ZF4 (ZF3 .u8 r13))) rfl rfl hM10 (fun _=>by exact Ji (v:=.agg (ZF4 (ZF3 .u8 r13))) rfl rfl) (Za 16 4095) (bF 12 (vI r14) rfl rfl hM10 (fun _=>by exact Ji (v:=vI r14) rfl rfl) (Za 16 8191) (aO 13 rfl (Z1 hC (ZF3 .u8 ZGa) z88 rfl fun b13 w23 hB_ hC=>done (aK (by assumption) (Za 16 16383) (aO 14 rfl (Zo (v:=.agg (ZF4 (ZF3 .u8 r13))) hC 0 (ZF3 .u8 r13) (ZF3 .u8 r13) rfl ag88.size rfl rfl rfl rfl rfl (ZGe rfl) rfl fun w24 hC=>done (Zc0 (by decide) (l9:=(Za 16 32767)) (by kernel_rfl) (Z2 15 (by decide) (by decide) (by kernel_rfl) (by kernel_rfl) rfl (Zc (v:=vI r14) rfl (done (Z3 ?_))))))))))))))
    exact⟨rfl,_,rfl,⟨b13,r13,r14,(slq rfl),hC,h⟩⟩
   ·skip
    refine Z1 hC (ZF3 .u8 ZGa) z88 rfl fun b14 w25 hB_ hC=>done (aK (by assumption) (Za 16 8703) (aO 9 rfl (Zf [u0_0,.agg (ZF4 (ZF3 .u8 a1.mono)),.agg (ZF4 (ZF3 .u8 ((a2.terms.getD s10.2.toNat Zuw).mono)))] _ ZHf rfl rfl rfl (Zk2 a0 a1.mono ((a2.terms.getD s10.2.toNat Zuw).mono) h _ (hC.getP 1 rfl)) ?_)))
    rintro _ w26 ⟨r15,r16,rfl,h,hB12⟩
    refine rt ?_
    replace hC:=hC.grow hB12
    refine done (aK (by assumption) (Za 16 9215) (bM 10 (.tuple #[.agg (ZF4 (ZF3 .u8 r15)),vI r16]) rfl hM10 (Za 16 10239) (bF 11 (.agg (ZF4 (ZF3 .u8 r15))) rfl rfl hM10 (fun _=>by exact Ji (v:=.agg (ZF4 (ZF3 .u8 r15))) rfl rfl) (Za 16 12287) (bF 12 (vI r16) rfl rfl hM10 (fun _=>by exact Ji (v:=vI r16) rfl rfl) (Za 16 16383) (aO 14 rfl (Zo (v:=.agg (ZF4 (ZF3 .u8 r15))) hC 0 (ZF3 .u8 r15) (ZF3 .u8 r15) rfl ag88.size rfl rfl rfl rfl rfl (ZGe rfl) rfl fun w27 hC=>done (Zc0 (by decide) (l9:=(Za 16 32767)) (by kernel_rfl) (Z2 15 (by decide) (by decide) (by kernel_rfl) (by kernel_rfl) rfl (Zc (v:=vI r16) rfl (done (Z3 ?_)))))))))))
    exact⟨rfl,_,rfl,⟨b14,r15,r16,(slq rfl),hC,h⟩⟩
  ·replace h:=Zk h (cf hb10)
   refine ZGj (Zl (Zl (Z5 ?_)))
   refine Zd (sr (Yb hC 1 [v10] rfl ag55 rfl rfl rfl (Zo (v:=.agg #[v10]) hC 2 [v10] [v10] rfl ag55.size rfl rfl rfl rfl (Ye (Yr (hC.getM 0 rfl)) rfl) (ZGe rfl) rfl fun w28 hC=>dn (ZGd ?_))))
   exact Zj rfl (Y2 hC 2 rfl ag55 rfl rfl) ⟨(⟨s10.1⟩:ZF9),v10,(ZG2 (Zvi v10)),rfl,h,(X5 (Jc (hC.getM 0 rfl))),(X3 hC 0 rfl),hC.below⟩ (.inl rfl)
 ·skip
  replace hC:=hC.pushNil 90 9
  exact⟨.slice none 0 0,(slq rfl),hC⟩
def Xx (a0:List Int) (a1:ZF9) (a2:ZF9) (K:ZF9→Prop):Prop :=
 X8 (fun (s10:(List Term)×Int) nx10=>(if s10.2 < (a1.terms.length:Int) then((0≤s10.2∧s10.2 < (a1.terms.length:Int))∧Zej a0 (a1.terms.getD s10.2.toNat Zuw) a2 (fun r10=>J2 (⟨s10.1⟩:ZF9) r10 1 (fun r11=>nx10 (r11.terms,Zxa.wrap (s10.2+1))))) else K (⟨s10.1⟩:ZF9))) ([],0)
theorem Zau (a0:List Int) (a1:ZF9) (a2:ZF9)  {K:ZF9→Prop} (h:Xx a0 a1 a2 K) (w0:World) (q0:TInts.rep a0 [u0_0] fp0 w0) (q1:ZGr.rep a1 [u1_0] fp1 w0) (q2:ZGr.rep a2 [u2_0] fp2 w0) :
  Calls ZF7 60 #[u0_0,.agg #[u1_0],.agg #[u2_0]] w0 fun e w'=>∃ (r0:ZF9) (z0_0:Value) (fz0:List Nat),
   e=.returned (.agg #[z0_0])∧K r0∧(ZGk (Zr 90) r0 [z0_0] fz0).holds w'∧(∀ b,b∈fz0→w0.heap.size≤b)∧Bel w0 w':=by
 unfold Xx at h
 refine cof ZGx rfl 28 Tryz.ntmps60 ?_
 have hC:=ZGq (X:=Nox) w0 [ZCh TInts a0 [u0_0] fp0,ZCh TForm a1 [u1_0] fp1,ZCh TForm a2 [u2_0] fp2] (alc q0 (alc q1 (al1 q2)))
 have hp4:=(hC.getP 1 rfl)
 replace hC:=hC.derive 1 rfl (ZCh ZF6.ty.sl a1.terms [u1_0] fp1) (fun _=>(Yx hp4)) (fun _ hb_=>hb_)
 have hp6:=(hC.getP 3 rfl)
 replace hC:=hC.derive 3 rfl (ZCh ZF6.ty.sl a2.terms [u2_0] fp2) (fun _=>(Yx hp6)) (fun _ hb_=>hb_)
 refine sr (Yj (v:=.agg #[u1_0]) hC [u1_0] rfl rfl fun b8 w10 hB_ hC=>Yj (v:=.agg #[u2_0]) hC [u2_0] rfl rfl fun b10 w11 hB_ hC=>Z1 hC [.slice none 0 0] z55 rfl fun b11 w12 hB_ hC=>dn (sr (Y5 [] rfl (Za5   _) (Z1 hC [.slice none 0 0] z55 rfl fun b12 w13 hB_ hC=>Zo (v:=.agg #[.slice none 0 0]) hC 0 [.slice none 0 0] [.slice none 0 0] rfl ag55.size rfl rfl rfl rfl rfl (ZGe rfl) rfl fun w14 hC=>dn (ZF5 (sr (Zc (v:=vI 0) rfl (dn (ZGb ?_)))))))))
 refine Jj (S:=(List Term)×Int) _ (fun s10 e_ w_=>∃ (v10:Value),Zy e_ [(0,u0_0),(4,vQ b8),(5,vQ b10),(6,vQ b11),(7,vQ b12),(8,vI s10.2)]∧Ctx Nox w0 w_ [own 90 9 v10 s10.1.length (ZF6.encs s10.1),blk b12 55 [v10],blk b11 55 [.slice none 0 0],blk b10 55 [u2_0],blk b8 55 [u1_0]] [ZCh ZF6.ty.sl a2.terms [u2_0] fp2,ZCh ZF6.ty.sl a1.terms [u1_0] fp1,ZCh TInts a0 [u0_0] fp0,ZCh TForm a1 [u1_0] fp1,ZCh TForm a2 [u2_0] fp2]) ?_ (s0:=([],0)) ?_ h
 ·clear hC h
  rintro s10 e_ w15 nx10 K10 ⟨v10,hS_,hC⟩ h hK10
  rw [ue hS_]
  refine ZF5 (sr (Zb (v:=vI s10.2) rfl (Zx 0 ZGc rfl sc53.size rfl rfl (Z4 hC 4 (u1_0) rfl sc53 rfl rfl (Zv hC 1 rfl ZGf rfl (Zn rfl rfl (dn ?_)))))))
  refine Zq rfl (fun hb10=>?_) (fun hb10=>?_)
  ·replace h:=ift h (ct hb10)
   refine ZF8 (Zd (ZF5 (ZGb ?_)))
   refine cwd 9 mixed [0,0,0,4,0,28,60,0,254,511,1023] [0,3,5,6,7] [1,2,4] (fun hM10 hM11 w16 hB_=>?_)
   replace hC:=hC.grow hB_
   refine bL 0 (.agg #[v10]) rfl rfl hM10 (fun _ hB_=>by exact Y9 (hC.grow hB_) 1 [v10] rfl ag55 rfl rfl rfl) (Za 11 1) (bM 1 (u0_0) rfl hM11 (Za 11 3) (bF 2 (vQ b8) rfl rfl hM11 (fun _=>by exact Yh 0 ZGc rfl sc53.size rfl rfl) (Za 11 7) (bL 3 (u1_0) rfl rfl hM10 (fun _ hB_=>by exact Yd (hC.grow hB_) 4 (u1_0) rfl sc53 rfl rfl) (Za 11 15) (bM 4 (vI s10.2) rfl hM11 (Za 11 31) ?_))))
   obtain ⟨⟨h10,h11⟩,h⟩:=h
   obtain ⟨Ad10,c10,hv10⟩:=Zz (hC.getP 1 rfl) s10.2.toNat (show s10.2.toNat < a1.terms.length by omega)
   refine bL 5 (.pointer (some (Ad10.add (s10.2.toNat * 9)))) rfl rfl hM10 (fun _ hB_=>by exact Yw (len:=a1.terms.length) ZGf ag90.size (by exact tr rfl hv10) rfl h10 h11) (Za 11 63) (bL 6 (.agg (ZF4 (ZGg (a1.terms.getD s10.2.toNat Zuw)))) rfl rfl hM10 (fun _ hB_=>by exact Xn (ZGg (a1.terms.getD s10.2.toNat Zuw)) (Yf ((hC.grow hB_).getP 1 rfl) hv10 s10.2.toNat (show s10.2.toNat < a1.terms.length by omega)) ag90 rfl rfl) (Za 11 127) (bL 7 (.agg #[u2_0]) rfl rfl hM10 (fun _ hB_=>by exact Y9 (hC.grow hB_) 3 [u2_0] rfl ag55 rfl rfl rfl) (Za 11 255) (aO 8 rfl (Zf [u0_0,.agg (ZF4 (ZGg (a1.terms.getD s10.2.toNat Zuw))),.agg #[u2_0]] _ Tryz.func83 rfl rfl rfl (Zph a0 (a1.terms.getD s10.2.toNat Zuw) a2 h _ (hC.getP 2 rfl) (Yl (hC.getP 0 rfl))) ?_))))
   rintro _ w17 ⟨r10,u11,f10,rfl,h,hr10,hf10,hB10⟩
   refine rt ?_
   replace hC:=hC.push hB10 (ZGk (Zr 90) r10 [u11] f10) hr10 hf10
   obtain ⟨ho10,hf11⟩:=Y8 (hC.getM 0 rfl)
   subst hf11
   replace hC:=hC.recast (c:=own 90 9 u11 r10.terms.length (ZF6.encs r10.terms)) (fun _ h_=>h_) (fun _=>ho10)
   refine done (aK (by assumption) (Za 11 511) (Z2 9 (by decide) (by decide) (by kernel_rfl) (by kernel_rfl) rfl (Zf [.agg #[v10],.agg #[u11],vI 1] _ ZG9 rfl rfl rfl (Zgp (⟨s10.1⟩:ZF9) r10 1 h _ (Yl (Yp (hC.getM 1 rfl))) (Yl (Yp (hC.getM 0 rfl)))) ?_)))
   rintro _ w18 ⟨r11,u10,f11,rfl,h,hr11,hf12,hB11⟩
   refine rt ?_
   replace hC:=hC.push hB11 (ZGk (Zr 90) r11 [u10] f11) hr11 hf12
   obtain ⟨ho11,hf13⟩:=Y8 (hC.getM 0 rfl)
   subst hf13
   replace hC:=hC.recast (c:=own 90 9 u10 r11.terms.length (ZF6.encs r11.terms)) (fun _ h_=>h_) (fun _=>ho11)
   refine Zo (v:=.agg #[u10]) hC 3 [u10] [u10] rfl ag55.size rfl rfl rfl rfl (Ye (Yr (hC.getM 0 rfl)) rfl) (ZGe rfl) rfl fun w19 hC=>done (Z3 (Zs (Zd (Zm (Zb (v:=vI s10.2) rfl (Zp rfl rfl (Zc (v:=vI (Zxa.wrap (s10.2+1))) rfl (done ?_))))))))
   exact hK10 (r11.terms,Zxa.wrap (s10.2+1)) _ _ ⟨u10,(slq rfl),(hC.xM [0,3,4,5,6] rfl)⟩ h
  ·replace h:=Zk h (cf hb10)
   refine ZGj (Zl (Zl (Z5 ?_)))
   refine Zd (sr (Yb hC 1 [v10] rfl ag55 rfl rfl rfl (Zo (v:=.agg #[v10]) hC 2 [v10] [v10] rfl ag55.size rfl rfl rfl rfl (Ye (Yr (hC.getM 0 rfl)) rfl) (ZGe rfl) rfl fun w20 hC=>dn (ZGd ?_))))
   exact Zj rfl (Y2 hC 2 rfl ag55 rfl rfl) ⟨(⟨s10.1⟩:ZF9),v10,(ZG2 (Zvi v10)),rfl,h,(X5 (Jc (hC.getM 0 rfl))),(X3 hC 0 rfl),hC.below⟩ (.inl rfl)
 ·skip
  replace hC:=hC.pushNil 90 9
  exact⟨.slice none 0 0,(slq rfl),hC⟩
def Zdg (a0:List Int) (a1:ZF9) (K:Bool→Prop):Prop :=
 X8 (fun (s10:Int) nx10=>(if s10 < (a1.terms.length:Int) then((0≤s10∧s10 < (a1.terms.length:Int))∧Zeh a0 ((a1.terms.getD s10.toNat Zuw).mono) (fun r11=>(if¬ (r11=true) then K false else Zcb ((a1.terms.getD s10.toNat Zuw).factor) 1 10006 (fun r10=>(if¬ (r10=true) then K false else(if s10 > 0 then((0≤Zxa.wrap (s10 - 1)∧Zxa.wrap (s10 - 1) < (a1.terms.length:Int))∧Zcc ((a1.terms.getD ((Zxa.wrap (s10 - 1)).toNat) Zuw).mono) ((a1.terms.getD s10.toNat Zuw).mono) (fun r12=>(if¬ (r12=true) then K false else nx10 (Zxa.wrap (s10+1))))) else nx10 (Zxa.wrap (s10+1)))))))) else K (decide ((a1.terms.length:Int)≤400)))) 0
theorem Zk3 (a0:List Int) (a1:ZF9)  {K:Bool→Prop} (h:Zdg a0 a1 K) (w0:World) (q0:TInts.rep a0 [u0_0] fp0 w0) (q1:ZGr.rep a1 [u1_0] fp1 w0) :
  Calls ZF7 56 #[u0_0,.agg #[u1_0]] w0 fun e w'=>∃ (r0:Bool),
   e=.returned (.bool r0)∧K r0∧Bel w0 w':=by
 unfold Zdg at h
 refine cof Tryz.func56 rfl 51 Tryz.ntmps56 ?_
 have hC:=ZGq (X:=Nox) w0 [ZCh TInts a0 [u0_0] fp0,ZCh TForm a1 [u1_0] fp1] (alc q0 (al1 q1))
 have hp3:=(hC.getP 1 rfl)
 replace hC:=hC.derive 1 rfl (ZCh ZF6.ty.sl a1.terms [u1_0] fp1) (fun _=>(Yx hp3)) (fun _ hb_=>hb_)
 refine sr (Yj (v:=.agg #[u1_0]) hC [u1_0] rfl rfl fun b5 w7 hB_ hC=>Zc (v:=.bool false) rfl (dn (ZF5 (sr (Zc (v:=vI 0) rfl (dn (ZGb ?_)))))))
 refine Jj (S:=Int) _ (fun s10 e_ w_=>Zy e_ [(0,u0_0),(3,vQ b5),(5,vI s10)]∧Ctx Nox w0 w_ [blk b5 55 [u1_0]] [ZCh ZF6.ty.sl a1.terms [u1_0] fp1,ZCh TInts a0 [u0_0] fp0,ZCh TForm a1 [u1_0] fp1]) ?_ (s0:=0) ?_ h
 ·clear hC h
  rintro s10 e_ w10 nx10 K10 ⟨hS_,hC⟩ h hK10
  rw [ue hS_]
  refine ZF5 (sr (Zb (v:=vI s10) rfl (Zx 0 ZGc rfl sc53.size rfl rfl (Z4 hC 0 (u1_0) rfl sc53 rfl rfl (Zv hC 0 rfl ZGf rfl (Zn rfl rfl (dn ?_)))))))
  refine Zq rfl (fun hb13=>?_) (fun hb13=>?_)
  ·replace h:=ift h (ct hb13)
   refine ZF8 (Zd (ZF5 (ZGb (sr (Zx 0 ZGc rfl sc53.size rfl rfl (Z4 hC 0 (u1_0) rfl sc53 rfl rfl (Zb (v:=vI s10) rfl ?_)))))))
   obtain ⟨⟨h10,h11⟩,h⟩:=h
   obtain ⟨Ad11,c10,hv10⟩:=Zz (hC.getP 0 rfl) s10.toNat (show s10.toNat < a1.terms.length by omega)
   refine Yq (len:=a1.terms.length) ZGf ag90.size (tr rfl hv10) rfl h10 h11 (Jv (ZGg (a1.terms.getD s10.toNat Zuw)) (Yf (hC.getP 0 rfl) hv10 s10.toNat (show s10.toNat < a1.terms.length by omega)) ag90 rfl rfl (Z1 hC (ZGg (⟨ZGa,0⟩:Term)) z90 rfl fun b10 w11 hB_ hC=>Zo (v:=.agg (ZF4 (ZGg (a1.terms.getD s10.toNat Zuw)))) hC 0 (ZGg (a1.terms.getD s10.toNat Zuw)) (ZGg (a1.terms.getD s10.toNat Zuw)) rfl ag90.size rfl rfl rfl rfl rfl (ZGe rfl) rfl fun w12 hC=>dn (ZF5 ?_)))
   refine cwd 24 mixed [0,0,2,7,15,31,63,127,255,511,1023,2047,4095,8191,16383,32767,65535,32767,163839,524287,1048575,2097151,32767,4227071,16777215,33554431,67108863,134217727] [2,7,16,19,21,23] [0,1,4,5,6,7,8,9,10,11,12,13,14,15,16,17,18,19,20,21,22,23] (fun hM11 hM10 w13 hB_=>?_)
   replace hC:=hC.grow hB_
   refine bM 0 (u0_0) rfl hM10 (Za 28 1) (bF 1 (vQ b10) rfl rfl hM10 (fun _=>by exact Yh 0 ZGl rfl ag88.size rfl rfl) (Za 28 3) (bL 2 (.agg (ZF4 (ZF3 .u8 ((a1.terms.getD s10.toNat Zuw).mono)))) rfl rfl hM11 (fun _ hB_=>by exact Y9 (hC.grow hB_) 0 (ZF3 .u8 ((a1.terms.getD s10.toNat Zuw).mono)) rfl ag88 rfl rfl rfl) (Za 28 7) (aO 3 rfl (Zf [u0_0,.agg (ZF4 (ZF3 .u8 ((a1.terms.getD s10.toNat Zuw).mono)))] _ Tryz.func81 rfl rfl rfl (Zpg a0 ((a1.terms.getD s10.toNat Zuw).mono) h _ (hC.getP 1 rfl)) ?_))))
   rintro _ w14 ⟨r11,rfl,h,hB10⟩
   refine rt ?_
   replace hC:=hC.grow hB10
   refine done (aK (by assumption) (Za 28 15) (bF 4 (.bool (!r11)) rfl rfl hM10 (fun _=>by exact Zh5 rfl) (Za 28 31) (bM 5 (.bool (!r11)) rfl hM10 (Za 28 63) ?_)))
   refine Y1 (!r11) (fun hb12=>?_) (fun hb12=>?_)
   ·replace h:=ift h (Y0 (Xf hb12))
    refine Zt Zu 6 undef rfl rfl (by kernel_rfl) (hM10 6 rfl) (fun w_=>.inr ⟨Ya (b:=true) 5 24 rfl (tr rfl (congrArg _ hb12)) (by decide),rfl⟩) (l9:=(Za 28 127)) (by kernel_rfl) (Zt Zu 7 undef rfl rfl (by kernel_rfl) (hM10 7 rfl) (fun w_=>.inr ⟨Ya (b:=true) 5 24 rfl (tr rfl (congrArg _ hb12)) (by decide),rfl⟩) (l9:=(Za 28 255)) (by kernel_rfl) (Zt Zu 8 undef rfl rfl (by kernel_rfl) (hM10 8 rfl) (fun w_=>.inr ⟨Ya (b:=true) 5 24 rfl (tr rfl (congrArg _ hb12)) (by decide),rfl⟩) (l9:=(Za 28 511)) (by kernel_rfl) (Zt Zu 9 undef rfl rfl (by kernel_rfl) (hM10 9 rfl) (fun w_=>.inr ⟨Ya (b:=true) 5 24 rfl (tr rfl (congrArg _ hb12)) (by decide),rfl⟩) (l9:=(Za 28 1023)) (by kernel_rfl) (bF 10 (.bool true) rfl rfl hM10 (fun _=>by exact Zjs (v:=.bool true) (b:=true) (by exact tr rfl (congrArg _ hb12)) rfl) (Za 28 2047) (bM 11 (.bool true) rfl hM10 (Za 28 4095) (Zt Zu 12 undef rfl rfl (by kernel_rfl) (hM10 12 rfl) (fun w_=>.inr ⟨Ya (b:=true) 11 30 rfl (tr rfl (congrArg _ rfl)) (by decide),rfl⟩) (l9:=(Za 28 8191)) (by kernel_rfl) (Zt Zu 13 undef rfl rfl (by kernel_rfl) (hM10 13 rfl) (fun w_=>.inr ⟨Ya (b:=true) 11 30 rfl (tr rfl (congrArg _ rfl)) (by decide),rfl⟩) (l9:=(Za 28 16383)) (by kernel_rfl) (Zt Zu 14 undef rfl rfl (by kernel_rfl) (hM10 14 rfl) (fun w_=>.inr ⟨Ya (b:=true) 11 30 rfl (tr rfl (congrArg _ rfl)) (by decide),rfl⟩) (l9:=(Za 28 32767)) (by kernel_rfl) (Zt Zu 15 undef rfl rfl (by kernel_rfl) (hM10 15 rfl) (fun w_=>.inr ⟨Xe 14 33 rfl rfl,rfl⟩) (l9:=(Za 28 65535)) (by kernel_rfl) (Zt Zu 16 undef rfl rfl (by kernel_rfl) (hM10 16 rfl) (fun w_=>.inr ⟨Xe 14 33 rfl rfl,rfl⟩) (l9:=(Za 28 131071)) (by kernel_rfl) (Zt Zu 17 undef rfl rfl (by kernel_rfl) (hM10 17 rfl) (fun w_=>.inr ⟨Xe 14 33 rfl rfl,rfl⟩) (l9:=(Za 28 262143)) (by kernel_rfl) (Zt Zu 18 undef rfl rfl (by kernel_rfl) (hM10 18 rfl) (fun w_=>.inr ⟨Xe 14 33 rfl rfl,rfl⟩) (l9:=(Za 28 524287)) (by kernel_rfl) (Zt Zu 19 undef rfl rfl (by kernel_rfl) (hM10 19 rfl) (fun w_=>.inr ⟨Xe 14 33 rfl rfl,rfl⟩) (l9:=(Za 28 1048575)) (by kernel_rfl) (Zt Zu 20 undef rfl rfl (by kernel_rfl) (hM10 20 rfl) (fun w_=>.inr ⟨Xe 14 33 rfl rfl,rfl⟩) (l9:=(Za 28 2097151)) (by kernel_rfl) (Zt Zu 21 undef rfl rfl (by kernel_rfl) (hM10 21 rfl) (fun w_=>.inr ⟨Xe 14 33 rfl rfl,rfl⟩) (l9:=(Za 28 4194303)) (by kernel_rfl) (Zt Zu 22 undef rfl rfl (by kernel_rfl) (hM10 22 rfl) (fun w_=>.inr ⟨Xe 14 33 rfl rfl,rfl⟩) (l9:=(Za 28 8388607)) (by kernel_rfl) (Zt Zu 23 undef rfl rfl (by kernel_rfl) (hM10 23 rfl) (fun w_=>.inr ⟨Xe 14 33 rfl rfl,rfl⟩) (l9:=(Za 28 16777215)) (by kernel_rfl) (Z2 24 (by decide) (by decide) (by kernel_rfl) (by kernel_rfl) rfl (X7 14 33 rfl rfl (X7 14 33 rfl rfl (Zh (b:=true) 11 30 rfl (tr rfl (congrArg _ rfl)) (by decide) (Z0 (v:=.bool true) (b:=true) rfl rfl (done (Z3 (Zd (Z8 rfl rfl (sr (Zc (v:=.bool false) rfl (dn ?_)))))))))))))))))))))))))))))
    refine ZGd (Zw (Ze (Ze (Zw (Ze ?_)))))
    exact Zj rfl (Zg rfl) ⟨false,rfl,h,hC.below⟩ (.inl rfl)
   ·replace h:=Zk h (not_not_intro ((Xg hb12)))
    refine aF 6 (.pointer (some ⟨b10,8,none⟩)) rfl rfl (hM10 6 rfl) (Yg 5 24 rfl rfl hb12) (fun _=>by exact Yh 8 ZGl rfl sc2.size rfl rfl) (Za 28 127) (aL 7 (vI ((a1.terms.getD s10.toNat Zuw).factor)) rfl rfl (hM11 7 rfl) (Yg 5 24 rfl rfl hb12) (fun _ hB_=>by exact Yd (hC.grow hB_) 0 (vI ((a1.terms.getD s10.toNat Zuw).factor)) rfl sc2 rfl rfl) (Za 28 255) (aO 8 rfl (Zi 5 24 rfl rfl hb12 (Zf [vI ((a1.terms.getD s10.toNat Zuw).factor),vI 1,vI 10006] _ Tryz.func39 rfl rfl rfl (Ziw ((a1.terms.getD s10.toNat Zuw).factor) 1 10006 h _) ?_))))
    rintro _ w15 ⟨r10,rfl,h,hB11⟩
    refine rt ?_
    replace hC:=hC.grow hB11
    refine done (aK (by assumption) (Za 28 511) (aF 9 (.bool (!r10)) rfl rfl (hM10 9 rfl) (Yg 5 24 rfl rfl hb12) (fun _=>by exact Zh5 rfl) (Za 28 1023) (bF 10 (.bool (!r10)) rfl rfl hM10 (fun _=>by exact Zjs (v:=.bool (!r10)) (b:=false) (by exact tr rfl (congrArg _ hb12)) rfl) (Za 28 2047) (bM 11 (.bool (!r10)) rfl hM10 (Za 28 4095) ?_))))
    refine Y1 (!r10) (fun hb11=>?_) (fun hb11=>?_)
    ·replace h:=ift h (Y0 (Xf hb11))
     refine Zt Zu 12 undef rfl rfl (by kernel_rfl) (hM10 12 rfl) (fun w_=>.inr ⟨Ya (b:=true) 11 30 rfl (tr rfl (congrArg _ hb11)) (by decide),rfl⟩) (l9:=(Za 28 8191)) (by kernel_rfl) (Zt Zu 13 undef rfl rfl (by kernel_rfl) (hM10 13 rfl) (fun w_=>.inr ⟨Ya (b:=true) 11 30 rfl (tr rfl (congrArg _ hb11)) (by decide),rfl⟩) (l9:=(Za 28 16383)) (by kernel_rfl) (Zt Zu 14 undef rfl rfl (by kernel_rfl) (hM10 14 rfl) (fun w_=>.inr ⟨Ya (b:=true) 11 30 rfl (tr rfl (congrArg _ hb11)) (by decide),rfl⟩) (l9:=(Za 28 32767)) (by kernel_rfl) (Zt Zu 15 undef rfl rfl (by kernel_rfl) (hM10 15 rfl) (fun w_=>.inr ⟨Xe 14 33 rfl rfl,rfl⟩) (l9:=(Za 28 65535)) (by kernel_rfl) (Zt Zu 16 undef rfl rfl (by kernel_rfl) (hM10 16 rfl) (fun w_=>.inr ⟨Xe 14 33 rfl rfl,rfl⟩) (l9:=(Za 28 131071)) (by kernel_rfl) (Zt Zu 17 undef rfl rfl (by kernel_rfl) (hM10 17 rfl) (fun w_=>.inr ⟨Xe 14 33 rfl rfl,rfl⟩) (l9:=(Za 28 262143)) (by kernel_rfl) (Zt Zu 18 undef rfl rfl (by kernel_rfl) (hM10 18 rfl) (fun w_=>.inr ⟨Xe 14 33 rfl rfl,rfl⟩) (l9:=(Za 28 524287)) (by kernel_rfl) (Zt Zu 19 undef rfl rfl (by kernel_rfl) (hM10 19 rfl) (fun w_=>.inr ⟨Xe 14 33 rfl rfl,rfl⟩) (l9:=(Za 28 1048575)) (by kernel_rfl) (Zt Zu 20 undef rfl rfl (by kernel_rfl) (hM10 20 rfl) (fun w_=>.inr ⟨Xe 14 33 rfl rfl,rfl⟩) (l9:=(Za 28 2097151)) (by kernel_rfl) (Zt Zu 21 undef rfl rfl (by kernel_rfl) (hM10 21 rfl) (fun w_=>.inr ⟨Xe 14 33 rfl rfl,rfl⟩) (l9:=(Za 28 4194303)) (by kernel_rfl) (Zt Zu 22 undef rfl rfl (by kernel_rfl) (hM10 22 rfl) (fun w_=>.inr ⟨Xe 14 33 rfl rfl,rfl⟩) (l9:=(Za 28 8388607)) (by kernel_rfl) (Zt Zu 23 undef rfl rfl (by kernel_rfl) (hM10 23 rfl) (fun w_=>.inr ⟨Xe 14 33 rfl rfl,rfl⟩) (l9:=(Za 28 16777215)) (by kernel_rfl) (Z2 24 (by decide) (by decide) (by kernel_rfl) (by kernel_rfl) rfl (X7 14 33 rfl rfl (X7 14 33 rfl rfl (Zh (b:=true) 11 30 rfl (tr rfl (congrArg _ hb11)) (by decide) (Z0 (v:=.bool true) (b:=true) (tr rfl (congrArg _ hb11)) rfl (done (Z3 (Zd (Z8 rfl rfl (sr (Zc (v:=.bool false) rfl (dn ?_)))))))))))))))))))))))
     refine ZGd (Zw (Ze (Ze (Zw (Ze ?_)))))
     exact Zj rfl (Zg rfl) ⟨false,rfl,h,hC.below⟩ (.inl rfl)
    ·replace h:=Zk h (not_not_intro ((Xg hb11)))
     refine aF 12 (vI s10) rfl rfl (hM10 12 rfl) (Yg 11 30 rfl rfl hb11) (fun _=>by exact Jo (v:=vI s10) rfl) (Za 28 8191) (aF 13 (.bool (decide (s10 > 0))) rfl rfl (hM10 13 rfl) (Yg 11 30 rfl rfl hb11) (fun _=>by exact Zjv rfl rfl) (Za 28 16383) (aF 14 (.bool (decide (s10 > 0))) rfl rfl (hM10 14 rfl) (Yg 11 30 rfl rfl hb11) (fun _=>by exact Jo (v:=.bool (decide (s10 > 0))) rfl) (Za 28 32767) ?_))
     refine Y1 (decide (s10 > 0)) (fun hb10=>?_) (fun hb10=>?_)
     ·replace h:=ift h (ct hb10)
      refine aF 15 (vQ b5) rfl rfl (hM10 15 rfl) (Yg 14 33 rfl rfl hb10) (fun _=>by exact Yh 0 ZGc rfl sc53.size rfl rfl) (Za 28 65535) (aL 16 (u1_0) rfl rfl (hM11 16 rfl) (Yg 14 33 rfl rfl hb10) (fun _ hB_=>by exact Yd (hC.grow hB_) 1 (u1_0) rfl sc53 rfl rfl) (Za 28 131071) (aF 17 (vI s10) rfl rfl (hM10 17 rfl) (Yg 14 33 rfl rfl hb10) (fun _=>by exact Jo (v:=vI s10) rfl) (Za 28 262143) (aF 18 (vI (Zxa.wrap (s10 - 1))) rfl rfl (hM10 18 rfl) (Yg 14 33 rfl rfl hb10) (fun _=>by exact Zh4 rfl rfl) (Za 28 524287) ?_)))
      obtain ⟨⟨h12,h13⟩,h⟩:=h
      obtain ⟨Ad10,c11,hv11⟩:=Zz (hC.getP 0 rfl) ((Zxa.wrap (s10 - 1)).toNat) (show (Zxa.wrap (s10 - 1)).toNat < a1.terms.length by omega)
      refine aL 19 (.pointer (some (Ad10.add ((Zxa.wrap (s10 - 1)).toNat * 9)))) rfl rfl (hM11 19 rfl) (Yg 14 33 rfl rfl hb10) (fun _ hB_=>by exact Yw (len:=a1.terms.length) ZGf ag90.size (by exact tr rfl hv11) rfl h12 h13) (Za 28 1048575) (aF 20 (.pointer (some (Ad10.add ((Zxa.wrap (s10 - 1)).toNat * 9+0)))) rfl rfl (hM10 20 rfl) (Yg 14 33 rfl rfl hb10) (fun _=>by exact Jz ((Zxa.wrap (s10 - 1)).toNat * 9+0) ZGl rfl ag88.size rfl rfl) (Za 28 2097151) (aL 21 (.agg (ZF4 (ZF3 .u8 ((a1.terms.getD ((Zxa.wrap (s10 - 1)).toNat) Zuw).mono)))) rfl rfl (hM11 21 rfl) (Yg 14 33 rfl rfl hb10) (fun _ hB_=>by exact Xn (ZF3 .u8 ((a1.terms.getD ((Zxa.wrap (s10 - 1)).toNat) Zuw).mono)) (Xp (o:=0) (k:=8) (Yf ((hC.grow hB_).getP 0 rfl) hv11 ((Zxa.wrap (s10 - 1)).toNat) (show (Zxa.wrap (s10 - 1)).toNat < a1.terms.length by omega)) rfl) ag88 rfl rfl) (Za 28 4194303) (aF 22 (vQ b10) rfl rfl (hM10 22 rfl) (Yg 14 33 rfl rfl hb10) (fun _=>by exact Yh 0 ZGl rfl ag88.size rfl rfl) (Za 28 8388607) (aL 23 (.agg (ZF4 (ZF3 .u8 ((a1.terms.getD s10.toNat Zuw).mono)))) rfl rfl (hM11 23 rfl) (Yg 14 33 rfl rfl hb10) (fun _ hB_=>by exact Y9 (hC.grow hB_) 0 (ZF3 .u8 ((a1.terms.getD s10.toNat Zuw).mono)) rfl ag88 rfl rfl rfl) (Za 28 16777215) (Z2 24 (by decide) (by decide) (by kernel_rfl) (by kernel_rfl) rfl (Zi 14 33 rfl rfl hb10 (Zf [.agg (ZF4 (ZF3 .u8 ((a1.terms.getD ((Zxa.wrap (s10 - 1)).toNat) Zuw).mono))),.agg (ZF4 (ZF3 .u8 ((a1.terms.getD s10.toNat Zuw).mono)))] _ ZG8 rfl rfl rfl (Zix ((a1.terms.getD ((Zxa.wrap (s10 - 1)).toNat) Zuw).mono) ((a1.terms.getD s10.toNat Zuw).mono) h _) ?_)))))))
      rintro _ w16 ⟨r12,rfl,h,hB12⟩
      refine rt ?_
      replace hC:=hC.grow hB12
      refine Zi 14 33 rfl rfl hb10 (Xa rfl (Zi 11 30 rfl rfl hb11 (Z0 (v:=.bool (!r12)) (b:=true) (tr rfl (congrArg _ hb10)) rfl (Z0 (v:=.bool (!r12)) (b:=false) (tr rfl (congrArg _ hb11)) rfl (done (Z3 (Zd ?_)))))))
      refine Zq rfl (fun hb14=>?_) (fun hb14=>?_)
      ·replace h:=ift h (Y0 (Xf hb14))
       refine sr (Zc (v:=.bool false) rfl (dn ?_))
       refine ZGd (Zw (Ze (Ze (Zw (Ze ?_)))))
       exact Zj rfl (Zg rfl) ⟨false,rfl,h,hC.below⟩ (.inl rfl)
      ·replace h:=Zk h (not_not_intro ((Xg hb14)))
       refine ZF8 (Zs (Zd (Zm (Zb (v:=vI s10) rfl (Zp rfl rfl (Zc (v:=vI (Zxa.wrap (s10+1))) rfl (done ?_)))))))
       exact hK10 (Zxa.wrap (s10+1)) _ _ ⟨(slq rfl),(hC.xM [1] rfl)⟩ h
     ·replace h:=Zk h (cf hb10)
      refine Zt Zu 15 undef rfl rfl (by kernel_rfl) (hM10 15 rfl) (fun w_=>.inr ⟨Ya (b:=false) 14 33 rfl (tr rfl (congrArg _ hb10)) (by decide),rfl⟩) (l9:=(Za 28 65535)) (by kernel_rfl) (Zt Zu 16 undef rfl rfl (by kernel_rfl) (hM10 16 rfl) (fun w_=>.inr ⟨Ya (b:=false) 14 33 rfl (tr rfl (congrArg _ hb10)) (by decide),rfl⟩) (l9:=(Za 28 131071)) (by kernel_rfl) (Zt Zu 17 undef rfl rfl (by kernel_rfl) (hM10 17 rfl) (fun w_=>.inr ⟨Ya (b:=false) 14 33 rfl (tr rfl (congrArg _ hb10)) (by decide),rfl⟩) (l9:=(Za 28 262143)) (by kernel_rfl) (Zt Zu 18 undef rfl rfl (by kernel_rfl) (hM10 18 rfl) (fun w_=>.inr ⟨Ya (b:=false) 14 33 rfl (tr rfl (congrArg _ hb10)) (by decide),rfl⟩) (l9:=(Za 28 524287)) (by kernel_rfl) (Zt Zu 19 undef rfl rfl (by kernel_rfl) (hM10 19 rfl) (fun w_=>.inr ⟨Ya (b:=false) 14 33 rfl (tr rfl (congrArg _ hb10)) (by decide),rfl⟩) (l9:=(Za 28 1048575)) (by kernel_rfl) (Zt Zu 20 undef rfl rfl (by kernel_rfl) (hM10 20 rfl) (fun w_=>.inr ⟨Ya (b:=false) 14 33 rfl (tr rfl (congrArg _ hb10)) (by decide),rfl⟩) (l9:=(Za 28 2097151)) (by kernel_rfl) (Zt Zu 21 undef rfl rfl (by kernel_rfl) (hM10 21 rfl) (fun w_=>.inr ⟨Ya (b:=false) 14 33 rfl (tr rfl (congrArg _ hb10)) (by decide),rfl⟩) (l9:=(Za 28 4194303)) (by kernel_rfl) (Zt Zu 22 undef rfl rfl (by kernel_rfl) (hM10 22 rfl) (fun w_=>.inr ⟨Ya (b:=false) 14 33 rfl (tr rfl (congrArg _ hb10)) (by decide),rfl⟩) (l9:=(Za 28 8388607)) (by kernel_rfl) (Zt Zu 23 undef rfl rfl (by kernel_rfl) (hM10 23 rfl) (fun w_=>.inr ⟨Ya (b:=false) 14 33 rfl (tr rfl (congrArg _ hb10)) (by decide),rfl⟩) (l9:=(Za 28 16777215)) (by kernel_rfl) (Z2 24 (by decide) (by decide) (by kernel_rfl) (by kernel_rfl) rfl (Zh (b:=false) 14 33 rfl (tr rfl (congrArg _ hb10)) (by decide) (Zh (b:=false) 14 33 rfl (tr rfl (congrArg _ hb10)) (by decide) (Zi 11 30 rfl rfl hb11 (Z0 (v:=.bool false) (b:=false) (tr rfl (congrArg _ hb10)) rfl (Z0 (v:=.bool false) (b:=false) (tr rfl (congrArg _ hb11)) rfl (done (Z3 (Zd (Z9 rfl rfl (ZF8 (Zs (Zd (Zm (Zb (v:=vI s10) rfl (Zp rfl rfl (Zc (v:=vI (Zxa.wrap (s10+1))) rfl (done ?_))))))))))))))))))))))))))
      exact hK10 (Zxa.wrap (s10+1)) _ _ ⟨(slq rfl),(hC.xM [1] rfl)⟩ h
  ·replace h:=Zk h (cf hb13)
   refine ZGj (Zl (Zl (Z5 ?_)))
   refine Zd (sr (Zx 0 ZGc rfl sc53.size rfl rfl (Z4 hC 0 (u1_0) rfl sc53 rfl rfl (Zv hC 0 rfl ZGf rfl (Zbz rfl rfl (Zc (v:=.bool (decide ((a1.terms.length:Int)≤400))) rfl (dn (ZGd ?_))))))))
   exact Zj rfl (Zg rfl) ⟨decide ((a1.terms.length:Int)≤400),rfl,h,hC.below⟩ (.inl rfl)
 ·skip
  exact⟨(slq rfl),hC⟩
def Zbk (a0:List Int) (a1:A8) (K:Int→Prop):Prop :=
 Yi (fun i10 (s10:Int) nx10=>((0≤(i10:Int)∧(i10:Int) < 8)∧nx10 (Zxa.wrap (s10+(Zxa.wrap ((a0.getD i10 Zuw) * (Zxa.wrap (a1.get i10)))))))) (fun (s10:Int)=>K s10) a0.length 0 0
theorem Ziy (a0:List Int) (a1:A8)  {K:Int→Prop} (h:Zbk a0 a1 K) (w0:World) (q0:TInts.rep a0 [u0_0] fp0 w0) :
  Calls ZF7 82 #[u0_0,.agg (ZF4 (ZF3 .u8 a1))] w0 fun e w'=>∃ (r0:Int),
   e=.returned (vI r0)∧K r0∧Bel w0 w':=by
 unfold Zbk at h
 refine cof ZHa rfl 25 Tryz.ntmps82 ?_
 have hC:=ZGq (X:=Nox) w0 [ZCh TInts a0 [u0_0] fp0] (al1 q0)
 refine sr (Yj (v:=.agg (ZF4 (ZF3 .u8 a1))) hC (ZF3 .u8 a1) rfl rfl fun b2 w4 hB_ hC=>Zc (v:=vI 0) rfl (dn (sr (Zc (v:=vI 0) rfl (dn (ZF5 (sr (Zc (v:=vI 0) rfl (dn (ZGb ?_))))))))))
 have hN10:a0.length≤9223372036854775807:=Y3 (hC.getP 0 rfl)
 refine Yn (S:=Int) _ _ (fun i10 s10 e_ w_=>Zy e_ [(0,u0_0),(3,vQ b2),(5,vI s10),(6,vI (i10:Int))]∧Ctx Nox w0 w_ [blk b2 88 (ZF3 .u8 a1)] [ZCh TInts a0 [u0_0] fp0]) a0.length ?_ ?_ (s0:=0) ?_ h
 ·clear hC h
  rintro i10 s10 e_ w10 nx10 K10 hi10 ⟨hS_,hC⟩ h hK10
  rw [ue hS_]
  refine ZF5 (sr (Zb (v:=vI (i10:Int)) rfl (Zb (v:=u0_0) rfl (Zv hC 0 rfl ZGo rfl (Zn rfl rfl (dn (Z8 rfl (decide_eq_true (by omega)) (ZF8 (Zd (ZF5 (ZGb ?_)))))))))))
  refine cwd 10 mixed [0,0,0,6,14,0,32,96,224,510,1023,2047] [3,4,6,7] [0,1,2,5,8,9] (fun hM11 hM10 w11 hB_=>?_)
  replace hC:=hC.grow hB_
  refine bM 0 (vI s10) rfl hM10 (Za 12 1) (bM 1 (u0_0) rfl hM10 (Za 12 3) (bM 2 (vI (i10:Int)) rfl hM10 (Za 12 7) ?_))
  obtain ⟨Ad10,c10,hv10⟩:=Zz (hC.getP 0 rfl) i10 hi10
  refine bL 3 (.pointer (some (Ad10.add (i10 * 1)))) rfl rfl hM11 (fun _ hB_=>by exact Yw (len:=a0.length) ZGo sc2.size (by exact tr rfl hv10) rfl (ZGm _) (ZG4.2 hi10)) (Za 12 15) (bL 4 (vI (a0.getD i10 Zuw)) rfl rfl hM11 (fun _ hB_=>by exact Jw (vI (a0.getD i10 Zuw)) (Yf ((hC.grow hB_).getP 0 rfl) hv10 i10 hi10) sc2 rfl) (Za 12 31) (bM 5 (vI (i10:Int)) rfl hM10 (Za 12 63) ?_))
  obtain ⟨⟨h10,h11⟩,h⟩:=h
  refine bL 6 (.pointer (some ⟨b2,i10,none⟩)) rfl rfl hM11 (fun _ hB_=>by exact Jf i10 ZGn sc5.size rfl rfl h10 h11 (by omega)) (Za 12 127) (bL 7 (.int .u8 (a1.get i10)) rfl rfl hM11 (fun _ hB_=>by exact Yd (hC.grow hB_) 0 (.int .u8 (a1.get i10)) rfl sc5 rfl (ZGi _ _ (show i10 < 8 by omega))) (Za 12 255) (bF 8 (vI (Zxa.wrap (a1.get i10))) rfl rfl hM10 (fun _=>by exact Zjw ZG7 ZHb rfl) (Za 12 511) (bF 9 (vI (Zxa.wrap ((a0.getD i10 Zuw) * (Zxa.wrap (a1.get i10))))) rfl rfl hM10 (fun _=>by exact Zd0 rfl rfl) (Za 12 1023) (Z2 10 (by decide) (by decide) (by kernel_rfl) (by kernel_rfl) rfl (Zp rfl rfl (Zc (v:=vI (Zxa.wrap (s10+(Zxa.wrap ((a0.getD i10 Zuw) * (Zxa.wrap (a1.get i10))))))) rfl (done (Z3 (Zs (Zd (Zm (Zb (v:=vI (i10:Int)) rfl (Zp rfl rfl (Zc (v:=vI (Zxa.wrap ((i10:Int)+1))) rfl (done ?_)))))))))))))))
  exact hK10 (Zxa.wrap (s10+(Zxa.wrap ((a0.getD i10 Zuw) * (Zxa.wrap (a1.get i10)))))) _ _ ⟨(sl ⟨rfl,rfl,rfl,(tr rfl (congrArg _ (Z6 hi10 hN10))),trivial⟩),hC⟩ h
 ·clear hC h
  rintro s10 e_ w12 K10 ⟨hS_,hC⟩ h
  rw [ue hS_]
  refine ZF5 (sr (Zb (v:=vI (a0.length:Int)) rfl (Zb (v:=u0_0) rfl (Zv hC 0 rfl ZGo rfl (Zn rfl rfl (dn (Z9 rfl (decide_eq_false (by omega)) ?_)))))))
  refine ZGj (Zl (Zl (Z5 ?_)))
  refine Zd (sr (Zb (v:=vI s10) rfl (Zc (v:=vI s10) rfl (dn (ZGd ?_)))))
  exact Zj rfl (Zg rfl) ⟨s10,rfl,h,hC.below⟩ (.inl rfl)
 ·skip
  exact⟨(slq rfl),hC⟩
def Zek (a0:List Int) (a1:ZF9) (K:Int→Bool→Prop):Prop :=
 (if(a1.terms.length:Int)=0 then K (-1) true else((0≤(0:Int)∧(0:Int) < (a1.terms.length:Int))∧Zbk a0 ((a1.terms.getD 0 Zuw).mono) (fun r10=>X8 (fun (s10:Int) nx10=>(if s10 < (a1.terms.length:Int) then((0≤s10∧s10 < (a1.terms.length:Int))∧Zbk a0 ((a1.terms.getD s10.toNat Zuw).mono) (fun r11=>(if r11≠r10 then K 0 false else nx10 (Zxa.wrap (s10+1))))) else K r10 true)) 1)))
theorem Zpi (a0:List Int) (a1:ZF9)  {K:Int→Bool→Prop} (h:Zek a0 a1 K) (w0:World) (q0:TInts.rep a0 [u0_0] fp0 w0) (q1:ZGr.rep a1 [u1_0] fp1 w0) :
  Calls ZF7 57 #[u0_0,.agg #[u1_0]] w0 fun e w'=>∃ (r0:Int) (r1:Bool),
   e=.returned (.tuple #[vI r0,.bool r1])∧K r0 r1∧Bel w0 w':=by
 unfold Zek at h
 refine cof Tryz.func57 rfl 37 Tryz.ntmps57 ?_
 have hC:=ZGq (X:=Nox) w0 [ZCh TInts a0 [u0_0] fp0,ZCh TForm a1 [u1_0] fp1] (alc q0 (al1 q1))
 have hp3:=(hC.getP 1 rfl)
 replace hC:=hC.derive 1 rfl (ZCh ZF6.ty.sl a1.terms [u1_0] fp1) (fun _=>(Yx hp3)) (fun _ hb_=>hb_)
 refine sr (Yj (v:=.agg #[u1_0]) hC [u1_0] rfl rfl fun b5 w7 hB_ hC=>Zc (v:=vI 0) rfl (Zc (v:=.bool false) rfl (dn (ZF5 (sr (Zx 0 ZGc rfl sc53.size rfl rfl (Z4 hC 0 (u1_0) rfl sc53 rfl rfl (Zv hC 0 rfl ZGf rfl (Je rfl rfl (dn ?_))))))))))
 refine Zq rfl (fun hb10=>?_) (fun hb10=>?_)
 ·replace h:=ift h (ct hb10)
  refine sr (Zc (v:=vI (-1)) rfl (Zc (v:=.bool true) rfl (dn ?_)))
  refine ZGd (Ze ?_)
  exact Xi rfl (Zg rfl) (Zg rfl) ⟨(-1),true,rfl,h,hC.below⟩ (.inl rfl)
 ·replace h:=Zk h (cf hb10)
  refine ZF8 (Zd (sr (Zb (v:=u0_0) rfl (Zx 0 ZGc rfl sc53.size rfl rfl (Z4 hC 0 (u1_0) rfl sc53 rfl rfl ?_)))))
  obtain ⟨⟨h10,h11⟩,h⟩:=h
  obtain ⟨Ad10,c10,hv10⟩:=Zz (hC.getP 0 rfl) 0 (show 0 < a1.terms.length by omega)
  refine Yq (len:=a1.terms.length) ZGf ag90.size (tr rfl hv10) rfl h10 h11 (Zao (0 * 9+0) ZGl rfl ag88.size rfl rfl (Jv (ZF3 .u8 ((a1.terms.getD 0 Zuw).mono)) (Xp (o:=0) (k:=8) (Yf (hC.getP 0 rfl) hv10 0 (show 0 < a1.terms.length by omega)) rfl) ag88 rfl rfl (Zf [u0_0,.agg (ZF4 (ZF3 .u8 ((a1.terms.getD 0 Zuw).mono)))] _ ZHa rfl rfl rfl (Ziy a0 ((a1.terms.getD 0 Zuw).mono) h _ (hC.getP 1 rfl)) ?_)))
  rintro _ w10 ⟨r10,rfl,h,hB10⟩
  refine rt ?_
  replace hC:=hC.grow hB10
  refine Zc (v:=vI r10) rfl (dn (ZF5 (sr (Zc (v:=vI 1) rfl (dn (ZGb ?_))))))
  refine Jj (S:=Int) _ (fun s10 e_ w_=>Zy e_ [(0,u0_0),(3,vQ b5),(6,vI r10),(7,vI s10)]∧Ctx Nox w0 w_ [blk b5 55 [u1_0]] [ZCh ZF6.ty.sl a1.terms [u1_0] fp1,ZCh TInts a0 [u0_0] fp0,ZCh TForm a1 [u1_0] fp1]) ?_ (s0:=1) ?_ h
  ·clear hC h
   rintro s10 e_ w11 nx10 K10 ⟨hS_,hC⟩ h hK10
   rw [ue hS_]
   refine ZF5 (sr (Zb (v:=vI s10) rfl (Zx 0 ZGc rfl sc53.size rfl rfl (Z4 hC 0 (u1_0) rfl sc53 rfl rfl (Zv hC 0 rfl ZGf rfl (Zn rfl rfl (dn ?_)))))))
   refine Zq rfl (fun hb11=>?_) (fun hb11=>?_)
   ·replace h:=ift h (ct hb11)
    refine ZF8 (Zd (ZF5 (ZGb (sr (Zb (v:=u0_0) rfl (Zx 0 ZGc rfl sc53.size rfl rfl (Z4 hC 0 (u1_0) rfl sc53 rfl rfl (Zb (v:=vI s10) rfl ?_))))))))
    obtain ⟨⟨h12,h13⟩,h⟩:=h
    obtain ⟨Ad11,c11,hv11⟩:=Zz (hC.getP 0 rfl) s10.toNat (show s10.toNat < a1.terms.length by omega)
    refine Yq (len:=a1.terms.length) ZGf ag90.size (tr rfl hv11) rfl h12 h13 (Zao (s10.toNat * 9+0) ZGl rfl ag88.size rfl rfl (Jv (ZF3 .u8 ((a1.terms.getD s10.toNat Zuw).mono)) (Xp (o:=0) (k:=8) (Yf (hC.getP 0 rfl) hv11 s10.toNat (show s10.toNat < a1.terms.length by omega)) rfl) ag88 rfl rfl (Zf [u0_0,.agg (ZF4 (ZF3 .u8 ((a1.terms.getD s10.toNat Zuw).mono)))] _ ZHa rfl rfl rfl (Ziy a0 ((a1.terms.getD s10.toNat Zuw).mono) h _ (hC.getP 1 rfl)) ?_)))
    rintro _ w12 ⟨r11,rfl,h,hB11⟩
    refine rt ?_
    replace hC:=hC.grow hB11
    refine Zb (v:=vI r10) rfl (Y4 rfl rfl (dn ?_))
    refine Zq rfl (fun hb12=>?_) (fun hb12=>?_)
    ·replace h:=ift h (ct hb12)
     refine sr (Zc (v:=vI 0) rfl (Zc (v:=.bool false) rfl (dn ?_)))
     refine ZGd (Zw (Ze (Ze (Zw (Ze ?_)))))
     exact Xi rfl (Zg rfl) (Zg rfl) ⟨0,false,rfl,h,hC.below⟩ (.inl rfl)
    ·replace h:=Zk h (cf hb12)
     refine ZF8 (Zs (Zd (Zm (Zb (v:=vI s10) rfl (Zp rfl rfl (Zc (v:=vI (Zxa.wrap (s10+1))) rfl (done ?_)))))))
     exact hK10 (Zxa.wrap (s10+1)) _ _ ⟨(slq rfl),hC⟩ h
   ·replace h:=Zk h (cf hb11)
    refine ZGj (Zl (Zl (Z5 ?_)))
    refine Zd (sr (Zb (v:=vI r10) rfl (Zc (v:=vI r10) rfl (Zc (v:=.bool true) rfl (dn (ZGd ?_))))))
    exact Xi rfl (Zg rfl) (Zg rfl) ⟨r10,true,rfl,h,hC.below⟩ (.inl rfl)
  ·skip
   exact⟨(slq rfl),hC⟩
def Zel (a0:Alg) (a1:ZF9) (K:ZF9→Prop):Prop :=
 X8 (fun (s11:(List Term)×Int) nx12=>(if s11.2 < (a1.terms.length:Int) then((0≤s11.2∧s11.2 < (a1.terms.length:Int))∧X8 (fun (s10:(List Term)×Int) nx11=>(if s10.2 < (a0.degrees.length:Int) then((0≤s10.2∧s10.2 < 8)∧(if((a1.terms.getD s11.2.toNat Zuw).mono).get s10.2.toNat=0 then nx11 (s10.1,Zxa.wrap (s10.2+1)) else Yi (fun i10 (s12:A8×A8) nx10=>(if(i10:Int)≥s10.2 then(if(i10:Int)≤s10.2 then nx10 (s12.1.set i10 0,s12.2.set i10 0) else nx10 (s12.1.set i10 0,s12.2)) else(if(i10:Int)≤s10.2 then nx10 (s12.1,s12.2.set i10 0) else nx10 (s12.1,s12.2)))) (fun (s12:A8×A8)=>((0≤s10.2∧s10.2 < 8)∧((0≤s10.2∧s10.2 < 8)∧((0≤s11.2∧s11.2 < (a1.terms.length:Int))∧((0≤s10.2∧s10.2 < 8)∧Zbk a0.degrees s12.1 (fun r24=>(if Zvh r24 2≠0 then((0≤s10.2∧s10.2 < (a0.images.length:Int))∧Xs (s12.1.set s10.2.toNat (ZGh.wrap ((((a1.terms.getD s11.2.toNat Zuw).mono).get s10.2.toNat) - 1))) 1 (fun r16=>Xx a0.degrees r16 (a0.images.getD s10.2.toNat Zuw) (fun r18=>Xs s12.2 1 (fun r10=>Xx a0.degrees r18 r10 (fun r11=>Xz (Zxa.wrap (0 - (Zxa.wrap (((a1.terms.getD s11.2.toNat Zuw).factor) * (Zxa.wrap (((a1.terms.getD s11.2.toNat Zuw).mono).get s10.2.toNat)))))) (fun r19=>J2 (⟨s10.1⟩:ZF9) r11 r19 (fun r12=>nx11 (r12.terms,Zxa.wrap (s10.2+1))))))))) else((0≤s10.2∧s10.2 < (a0.images.length:Int))∧Xs (s12.1.set s10.2.toNat (ZGh.wrap ((((a1.terms.getD s11.2.toNat Zuw).mono).get s10.2.toNat) - 1))) 1 (fun r17=>Xx a0.degrees r17 (a0.images.getD s10.2.toNat Zuw) (fun r20=>Xs s12.2 1 (fun r13=>Xx a0.degrees r20 r13 (fun r14=>Xz (Zxa.wrap (((a1.terms.getD s11.2.toNat Zuw).factor) * (Zxa.wrap (((a1.terms.getD s11.2.toNat Zuw).mono).get s10.2.toNat)))) (fun r21=>J2 (⟨s10.1⟩:ZF9) r14 r21 (fun r15=>nx11 (r15.terms,Zxa.wrap (s10.2+1)))))))))))))))) 8 0 ((a1.terms.getD s11.2.toNat Zuw).mono,(a1.terms.getD s11.2.toNat Zuw).mono))) else nx12 (s10.1,Zxa.wrap (s11.2+1)))) (s11.1,0)) else K (⟨s11.1⟩:ZF9))) ([],0)
theorem Zpj (a0 : Alg) (a1 : ZF9)  {K : ZF9 → Prop} (h : Zel a0 a1 K) (w0 : World) (q0 : TAlg.rep a0 [u0_0, u0_1] fp0 w0) (q1 : ZGr.rep a1 [u1_0] fp1 w0) :
  Calls ZF7 58 #[.agg #[u0_0,u0_1],.agg #[u1_0]] w0 fun e w'=>∃ (r0:ZF9) (z0_0:Value) (fz0:List Nat),
   e=.returned (.agg #[z0_0])∧K r0∧(ZGk (Zr 90) r0 [z0_0] fz0).holds w'∧(∀ b,b∈fz0→w0.heap.size≤b)∧Bel w0 w':=by
 unfold Zel at h
 refine cof Tryz.func58 rfl 103 Tryz.ntmps58 ?_
 have hC:=ZGq (X:=Nox) w0 [ZCh TAlg a0 [u0_0,u0_1] fp0,ZCh TForm a1 [u1_0] fp1] (alc q0 (al1 q1))
 replace hC:=hC.dAlg 0 rfl
 have hp5:=(hC.getP 3 rfl)
 replace hC:=hC.derive 3 rfl (ZCh ZF6.ty.sl a1.terms [u1_0] fp1) (fun _=>(Yx hp5)) (fun _ hb_=>hb_)
 refine sr (Yj (v:=.agg #[u0_0,u0_1]) hC [u0_0,u0_1] rfl rfl fun b7 w9 hB_ hC=>Yj (v:=.agg #[u1_0]) hC [u1_0] rfl rfl fun b10 w11 hB_ hC=>Z1 hC [.slice none 0 0] z55 rfl fun b11 w12 hB_ hC=>dn (sr (Y5 [] rfl (Za5   _) (Z1 hC [.slice none 0 0] z55 rfl fun b12 w13 hB_ hC=>Zo (v:=.agg #[.slice none 0 0]) hC 0 [.slice none 0 0] [.slice none 0 0] rfl ag55.size rfl rfl rfl rfl rfl (ZGe rfl) rfl fun w14 hC=>dn (ZF5 (sr (Zc (v:=vI 0) rfl (dn (ZGb ?_)))))))))
 refine Jj (S:=(List Term)×Int) _ (fun s11 e_ w_=>∃ (v11:Value),Zy e_ [(2,vQ b7),(3,vQ b10),(4,vQ b11),(5,vQ b12),(6,vI s11.2)]∧Ctx Nox w0 w_ [own 90 9 v11 s11.1.length (ZF6.encs s11.1),blk b12 55 [v11],blk b11 55 [.slice none 0 0],blk b10 55 [u1_0],blk b7 32 [u0_0,u0_1]] [ZCh ZF6.ty.sl a1.terms [u1_0] fp1,ZCh ZGr.sl a0.images [u0_1] fp0,ZCh TInts a0.degrees [u0_0] fp0,ZCh TAlg a0 [u0_0,u0_1] fp0,ZCh TForm a1 [u1_0] fp1]) ?_ (s0:=([],0)) ?_ h
 ·clear hC h
  rintro s11 e_ w15 nx12 K11 ⟨v11,hS_,hC⟩ h hK12
  rw [ue hS_]
  refine ZF5 (sr (Zb (v:=vI s11.2) rfl (Zx 0 ZGc rfl sc53.size rfl rfl (Z4 hC 3 (u1_0) rfl sc53 rfl rfl (Zv hC 0 rfl ZGf rfl (Zn rfl rfl (dn ?_)))))))
  refine Zq rfl (fun hb10=>?_) (fun hb10=>?_)
  ·replace h := ift h (ct hb10)
   refine ZF8 (Zd (ZF5 (ZGb (sr (Zx 0 ZGc rfl sc53.size rfl rfl (Z4 hC 3 (u1_0) rfl sc53 rfl rfl (Zb (v:=vI s11.2) rfl ?_)))))))
   obtain ⟨⟨h10,h11⟩,h⟩:=h
   obtain ⟨Ad13,c10,hv10⟩:=Zz (hC.getP 0 rfl) s11.2.toNat (show s11.2.toNat < a1.terms.length by omega)
   refine Yq (len:=a1.terms.length) ZGf ag90.size (tr rfl hv10) rfl h10 h11 (Zao (s11.2.toNat * 9+0) ZGl rfl ag88.size rfl rfl (Jv (ZF3 .u8 ((a1.terms.getD s11.2.toNat Zuw).mono)) (Xp (o:=0) (k:=8) (Yf (hC.getP 0 rfl) hv10 s11.2.toNat (show s11.2.toNat < a1.terms.length by omega)) rfl) ag88 rfl rfl (Z1 hC (ZF3 .u8 ZGa) z88 rfl fun b13 w16 hB_ hC=>Zo (v:=.agg (ZF4 (ZF3 .u8 ((a1.terms.getD s11.2.toNat Zuw).mono)))) hC 0 (ZF3 .u8 ((a1.terms.getD s11.2.toNat Zuw).mono)) (ZF3 .u8 ((a1.terms.getD s11.2.toNat Zuw).mono)) rfl ag88.size rfl rfl rfl rfl rfl (ZGe rfl) rfl fun w17 hC=>dn (sr (Zc (v:=vI 0) rfl (dn (ZGb ?_)))))))
   refine Jj (S:=(List Term)×Int) _ (fun s10 e_ w_=>∃ (v10:Value),Zy e_ [(2,vQ b7),(3,vQ b10),(4,vQ b11),(5,vQ b12),(6,vI s11.2),(7,vQ b13),(8,vI s10.2)]∧Ctx Nox w0 w_ [own 90 9 v10 s10.1.length (ZF6.encs s10.1),blk b13 88 (ZF3 .u8 ((a1.terms.getD s11.2.toNat Zuw).mono)),blk b12 55 [v10],blk b11 55 [.slice none 0 0],blk b10 55 [u1_0],blk b7 32 [u0_0,u0_1]] [ZCh ZF6.ty.sl a1.terms [u1_0] fp1,ZCh ZGr.sl a0.images [u0_1] fp0,ZCh TInts a0.degrees [u0_0] fp0,ZCh TAlg a0 [u0_0,u0_1] fp0,ZCh TForm a1 [u1_0] fp1]) ?_ (s0:=(s11.1,0)) ?_ h
   ·clear hC h
    rintro s10 e_ w18 nx11 K12 ⟨v10,hS_,hC⟩ h hK11
    rw [ue hS_]
    refine ZF5 (sr (Zb (v:=vI s10.2) rfl (Zx 0 ZGp rfl sc22.size rfl rfl (Z4 hC 5 (u0_0) rfl sc22 rfl rfl (Zv hC 2 rfl ZGo rfl (Zn rfl rfl (dn ?_)))))))
    refine Zq rfl (fun hb11=>?_) (fun hb11=>?_)
    ·replace h:=ift h (ct hb11)
     refine ZF8 (Zd (ZF5 (ZGb (ZF5 (sr (Zb (v:=vI s10.2) rfl ?_))))))
     obtain ⟨⟨h12,h13⟩,h⟩:=h
     refine Y6 s10.2.toNat ZGn sc5.size rfl rfl h12 h13 (by omega) (Z4 hC 1 (.int .u8 (((a1.terms.getD s11.2.toNat Zuw).mono).get s10.2.toNat)) rfl sc5 rfl (ZGi _ _ (show s10.2.toNat < 8 by omega)) (Je rfl rfl (dn ?_)))
     refine Zq rfl (fun hb12=>?_) (fun hb12=>?_)
     ·replace h:=ift h (ct hb12)
      refine ZGj (Zl (Z5 ?_))
      refine Zd (Zm (Zb (v:=vI s10.2) rfl (Zp rfl rfl (Zc (v:=vI (Zxa.wrap (s10.2+1))) rfl (done ?_)))))
      exact hK11 (s10.1,Zxa.wrap (s10.2+1)) _ _ ⟨v10,(slq rfl),hC⟩ h
     ·replace h:=Zk h (cf hb12)
      refine ZF8 (Zd (ZF5 ?_))
      refine Ziu 5 mixed [0,0,0,0,13,31] [0,1] [] (fun hM18 hM21 w10 hB_=>?_)
      replace hC:=hC.grow hB_
      have hN_:w10.heap.size≤w10.heap.size:=Nat.le_refl _
      refine Jl (Y7 _) 0 (.agg (ZF4 (ZF3 .u8 ((a1.terms.getD s11.2.toNat Zuw).mono)))) rfl rfl (by kernel_rfl) (hM18 0 rfl) (fun w_ hB_=>.inl ⟨rfl,by exact Y9 (hC.grow (Zbi hB_)) 1 (ZF3 .u8 ((a1.terms.getD s11.2.toNat Zuw).mono)) rfl ag88 rfl rfl rfl⟩) (l9:=(Za 6 1)) (by kernel_rfl) (Jl (Y7 _) 1 (.agg (ZF4 (ZF3 .u8 ((a1.terms.getD s11.2.toNat Zuw).mono)))) rfl rfl (by kernel_rfl) (hM18 1 rfl) (fun w_ hB_=>.inl ⟨rfl,by exact Y9 (hC.grow (Zbi hB_)) 1 (ZF3 .u8 ((a1.terms.getD s11.2.toNat Zuw).mono)) rfl ag88 rfl rfl rfl⟩) (l9:=(Za 6 3)) (by kernel_rfl) ?_)
      refine Zb3 (fun e_ w_=>∃ (b14:Nat),∃ (b15:Nat),Zy e_ [(2,vQ b7),(3,vQ b10),(4,vQ b11),(5,vQ b12),(6,vI s11.2),(7,vQ b13),(8,vI s10.2),(9,vQ b15),(10,vQ b14)]∧Ctx Nox w0 w_ [blk b14 88 (ZF3 .u8 ((a1.terms.getD s11.2.toNat Zuw).mono)),blk b15 88 (ZF3 .u8 ((a1.terms.getD s11.2.toNat Zuw).mono)),own 90 9 v10 s10.1.length (ZF6.encs s10.1),blk b13 88 (ZF3 .u8 ((a1.terms.getD s11.2.toNat Zuw).mono)),blk b12 55 [v10],blk b11 55 [.slice none 0 0],blk b10 55 [u1_0],blk b7 32 [u0_0,u0_1]] [ZCh ZF6.ty.sl a1.terms [u1_0] fp1,ZCh ZGr.sl a0.images [u0_1] fp0,ZCh TInts a0.degrees [u0_0] fp0,ZCh TAlg a0 [u0_0,u0_1] fp0,ZCh TForm a1 [u1_0] fp1]∧(Yi (fun i10 (s12:A8×A8) nx10=>(if(i10:Int)≥s10.2 then(if(i10:Int)≤s10.2 then nx10 (s12.1.set i10 0,s12.2.set i10 0) else nx10 (s12.1.set i10 0,s12.2)) else(if(i10:Int)≤s10.2 then nx10 (s12.1,s12.2.set i10 0) else nx10 (s12.1,s12.2)))) (fun (s12:A8×A8)=>((0≤s10.2∧s10.2 < 8)∧((0≤s10.2∧s10.2 < 8)∧((0≤s11.2∧s11.2 < (a1.terms.length:Int))∧((0≤s10.2∧s10.2 < 8)∧Zbk a0.degrees s12.1 (fun r24=>(if Zvh r24 2≠0 then((0≤s10.2∧s10.2 < (a0.images.length:Int))∧Xs (s12.1.set s10.2.toNat (ZGh.wrap ((((a1.terms.getD s11.2.toNat Zuw).mono).get s10.2.toNat) - 1))) 1 (fun r16=>Xx a0.degrees r16 (a0.images.getD s10.2.toNat Zuw) (fun r18=>Xs s12.2 1 (fun r10=>Xx a0.degrees r18 r10 (fun r11=>Xz (Zxa.wrap (0 - (Zxa.wrap (((a1.terms.getD s11.2.toNat Zuw).factor) * (Zxa.wrap (((a1.terms.getD s11.2.toNat Zuw).mono).get s10.2.toNat)))))) (fun r19=>J2 (⟨s10.1⟩:ZF9) r11 r19 (fun r12=>nx11 (r12.terms,Zxa.wrap (s10.2+1))))))))) else((0≤s10.2∧s10.2 < (a0.images.length:Int))∧Xs (s12.1.set s10.2.toNat (ZGh.wrap ((((a1.terms.getD s11.2.toNat Zuw).mono).get s10.2.toNat) - 1))) 1 (fun r17=>Xx a0.degrees r17 (a0.images.getD s10.2.toNat Zuw) (fun r20=>Xs s12.2 1 (fun r13=>Xx a0.degrees r20 r13 (fun r14=>Xz (Zxa.wrap (((a1.terms.getD s11.2.toNat Zuw).factor) * (Zxa.wrap (((a1.terms.getD s11.2.toNat Zuw).mono).get s10.2.toNat)))) (fun r21=>J2 (⟨s10.1⟩:ZF9) r14 r21 (fun r15=>nx11 (r15.terms,Zxa.wrap (s10.2+1)))))))))))))))) 8 0 ((a1.terms.getD s11.2.toNat Zuw).mono,(a1.terms.getD s11.2.toNat Zuw).mono))) ?_ ?_
      ·clear hC h
       rintro e_ w19 ⟨b14,b15,hS_,hC,h⟩
       rw [ue hS_]
       refine Zd (ZF5 (sr (Zc (v:=vI 0) rfl (dn (ZGb ?_)))))
       refine Yn (S:=A8×A8) _ _ (fun i10 s12 e_ w_=>Zy e_ [(2,vQ b7),(3,vQ b10),(4,vQ b11),(5,vQ b12),(6,vI s11.2),(7,vQ b13),(8,vI s10.2),(9,vQ b15),(10,vQ b14),(11,vI (i10:Int))]∧Ctx Nox w0 w_ [blk b14 88 (ZF3 .u8 s12.2),blk b15 88 (ZF3 .u8 s12.1),own 90 9 v10 s10.1.length (ZF6.encs s10.1),blk b13 88 (ZF3 .u8 ((a1.terms.getD s11.2.toNat Zuw).mono)),blk b12 55 [v10],blk b11 55 [.slice none 0 0],blk b10 55 [u1_0],blk b7 32 [u0_0,u0_1]] [ZCh ZF6.ty.sl a1.terms [u1_0] fp1,ZCh ZGr.sl a0.images [u0_1] fp0,ZCh TInts a0.degrees [u0_0] fp0,ZCh TAlg a0 [u0_0,u0_1] fp0,ZCh TForm a1 [u1_0] fp1]) 8 ?_ ?_ (s0:=((a1.terms.getD s11.2.toNat Zuw).mono,(a1.terms.getD s11.2.toNat Zuw).mono)) ?_ h
       ·clear hC h
        rintro i10 s12 e_ w20 nx10 K10 hi10 ⟨hS_,hC⟩ h hK10
        rw [ue hS_]
        refine ZF5 (sr (Zb (v:=vI (i10:Int)) rfl (Zn rfl rfl (dn (Z8 rfl (decide_eq_true (by omega)) (ZF8 (Zd (ZF5 (ZGb (ZF5 (sr (Zb (v:=vI (i10:Int)) rfl (Zb (v:=vI s10.2) rfl (Zbf rfl rfl (dn ?_)))))))))))))))
        refine Zq rfl (fun hb13=>?_) (fun hb13=>?_)
        ·replace h:=ift h (ct hb13)
         refine Zm (Zb (v:=vI (i10:Int)) rfl (Y6 i10 ZGn sc5.size rfl rfl (ZGm _) (by omega) (by omega) (Zo (v:=.int .u8 0) hC 1 [.int .u8 0] (ZF3 .u8 (s12.1.set i10 0)) rfl sc5.size rfl rfl rfl rfl rfl hi10 (ZGz _ _ _ hi10) fun w21 hC=>dn (sr (Zb (v:=vI (i10:Int)) rfl (Zb (v:=vI s10.2) rfl (Zbz rfl rfl (dn ?_))))))))
         refine Zq rfl (fun hb14=>?_) (fun hb14=>?_)
         ·replace h:=ift h (ct hb14)
          refine Zm (Zb (v:=vI (i10:Int)) rfl (Y6 i10 ZGn sc5.size rfl rfl (ZGm _) (by omega) (by omega) (Zo (v:=.int .u8 0) hC 0 [.int .u8 0] (ZF3 .u8 (s12.2.set i10 0)) rfl sc5.size rfl rfl rfl rfl rfl hi10 (ZGz _ _ _ hi10) fun w22 hC=>done (Zs (Zd (Zm (Zb (v:=vI (i10:Int)) rfl (Zp rfl rfl (Zc (v:=vI (Zxa.wrap ((i10:Int)+1))) rfl (done ?_))))))))))
          exact hK10 (s12.1.set i10 0,s12.2.set i10 0) _ _ ⟨(sl ⟨rfl,rfl,rfl,rfl,rfl,rfl,rfl,rfl,rfl,(tr rfl (congrArg _ (Z6 hi10 (by decide)))),trivial⟩),hC⟩ h
         ·replace h:=Zk h (cf hb14)
          refine ZF8 (Zs (Zd (Zm (Zb (v:=vI (i10:Int)) rfl (Zp rfl rfl (Zc (v:=vI (Zxa.wrap ((i10:Int)+1))) rfl (done ?_)))))))
          exact hK10 (s12.1.set i10 0,s12.2) _ _ ⟨(sl ⟨rfl,rfl,rfl,rfl,rfl,rfl,rfl,rfl,rfl,(tr rfl (congrArg _ (Z6 hi10 (by decide)))),trivial⟩),hC⟩ h
        ·replace h:=Zk h (cf hb13)
         refine ZF8 (Zd (sr (Zb (v:=vI (i10:Int)) rfl (Zb (v:=vI s10.2) rfl (Zbz rfl rfl (dn ?_))))))
         refine Zq rfl (fun hb15=>?_) (fun hb15=>?_)
         ·replace h:=ift h (ct hb15)
          refine Zm (Zb (v:=vI (i10:Int)) rfl (Y6 i10 ZGn sc5.size rfl rfl (ZGm _) (by omega) (by omega) (Zo (v:=.int .u8 0) hC 0 [.int .u8 0] (ZF3 .u8 (s12.2.set i10 0)) rfl sc5.size rfl rfl rfl rfl rfl hi10 (ZGz _ _ _ hi10) fun w23 hC=>done (Zs (Zd (Zm (Zb (v:=vI (i10:Int)) rfl (Zp rfl rfl (Zc (v:=vI (Zxa.wrap ((i10:Int)+1))) rfl (done ?_))))))))))
          exact hK10 (s12.1,s12.2.set i10 0) _ _ ⟨(sl ⟨rfl,rfl,rfl,rfl,rfl,rfl,rfl,rfl,rfl,(tr rfl (congrArg _ (Z6 hi10 (by decide)))),trivial⟩),hC⟩ h
         ·replace h:=Zk h (cf hb15)
          refine ZF8 (Zs (Zd (Zm (Zb (v:=vI (i10:Int)) rfl (Zp rfl rfl (Zc (v:=vI (Zxa.wrap ((i10:Int)+1))) rfl (done ?_)))))))
          exact hK10 (s12.1,s12.2) _ _ ⟨(sl ⟨rfl,rfl,rfl,rfl,rfl,rfl,rfl,rfl,rfl,(tr rfl (congrArg _ (Z6 hi10 (by decide)))),trivial⟩),hC⟩ h
       ·clear hC h
        rintro s12 e_ w24 K10 ⟨hS_,hC⟩ h
        rw [ue hS_]
        refine ZF5 (sr (Zb (v:=vI 8) rfl (Zn rfl rfl (dn (Z9 rfl (decide_eq_false (by omega)) ?_)))))
        refine ZGj (Zl (Zl (Z5 ?_)))
        refine Zd (sr (Yb hC 1 (ZF3 .u8 s12.1) rfl ag88 rfl rfl rfl (Z1 hC (ZF3 .u8 ZGa) z88 rfl fun b28 w25 hB_ hC=>Zo (v:=.agg (ZF4 (ZF3 .u8 s12.1))) hC 0 (ZF3 .u8 s12.1) (ZF3 .u8 s12.1) rfl ag88.size rfl rfl rfl rfl rfl (ZGe rfl) rfl fun w26 hC=>dn (sr (Zb (v:=vI s10.2) rfl (Zb (v:=vI s10.2) rfl ?_))))))
        obtain ⟨⟨h14,h15⟩,h⟩:=h
        refine Y6 s10.2.toNat ZGn sc5.size rfl rfl h14 h15 (by omega) (Z4 hC 4 (.int .u8 (((a1.terms.getD s11.2.toNat Zuw).mono).get s10.2.toNat)) rfl sc5 rfl (ZGi _ _ (show s10.2.toNat < 8 by omega)) (Zaz rfl rfl ?_))
        obtain ⟨⟨h16,h17⟩,h⟩:=h
        refine Y6 s10.2.toNat ZGn sc5.size rfl rfl h16 h17 (by omega) (Zo (v:=.int .u8 (ZGh.wrap ((((a1.terms.getD s11.2.toNat Zuw).mono).get s10.2.toNat) - 1))) hC 0 [.int .u8 (ZGh.wrap ((((a1.terms.getD s11.2.toNat Zuw).mono).get s10.2.toNat) - 1))] (ZF3 .u8 (s12.1.set s10.2.toNat (ZGh.wrap ((((a1.terms.getD s11.2.toNat Zuw).mono).get s10.2.toNat) - 1)))) rfl sc5.size rfl rfl rfl rfl rfl (show s10.2.toNat < 8 by omega) (ZGz _ _ _ (show s10.2.toNat < 8 by omega)) fun w27 hC=>dn (ZF5 ?_))
        refine cwd 10 mixed [0,1,0,7,15,31,0,64,192,448,1023,2047] [1,3,5,7,8] [0,2,4,6,9] (fun hM10 hM11 w28 hB_=>?_)
        replace hC:=hC.grow hB_
        refine bF 0 (vQ b10) rfl rfl hM11 (fun _=>by exact Yh 0 ZGc rfl sc53.size rfl rfl) (Za 12 1) (bL 1 (u1_0) rfl rfl hM10 (fun _ hB_=>by exact Yd (hC.grow hB_) 7 (u1_0) rfl sc53 rfl rfl) (Za 12 3) (bM 2 (vI s11.2) rfl hM11 (Za 12 7) ?_))
        obtain ⟨⟨h18,h19⟩,h⟩:=h
        obtain ⟨Ad10,c11,hv11⟩:=Zz (hC.getP 0 rfl) s11.2.toNat (show s11.2.toNat < a1.terms.length by omega)
        refine bL 3 (.pointer (some (Ad10.add (s11.2.toNat * 9)))) rfl rfl hM10 (fun _ hB_=>by exact Yw (len:=a1.terms.length) ZGf ag90.size (by exact tr rfl hv11) rfl h18 h19) (Za 12 15) (bF 4 (.pointer (some (Ad10.add (s11.2.toNat * 9+8)))) rfl rfl hM11 (fun _=>by exact Jz (s11.2.toNat * 9+8) ZGl rfl sc2.size rfl rfl) (Za 12 31) (bL 5 (vI ((a1.terms.getD s11.2.toNat Zuw).factor)) rfl rfl hM10 (fun _ hB_=>by exact Jw (vI ((a1.terms.getD s11.2.toNat Zuw).factor)) (Xp (o:=8) (k:=1) (Yf ((hC.grow hB_).getP 0 rfl) hv11 s11.2.toNat (show s11.2.toNat < a1.terms.length by omega)) rfl) sc2 rfl) (Za 12 63) (bM 6 (vI s10.2) rfl hM11 (Za 12 127) ?_)))
        obtain ⟨⟨h20,h21⟩,h⟩:=h
        refine bL 7 (.pointer (some ⟨b13,s10.2.toNat,none⟩)) rfl rfl hM10 (fun _ hB_=>by exact Jf s10.2.toNat ZGn sc5.size rfl rfl h20 h21 (by omega)) (Za 12 255) (bL 8 (.int .u8 (((a1.terms.getD s11.2.toNat Zuw).mono).get s10.2.toNat)) rfl rfl hM10 (fun _ hB_=>by exact Yd (hC.grow hB_) 4 (.int .u8 (((a1.terms.getD s11.2.toNat Zuw).mono).get s10.2.toNat)) rfl sc5 rfl (ZGi _ _ (show s10.2.toNat < 8 by omega))) (Za 12 511) (bF 9 (vI (Zxa.wrap (((a1.terms.getD s11.2.toNat Zuw).mono).get s10.2.toNat))) rfl rfl hM11 (fun _=>by exact Zjw ZG7 ZHb rfl) (Za 12 1023) (Z2 10 (by decide) (by decide) (by kernel_rfl) (by kernel_rfl) rfl (Zbe rfl rfl (Zc (v:=vI (Zxa.wrap (((a1.terms.getD s11.2.toNat Zuw).factor) * (Zxa.wrap (((a1.terms.getD s11.2.toNat Zuw).mono).get s10.2.toNat))))) rfl (done (Z3 (Zd (ZF5 (sr (Zx 0 ZGp rfl sc22.size rfl rfl (Z4 hC 8 (u0_0) rfl sc22 rfl rfl (Yb hC 2 (ZF3 .u8 s12.1) rfl ag88 rfl rfl rfl (Zf [u0_0,.agg (ZF4 (ZF3 .u8 s12.1))] _ ZHa rfl rfl rfl (Ziy a0.degrees s12.1 h _ (hC.getP 2 rfl)) ?_))))))))))))))
        rintro _ w29 ⟨r24,rfl,h,hB10⟩
        refine rt ?_
        replace hC:=hC.grow hB10
        refine Jp rfl rfl (by decide) (Y4 rfl rfl (dn ?_))
        refine Zq rfl (fun hb16=>?_) (fun hb16=>?_)
        ·replace h:=ift h (ct hb16)
         refine Zm (Zb (v:=vI (Zxa.wrap (((a1.terms.getD s11.2.toNat Zuw).factor) * (Zxa.wrap (((a1.terms.getD s11.2.toNat Zuw).mono).get s10.2.toNat))))) rfl (Zf0 rfl (Zc (v:=vI (Zxa.wrap (0 - (Zxa.wrap (((a1.terms.getD s11.2.toNat Zuw).factor) * (Zxa.wrap (((a1.terms.getD s11.2.toNat Zuw).mono).get s10.2.toNat))))))) rfl (dn (ZF5 ?_)))))
         refine cwd 11 mixed [0,1,0,4,0,16,0,112,240,511,0,2047] [1,2,5,7,8] [0,4,6] (fun hM12 hM16 w30 hB_=>?_)
         replace hC:=hC.grow hB_
         refine bF 0 (vQ b7) rfl rfl hM16 (fun _=>by exact Yh 0 ZGp rfl sc22.size rfl rfl) (Za 12 1) (bL 1 (u0_0) rfl rfl hM12 (fun _ hB_=>by exact Yd (hC.grow hB_) 8 (u0_0) rfl sc22 rfl rfl) (Za 12 3) (bL 2 (.agg (ZF4 (ZF3 .u8 (s12.1.set s10.2.toNat (ZGh.wrap ((((a1.terms.getD s11.2.toNat Zuw).mono).get s10.2.toNat) - 1)))))) rfl rfl hM12 (fun _ hB_=>by exact Y9 (hC.grow hB_) 0 (ZF3 .u8 (s12.1.set s10.2.toNat (ZGh.wrap ((((a1.terms.getD s11.2.toNat Zuw).mono).get s10.2.toNat) - 1)))) rfl ag88 rfl rfl rfl) (Za 12 7) (bF 4 (.pointer (some ⟨b7,1,none⟩)) rfl rfl hM16 (fun _=>by exact Yh 1 ZGp rfl sc28.size rfl rfl) (Za 12 23) (bL 5 (u0_1) rfl rfl hM12 (fun _ hB_=>by exact Yd (hC.grow hB_) 8 (u0_1) rfl sc28 rfl rfl) (Za 12 55) (bM 6 (vI s10.2) rfl hM16 (Za 12 119) ?_)))))
         obtain ⟨⟨h22,h23⟩,h⟩:=h
         obtain ⟨Ad11,c12,hv12⟩:=Zz (hC.getP 1 rfl) s10.2.toNat (show s10.2.toNat < a0.images.length by omega)
         refine bL 7 (.pointer (some (Ad11.add (s10.2.toNat * 1)))) rfl rfl hM12 (fun _ hB_=>by exact Yw (len:=a0.images.length) ZGt ag55.size (by exact tr rfl hv12) rfl h22 h23) (Za 12 247) ?_
         obtain ⟨cs_,hl10,hc10,hr10⟩:=Jg (hC.getP 1 rfl) hv12 s10.2.toNat (show s10.2.toNat < a0.images.length by omega)
         obtain ⟨u10,rfl⟩:=ZG3.1 hl10
         clear hl10
         rw [Jb _ _ (show s10.2.toNat < a0.images.length by omega)] at hr10
         have hp10:=hr10
         replace hC:=hC.derive 1 rfl (ZCh ZF6.ty.sl ((a0.images.getD s10.2.toNat Zuw).terms) [u10] fp0) (fun _=>(Yx hp10)) (fun _ hb_=>hb_)
         refine bL 8 (.agg #[u10]) rfl rfl hM12 (fun _ hB_=>by exact Xn [u10] (Zaf hB_ hc10) ag55 rfl rfl) (Za 12 503) ?_
         refine Zb3 (fun e_ w_=>∃ (b16:Nat),∃ (u12:Value),∃ (r22:ZF9),Zy e_ [(2,vQ b7),(3,vQ b10),(4,vQ b11),(5,vQ b12),(6,vI s11.2),(7,vQ b13),(8,vI s10.2),(10,vQ b14),(13,vI (Zxa.wrap (0 - (Zxa.wrap (((a1.terms.getD s11.2.toNat Zuw).factor) * (Zxa.wrap (((a1.terms.getD s11.2.toNat Zuw).mono).get s10.2.toNat))))))),(14,vQ b16)]∧Ctx Nox w0 w_ [blk b16 55 [u12],own 90 9 u12 r22.terms.length (ZF6.encs r22.terms),blk b14 88 (ZF3 .u8 s12.2),own 90 9 v10 s10.1.length (ZF6.encs s10.1),blk b13 88 (ZF3 .u8 ((a1.terms.getD s11.2.toNat Zuw).mono)),blk b12 55 [v10],blk b11 55 [.slice none 0 0],blk b10 55 [u1_0],blk b7 32 [u0_0,u0_1]] [ZCh ZF6.ty.sl ((a0.images.getD s10.2.toNat Zuw).terms) [u10] fp0,ZCh ZF6.ty.sl a1.terms [u1_0] fp1,ZCh ZGr.sl a0.images [u0_1] fp0,ZCh TInts a0.degrees [u0_0] fp0,ZCh TAlg a0 [u0_0,u0_1] fp0,ZCh TForm a1 [u1_0] fp1]∧(Xs s12.2 1 (fun r10=>Xx a0.degrees r22 r10 (fun r11=>Xz (Zxa.wrap (0 - (Zxa.wrap (((a1.terms.getD s11.2.toNat Zuw).factor) * (Zxa.wrap (((a1.terms.getD s11.2.toNat Zuw).mono).get s10.2.toNat)))))) (fun r19=>J2 (⟨s10.1⟩:ZF9) r11 r19 (fun r12=>nx11 (r12.terms,Zxa.wrap (s10.2+1)))))))) ?_ ?_
         ·clear hC h
          rintro e_ w31 ⟨b16,u12,r22,hS_,hC,h⟩
          rw [ue hS_]
          refine Zd ?_
          refine cwd 9 mixed [0,0,2,0,0,16,62,0,254,511,1023] [0,2,3,4] [1,7] (fun hM14 hM19 w32 hB_=>?_)
          replace hC:=hC.grow hB_
          refine bL 0 (.agg #[v10]) rfl rfl hM14 (fun _ hB_=>by exact Y9 (hC.grow hB_) 5 [v10] rfl ag55 rfl rfl rfl) (Za 11 1) (bF 1 (vQ b7) rfl rfl hM19 (fun _=>by exact Yh 0 ZGp rfl sc22.size rfl rfl) (Za 11 3) (bL 2 (u0_0) rfl rfl hM14 (fun _ hB_=>by exact Yd (hC.grow hB_) 8 (u0_0) rfl sc22 rfl rfl) (Za 11 7) (bL 3 (.agg #[u12]) rfl rfl hM14 (fun _ hB_=>by exact Y9 (hC.grow hB_) 0 [u12] rfl ag55 rfl rfl rfl) (Za 11 15) (bL 4 (.agg (ZF4 (ZF3 .u8 s12.2))) rfl rfl hM14 (fun _ hB_=>by exact Y9 (hC.grow hB_) 2 (ZF3 .u8 s12.2) rfl ag88 rfl rfl rfl) (Za 11 31) (bM 7 (vI (Zxa.wrap (0 - (Zxa.wrap (((a1.terms.getD s11.2.toNat Zuw).factor) * (Zxa.wrap (((a1.terms.getD s11.2.toNat Zuw).mono).get s10.2.toNat))))))) rfl hM19 (Za 11 159) (aO 5 rfl (Zf [.agg (ZF4 (ZF3 .u8 s12.2)),vI 1] _ ZGy rfl rfl rfl (Za6 s12.2 1 h _) ?_)))))))
          rintro _ w33 ⟨r10,u24,f10,rfl,h,hr12,hf10,hB11⟩
          refine rt ?_
          replace hC:=hC.push hB11 (ZGk (Zr 90) r10 [u24] f10) hr12 hf10
          obtain ⟨ho10,hf11⟩:=Y8 (hC.getM 0 rfl)
          subst hf11
          replace hC:=hC.recast (c:=own 90 9 u24 r10.terms.length (ZF6.encs r10.terms)) (fun _ h_=>h_) (fun _=>ho10)
          refine done (aK (by assumption) (Za 11 191) (aO 6 rfl (Zf [u0_0,.agg #[u12],.agg #[u24]] _ ZGx rfl rfl rfl (Zau a0.degrees r22 r10 h _ (hC.getP 3 rfl) (Yl (Yp (hC.getM 2 rfl))) (Yl (Yp (hC.getM 0 rfl)))) ?_)))
          rintro _ w34 ⟨r11,u25,f11,rfl,h,hr13,hf12,hB12⟩
          refine rt ?_
          replace hC:=hC.push hB12 (ZGk (Zr 90) r11 [u25] f11) hr13 hf12
          obtain ⟨ho11,hf13⟩:=Y8 (hC.getM 0 rfl)
          subst hf13
          replace hC:=hC.recast (c:=own 90 9 u25 r11.terms.length (ZF6.encs r11.terms)) (fun _ h_=>h_) (fun _=>ho11)
          refine done (aK (by assumption) (Za 11 255) (aO 8 rfl (Zf [vI (Zxa.wrap (0 - (Zxa.wrap (((a1.terms.getD s11.2.toNat Zuw).factor) * (Zxa.wrap (((a1.terms.getD s11.2.toNat Zuw).mono).get s10.2.toNat))))))] _ ZGw rfl rfl rfl (Zbj (Zxa.wrap (0 - (Zxa.wrap (((a1.terms.getD s11.2.toNat Zuw).factor) * (Zxa.wrap (((a1.terms.getD s11.2.toNat Zuw).mono).get s10.2.toNat)))))) h _) ?_)))
          rintro _ w35 ⟨r19,rfl,h,hB13⟩
          refine rt ?_
          replace hC:=hC.grow hB13
          refine done (aK (by assumption) (Za 11 511) (Z2 9 (by decide) (by decide) (by kernel_rfl) (by kernel_rfl) rfl (Zf [.agg #[v10],.agg #[u25],vI r19] _ ZG9 rfl rfl rfl (Zgp (⟨s10.1⟩:ZF9) r11 r19 h _ (Yl (Yp (hC.getM 5 rfl))) (Yl (Yp (hC.getM 0 rfl)))) ?_)))
          rintro _ w36 ⟨r12,u13,f12,rfl,h,hr14,hf14,hB14⟩
          refine rt ?_
          replace hC:=hC.push hB14 (ZGk (Zr 90) r12 [u13] f12) hr14 hf14
          obtain ⟨ho12,hf15⟩:=Y8 (hC.getM 0 rfl)
          subst hf15
          replace hC:=hC.recast (c:=own 90 9 u13 r12.terms.length (ZF6.encs r12.terms)) (fun _ h_=>h_) (fun _=>ho12)
          refine Zo (v:=.agg #[u13]) hC 8 [u13] [u13] rfl ag55.size rfl rfl rfl rfl (Ye (Yr (hC.getM 0 rfl)) rfl) (ZGe rfl) rfl fun w37 hC=>done (Z3 (Zs (Zd (Zm (Zb (v:=vI s10.2) rfl (Zp rfl rfl (Zc (v:=vI (Zxa.wrap (s10.2+1))) rfl (done ?_))))))))
          exact hK11 (r12.terms,Zxa.wrap (s10.2+1)) _ _ ⟨u13,(slq rfl),((hC.xM [0,7,8,9,10,11] rfl).sP [1,2,3,4,5] rfl)⟩ h
         refine X9 3 10 rfl rfl (by kernel_rfl) ?_ ?_
         ·skip
          refine Zf [.agg (ZF4 (ZF3 .u8 (s12.1.set s10.2.toNat (ZGh.wrap ((((a1.terms.getD s11.2.toNat Zuw).mono).get s10.2.toNat) - 1))))),vI 1] _ ZGy rfl rfl rfl (Za6 (s12.1.set s10.2.toNat (ZGh.wrap ((((a1.terms.getD s11.2.toNat Zuw).mono).get s10.2.toNat) - 1))) 1 h _) ?_
          rintro _ w38 ⟨r16,u22,f13,rfl,h,hr15,hf16,hB15⟩
          refine rt ?_
          replace hC:=hC.push hB15 (ZGk (Zr 90) r16 [u22] f13) hr15 hf16
          obtain ⟨ho13,hf17⟩:=Y8 (hC.getM 0 rfl)
          subst hf17
          replace hC:=hC.recast (c:=own 90 9 u22 r16.terms.length (ZF6.encs r16.terms)) (fun _ h_=>h_) (fun _=>ho13)
          refine done (aK (by assumption) (Za 12 511) ?_)
          refine X9 9 10 rfl rfl (by kernel_rfl) ?_ ?_
          ·skip
           refine Zf [u0_0,.agg #[u22],.agg #[u10]] _ ZGx rfl rfl rfl (Zau a0.degrees r16 (a0.images.getD s10.2.toNat Zuw) h _ (hC.getP 3 rfl) (Yl (Yp (hC.getM 0 rfl))) (Yl (hC.getP 0 rfl))) ?_
           rintro _ w39 ⟨r18,u14,f14,rfl,h,hr16,hf18,hB16⟩
           refine rt ?_
           replace hC:=hC.push hB16 (ZGk (Zr 90) r18 [u14] f14) hr16 hf18
           obtain ⟨ho14,hf19⟩:=Y8 (hC.getM 0 rfl)
           subst hf19
           replace hC:=hC.recast (c:=own 90 9 u14 r18.terms.length (ZF6.encs r18.terms)) (fun _ h_=>h_) (fun _=>ho14)
           refine done (aK (by assumption) (Za 12 1023) (aO 10 rfl (Z1 hC [.slice none 0 0] z55 rfl fun b18 w40 hB_ hC=>done (aK (by assumption) (Za 12 2047) (Z2 11 (by decide) (by decide) (by kernel_rfl) (by kernel_rfl) rfl (Zo (v:=.agg #[u14]) hC 0 [u14] [u14] rfl ag55.size rfl rfl rfl rfl (Ye (Yr (hC.getM 1 rfl)) rfl) (ZGe rfl) rfl fun w41 hC=>done (Z3 ?_)))))))
           exact⟨rfl,_,rfl,⟨b18,u14,r18,(slq rfl),(hC.xM [0,1,4,6,7,8,9,10,11] rfl),h⟩⟩
          ·skip
           refine Z1 hC [.slice none 0 0] z55 rfl fun b19 w42 hB_ hC=>done (aK (by assumption) (Za 12 1535) (aO 9 rfl (Zf [u0_0,.agg #[u22],.agg #[u10]] _ ZGx rfl rfl rfl (Zau a0.degrees r16 (a0.images.getD s10.2.toNat Zuw) h _ (hC.getP 3 rfl) (Yl (Yp (hC.getM 1 rfl))) (Yl (hC.getP 0 rfl))) ?_)))
           rintro _ w43 ⟨r25,u15,f15,rfl,h,hr17,hf20,hB17⟩
           refine rt ?_
           replace hC:=hC.push hB17 (ZGk (Zr 90) r25 [u15] f15) hr17 hf20
           obtain ⟨ho15,hf21⟩:=Y8 (hC.getM 0 rfl)
           subst hf21
           replace hC:=hC.recast (c:=own 90 9 u15 r25.terms.length (ZF6.encs r25.terms)) (fun _ h_=>h_) (fun _=>ho15)
           refine done (aK (by assumption) (Za 12 2047) (Z2 11 (by decide) (by decide) (by kernel_rfl) (by kernel_rfl) rfl (Zo (v:=.agg #[u15]) hC 1 [u15] [u15] rfl ag55.size rfl rfl rfl rfl (Ye (Yr (hC.getM 0 rfl)) rfl) (ZGe rfl) rfl fun w44 hC=>done (Z3 ?_))))
           exact⟨rfl,_,rfl,⟨b19,u15,r25,(slq rfl),(hC.xM [1,0,4,6,7,8,9,10,11] rfl),h⟩⟩
         ·skip
          refine Z1 hC [.slice none 0 0] z55 rfl fun b20 w45 hB_ hC=>done (aK (by assumption) (Za 12 1527) (aO 3 rfl (Zf [.agg (ZF4 (ZF3 .u8 (s12.1.set s10.2.toNat (ZGh.wrap ((((a1.terms.getD s11.2.toNat Zuw).mono).get s10.2.toNat) - 1))))),vI 1] _ ZGy rfl rfl rfl (Za6 (s12.1.set s10.2.toNat (ZGh.wrap ((((a1.terms.getD s11.2.toNat Zuw).mono).get s10.2.toNat) - 1))) 1 h _) ?_)))
          rintro _ w46 ⟨r26,u26,f16,rfl,h,hr18,hf22,hB18⟩
          refine rt ?_
          replace hC:=hC.push hB18 (ZGk (Zr 90) r26 [u26] f16) hr18 hf22
          obtain ⟨ho16,hf23⟩:=Y8 (hC.getM 0 rfl)
          subst hf23
          replace hC:=hC.recast (c:=own 90 9 u26 r26.terms.length (ZF6.encs r26.terms)) (fun _ h_=>h_) (fun _=>ho16)
          refine done (aK (by assumption) (Za 12 1535) (aO 9 rfl (Zf [u0_0,.agg #[u26],.agg #[u10]] _ ZGx rfl rfl rfl (Zau a0.degrees r26 (a0.images.getD s10.2.toNat Zuw) h _ (hC.getP 3 rfl) (Yl (Yp (hC.getM 0 rfl))) (Yl (hC.getP 0 rfl))) ?_)))
          rintro _ w47 ⟨r27,u16,f17,rfl,h,hr19,hf24,hB19⟩
          refine rt ?_
          replace hC:=hC.push hB19 (ZGk (Zr 90) r27 [u16] f17) hr19 hf24
          obtain ⟨ho17,hf25⟩:=Y8 (hC.getM 0 rfl)
          subst hf25
          replace hC:=hC.recast (c:=own 90 9 u16 r27.terms.length (ZF6.encs r27.terms)) (fun _ h_=>h_) (fun _=>ho17)
          refine done (aK (by assumption) (Za 12 2047) (Z2 11 (by decide) (by decide) (by kernel_rfl) (by kernel_rfl) rfl (Zo (v:=.agg #[u16]) hC 2 [u16] [u16] rfl ag55.size rfl rfl rfl rfl (Ye (Yr (hC.getM 0 rfl)) rfl) (ZGe rfl) rfl fun w48 hC=>done (Z3 ?_))))
          exact⟨rfl,_,rfl,⟨b20,u16,r27,(slq rfl),(hC.xM [2,0,4,6,7,8,9,10,11] rfl),h⟩⟩
        ·replace h:=Zk h (cf hb16)
         refine ZF8 (Zd (ZF5 ?_))
         refine cwd 11 mixed [0,1,0,4,0,16,0,112,240,511,0,2047] [1,2,5,7,8] [0,4,6] (fun hM13 hM17 w49 hB_=>?_)
         replace hC:=hC.grow hB_
         refine bF 0 (vQ b7) rfl rfl hM17 (fun _=>by exact Yh 0 ZGp rfl sc22.size rfl rfl) (Za 12 1) (bL 1 (u0_0) rfl rfl hM13 (fun _ hB_=>by exact Yd (hC.grow hB_) 8 (u0_0) rfl sc22 rfl rfl) (Za 12 3) (bL 2 (.agg (ZF4 (ZF3 .u8 (s12.1.set s10.2.toNat (ZGh.wrap ((((a1.terms.getD s11.2.toNat Zuw).mono).get s10.2.toNat) - 1)))))) rfl rfl hM13 (fun _ hB_=>by exact Y9 (hC.grow hB_) 0 (ZF3 .u8 (s12.1.set s10.2.toNat (ZGh.wrap ((((a1.terms.getD s11.2.toNat Zuw).mono).get s10.2.toNat) - 1)))) rfl ag88 rfl rfl rfl) (Za 12 7) (bF 4 (.pointer (some ⟨b7,1,none⟩)) rfl rfl hM17 (fun _=>by exact Yh 1 ZGp rfl sc28.size rfl rfl) (Za 12 23) (bL 5 (u0_1) rfl rfl hM13 (fun _ hB_=>by exact Yd (hC.grow hB_) 8 (u0_1) rfl sc28 rfl rfl) (Za 12 55) (bM 6 (vI s10.2) rfl hM17 (Za 12 119) ?_)))))
         obtain ⟨⟨h24,h25⟩,h⟩:=h
         obtain ⟨Ad12,c13,hv13⟩:=Zz (hC.getP 1 rfl) s10.2.toNat (show s10.2.toNat < a0.images.length by omega)
         refine bL 7 (.pointer (some (Ad12.add (s10.2.toNat * 1)))) rfl rfl hM13 (fun _ hB_=>by exact Yw (len:=a0.images.length) ZGt ag55.size (by exact tr rfl hv13) rfl h24 h25) (Za 12 247) ?_
         obtain ⟨cs_,hl11,hc11,hr11⟩:=Jg (hC.getP 1 rfl) hv13 s10.2.toNat (show s10.2.toNat < a0.images.length by omega)
         obtain ⟨u11,rfl⟩:=ZG3.1 hl11
         clear hl11
         rw [Jb _ _ (show s10.2.toNat < a0.images.length by omega)] at hr11
         have hp11:=hr11
         replace hC:=hC.derive 1 rfl (ZCh ZF6.ty.sl ((a0.images.getD s10.2.toNat Zuw).terms) [u11] fp0) (fun _=>(Yx hp11)) (fun _ hb_=>hb_)
         refine bL 8 (.agg #[u11]) rfl rfl hM13 (fun _ hB_=>by exact Xn [u11] (Zaf hB_ hc11) ag55 rfl rfl) (Za 12 503) ?_
         refine Zb3 (fun e_ w_=>∃ (b17:Nat),∃ (u17:Value),∃ (r23:ZF9),Zy e_ [(2,vQ b7),(3,vQ b10),(4,vQ b11),(5,vQ b12),(6,vI s11.2),(7,vQ b13),(8,vI s10.2),(10,vQ b14),(13,vI (Zxa.wrap (((a1.terms.getD s11.2.toNat Zuw).factor) * (Zxa.wrap (((a1.terms.getD s11.2.toNat Zuw).mono).get s10.2.toNat))))),(14,vQ b17)]∧Ctx Nox w0 w_ [blk b17 55 [u17],own 90 9 u17 r23.terms.length (ZF6.encs r23.terms),blk b14 88 (ZF3 .u8 s12.2),own 90 9 v10 s10.1.length (ZF6.encs s10.1),blk b13 88 (ZF3 .u8 ((a1.terms.getD s11.2.toNat Zuw).mono)),blk b12 55 [v10],blk b11 55 [.slice none 0 0],blk b10 55 [u1_0],blk b7 32 [u0_0,u0_1]] [ZCh ZF6.ty.sl ((a0.images.getD s10.2.toNat Zuw).terms) [u11] fp0,ZCh ZF6.ty.sl a1.terms [u1_0] fp1,ZCh ZGr.sl a0.images [u0_1] fp0,ZCh TInts a0.degrees [u0_0] fp0,ZCh TAlg a0 [u0_0,u0_1] fp0,ZCh TForm a1 [u1_0] fp1]∧(Xs s12.2 1 (fun r13=>Xx a0.degrees r23 r13 (fun r14=>Xz (Zxa.wrap (((a1.terms.getD s11.2.toNat Zuw).factor) * (Zxa.wrap (((a1.terms.getD s11.2.toNat Zuw).mono).get s10.2.toNat)))) (fun r21=>J2 (⟨s10.1⟩:ZF9) r14 r21 (fun r15=>nx11 (r15.terms,Zxa.wrap (s10.2+1)))))))) ?_ ?_
         ·clear hC h
          rintro e_ w50 ⟨b17,u17,r23,hS_,hC,h⟩
          rw [ue hS_]
          refine Zd ?_
          refine cwd 9 mixed [0,0,2,0,0,16,62,0,254,511,1023] [0,2,3,4] [1,7] (fun hM15 hM20 w51 hB_=>?_)
          replace hC:=hC.grow hB_
          refine bL 0 (.agg #[v10]) rfl rfl hM15 (fun _ hB_=>by exact Y9 (hC.grow hB_) 5 [v10] rfl ag55 rfl rfl rfl) (Za 11 1) (bF 1 (vQ b7) rfl rfl hM20 (fun _=>by exact Yh 0 ZGp rfl sc22.size rfl rfl) (Za 11 3) (bL 2 (u0_0) rfl rfl hM15 (fun _ hB_=>by exact Yd (hC.grow hB_) 8 (u0_0) rfl sc22 rfl rfl) (Za 11 7) (bL 3 (.agg #[u17]) rfl rfl hM15 (fun _ hB_=>by exact Y9 (hC.grow hB_) 0 [u17] rfl ag55 rfl rfl rfl) (Za 11 15) (bL 4 (.agg (ZF4 (ZF3 .u8 s12.2))) rfl rfl hM15 (fun _ hB_=>by exact Y9 (hC.grow hB_) 2 (ZF3 .u8 s12.2) rfl ag88 rfl rfl rfl) (Za 11 31) (bM 7 (vI (Zxa.wrap (((a1.terms.getD s11.2.toNat Zuw).factor) * (Zxa.wrap (((a1.terms.getD s11.2.toNat Zuw).mono).get s10.2.toNat))))) rfl hM20 (Za 11 159) (aO 5 rfl (Zf [.agg (ZF4 (ZF3 .u8 s12.2)),vI 1] _ ZGy rfl rfl rfl (Za6 s12.2 1 h _) ?_)))))))
          rintro _ w52 ⟨r13,u27,f18,rfl,h,hr20,hf26,hB20⟩
          refine rt ?_
          replace hC:=hC.push hB20 (ZGk (Zr 90) r13 [u27] f18) hr20 hf26
          obtain ⟨ho18,hf27⟩:=Y8 (hC.getM 0 rfl)
          subst hf27
          replace hC:=hC.recast (c:=own 90 9 u27 r13.terms.length (ZF6.encs r13.terms)) (fun _ h_=>h_) (fun _=>ho18)
          refine done (aK (by assumption) (Za 11 191) (aO 6 rfl (Zf [u0_0,.agg #[u17],.agg #[u27]] _ ZGx rfl rfl rfl (Zau a0.degrees r23 r13 h _ (hC.getP 3 rfl) (Yl (Yp (hC.getM 2 rfl))) (Yl (Yp (hC.getM 0 rfl)))) ?_)))
          rintro _ w53 ⟨r14,u28,f19,rfl,h,hr21,hf28,hB21⟩
          refine rt ?_
          replace hC:=hC.push hB21 (ZGk (Zr 90) r14 [u28] f19) hr21 hf28
          obtain ⟨ho19,hf29⟩:=Y8 (hC.getM 0 rfl)
          subst hf29
          replace hC:=hC.recast (c:=own 90 9 u28 r14.terms.length (ZF6.encs r14.terms)) (fun _ h_=>h_) (fun _=>ho19)
          refine done (aK (by assumption) (Za 11 255) (aO 8 rfl (Zf [vI (Zxa.wrap (((a1.terms.getD s11.2.toNat Zuw).factor) * (Zxa.wrap (((a1.terms.getD s11.2.toNat Zuw).mono).get s10.2.toNat))))] _ ZGw rfl rfl rfl (Zbj (Zxa.wrap (((a1.terms.getD s11.2.toNat Zuw).factor) * (Zxa.wrap (((a1.terms.getD s11.2.toNat Zuw).mono).get s10.2.toNat)))) h _) ?_)))
          rintro _ w54 ⟨r21,rfl,h,hB22⟩
          refine rt ?_
          replace hC:=hC.grow hB22
          refine done (aK (by assumption) (Za 11 511) (Z2 9 (by decide) (by decide) (by kernel_rfl) (by kernel_rfl) rfl (Zf [.agg #[v10],.agg #[u28],vI r21] _ ZG9 rfl rfl rfl (Zgp (⟨s10.1⟩:ZF9) r14 r21 h _ (Yl (Yp (hC.getM 5 rfl))) (Yl (Yp (hC.getM 0 rfl)))) ?_)))
          rintro _ w55 ⟨r15,u18,f20,rfl,h,hr22,hf30,hB23⟩
          refine rt ?_
          replace hC:=hC.push hB23 (ZGk (Zr 90) r15 [u18] f20) hr22 hf30
          obtain ⟨ho20,hf31⟩:=Y8 (hC.getM 0 rfl)
          subst hf31
          replace hC:=hC.recast (c:=own 90 9 u18 r15.terms.length (ZF6.encs r15.terms)) (fun _ h_=>h_) (fun _=>ho20)
          refine Zo (v:=.agg #[u18]) hC 8 [u18] [u18] rfl ag55.size rfl rfl rfl rfl (Ye (Yr (hC.getM 0 rfl)) rfl) (ZGe rfl) rfl fun w56 hC=>done (Z3 (Zs (Zd (Zm (Zb (v:=vI s10.2) rfl (Zp rfl rfl (Zc (v:=vI (Zxa.wrap (s10.2+1))) rfl (done ?_))))))))
          exact hK11 (r15.terms,Zxa.wrap (s10.2+1)) _ _ ⟨u18,(slq rfl),((hC.xM [0,7,8,9,10,11] rfl).sP [1,2,3,4,5] rfl)⟩ h
         refine X9 3 10 rfl rfl (by kernel_rfl) ?_ ?_
         ·skip
          refine Zf [.agg (ZF4 (ZF3 .u8 (s12.1.set s10.2.toNat (ZGh.wrap ((((a1.terms.getD s11.2.toNat Zuw).mono).get s10.2.toNat) - 1))))),vI 1] _ ZGy rfl rfl rfl (Za6 (s12.1.set s10.2.toNat (ZGh.wrap ((((a1.terms.getD s11.2.toNat Zuw).mono).get s10.2.toNat) - 1))) 1 h _) ?_
          rintro _ w57 ⟨r17,u23,f21,rfl,h,hr23,hf32,hB24⟩
          refine rt ?_
          replace hC:=hC.push hB24 (ZGk (Zr 90) r17 [u23] f21) hr23 hf32
          obtain ⟨ho21,hf33⟩:=Y8 (hC.getM 0 rfl)
          subst hf33
          replace hC:=hC.recast (c:=own 90 9 u23 r17.terms.length (ZF6.encs r17.terms)) (fun _ h_=>h_) (fun _=>ho21)
          refine done (aK (by assumption) (Za 12 511) ?_)
          refine X9 9 10 rfl rfl (by kernel_rfl) ?_ ?_
          ·skip
           refine Zf [u0_0,.agg #[u23],.agg #[u11]] _ ZGx rfl rfl rfl (Zau a0.degrees r17 (a0.images.getD s10.2.toNat Zuw) h _ (hC.getP 3 rfl) (Yl (Yp (hC.getM 0 rfl))) (Yl (hC.getP 0 rfl))) ?_
           rintro _ w58 ⟨r20,u19,f22,rfl,h,hr24,hf34,hB25⟩
           refine rt ?_
           replace hC:=hC.push hB25 (ZGk (Zr 90) r20 [u19] f22) hr24 hf34
           obtain ⟨ho22,hf35⟩:=Y8 (hC.getM 0 rfl)
           subst hf35
           replace hC:=hC.recast (c:=own 90 9 u19 r20.terms.length (ZF6.encs r20.terms)) (fun _ h_=>h_) (fun _=>ho22)
           refine done (aK (by assumption) (Za 12 1023) (aO 10 rfl (Z1 hC [.slice none 0 0] z55 rfl fun b21 w59 hB_ hC=>done (aK (by assumption) (Za 12 2047) (Z2 11 (by decide) (by decide) (by kernel_rfl) (by kernel_rfl) rfl (Zo (v:=.agg #[u19]) hC 0 [u19] [u19] rfl ag55.size rfl rfl rfl rfl (Ye (Yr (hC.getM 1 rfl)) rfl) (ZGe rfl) rfl fun w60 hC=>done (Z3 ?_)))))))
           exact⟨rfl,_,rfl,⟨b21,u19,r20,(slq rfl),(hC.xM [0,1,4,6,7,8,9,10,11] rfl),h⟩⟩
          ·skip
           refine Z1 hC [.slice none 0 0] z55 rfl fun b22 w61 hB_ hC=>done (aK (by assumption) (Za 12 1535) (aO 9 rfl (Zf [u0_0,.agg #[u23],.agg #[u11]] _ ZGx rfl rfl rfl (Zau a0.degrees r17 (a0.images.getD s10.2.toNat Zuw) h _ (hC.getP 3 rfl) (Yl (Yp (hC.getM 1 rfl))) (Yl (hC.getP 0 rfl))) ?_)))
           rintro _ w62 ⟨r28,u20,f23,rfl,h,hr25,hf36,hB26⟩
           refine rt ?_
           replace hC:=hC.push hB26 (ZGk (Zr 90) r28 [u20] f23) hr25 hf36
           obtain ⟨ho23,hf37⟩:=Y8 (hC.getM 0 rfl)
           subst hf37
           replace hC:=hC.recast (c:=own 90 9 u20 r28.terms.length (ZF6.encs r28.terms)) (fun _ h_=>h_) (fun _=>ho23)
           refine done (aK (by assumption) (Za 12 2047) (Z2 11 (by decide) (by decide) (by kernel_rfl) (by kernel_rfl) rfl (Zo (v:=.agg #[u20]) hC 1 [u20] [u20] rfl ag55.size rfl rfl rfl rfl (Ye (Yr (hC.getM 0 rfl)) rfl) (ZGe rfl) rfl fun w63 hC=>done (Z3 ?_))))
           exact⟨rfl,_,rfl,⟨b22,u20,r28,(slq rfl),(hC.xM [1,0,4,6,7,8,9,10,11] rfl),h⟩⟩
         ·skip
          refine Z1 hC [.slice none 0 0] z55 rfl fun b23 w64 hB_ hC=>done (aK (by assumption) (Za 12 1527) (aO 3 rfl (Zf [.agg (ZF4 (ZF3 .u8 (s12.1.set s10.2.toNat (ZGh.wrap ((((a1.terms.getD s11.2.toNat Zuw).mono).get s10.2.toNat) - 1))))),vI 1] _ ZGy rfl rfl rfl (Za6 (s12.1.set s10.2.toNat (ZGh.wrap ((((a1.terms.getD s11.2.toNat Zuw).mono).get s10.2.toNat) - 1))) 1 h _) ?_)))
          rintro _ w65 ⟨r29,u29,f24,rfl,h,hr26,hf38,hB27⟩
          refine rt ?_
          replace hC:=hC.push hB27 (ZGk (Zr 90) r29 [u29] f24) hr26 hf38
          obtain ⟨ho24,hf39⟩:=Y8 (hC.getM 0 rfl)
          subst hf39
          replace hC:=hC.recast (c:=own 90 9 u29 r29.terms.length (ZF6.encs r29.terms)) (fun _ h_=>h_) (fun _=>ho24)
          refine done (aK (by assumption) (Za 12 1535) (aO 9 rfl (Zf [u0_0,.agg #[u29],.agg #[u11]] _ ZGx rfl rfl rfl (Zau a0.degrees r29 (a0.images.getD s10.2.toNat Zuw) h _ (hC.getP 3 rfl) (Yl (Yp (hC.getM 0 rfl))) (Yl (hC.getP 0 rfl))) ?_)))
          rintro _ w66 ⟨r30,u21,f25,rfl,h,hr27,hf40,hB28⟩
          refine rt ?_
          replace hC:=hC.push hB28 (ZGk (Zr 90) r30 [u21] f25) hr27 hf40
          obtain ⟨ho25,hf41⟩:=Y8 (hC.getM 0 rfl)
          subst hf41
          replace hC:=hC.recast (c:=own 90 9 u21 r30.terms.length (ZF6.encs r30.terms)) (fun _ h_=>h_) (fun _=>ho25)
          refine done (aK (by assumption) (Za 12 2047) (Z2 11 (by decide) (by decide) (by kernel_rfl) (by kernel_rfl) rfl (Zo (v:=.agg #[u21]) hC 2 [u21] [u21] rfl ag55.size rfl rfl rfl rfl (Ye (Yr (hC.getM 0 rfl)) rfl) (ZGe rfl) rfl fun w67 hC=>done (Z3 ?_))))
          exact⟨rfl,_,rfl,⟨b23,u21,r30,(slq rfl),(hC.xM [2,0,4,6,7,8,9,10,11] rfl),h⟩⟩
       ·skip
        exact⟨(slq rfl),hC⟩
      refine X9 2 3 rfl rfl (by kernel_rfl) ?_ ?_
      ·skip
       refine Zdc hC (ZF3 .u8 ZGa) z88 rfl fun b24 w68 hn_ hB_ hC=>?_
       have hnb_b13098:=Zux hN_ hn_
       refine done ?_
       refine Yo (Xm hN_ (by assumption)) hN_ (l9:=(Za 6 7)) (by kernel_rfl) (fun hN_=>?_)
       refine aO 3 rfl (Zdc hC (ZF3 .u8 ZGa) z88 rfl fun b25 w69 hn_ hB_ hC=>?_)
       have hnb_b13101:=Zux hN_ hn_
       refine done ?_
       refine Yo (Xm hN_ (by assumption)) hN_ (l9:=(Za 6 15)) (by kernel_rfl) (fun hN_=>?_)
       refine aO 4 rfl (Zed (v:=.agg (ZF4 (ZF3 .u8 ((a1.terms.getD s11.2.toNat Zuw).mono)))) hC 1 (ZF3 .u8 ((a1.terms.getD s11.2.toNat Zuw).mono)) (ZF3 .u8 ((a1.terms.getD s11.2.toNat Zuw).mono)) rfl ag88.size rfl rfl rfl rfl rfl (ZGe rfl) rfl fun w70 hBB_ hC=>done ?_)
       refine Yo (X6 hN_ hnb_b13098 hBB_) hN_ (l9:=(Za 6 31)) (by kernel_rfl) (fun hN_=>?_)
       refine Z2 5 (by decide) (by decide) (by kernel_rfl) (by kernel_rfl) rfl (Zo (v:=.agg (ZF4 (ZF3 .u8 ((a1.terms.getD s11.2.toNat Zuw).mono)))) hC 0 (ZF3 .u8 ((a1.terms.getD s11.2.toNat Zuw).mono)) (ZF3 .u8 ((a1.terms.getD s11.2.toNat Zuw).mono)) rfl ag88.size rfl rfl rfl rfl rfl (ZGe rfl) rfl fun w71 hC=>done (Z3 ?_))
       exact⟨rfl,_,rfl,⟨b25,b24,(slq rfl),hC,h⟩⟩
      ·skip
       refine Zdc hC (ZF3 .u8 ZGa) z88 rfl fun b26 w72 hn_ hB_ hC=>?_
       have hnb_b13106:=Zux hN_ hn_
       refine done ?_
       refine Yo (Xm hN_ (by assumption)) hN_ (l9:=(Za 6 11)) (by kernel_rfl) (fun hN_=>?_)
       refine aO 2 rfl (Zdc hC (ZF3 .u8 ZGa) z88 rfl fun b27 w73 hn_ hB_ hC=>?_)
       have hnb_b13109:=Zux hN_ hn_
       refine done ?_
       refine Yo (Xm hN_ (by assumption)) hN_ (l9:=(Za 6 15)) (by kernel_rfl) (fun hN_=>?_)
       refine aO 4 rfl (Zed (v:=.agg (ZF4 (ZF3 .u8 ((a1.terms.getD s11.2.toNat Zuw).mono)))) hC 0 (ZF3 .u8 ((a1.terms.getD s11.2.toNat Zuw).mono)) (ZF3 .u8 ((a1.terms.getD s11.2.toNat Zuw).mono)) rfl ag88.size rfl rfl rfl rfl rfl (ZGe rfl) rfl fun w74 hBB_ hC=>done ?_)
       refine Yo (X6 hN_ hnb_b13109 hBB_) hN_ (l9:=(Za 6 31)) (by kernel_rfl) (fun hN_=>?_)
       refine Z2 5 (by decide) (by decide) (by kernel_rfl) (by kernel_rfl) rfl (Zo (v:=.agg (ZF4 (ZF3 .u8 ((a1.terms.getD s11.2.toNat Zuw).mono)))) hC 1 (ZF3 .u8 ((a1.terms.getD s11.2.toNat Zuw).mono)) (ZF3 .u8 ((a1.terms.getD s11.2.toNat Zuw).mono)) rfl ag88.size rfl rfl rfl rfl rfl (ZGe rfl) rfl fun w75 hC=>done (Z3 ?_))
       exact⟨rfl,_,rfl,⟨b26,b27,(slq rfl),(hC.xM [1,0,2,3,4,5,6,7] rfl),h⟩⟩
    ·replace h:=Zk h (cf hb11)
     refine ZGj (Zl (Zl (Z5 ?_)))
     refine Zs (Zd (Zm (Zb (v:=vI s11.2) rfl (Zp rfl rfl (Zc (v:=vI (Zxa.wrap (s11.2+1))) rfl (done ?_))))))
     exact hK12 (s10.1,Zxa.wrap (s11.2+1)) _ _ ⟨v10,(slq rfl),(hC.xM [0,2,3,4,5] rfl)⟩ h
   ·skip
    exact⟨v11,(slq rfl),(hC.xM [1,0,2,3,4,5] rfl)⟩
  ·replace h:=Zk h (cf hb10)
   refine ZGj (Zl (Zl (Z5 ?_)))
   refine Zd (sr (Yb hC 1 [v11] rfl ag55 rfl rfl rfl (Zo (v:=.agg #[v11]) hC 2 [v11] [v11] rfl ag55.size rfl rfl rfl rfl (Ye (Yr (hC.getM 0 rfl)) rfl) (ZGe rfl) rfl fun w76 hC=>dn (ZGd ?_))))
   exact Zj rfl (Y2 hC 2 rfl ag55 rfl rfl) ⟨(⟨s11.1⟩:ZF9),v11,(ZG2 (Zvi v11)),rfl,h,(X5 (Jc (hC.getM 0 rfl))),(X3 hC 0 rfl),hC.below⟩ (.inl rfl)
 ·skip
  replace hC:=hC.pushNil 90 9
  exact⟨.slice none 0 0,(slq rfl),hC⟩
def Zem (a0:Alg) (K:Bool→Prop):Prop :=
 Zeg a0.degrees (fun r13=>(if¬ (r13=true) then K false else(if(a0.images.length:Int)≠(a0.degrees.length:Int) then K false else X8 (fun (s10:Int) nx10=>(if s10 < (a0.images.length:Int) then((0≤s10∧s10 < (a0.images.length:Int))∧Zdg a0.degrees (a0.images.getD s10.toNat Zuw) (fun r14=>(if¬ (r14=true) then K false else((0≤s10∧s10 < (a0.images.length:Int))∧Zek a0.degrees (a0.images.getD s10.toNat Zuw) (fun r10 r11=>(if¬ (r11=true) then K false else((0≤s10∧s10 < (a0.images.length:Int))∧(if(((a0.images.getD s10.toNat Zuw).terms).length:Int) > 0 then((0≤s10∧s10 < (a0.degrees.length:Int))∧(if r10≠Zxa.wrap ((a0.degrees.getD s10.toNat Zuw)+1) then K false else nx10 (Zxa.wrap (s10+1)))) else nx10 (Zxa.wrap (s10+1)))))))))) else X8 (fun (s11:Int) nx11=>(if s11 < (a0.images.length:Int) then((0≤s11∧s11 < (a0.images.length:Int))∧Zel a0 (a0.images.getD s11.toNat Zuw) (fun r12=>(if(r12.terms.length:Int) > 0 then K false else nx11 (Zxa.wrap (s11+1))))) else K true)) 0)) 0)))
theorem Zpk (a0 : Alg)  {K : Bool → Prop} (h : Zem a0 K) (w0 : World) (q0 : TAlg.rep a0 [u0_0, u0_1] fp0 w0) :
  Calls ZF7 38 #[.agg #[u0_0,u0_1]] w0 fun e w'=>∃ (r0:Bool),
   e=.returned (.bool r0)∧K r0∧Bel w0 w':=by
 unfold Zem at h
 refine cof Tryz.func38 rfl 86 Tryz.ntmps38 ?_
 have hC:=ZGq (X:=Nox) w0 [ZCh TAlg a0 [u0_0,u0_1] fp0] (al1 q0)
 replace hC:=hC.dAlg 0 rfl
 refine sr (Yj (v:=.agg #[u0_0,u0_1]) hC [u0_0,u0_1] rfl rfl fun b4 w6 hB_ hC=>Zc (v:=.bool false) rfl (dn (ZF5 (sr (Zx 0 ZGp rfl sc22.size rfl rfl (Z4 hC 0 (u0_0) rfl sc22 rfl rfl (Zf [u0_0] _ Tryz.func68 rfl rfl rfl (Zpf a0.degrees h _ (hC.getP 1 rfl)) ?_)))))))
 rintro _ w9 ⟨r13,rfl,h,hB10⟩
 refine rt ?_
 replace hC:=hC.grow hB10
 refine Xa rfl (Zb (v:=.bool (!r13)) rfl ?_)
 refine Y1 (!r13) (fun hb12=>?_) (fun hb12=>?_)
 ·replace h:=ift h (Y0 (Xf hb12))
  refine Zh (b:=true) 4 11 rfl (tr rfl (congrArg _ hb12)) (by decide) (Zh (b:=true) 4 11 rfl (tr rfl (congrArg _ hb12)) (by decide) (Zh (b:=true) 4 11 rfl (tr rfl (congrArg _ hb12)) (by decide) (Zh (b:=true) 4 11 rfl (tr rfl (congrArg _ hb12)) (by decide) (Zh (b:=true) 4 11 rfl (tr rfl (congrArg _ hb12)) (by decide) (Zh (b:=true) 4 11 rfl (tr rfl (congrArg _ hb12)) (by decide) (Zh (b:=true) 4 11 rfl (tr rfl (congrArg _ hb12)) (by decide) (Z0 (v:=.bool true) (b:=true) (tr rfl (congrArg _ hb12)) rfl (dn (Z8 rfl rfl (sr (Zc (v:=.bool false) rfl (dn ?_))))))))))))
  refine ZGd (Ze ?_)
  exact Zj rfl (Zg rfl) ⟨false,rfl,h,hC.below⟩ (.inl rfl)
 ·replace h:=Zk h (not_not_intro ((Xg hb12)))
  refine Zi 4 11 rfl rfl hb12 (Zx 1 ZGp rfl sc28.size rfl rfl (Zi 4 11 rfl rfl hb12 (Z4 hC 0 (u0_1) rfl sc28 rfl rfl (Zi 4 11 rfl rfl hb12 (Zv hC 0 rfl ZGt rfl (Zi 4 11 rfl rfl hb12 (Zx 0 ZGp rfl sc22.size rfl rfl (Zi 4 11 rfl rfl hb12 (Z4 hC 0 (u0_0) rfl sc22 rfl rfl (Zi 4 11 rfl rfl hb12 (Zv hC 1 rfl ZGo rfl (Zi 4 11 rfl rfl hb12 (Y4 rfl rfl (Z0 (v:=.bool (decide ((a0.images.length:Int)≠(a0.degrees.length:Int)))) (b:=false) (tr rfl (congrArg _ hb12)) rfl (dn ?_)))))))))))))))
  refine Zq rfl (fun hb13=>?_) (fun hb13=>?_)
  ·replace h:=ift h (ct hb13)
   refine sr (Zc (v:=.bool false) rfl (dn ?_))
   refine ZGd (Ze ?_)
   exact Zj rfl (Zg rfl) ⟨false,rfl,h,hC.below⟩ (.inl rfl)
  ·replace h:=Zk h (cf hb13)
   refine ZF8 (Zd (ZF5 (sr (Zc (v:=vI 0) rfl (dn (ZGb ?_))))))
   refine Jj (S:=Int) _ (fun s10 e_ w_=>Zy e_ [(1,vQ b4),(3,vI s10)]∧Ctx Nox w0 w_ [blk b4 32 [u0_0,u0_1]] [ZCh ZGr.sl a0.images [u0_1] fp0,ZCh TInts a0.degrees [u0_0] fp0,ZCh TAlg a0 [u0_0,u0_1] fp0]) ?_ (s0:=0) ?_ h
   ·clear hC h
    rintro s10 e_ w10 nx10 K10 ⟨hS_,hC⟩ h hK10
    rw [ue hS_]
    refine ZF5 (sr (Zb (v:=vI s10) rfl (Zx 1 ZGp rfl sc28.size rfl rfl (Z4 hC 0 (u0_1) rfl sc28 rfl rfl (Zv hC 0 rfl ZGt rfl (Zn rfl rfl (dn ?_)))))))
    refine Zq rfl (fun hb14=>?_) (fun hb14=>?_)
    ·replace h:=ift h (ct hb14)
     refine ZF8 (Zd (ZF5 (ZGb (ZF5 (ZF5 ?_)))))
     refine cwd 7 mixed [0,1,0,4,0,28,60,127,255] [1,3,5,6] [0,2,4] (fun hM11 hM14 w11 hB_=>?_)
     replace hC:=hC.grow hB_
     refine bF 0 (vQ b4) rfl rfl hM14 (fun _=>by exact Yh 0 ZGp rfl sc22.size rfl rfl) (Za 9 1) (bL 1 (u0_0) rfl rfl hM11 (fun _ hB_=>by exact Yd (hC.grow hB_) 0 (u0_0) rfl sc22 rfl rfl) (Za 9 3) (bF 2 (.pointer (some ⟨b4,1,none⟩)) rfl rfl hM14 (fun _=>by exact Yh 1 ZGp rfl sc28.size rfl rfl) (Za 9 7) (bL 3 (u0_1) rfl rfl hM11 (fun _ hB_=>by exact Yd (hC.grow hB_) 0 (u0_1) rfl sc28 rfl rfl) (Za 9 15) (bM 4 (vI s10) rfl hM14 (Za 9 31) ?_))))
     obtain ⟨⟨h10,h11⟩,h⟩:=h
     obtain ⟨Ad10,c10,hv10⟩:=Zz (hC.getP 0 rfl) s10.toNat (show s10.toNat < a0.images.length by omega)
     refine bL 5 (.pointer (some (Ad10.add (s10.toNat * 1)))) rfl rfl hM11 (fun _ hB_=>by exact Yw (len:=a0.images.length) ZGt ag55.size (by exact tr rfl hv10) rfl h10 h11) (Za 9 63) ?_
     obtain ⟨cs_,hl10,hc10,hr10⟩:=Jg (hC.getP 0 rfl) hv10 s10.toNat (show s10.toNat < a0.images.length by omega)
     obtain ⟨u10,rfl⟩:=ZG3.1 hl10
     clear hl10
     rw [Jb _ _ (show s10.toNat < a0.images.length by omega)] at hr10
     have hp10:=hr10
     replace hC:=hC.derive 0 rfl (ZCh ZF6.ty.sl ((a0.images.getD s10.toNat Zuw).terms) [u10] fp0) (fun _=>(Yx hp10)) (fun _ hb_=>hb_)
     refine bL 6 (.agg #[u10]) rfl rfl hM11 (fun _ hB_=>by exact Xn [u10] (Zaf hB_ hc10) ag55 rfl rfl) (Za 9 127) (Z2 7 (by decide) (by decide) (by kernel_rfl) (by kernel_rfl) rfl (Zf [u0_0,.agg #[u10]] _ Tryz.func56 rfl rfl rfl (Zk3 a0.degrees (a0.images.getD s10.toNat Zuw) h _ (hC.getP 2 rfl) (Yl (hC.getP 0 rfl))) ?_))
     rintro _ w12 ⟨r14,rfl,h,hB11⟩
     refine rt ?_
     replace hC:=hC.grow hB11
     refine Xa rfl (done (Z3 (Zd ?_)))
     refine Zq rfl (fun hb15=>?_) (fun hb15=>?_)
     ·replace h:=ift h (Y0 (Xf hb15))
      refine sr (Zc (v:=.bool false) rfl (dn ?_))
      refine ZGd (Ze (Zw (Ze (Ze (Zw (Ze ?_))))))
      exact Zj rfl (Zg rfl) ⟨false,rfl,h,hC.below⟩ (.inl rfl)
     ·replace h:=Zk h (not_not_intro ((Xg hb15)))
      refine ZF8 (Zd (ZF5 ?_))
      refine cwd 12 mixed [0,1,0,4,0,28,60,127,255,511,511,1023,4095] [1,3,5,6] [0,2,4,8,9,10,11] (fun hM12 hM10 w13 hB_=>?_)
      replace hC:=hC.grow hB_
      refine bF 0 (vQ b4) rfl rfl hM10 (fun _=>by exact Yh 0 ZGp rfl sc22.size rfl rfl) (Za 13 1) (bL 1 (u0_0) rfl rfl hM12 (fun _ hB_=>by exact Yd (hC.grow hB_) 0 (u0_0) rfl sc22 rfl rfl) (Za 13 3) (bF 2 (.pointer (some ⟨b4,1,none⟩)) rfl rfl hM10 (fun _=>by exact Yh 1 ZGp rfl sc28.size rfl rfl) (Za 13 7) (bL 3 (u0_1) rfl rfl hM12 (fun _ hB_=>by exact Yd (hC.grow hB_) 0 (u0_1) rfl sc28 rfl rfl) (Za 13 15) (bM 4 (vI s10) rfl hM10 (Za 13 31) ?_))))
      obtain ⟨⟨h12,h13⟩,h⟩:=h
      obtain ⟨Ad11,c11,hv11⟩:=Zz (hC.getP 1 rfl) s10.toNat (show s10.toNat < a0.images.length by omega)
      refine bL 5 (.pointer (some (Ad11.add (s10.toNat * 1)))) rfl rfl hM12 (fun _ hB_=>by exact Yw (len:=a0.images.length) ZGt ag55.size (by exact tr rfl hv11) rfl h12 h13) (Za 13 63) ?_
      obtain ⟨cs_,hl11,hc11,hr11⟩:=Jg (hC.getP 1 rfl) hv11 s10.toNat (show s10.toNat < a0.images.length by omega)
      obtain ⟨u11,rfl⟩:=ZG3.1 hl11
      clear hl11
      rw [Jb _ _ (show s10.toNat < a0.images.length by omega)] at hr11
      have hp11:=hr11
      replace hC:=hC.derive 1 rfl (ZCh ZF6.ty.sl ((a0.images.getD s10.toNat Zuw).terms) [u11] fp0) (fun _=>(Yx hp11)) (fun _ hb_=>hb_)
      refine bL 6 (.agg #[u11]) rfl rfl hM12 (fun _ hB_=>by exact Xn [u11] (Zaf hB_ hc11) ag55 rfl rfl) (Za 13 127) (aO 7 rfl (Zf [u0_0,.agg #[u11]] _ Tryz.func57 rfl rfl rfl (Zpi a0.degrees (a0.images.getD s10.toNat Zuw) h _ (hC.getP 3 rfl) (Yl (hC.getP 0 rfl))) ?_))
      rintro _ w14 ⟨r10,r11,rfl,h,hB12⟩
      refine rt ?_
      replace hC:=hC.grow hB12
      refine done (aK (by assumption) (Za 13 255) (bM 8 (.tuple #[vI r10,.bool r11]) rfl hM10 (Za 13 511) (bF 9 (vI r10) rfl rfl hM10 (fun _=>by exact Ji (v:=vI r10) rfl rfl) (Za 13 1023) (bF 10 (.bool r11) rfl rfl hM10 (fun _=>by exact Ji (v:=.bool r11) rfl rfl) (Za 13 2047) (bA 11 (vI r10) rfl hM10 (Za 13 4095) (Z2 12 (by decide) (by decide) (by kernel_rfl) (by kernel_rfl) rfl (Zc (v:=.bool r11) rfl (done (Z3 (Zd (sr (Zb (v:=.bool r11) rfl (Xa rfl (Zb (v:=.bool (!r11)) rfl ?_))))))))))))))
      refine Y1 (!r11) (fun hb10=>?_) (fun hb10=>?_)
      ·replace h:=ift h (Y0 (Xf hb10))
       refine Zh (b:=true) 2 49 rfl (tr rfl (congrArg _ hb10)) (by decide) (Zh (b:=true) 2 49 rfl (tr rfl (congrArg _ hb10)) (by decide) (Zh (b:=true) 2 49 rfl (tr rfl (congrArg _ hb10)) (by decide) (Zh (b:=true) 2 49 rfl (tr rfl (congrArg _ hb10)) (by decide) (Zh (b:=true) 2 49 rfl (tr rfl (congrArg _ hb10)) (by decide) (Zh (b:=true) 2 49 rfl (tr rfl (congrArg _ hb10)) (by decide) (Zh (b:=true) 2 49 rfl (tr rfl (congrArg _ hb10)) (by decide) (Zh (b:=true) 2 49 rfl (tr rfl (congrArg _ hb10)) (by decide) (Zh (b:=true) 2 49 rfl (tr rfl (congrArg _ hb10)) (by decide) (X7 11 58 rfl rfl (X7 11 58 rfl rfl (X7 11 58 rfl rfl (X7 11 58 rfl rfl (X7 11 58 rfl rfl (X7 11 58 rfl rfl (X7 11 58 rfl rfl (X7 11 58 rfl rfl (Zh (b:=true) 2 49 rfl (tr rfl (congrArg _ hb10)) (by decide) (Z0 (v:=.bool true) (b:=true) (tr rfl (congrArg _ hb10)) rfl (dn (Z8 rfl rfl (sr (Zc (v:=.bool false) rfl (dn ?_)))))))))))))))))))))))
       refine ZGd (Zw (Ze (Ze (Zw (Ze ?_)))))
       exact Zj rfl (Zg rfl) ⟨false,rfl,h,hC.below⟩ (.inl rfl)
      ·replace h:=Zk h (not_not_intro ((Xg hb10)))
       refine Zi 2 49 rfl rfl hb10 (Zx 1 ZGp rfl sc28.size rfl rfl (Zi 2 49 rfl rfl hb10 (Z4 hC 0 (u0_1) rfl sc28 rfl rfl (Zi 2 49 rfl rfl hb10 (Zb (v:=vI s10) rfl (Zi 2 49 rfl rfl hb10 ?_))))))
       obtain ⟨⟨h14,h15⟩,h⟩:=h
       obtain ⟨Ad13,c12,hv12⟩:=Zz (hC.getP 2 rfl) s10.toNat (show s10.toNat < a0.images.length by omega)
       refine Yq (len:=a0.images.length) ZGt ag55.size (tr rfl hv12) rfl h14 h15 (Zi 2 49 rfl rfl hb10 (Zao (s10.toNat * 1+0) ZGc rfl sc53.size rfl rfl (Zi 2 49 rfl rfl hb10 ?_)))
       obtain ⟨cs_,hl12,hc12,hr12⟩:=Jg (hC.getP 2 rfl) hv12 s10.toNat (show s10.toNat < a0.images.length by omega)
       obtain ⟨u14,rfl⟩:=ZG3.1 hl12
       clear hl12
       rw [Jb _ _ (show s10.toNat < a0.images.length by omega)] at hr12
       have hp12:=hr12
       replace hC:=hC.derive 2 rfl (ZCh ZF6.ty.sl ((a0.images.getD s10.toNat Zuw).terms) [u14] fp0) (fun _=>(Yx hp12)) (fun _ hb_=>hb_)
       refine Xb (u14) (Xp (o:=0) (k:=1) hc12 rfl) sc53 rfl (Zi 2 49 rfl rfl hb10 (Zv hC 0 rfl ZGf rfl (Zi 2 49 rfl rfl hb10 (Xy rfl rfl (Zi 2 49 rfl rfl hb10 (Zb (v:=.bool (decide ((((a0.images.getD s10.toNat Zuw).terms).length:Int) > 0))) rfl ?_))))))
       refine Y1 (decide ((((a0.images.getD s10.toNat Zuw).terms).length:Int) > 0)) (fun hb11=>?_) (fun hb11=>?_)
       ·replace h:=ift h (ct hb11)
        refine Zi 11 58 rfl rfl hb11 (Zb (v:=vI r10) rfl (Zi 11 58 rfl rfl hb11 (Zx 0 ZGp rfl sc22.size rfl rfl (Zi 11 58 rfl rfl hb11 (Z4 hC 0 (u0_0) rfl sc22 rfl rfl (Zi 11 58 rfl rfl hb11 (Zb (v:=vI s10) rfl (Zi 11 58 rfl rfl hb11 ?_))))))))
        obtain ⟨⟨h16,h17⟩,h⟩:=h
        obtain ⟨Ad14,c13,hv13⟩:=Zz (hC.getP 4 rfl) s10.toNat (show s10.toNat < a0.degrees.length by omega)
        refine Yq (len:=a0.degrees.length) ZGo sc2.size (tr rfl hv13) rfl h16 h17 (Zi 11 58 rfl rfl hb11 (Xb (vI (a0.degrees.getD s10.toNat Zuw)) (Yf (hC.getP 4 rfl) hv13 s10.toNat (show s10.toNat < a0.degrees.length by omega)) sc2 rfl (Zi 11 58 rfl rfl hb11 (Zp rfl rfl (Zi 11 58 rfl rfl hb11 (Y4 rfl rfl (Zi 2 49 rfl rfl hb10 (Z0 (v:=.bool (decide (r10≠Zxa.wrap ((a0.degrees.getD s10.toNat Zuw)+1)))) (b:=true) (tr rfl (congrArg _ hb11)) rfl (Z0 (v:=.bool (decide (r10≠Zxa.wrap ((a0.degrees.getD s10.toNat Zuw)+1)))) (b:=false) (tr rfl (congrArg _ hb10)) rfl (dn ?_))))))))))
        refine Zq rfl (fun hb16=>?_) (fun hb16=>?_)
        ·replace h:=ift h (ct hb16)
         refine sr (Zc (v:=.bool false) rfl (dn ?_))
         refine ZGd (Zw (Ze (Ze (Zw (Ze ?_)))))
         exact Zj rfl (Zg rfl) ⟨false,rfl,h,hC.below⟩ (.inl rfl)
        ·replace h:=Zk h (cf hb16)
         refine ZF8 (Zs (Zd (Zm (Zb (v:=vI s10) rfl (Zp rfl rfl (Zc (v:=vI (Zxa.wrap (s10+1))) rfl (done ?_)))))))
         exact hK10 (Zxa.wrap (s10+1)) _ _ ⟨(slq rfl),(hC.sP [3,4,5] rfl)⟩ h
       ·replace h:=Zk h (cf hb11)
        refine Zh (b:=false) 11 58 rfl (tr rfl (congrArg _ hb11)) (by decide) (Zh (b:=false) 11 58 rfl (tr rfl (congrArg _ hb11)) (by decide) (Zh (b:=false) 11 58 rfl (tr rfl (congrArg _ hb11)) (by decide) (Zh (b:=false) 11 58 rfl (tr rfl (congrArg _ hb11)) (by decide) (Zh (b:=false) 11 58 rfl (tr rfl (congrArg _ hb11)) (by decide) (Zh (b:=false) 11 58 rfl (tr rfl (congrArg _ hb11)) (by decide) (Zh (b:=false) 11 58 rfl (tr rfl (congrArg _ hb11)) (by decide) (Zh (b:=false) 11 58 rfl (tr rfl (congrArg _ hb11)) (by decide) (Zi 2 49 rfl rfl hb10 (Z0 (v:=.bool false) (b:=false) (tr rfl (congrArg _ hb11)) rfl (Z0 (v:=.bool false) (b:=false) (tr rfl (congrArg _ hb10)) rfl (dn (Z9 rfl rfl (ZF8 (Zs (Zd (Zm (Zb (v:=vI s10) rfl (Zp rfl rfl (Zc (v:=vI (Zxa.wrap (s10+1))) rfl (done ?_))))))))))))))))))))
        exact hK10 (Zxa.wrap (s10+1)) _ _ ⟨(slq rfl),(hC.sP [3,4,5] rfl)⟩ h
    ·replace h:=Zk h (cf hb14)
     refine ZGj (Zl (Zl (Z5 ?_)))
     refine Zd (ZF5 (sr (Zc (v:=vI 0) rfl (dn (ZGb ?_)))))
     refine Jj (S:=Int) _ (fun s11 e_ w_=>Zy e_ [(1,vQ b4),(6,vI s11)]∧Ctx Nox w0 w_ [blk b4 32 [u0_0,u0_1]] [ZCh ZGr.sl a0.images [u0_1] fp0,ZCh TInts a0.degrees [u0_0] fp0,ZCh TAlg a0 [u0_0,u0_1] fp0]) ?_ (s0:=0) ?_ h
     ·clear hC h
      rintro s11 e_ w15 nx11 K11 ⟨hS_,hC⟩ h hK11
      rw [ue hS_]
      refine ZF5 (sr (Zb (v:=vI s11) rfl (Zx 1 ZGp rfl sc28.size rfl rfl (Z4 hC 0 (u0_1) rfl sc28 rfl rfl (Zv hC 0 rfl ZGt rfl (Zn rfl rfl (dn ?_)))))))
      refine Zq rfl (fun hb17=>?_) (fun hb17=>?_)
      ·replace h:=ift h (ct hb17)
       refine ZF8 (Zd (ZF5 (ZGb (ZF5 ?_))))
       refine cwd 6 mixed [0,0,2,0,14,30,63,127,255,511] [0,2,4,5] [1,3] (fun hM13 hM15 w16 hB_=>?_)
       replace hC:=hC.grow hB_
       refine bL 0 (.agg #[u0_0,u0_1]) rfl rfl hM13 (fun _ hB_=>by exact Y9 (hC.grow hB_) 0 [u0_0,u0_1] rfl ag32 rfl rfl rfl) (Za 10 1) (bF 1 (.pointer (some ⟨b4,1,none⟩)) rfl rfl hM15 (fun _=>by exact Yh 1 ZGp rfl sc28.size rfl rfl) (Za 10 3) (bL 2 (u0_1) rfl rfl hM13 (fun _ hB_=>by exact Yd (hC.grow hB_) 0 (u0_1) rfl sc28 rfl rfl) (Za 10 7) (bM 3 (vI s11) rfl hM15 (Za 10 15) ?_)))
       obtain ⟨⟨h18,h19⟩,h⟩:=h
       obtain ⟨Ad12,c14,hv14⟩:=Zz (hC.getP 0 rfl) s11.toNat (show s11.toNat < a0.images.length by omega)
       refine bL 4 (.pointer (some (Ad12.add (s11.toNat * 1)))) rfl rfl hM13 (fun _ hB_=>by exact Yw (len:=a0.images.length) ZGt ag55.size (by exact tr rfl hv14) rfl h18 h19) (Za 10 31) ?_
       obtain ⟨cs_,hl13,hc13,hr13⟩:=Jg (hC.getP 0 rfl) hv14 s11.toNat (show s11.toNat < a0.images.length by omega)
       obtain ⟨u12,rfl⟩:=ZG3.1 hl13
       clear hl13
       rw [Jb _ _ (show s11.toNat < a0.images.length by omega)] at hr13
       have hp13:=hr13
       replace hC:=hC.derive 0 rfl (ZCh ZF6.ty.sl ((a0.images.getD s11.toNat Zuw).terms) [u12] fp0) (fun _=>(Yx hp13)) (fun _ hb_=>hb_)
       refine bL 5 (.agg #[u12]) rfl rfl hM13 (fun _ hB_=>by exact Xn [u12] (Zaf hB_ hc13) ag55 rfl rfl) (Za 10 63) (Z2 6 (by decide) (by decide) (by kernel_rfl) (by kernel_rfl) rfl (Zf [.agg #[u0_0,u0_1],.agg #[u12]] _ Tryz.func58 rfl rfl rfl (Zpj a0 (a0.images.getD s11.toNat Zuw) h _ (Yy (hC.getP 2 rfl) (hC.getP 1 rfl)) (Yl (hC.getP 0 rfl))) ?_))
       rintro _ w17 ⟨r12,u13,f10,rfl,h,hr14,hf10,hB13⟩
       refine rt ?_
       replace hC:=hC.push hB13 (ZGk (Zr 90) r12 [u13] f10) hr14 hf10
       obtain ⟨ho10,hf11⟩:=Y8 (hC.getM 0 rfl)
       subst hf11
       replace hC:=hC.recast (c:=own 90 9 u13 r12.terms.length (ZF6.encs r12.terms)) (fun _ h_=>h_) (fun _=>ho10)
       refine Zov (u13) ZGc rfl sc53 rfl rfl (Zgo hC 0 rfl ZGf rfl (Xy rfl rfl (done (Z3 (Zd ?_)))))
       refine Zq rfl (fun hb18=>?_) (fun hb18=>?_)
       ·replace h:=ift h (ct hb18)
        refine sr (Zc (v:=.bool false) rfl (dn ?_))
        refine ZGd (Zw (Ze (Ze (Zw (Ze ?_)))))
        exact Zj rfl (Zg rfl) ⟨false,rfl,h,hC.below⟩ (.inl rfl)
       ·replace h:=Zk h (cf hb18)
        refine ZF8 (Zs (Zd (Zm (Zb (v:=vI s11) rfl (Zp rfl rfl (Zc (v:=vI (Zxa.wrap (s11+1))) rfl (done ?_)))))))
        exact hK11 (Zxa.wrap (s11+1)) _ _ ⟨(slq rfl),((hC.xM [1] rfl).sP [1,2,3] rfl)⟩ h
      ·replace h:=Zk h (cf hb17)
       refine ZGj (Zl (Zl (Z5 ?_)))
       refine Zd (sr (Zc (v:=.bool true) rfl (dn (ZGd ?_))))
       exact Zj rfl (Zg rfl) ⟨true,rfl,h,hC.below⟩ (.inl rfl)
     ·skip
      exact⟨(slq rfl),hC⟩
   ·skip
    exact⟨(slq rfl),hC⟩
def Zbl (a0:Int) (K:Int→Prop):Prop :=
 K (Zvh (Zxa.wrap ((Zvh a0 10007)+10007)) 10007)
theorem Zk4 (a0:Int)  {K:Int→Prop} (h:Zbl a0 K) (w0:World)  :
  Calls ZF7 109 #[vI a0] w0 fun e w'=>∃ (r0:Int),
   e=.returned (vI r0)∧K r0∧Bel w0 w':=by
 unfold Zbl at h
 refine cof Tryz.func109 rfl 7 Tryz.ntmps109 ?_
 have hC:=ZGq (X:=Nox) w0 [] (by simp)
 refine sr (Zc (v:=vI 0) rfl (dn (sr (Zb (v:=vI a0) rfl (Jp rfl rfl (by decide) (Zp rfl rfl (Jp rfl rfl (by decide) (Zc (v:=vI (Zvh (Zxa.wrap ((Zvh a0 10007)+10007)) 10007)) rfl (dn (ZGd ?_))))))))))
 exact Zj rfl (Zg rfl) ⟨Zvh (Zxa.wrap ((Zvh a0 10007)+10007)) 10007,rfl,h,hC.below⟩ (.inl rfl)
def Zbm (a0:A8) (K:A8→Prop):Prop :=
 Yi (fun i10 (s10:A8) nx10=>nx10 (s10.set i10 (Zxa.wrap (a0.get i10)))) (fun (s10:A8)=>K s10) 8 0 ZGa
theorem Zgq (a0:A8)  {K:A8→Prop} (h:Zbm a0 K) (w0:World)  :
  Calls ZF7 85 #[.agg (ZF4 (ZF3 .u8 a0))] w0 fun e w'=>∃ (r0:A8),
   e=.returned (.agg (ZF4 (ZF3 .i64 r0)))∧K r0∧Bel w0 w':=by
 unfold Zbm at h
 refine cof Tryz.func85 rfl 18 Tryz.ntmps85 ?_
 have hC:=ZGq (X:=Nox) w0 [] (by simp)
 refine sr (Yj (v:=.agg (ZF4 (ZF3 .u8 a0))) hC (ZF3 .u8 a0) rfl rfl fun b1 w3 hB_ hC=>Z1 hC (ZF3 .i64 ZGa) Js rfl fun b4 w6 hB_ hC=>dn (sr (Y5 [] rfl (Zef   _) (Z1 hC (ZF3 .i64 ZGa) Js rfl fun b7 w9 hB_ hC=>Zo (v:=.agg (ZF4 (ZF3 .i64 ZGa))) hC 0 (ZF3 .i64 ZGa) (ZF3 .i64 ZGa) rfl ag110.size rfl rfl rfl rfl rfl (ZGe rfl) rfl fun w10 hC=>dn (ZF5 (sr (Yb hC 2 (ZF3 .u8 a0) rfl ag88 rfl rfl rfl (Zb (v:=vI 0) rfl (dn (ZGb ?_))))))))))
 refine Yn (S:=A8) _ _ (fun i10 s10 e_ w_=>Zy e_ [(2,vQ b4),(3,vQ b7),(7,.agg (ZF4 (ZF3 .u8 a0))),(8,vI (i10:Int))]∧Ctx Nox w0 w_ [blk b7 110 (ZF3 .i64 s10),blk b4 110 (ZF3 .i64 ZGa)] []) 8 ?_ ?_ (s0:=ZGa) ?_ h
 ·clear hC h
  rintro i10 s10 e_ w11 nx10 K10 hi10 ⟨hS_,hC⟩ h hK10
  rw [ue hS_]
  refine sr (Zn rfl rfl (dn (ZF5 (Z8 rfl (decide_eq_true (by omega)) (ZF8 (Zd (ZF5 (ZGb (sr (Zb (v:=vI (i10:Int)) rfl (Zf2 (.int .u8 (a0.get i10)) ZGn rfl rfl (ZGm _) (by omega) sc5 (ZGi _ _ hi10) (Zc (v:=vI (i10:Int)) rfl (Zc (v:=.int .u8 (a0.get i10)) rfl (dn (Zm (Zb (v:=vI (i10:Int)) rfl (Zb (v:=.int .u8 (a0.get i10)) rfl (Zf1 ZG7 ZHd rfl (Y6 i10 ZGs sc3.size rfl rfl (ZGm _) (by omega) (by omega) (Zo (v:=vI (Zxa.wrap (a0.get i10))) hC 0 [vI (Zxa.wrap (a0.get i10))] (ZF3 .i64 (s10.set i10 (Zxa.wrap (a0.get i10)))) rfl sc3.size rfl rfl rfl rfl rfl hi10 (ZGz _ _ _ hi10) fun w12 hC=>done (Zs (Zd (Zm (Zp rfl rfl (Zb (v:=vI (Zxa.wrap ((i10:Int)+1))) rfl (done ?_))))))))))))))))))))))))))
  exact hK10 (s10.set i10 (Zxa.wrap (a0.get i10))) _ _ ⟨(sl ⟨rfl,rfl,rfl,(tr rfl (congrArg _ (Z6 hi10 (by decide)))),trivial⟩),hC⟩ h
 ·clear hC h
  rintro s10 e_ w13 K10 ⟨hS_,hC⟩ h
  rw [ue hS_]
  refine sr (Zn rfl rfl (dn (ZF5 (Z9 rfl (decide_eq_false (by omega)) ?_))))
  refine ZGj (Zl (Zl (Z5 ?_)))
  refine Zd (sr (Yb hC 0 (ZF3 .i64 s10) rfl ag110 rfl rfl rfl (Zo (v:=.agg (ZF4 (ZF3 .i64 s10))) hC 1 (ZF3 .i64 s10) (ZF3 .i64 s10) rfl ag110.size rfl rfl rfl rfl rfl (ZGe rfl) rfl fun w14 hC=>dn (ZGd ?_))))
  exact Zj rfl (Y2 hC 1 rfl ag110 rfl rfl) ⟨s10,rfl,h,hC.below⟩ (.inl rfl)
 ·skip
  exact⟨(slq rfl),(hC.xM [0,1] rfl)⟩
def Zen (a0:A8) (a1:List Int) (a2:A8) (K:A8→Int→Prop):Prop :=
 Yi (fun i10 (s12:Int) nx10=>(if Zvh (a1.getD i10 Zuw) 2=0 then nx10 s12 else((0≤(i10:Int)∧(i10:Int) < 8)∧(if a0.get i10 > 0 then((0≤(i10:Int)∧(i10:Int) < 8)∧(if a2.get i10 > 0 then K ZGa 0 else((0≤(i10:Int)∧(i10:Int) < 8)∧nx10 s12))) else((0≤(i10:Int)∧(i10:Int) < 8)∧(if a2.get i10 > 0 then X8 (fun (s10:Int×Int) nx11=>(if s10.1 < (a1.length:Int) then((0≤s10.1∧s10.1 < (a1.length:Int))∧((0≤s10.1∧s10.1 < 8)∧nx11 (Zxa.wrap (s10.1+1),Zxa.wrap (s10.2+(Zxa.wrap ((Zvh (a1.getD s10.1.toNat Zuw) 2) * (a0.get s10.1.toNat))))))) else nx10 s10.2)) (Zxa.wrap ((i10:Int)+1),s12) else nx10 s12)))))) (fun (s12:Int)=>Yi (fun i11 (s11:A8) nx12=>nx12 (s11.set i11 (Zxa.wrap ((s11.get i11)+(a2.get i11))))) (fun (s11:A8)=>(if Zvh s12 2=1 then K s11 (-1) else K s11 1)) 8 0 a0) a1.length 0 0
theorem Zpl (a0:A8) (a1:List Int) (a2:A8)  {K:A8→Int→Prop} (h:Zen a0 a1 a2 K) (w0:World) (q1:TInts.rep a1 [u1_0] fp1 w0) :
  Calls ZF7 102 #[.agg (ZF4 (ZF3 .i64 a0)),u1_0,.agg (ZF4 (ZF3 .i64 a2))] w0 fun e w'=>∃ (r0:A8) (r1:Int),
   e=.returned (.tuple #[.agg (ZF4 (ZF3 .i64 r0)),vI r1])∧K r0 r1∧Bel w0 w':=by
 unfold Zen at h
 refine cof Tryz.func102 rfl 75 Tryz.ntmps102 ?_
 have hC:=ZGq (X:=Nox) w0 [ZCh TInts a1 [u1_0] fp1] (al1 q1)
 refine sr (Yj (v:=.agg (ZF4 (ZF3 .i64 a0))) hC (ZF3 .i64 a0) rfl rfl fun b2 w4 hB_ hC=>Yj (v:=.agg (ZF4 (ZF3 .i64 a2))) hC (ZF3 .i64 a2) rfl rfl fun b5 w7 hB_ hC=>Z1 hC (ZF3 .i64 ZGa) Js rfl fun b8 w10 hB_ hC=>Zc (v:=vI 0) rfl (dn (sr (Zc (v:=vI 0) rfl (dn (ZF5 (sr (Zb (v:=u1_0) rfl (Zv hC 0 rfl ZGo rfl (Zb (v:=vI 0) rfl (dn (ZGb ?_))))))))))))
 have hN10:a1.length≤9223372036854775807:=Y3 (hC.getP 0 rfl)
 refine Yn (S:=Int) _ _ (fun i10 s12 e_ w_=>Zy e_ [(1,u1_0),(3,vQ b2),(5,vQ b5),(6,vQ b8),(8,vI s12),(13,u1_0),(14,vI (a1.length:Int)),(15,vI (i10:Int))]∧Ctx Nox w0 w_ [blk b8 110 (ZF3 .i64 ZGa),blk b5 110 (ZF3 .i64 a2),blk b2 110 (ZF3 .i64 a0)] [ZCh TInts a1 [u1_0] fp1]) a1.length ?_ ?_ (s0:=0) ?_ h
 ·clear hC h
  rintro i10 s12 e_ w11 nx10 K10 hi10 ⟨hS_,hC⟩ h hK10
  rw [ue hS_]
  refine sr (Zn rfl rfl (dn (ZF5 (Z8 rfl (decide_eq_true (by omega)) (ZF8 (Zd (ZF5 (ZGb (sr (Zb (v:=vI (i10:Int)) rfl ?_))))))))))
  obtain ⟨Ad11,c10,hv10⟩:=Zz (hC.getP 0 rfl) i10 hi10
  refine Yq (len:=a1.length) ZGo sc2.size (tr rfl hv10) rfl (ZGm _) (ZG4.2 hi10) (Xb (vI (a1.getD i10 Zuw)) (Yf (hC.getP 0 rfl) hv10 i10 hi10) sc2 rfl (Zc (v:=vI (i10:Int)) rfl (Zc (v:=vI (a1.getD i10 Zuw)) rfl (dn (ZF5 (sr (Zb (v:=vI (a1.getD i10 Zuw)) rfl (Jp rfl rfl (by decide) (Je rfl rfl (dn ?_))))))))))
  refine Zq rfl (fun hb12=>?_) (fun hb12=>?_)
  ·replace h:=ift h (ct hb12)
   refine ZGj (Zl (Z5 ?_))
   refine Zd (Zm (Zp rfl rfl (Zb (v:=vI (Zxa.wrap ((i10:Int)+1))) rfl (done ?_))))
   exact hK10 s12 _ _ ⟨(sl ⟨rfl,rfl,rfl,rfl,rfl,rfl,rfl,(tr rfl (congrArg _ (Z6 hi10 hN10))),trivial⟩),hC⟩ h
  ·replace h:=Zk h (cf hb12)
   refine ZF8 (Zd (ZF5 (sr (Zb (v:=vI (i10:Int)) rfl ?_))))
   obtain ⟨⟨h10,h11⟩,h⟩:=h
   refine Y6 i10 ZGs sc3.size rfl rfl h10 h11 (by omega) (Z4 hC 2 (vI (a0.get i10)) rfl sc3 rfl (ZGi _ _ (show i10 < 8 by omega)) (Xy rfl rfl (Zb (v:=.bool (decide (a0.get i10 > 0))) rfl ?_)))
   refine Y1 (decide (a0.get i10 > 0)) (fun hb10=>?_) (fun hb10=>?_)
   ·replace h:=ift h (ct hb10)
    refine Zi 4 27 rfl rfl hb10 (Zb (v:=vI (i10:Int)) rfl (Zi 4 27 rfl rfl hb10 ?_))
    obtain ⟨⟨h12,h13⟩,h⟩:=h
    refine Y6 i10 ZGs sc3.size rfl rfl h12 h13 (by omega) (Zi 4 27 rfl rfl hb10 (Z4 hC 1 (vI (a2.get i10)) rfl sc3 rfl (ZGi _ _ (show i10 < 8 by omega)) (Zi 4 27 rfl rfl hb10 (Xy rfl rfl (Z0 (v:=.bool (decide (a2.get i10 > 0))) (b:=true) (tr rfl (congrArg _ hb10)) rfl (dn ?_))))))
    refine Zq rfl (fun hb11=>?_) (fun hb11=>?_)
    ·replace h:=ift h (ct hb11)
     refine sr (Y5 [] rfl (Zef   _) (Zo (v:=.agg (ZF4 (ZF3 .i64 ZGa))) hC 0 (ZF3 .i64 ZGa) (ZF3 .i64 ZGa) rfl ag110.size rfl rfl rfl rfl rfl (ZGe rfl) rfl fun w12 hC=>Zc (v:=vI 0) rfl (dn ?_)))
     refine ZGd (Ze (Zw (Ze (Ze (Zw (Ze ?_))))))
     exact Xi rfl (Y2 hC 0 rfl ag110 rfl rfl) (Zg rfl) ⟨ZGa,0,rfl,h,hC.below⟩ (.inl rfl)
    ·replace h:=Zk h (cf hb11)
     refine ZF8 (Zd (sr (Zb (v:=vI (i10:Int)) rfl ?_)))
     obtain ⟨⟨h14,h15⟩,h⟩:=h
     refine Y6 i10 ZGs sc3.size rfl rfl h14 h15 (by omega) (Z4 hC 1 (vI (a2.get i10)) rfl sc3 rfl (ZGi _ _ (show i10 < 8 by omega)) (Xy rfl rfl (dn (Z9 rfl hb11 (ZF8 (Zs (Zd (Zm (Zp rfl rfl (Zb (v:=vI (Zxa.wrap ((i10:Int)+1))) rfl (done ?_)))))))))))
     exact hK10 s12 _ _ ⟨(sl ⟨rfl,rfl,rfl,rfl,rfl,rfl,rfl,(tr rfl (congrArg _ (Z6 hi10 hN10))),trivial⟩),hC⟩ h
   ·replace h:=Zk h (cf hb10)
    refine Zh (b:=false) 4 27 rfl (tr rfl (congrArg _ hb10)) (by decide) (Zh (b:=false) 4 27 rfl (tr rfl (congrArg _ hb10)) (by decide) (Zh (b:=false) 4 27 rfl (tr rfl (congrArg _ hb10)) (by decide) (Zh (b:=false) 4 27 rfl (tr rfl (congrArg _ hb10)) (by decide) (Z0 (v:=.bool false) (b:=false) (tr rfl (congrArg _ hb10)) rfl (dn (Z9 rfl rfl (ZF8 (Zd (sr (Zb (v:=vI (i10:Int)) rfl ?_))))))))))
    obtain ⟨⟨h16,h17⟩,h⟩:=h
    refine Y6 i10 ZGs sc3.size rfl rfl h16 h17 (by omega) (Z4 hC 1 (vI (a2.get i10)) rfl sc3 rfl (ZGi _ _ (show i10 < 8 by omega)) (Xy rfl rfl (dn ?_)))
    refine Zq rfl (fun hb13=>?_) (fun hb13=>?_)
    ·replace h:=ift h (ct hb13)
     refine sr (Zb (v:=vI (i10:Int)) rfl (Zp rfl rfl (Zc (v:=vI (Zxa.wrap ((i10:Int)+1))) rfl (dn (ZGb ?_)))))
     refine Jj (S:=Int×Int) _ (fun s10 e_ w_=>Zy e_ [(1,u1_0),(3,vQ b2),(5,vQ b5),(6,vQ b8),(8,vI s10.2),(11,vI s10.1),(13,u1_0),(14,vI (a1.length:Int)),(15,vI (i10:Int))]∧Ctx Nox w0 w_ [blk b8 110 (ZF3 .i64 ZGa),blk b5 110 (ZF3 .i64 a2),blk b2 110 (ZF3 .i64 a0)] [ZCh TInts a1 [u1_0] fp1]) ?_ (s0:=(Zxa.wrap ((i10:Int)+1),s12)) ?_ h
     ·clear hC h
      rintro s10 e_ w13 nx11 K12 ⟨hS_,hC⟩ h hK11
      rw [ue hS_]
      refine ZF5 (sr (Zb (v:=vI s10.1) rfl (Zb (v:=u1_0) rfl (Zv hC 0 rfl ZGo rfl (Zn rfl rfl (dn ?_))))))
      refine Zq rfl (fun hb14=>?_) (fun hb14=>?_)
      ·replace h:=ift h (ct hb14)
       refine ZF8 (Zd (ZF5 (ZGb ?_)))
       refine cwd 10 mixed [0,0,0,6,14,30,0,64,192,510,1023,2047] [3,4,7,8] [0,1,2,5,6,9] (fun hM11 hM10 w14 hB_=>?_)
       replace hC:=hC.grow hB_
       refine bM 0 (vI s10.2) rfl hM10 (Za 12 1) (bM 1 (u1_0) rfl hM10 (Za 12 3) (bM 2 (vI s10.1) rfl hM10 (Za 12 7) ?_))
       obtain ⟨⟨h18,h19⟩,h⟩:=h
       obtain ⟨Ad10,c11,hv11⟩:=Zz (hC.getP 0 rfl) s10.1.toNat (show s10.1.toNat < a1.length by omega)
       refine bL 3 (.pointer (some (Ad10.add (s10.1.toNat * 1)))) rfl rfl hM11 (fun _ hB_=>by exact Yw (len:=a1.length) ZGo sc2.size (by exact tr rfl hv11) rfl h18 h19) (Za 12 15) (bL 4 (vI (a1.getD s10.1.toNat Zuw)) rfl rfl hM11 (fun _ hB_=>by exact Jw (vI (a1.getD s10.1.toNat Zuw)) (Yf ((hC.grow hB_).getP 0 rfl) hv11 s10.1.toNat (show s10.1.toNat < a1.length by omega)) sc2 rfl) (Za 12 31) (bF 5 (vI (Zvh (a1.getD s10.1.toNat Zuw) 2)) rfl rfl hM10 (fun _=>by exact Zna rfl rfl (by decide)) (Za 12 63) (bM 6 (vI s10.1) rfl hM10 (Za 12 127) ?_)))
       obtain ⟨⟨h20,h21⟩,h⟩:=h
       refine bL 7 (.pointer (some ⟨b2,s10.1.toNat,none⟩)) rfl rfl hM11 (fun _ hB_=>by exact Jf s10.1.toNat ZGs sc3.size rfl rfl h20 h21 (by omega)) (Za 12 255) (bL 8 (vI (a0.get s10.1.toNat)) rfl rfl hM11 (fun _ hB_=>by exact Yd (hC.grow hB_) 2 (vI (a0.get s10.1.toNat)) rfl sc3 rfl (ZGi _ _ (show s10.1.toNat < 8 by omega))) (Za 12 511) (bF 9 (vI (Zxa.wrap ((Zvh (a1.getD s10.1.toNat Zuw) 2) * (a0.get s10.1.toNat)))) rfl rfl hM10 (fun _=>by exact Zd0 rfl rfl) (Za 12 1023) (Z2 10 (by decide) (by decide) (by kernel_rfl) (by kernel_rfl) rfl (Zp rfl rfl (Zc (v:=vI (Zxa.wrap (s10.2+(Zxa.wrap ((Zvh (a1.getD s10.1.toNat Zuw) 2) * (a0.get s10.1.toNat)))))) rfl (done (Z3 (Zs (Zd (Zm (Zb (v:=vI s10.1) rfl (Zp rfl rfl (Zc (v:=vI (Zxa.wrap (s10.1+1))) rfl (done ?_))))))))))))))
       exact hK11 (Zxa.wrap (s10.1+1),Zxa.wrap (s10.2+(Zxa.wrap ((Zvh (a1.getD s10.1.toNat Zuw) 2) * (a0.get s10.1.toNat))))) _ _ ⟨(slq rfl),hC⟩ h
      ·replace h:=Zk h (cf hb14)
       refine ZGj (Zl (Zl (Z5 ?_)))
       refine Zs (Zd (Zm (Zp rfl rfl (Zb (v:=vI (Zxa.wrap ((i10:Int)+1))) rfl (done ?_)))))
       exact hK10 s10.2 _ _ ⟨(sl ⟨rfl,rfl,rfl,rfl,rfl,rfl,rfl,(tr rfl (congrArg _ (Z6 hi10 hN10))),trivial⟩),hC⟩ h
     ·skip
      exact⟨(slq rfl),hC⟩
    ·replace h:=Zk h (cf hb13)
     refine ZF8 (Zs (Zd (Zm (Zp rfl rfl (Zb (v:=vI (Zxa.wrap ((i10:Int)+1))) rfl (done ?_))))))
     exact hK10 s12 _ _ ⟨(sl ⟨rfl,rfl,rfl,rfl,rfl,rfl,rfl,(tr rfl (congrArg _ (Z6 hi10 hN10))),trivial⟩),hC⟩ h
 ·clear hC h
  rintro s12 e_ w15 K10 ⟨hS_,hC⟩ h
  rw [ue hS_]
  refine sr (Zn rfl rfl (dn (ZF5 (Z9 rfl (decide_eq_false (by omega)) ?_))))
  refine ZGj (Zl (Zl (Z5 ?_)))
  refine Zd (ZF5 (sr (Zb (v:=vI 0) rfl (dn (ZGb ?_)))))
  refine Yn (S:=A8) _ _ (fun i11 s11 e_ w_=>Zy e_ [(3,vQ b2),(5,vQ b5),(6,vQ b8),(8,vI s12),(58,vI (i11:Int))]∧Ctx Nox w0 w_ [blk b8 110 (ZF3 .i64 ZGa),blk b5 110 (ZF3 .i64 a2),blk b2 110 (ZF3 .i64 s11)] [ZCh TInts a1 [u1_0] fp1]) 8 ?_ ?_ (s0:=a0) ?_ h
  ·clear hC h
   rintro i11 s11 e_ w16 nx12 K11 hi11 ⟨hS_,hC⟩ h hK12
   rw [ue hS_]
   refine sr (Zn rfl rfl (dn (ZF5 (Z8 rfl (decide_eq_true (by omega)) (ZF8 (Zd (ZF5 (ZGb (sr (Zb (v:=vI (i11:Int)) rfl (Zc (v:=vI (i11:Int)) rfl (dn ?_))))))))))))
   refine cwd 6 mixed [0,1,3,0,8,24,63,127,255] [1,2,4,5] [0,3] (fun hM12 hM13 w17 hB_=>?_)
   replace hC:=hC.grow hB_
   refine bM 0 (vI (i11:Int)) rfl hM13 (Za 9 1) (bL 1 (.pointer (some ⟨b2,i11,none⟩)) rfl rfl hM12 (fun _ hB_=>by exact Jf i11 ZGs sc3.size rfl rfl (ZGm _) (by omega) (by omega)) (Za 9 3) (bL 2 (vI (s11.get i11)) rfl rfl hM12 (fun _ hB_=>by exact Yd (hC.grow hB_) 2 (vI (s11.get i11)) rfl sc3 rfl (ZGi _ _ hi11)) (Za 9 7) (bM 3 (vI (i11:Int)) rfl hM13 (Za 9 15) (bL 4 (.pointer (some ⟨b5,i11,none⟩)) rfl rfl hM12 (fun _ hB_=>by exact Jf i11 ZGs sc3.size rfl rfl (ZGm _) (by omega) (by omega)) (Za 9 31) (bL 5 (vI (a2.get i11)) rfl rfl hM12 (fun _ hB_=>by exact Yd (hC.grow hB_) 1 (vI (a2.get i11)) rfl sc3 rfl (ZGi _ _ hi11)) (Za 9 63) (Z2 6 (by decide) (by decide) (by kernel_rfl) (by kernel_rfl) rfl (Zp rfl rfl (Y6 i11 ZGs sc3.size rfl rfl (ZGm _) (by omega) (by omega) (Zo (v:=vI (Zxa.wrap ((s11.get i11)+(a2.get i11)))) hC 2 [vI (Zxa.wrap ((s11.get i11)+(a2.get i11)))] (ZF3 .i64 (s11.set i11 (Zxa.wrap ((s11.get i11)+(a2.get i11))))) rfl sc3.size rfl rfl rfl rfl rfl hi11 (ZGz _ _ _ hi11) fun w18 hC=>done (Z3 (Zs (Zd (Zm (Zp rfl rfl (Zb (v:=vI (Zxa.wrap ((i11:Int)+1))) rfl (done ?_))))))))))))))))
   exact hK12 (s11.set i11 (Zxa.wrap ((s11.get i11)+(a2.get i11)))) _ _ ⟨(sl ⟨rfl,rfl,rfl,rfl,(tr rfl (congrArg _ (Z6 hi11 (by decide)))),trivial⟩),hC⟩ h
  ·clear hC h
   rintro s11 e_ w19 K11 ⟨hS_,hC⟩ h
   rw [ue hS_]
   refine sr (Zn rfl rfl (dn (ZF5 (Z9 rfl (decide_eq_false (by omega)) ?_))))
   refine ZGj (Zl (Zl (Z5 ?_)))
   refine Zd (ZF5 (sr (Zb (v:=vI s12) rfl (Jp rfl rfl (by decide) (Je rfl rfl (dn ?_))))))
   refine Zq rfl (fun hb15=>?_) (fun hb15=>?_)
   ·replace h:=ift h (ct hb15)
    refine sr (Yb hC 2 (ZF3 .i64 s11) rfl ag110 rfl rfl rfl (Zo (v:=.agg (ZF4 (ZF3 .i64 s11))) hC 0 (ZF3 .i64 s11) (ZF3 .i64 s11) rfl ag110.size rfl rfl rfl rfl rfl (ZGe rfl) rfl fun w20 hC=>Zc (v:=vI (-1)) rfl (dn ?_)))
    refine ZGd (Ze ?_)
    exact Xi rfl (Y2 hC 0 rfl ag110 rfl rfl) (Zg rfl) ⟨s11,(-1),rfl,h,hC.below⟩ (.inl rfl)
   ·replace h:=Zk h (cf hb15)
    refine ZF8 (Zd (sr (Yb hC 2 (ZF3 .i64 s11) rfl ag110 rfl rfl rfl (Zo (v:=.agg (ZF4 (ZF3 .i64 s11))) hC 0 (ZF3 .i64 s11) (ZF3 .i64 s11) rfl ag110.size rfl rfl rfl rfl rfl (ZGe rfl) rfl fun w21 hC=>Zc (v:=vI 1) rfl (dn (ZGd ?_))))))
    exact Xi rfl (Y2 hC 0 rfl ag110 rfl rfl) (Zg rfl) ⟨s11,1,rfl,h,hC.below⟩ (.inl rfl)
  ·skip
   exact⟨(slq rfl),hC⟩
 ·skip
  exact⟨(slq rfl),hC⟩
def Zdh (a0:List (A8×Int)) (a1:A8) (a2:Int) (K:List (A8×Int)→Prop):Prop :=
 Zbl (Zxa.wrap (((Ym a0 a1).getD 0)+a2)) (fun r8=>(if r8≠0 then K (Yc a0 a1 r8) else K (Xq a0 a1)))
theorem Zk5 (a0:List (A8×Int)) (a1:A8) (a2:Int)  {K:List (A8×Int)→Prop} (h:Zdh a0 a1 a2 K) (w0:World) (q0:(mapS b0 a0).holds w0) :
  Calls ZF7 103 #[.map (some b0),.agg (ZF4 (ZF3 .i64 a1)),vI a2] w0 fun e w'=>∃ (m0:List (A8×Int)),
   e=.returned (.tuple #[])∧K m0∧(mapS b0 m0).holds w'∧BelB b0 w0 w':=by
 unfold Zdh at h
 refine cof Tryz.func103 rfl 20 Tryz.ntmps103 ?_
 have hC:=Ctx.start1 w0 b0 (it:=mapS b0 a0) rfl [] q0 (by simp) (by simp)
 refine sr (Yj (v:=.agg (ZF4 (ZF3 .i64 a1))) hC (ZF3 .i64 a1) rfl rfl fun b2 w4 hB_ hC=>dn (sr (Zb (v:=.map (some b0)) rfl (Yb hC 0 (ZF3 .i64 a1) rfl ag110 rfl rfl rfl (Zkj a1 0 (hC.getM 1 rfl) Xw ZG1 z2 rfl rfl (Zb (v:=vI a2) rfl (Zp rfl rfl (Zf [vI (Zxa.wrap (((Ym a0 a1).getD 0)+a2))] _ Tryz.func109 rfl rfl rfl (Zk4 (Zxa.wrap (((Ym a0 a1).getD 0)+a2)) h _) ?_))))))))
 rintro _ w7 ⟨r8,rfl,h,hB9⟩
 refine rt ?_
 replace hC:=hC.grow hB9
 refine Zc (v:=vI r8) rfl (dn (sr (Zb (v:=vI r8) rfl (Y4 rfl rfl (dn ?_)))))
 refine Zq rfl (fun hb10=>?_) (fun hb10=>?_)
 ·replace h:=ift h (ct hb10)
  refine Zm (Zb (v:=.map (some b0)) rfl (Yb hC 0 (ZF3 .i64 a1) rfl ag110 rfl rfl rfl (Zb (v:=vI r8) rfl ?_)))
  refine Zc2 hC 1 a1 r8 rfl Xw ZG1 rfl rfl rfl (fun w10 hC=>?_) (.inl rfl)
  refine done ?_
  exact Zh7 rfl  ⟨Yc a0 a1 r8,rfl,h,(hC.getM 1 rfl),hC.belB⟩ (.inr rfl)
 ·replace h:=Zk h (cf hb10)
  refine Zm (Zb (v:=.map (some b0)) rfl (Yb hC 0 (ZF3 .i64 a1) rfl ag110 rfl rfl rfl (Zn4 hC 1 a1 rfl Xw ZG1 rfl rfl rfl fun w11 hC=>done ?_)))
  exact Zh7 rfl  ⟨Xq a0 a1,rfl,h,(hC.getM 1 rfl),hC.belB⟩ (.inr rfl)
def Zcd (a0:ZF9) (K:List (A8×Int)→Prop):Prop :=
 Yi (fun i10 (s10:(List (A8×Int))) nx10=>Zbm ((a0.terms.getD i10 Zuw).mono) (fun r10=>nx10 (Yc s10 r10 ((a0.terms.getD i10 Zuw).factor)))) (fun (s10:(List (A8×Int)))=>K s10) a0.terms.length 0 ([]:List (A8×Int))
theorem Zgr (a0:ZF9)  {K:List (A8×Int)→Prop} (h:Zcd a0 K) (w0:World) (q0:ZGr.rep a0 [u0_0] fp0 w0) :
  Calls ZF7 64 #[.agg #[u0_0]] w0 fun e w'=>∃ (r0:List (A8×Int)) (zb0:Nat),
   e=.returned (.map (some zb0))∧K r0∧(mapS zb0 r0).holds w'∧w0.heap.size≤zb0∧Bel w0 w':=by
 unfold Zcd at h
 refine cof Tryz.func64 rfl 22 Tryz.ntmps64 ?_
 have hC:=ZGq (X:=Nox) w0 [ZCh TForm a0 [u0_0] fp0] (al1 q0)
 have hp2:=(hC.getP 0 rfl)
 replace hC:=hC.derive 0 rfl (ZCh ZF6.ty.sl a0.terms [u0_0] fp0) (fun _=>(Yx hp2)) (fun _ hb_=>hb_)
 refine sr (Yj (v:=.agg #[u0_0]) hC [u0_0] rfl rfl fun b4 w6 hB_ hC=>Zc (v:=.map none) rfl (dn (sr (Za3 hC (kvA .i64) (vvI .i64) fun b7 w9 hB_ hC=>Zc (v:=.map (some b7)) rfl (dn (ZF5 (sr (Zx 0 ZGc rfl sc53.size rfl rfl (Z4 hC 1 (u0_0) rfl sc53 rfl rfl (Zv hC 0 rfl ZGf rfl (Zb (v:=vI 0) rfl (dn (ZGb ?_)))))))))))))
 have hN10:a0.terms.length≤9223372036854775807:=Y3 (hC.getP 0 rfl)
 refine Yn (S:=(List (A8×Int))) _ _ (fun i10 s10 e_ w_=>Zy e_ [(3,.map (some b7)),(8,u0_0),(9,vI (a0.terms.length:Int)),(10,vI (i10:Int))]∧Ctx Nox w0 w_ [mapS b7 s10] [ZCh ZF6.ty.sl a0.terms [u0_0] fp0,ZCh TForm a0 [u0_0] fp0]) a0.terms.length ?_ ?_ (s0:=([]:List (A8×Int))) ?_ h
 ·clear hC h
  rintro i10 s10 e_ w10 nx10 K10 hi10 ⟨hS_,hC⟩ h hK10
  rw [ue hS_]
  refine sr (Zn rfl rfl (dn (ZF5 (Z8 rfl (decide_eq_true (by omega)) (ZF8 (Zd (ZF5 (ZGb (sr ?_)))))))))
  obtain ⟨Ad10,c10,hv10⟩:=Zz (hC.getP 0 rfl) i10 hi10
  refine Yq (len:=a0.terms.length) ZGf ag90.size (tr rfl hv10) rfl (ZGm _) (ZG4.2 hi10) (Jv (ZGg (a0.terms.getD i10 Zuw)) (Yf (hC.getP 0 rfl) hv10 i10 hi10) ag90 rfl rfl (Z1 hC (ZGg (⟨ZGa,0⟩:Term)) z90 rfl fun b10 w11 hB_ hC=>Zo (v:=.agg (ZF4 (ZGg (a0.terms.getD i10 Zuw)))) hC 0 (ZGg (a0.terms.getD i10 Zuw)) (ZGg (a0.terms.getD i10 Zuw)) rfl ag90.size rfl rfl rfl rfl rfl (ZGe rfl) rfl fun w12 hC=>dn ?_))
  refine cwd 6 mixed [0,0,2,6,0,16,63] [2,5] [0,1,4] (fun hM11 hM10 w13 hB_=>?_)
  replace hC:=hC.grow hB_
  refine bM 0 (.map (some b7)) rfl hM10 (Za 7 1) (bF 1 (vQ b10) rfl rfl hM10 (fun _=>by exact Yh 0 ZGl rfl ag88.size rfl rfl) (Za 7 3) (bL 2 (.agg (ZF4 (ZF3 .u8 ((a0.terms.getD i10 Zuw).mono)))) rfl rfl hM11 (fun _ hB_=>by exact Y9 (hC.grow hB_) 0 (ZF3 .u8 ((a0.terms.getD i10 Zuw).mono)) rfl ag88 rfl rfl rfl) (Za 7 7) (bF 4 (.pointer (some ⟨b10,8,none⟩)) rfl rfl hM10 (fun _=>by exact Yh 8 ZGl rfl sc2.size rfl rfl) (Za 7 23) (bL 5 (vI ((a0.terms.getD i10 Zuw).factor)) rfl rfl hM11 (fun _ hB_=>by exact Yd (hC.grow hB_) 0 (vI ((a0.terms.getD i10 Zuw).factor)) rfl sc2 rfl rfl) (Za 7 55) (aO 3 rfl (Zf [.agg (ZF4 (ZF3 .u8 ((a0.terms.getD i10 Zuw).mono)))] _ Tryz.func85 rfl rfl rfl (Zgq ((a0.terms.getD i10 Zuw).mono) h _) ?_))))))
  rintro _ w14 ⟨r10,rfl,h,hB10⟩
  refine rt ?_
  replace hC:=hC.grow hB10
  refine done (aK (by assumption) (Za 7 63) (Z2 6 (by decide) (by decide) (by kernel_rfl) (by kernel_rfl) rfl ?_))
  refine Zc2 hC 1 r10 ((a0.terms.getD i10 Zuw).factor) rfl Xw ZG1 rfl rfl rfl (fun w15 hC=>?_) (.inl rfl)
  refine done (Z3 (Zs (Zd (Zm (Zp rfl rfl (Zb (v:=vI (Zxa.wrap ((i10:Int)+1))) rfl (done ?_)))))))
  exact hK10 (Yc s10 r10 ((a0.terms.getD i10 Zuw).factor)) _ _ ⟨(sl ⟨rfl,rfl,rfl,(tr rfl (congrArg _ (Z6 hi10 hN10))),trivial⟩),(hC.xM [1] rfl)⟩ h
 ·clear hC h
  rintro s10 e_ w16 K10 ⟨hS_,hC⟩ h
  rw [ue hS_]
  refine sr (Zn rfl rfl (dn (ZF5 (Z9 rfl (decide_eq_false (by omega)) ?_))))
  refine ZGj (Zl (Zl (Z5 ?_)))
  refine Zd (sr (Zb (v:=.map (some b7)) rfl (Zc (v:=.map (some b7)) rfl (dn (ZGd ?_)))))
  exact Zj rfl (Zg rfl) ⟨s10,b7,rfl,h,(hC.getM 0 rfl),(Zc1 hC 0 rfl),hC.below⟩ (.inl rfl)
 ·skip
  exact⟨(slq rfl),(hC.xM [0] rfl)⟩
def Zgs (a0:A8) (a1:A8) (K:Int→Prop):Prop :=
 Yi (fun i10 (s10:Unit) nx10=>(if a0.get i10≠a1.get i10 then K (Zxa.wrap ((a1.get i10) - (a0.get i10))) else nx10 ())) (fun (s10:Unit)=>K 0) 8 0 ()
theorem Zk6 (a0:A8) (a1:A8)  {K:Int→Prop} (h:Zgs a0 a1 K) (w0:World)  :
  Calls ZF7 98 #[.agg (ZF4 (ZF3 .i64 a0)),.agg (ZF4 (ZF3 .i64 a1))] w0 fun e w'=>∃ (r0:Int),
   e=.returned (vI r0)∧K r0∧Bel w0 w':=by
 unfold Zgs at h
 refine cof Tryz.func98 rfl 24 Tryz.ntmps98 ?_
 have hC:=ZGq (X:=Nox) w0 [] (by simp)
 refine sr (Yj (v:=.agg (ZF4 (ZF3 .i64 a0))) hC (ZF3 .i64 a0) rfl rfl fun b1 w3 hB_ hC=>Yj (v:=.agg (ZF4 (ZF3 .i64 a1))) hC (ZF3 .i64 a1) rfl rfl fun b4 w6 hB_ hC=>Zc (v:=vI 0) rfl (dn (ZF5 (sr (Zb (v:=vI 0) rfl (dn (ZGb ?_)))))))
 refine Yn (S:=Unit) _ _ (fun i10 s10 e_ w_=>Zy e_ [(2,vQ b1),(3,vQ b4),(6,vI (i10:Int))]∧Ctx Nox w0 w_ [blk b4 110 (ZF3 .i64 a1),blk b1 110 (ZF3 .i64 a0)] []) 8 ?_ ?_ (s0:=()) ?_ h
 ·clear hC h
  rintro i10 s10 e_ w10 nx10 K10 hi10 ⟨hS_,hC⟩ h hK10
  rw [ue hS_]
  refine sr (Zn rfl rfl (dn (ZF5 (Z8 rfl (decide_eq_true (by omega)) (ZF8 (Zd (ZF5 (ZGb (sr (Zb (v:=vI (i10:Int)) rfl (Zc (v:=vI (i10:Int)) rfl (dn (ZF5 ?_)))))))))))))
  refine cwd 6 mixed [0,1,3,0,8,24,63] [1,2,4,5] [0,3] (fun hM10 hM12 w11 hB_=>?_)
  replace hC:=hC.grow hB_
  refine bM 0 (vI (i10:Int)) rfl hM12 (Za 7 1) (bL 1 (.pointer (some ⟨b1,i10,none⟩)) rfl rfl hM10 (fun _ hB_=>by exact Jf i10 ZGs sc3.size rfl rfl (ZGm _) (by omega) (by omega)) (Za 7 3) (bL 2 (vI (a0.get i10)) rfl rfl hM10 (fun _ hB_=>by exact Yd (hC.grow hB_) 1 (vI (a0.get i10)) rfl sc3 rfl (ZGi _ _ hi10)) (Za 7 7) (bM 3 (vI (i10:Int)) rfl hM12 (Za 7 15) (bL 4 (.pointer (some ⟨b4,i10,none⟩)) rfl rfl hM10 (fun _ hB_=>by exact Jf i10 ZGs sc3.size rfl rfl (ZGm _) (by omega) (by omega)) (Za 7 31) (bL 5 (vI (a1.get i10)) rfl rfl hM10 (fun _ hB_=>by exact Yd (hC.grow hB_) 0 (vI (a1.get i10)) rfl sc3 rfl (ZGi _ _ hi10)) (Za 7 63) (Z2 6 (by decide) (by decide) (by kernel_rfl) (by kernel_rfl) rfl (Y4 rfl rfl (done (Z3 (Zd ?_))))))))))
  refine Zq rfl (fun hb10=>?_) (fun hb10=>?_)
  ·replace h:=ift h (ct hb10)
   refine ZF5 ?_
   refine cwd 6 mixed [0,1,3,0,8,24,63,127] [1,2,4,5] [0,3] (fun hM11 hM13 w12 hB_=>?_)
   replace hC:=hC.grow hB_
   refine bM 0 (vI (i10:Int)) rfl hM13 (Za 8 1) (bL 1 (.pointer (some ⟨b4,i10,none⟩)) rfl rfl hM11 (fun _ hB_=>by exact Jf i10 ZGs sc3.size rfl rfl (ZGm _) (by omega) (by omega)) (Za 8 3) (bL 2 (vI (a1.get i10)) rfl rfl hM11 (fun _ hB_=>by exact Yd (hC.grow hB_) 0 (vI (a1.get i10)) rfl sc3 rfl (ZGi _ _ hi10)) (Za 8 7) (bM 3 (vI (i10:Int)) rfl hM13 (Za 8 15) (bL 4 (.pointer (some ⟨b1,i10,none⟩)) rfl rfl hM11 (fun _ hB_=>by exact Jf i10 ZGs sc3.size rfl rfl (ZGm _) (by omega) (by omega)) (Za 8 31) (bL 5 (vI (a0.get i10)) rfl rfl hM11 (fun _ hB_=>by exact Yd (hC.grow hB_) 1 (vI (a0.get i10)) rfl sc3 rfl (ZGi _ _ hi10)) (Za 8 63) (Z2 6 (by decide) (by decide) (by kernel_rfl) (by kernel_rfl) rfl (Zaz rfl rfl (Zc (v:=vI (Zxa.wrap ((a1.get i10) - (a0.get i10)))) rfl (done (Z3 (Zd ?_)))))))))))
   refine ZGd (Zw (Ze (Ze (Zw (Ze ?_)))))
   exact Zj rfl (Zg rfl) ⟨Zxa.wrap ((a1.get i10) - (a0.get i10)),rfl,h,hC.below⟩ (.inl rfl)
  ·replace h:=Zk h (cf hb10)
   refine ZF8 (Zs (Zd (Zm (Zp rfl rfl (Zb (v:=vI (Zxa.wrap ((i10:Int)+1))) rfl (done ?_))))))
   exact hK10 () _ _ ⟨(sl ⟨rfl,rfl,(tr rfl (congrArg _ (Z6 hi10 (by decide)))),trivial⟩),hC⟩ h
 ·clear hC h
  rintro s10 e_ w13 K10 ⟨hS_,hC⟩ h
  rw [ue hS_]
  refine sr (Zn rfl rfl (dn (ZF5 (Z9 rfl (decide_eq_false (by omega)) ?_))))
  refine ZGj (Zl (Zl (Z5 ?_)))
  refine Zd (sr (Zc (v:=vI 0) rfl (dn (ZGd ?_))))
  exact Zj rfl (Zg rfl) ⟨0,rfl,h,hC.below⟩ (.inl rfl)
 ·skip
  exact⟨(slq rfl),hC⟩
theorem Zpm:Cmp ZF7 Tryz.sortPow_ren (EA .i64) OkP pcmp 98:=⟨Tryz.sortPow,⟨_,OkP.zero⟩,ag110,Zoc,⟨_,Tryz.func98,rfl,rfl⟩,fun a b ha hb w=>by
 refine(Zk6 a b (K:=fun r=>r=pcmp a b) (Zkq (K:=fun r=>r=pcmp a b) ha hb rfl) w).mono ?_
 rintro e w' ⟨r,rfl,rfl,hB⟩
 exact⟨rfl,hB⟩⟩
def Zeo (a0:List (A8×Int)) (K:List A8→Prop):Prop :=
 Zab (fun (q10:A8×Int) (s10:(List A8)) nx10=>(Xd (s10.length+1) 64∧nx10 (s10++[q10.1]))) (fun (s10:(List A8))=>Zkm OkP pcmp s10 (fun xs10=>K xs10)) a0.length a0 []
theorem Zpn (a0:List (A8×Int))  {K:List A8→Prop} (h:Zeo a0 K) (w0:World) (q0:(mapS b0 a0).holds w0) :
  Calls ZF7 90 #[.map (some b0)] w0 fun e w'=>∃ (r0:List A8) (z0_0:Value) (fz0:List Nat),
   e=.returned (z0_0)∧K r0∧(ZGk (Tr.sl 110 ((EA .i64).tr)) r0 [z0_0] fz0).holds w'∧(∀ b,b∈fz0→w0.heap.size≤b)∧Bel w0 w':=by
 unfold Zeo at h
 refine cof Tryz.func90 rfl 19 Tryz.ntmps90 ?_
 have hC:=ZGq (X:=Nox) w0 [mapS b0 a0] (al1 q0)
 refine sr (Zc (v:=.slice none 0 0) rfl (dn (sr (Jk (sz:=8) hC [] ((EA .i64).encs []) rfl (fun _=>Zpb  _) rfl (by decide) fun b2 w3 hB_ hC=>Zc (v:=.slice (some ⟨b2,0,none⟩) 0 0) rfl (dn (ZF5 (sr (Zb (v:=.map (some b0)) rfl (Zc3 hC 0 rfl ZG1 rfl fun r5 es6 ck7 w10 hB_ hn8 hbn9 hC=>dn (ZGb ?_))))))))))
 refine Zc7 (S:=(List A8)) _ _ (fun l10 s10 e_ w_=>∃ (v10:Value),∃ (la10:Option MapEntry),Zy e_ [(3,v10),(7,vQ r5)]∧Ctx Nox w0 w_ [itI (kvA .i64) (vvI .i64) r5 b0 es6 ck7 la10 l10,own 110 8 v10 s10.length ((EA .i64).encs s10)] [Jx b0 es6 ck7,mapS b0 a0]) ?_ (l0:=a0) (s0:=[]) ?_ h
 ·clear hC h
  rintro l10 s10 e_ w11 nx10 K10 ⟨v10,la10,hS_,hC⟩ h hK10
  rw [ue hS_]
  refine sr ?_
  refine Zc4 hC 0 0 rfl rfl hn8 hbn9 rfl (fun hr10=>?_) (fun q10 l11 ent10 w12 hp10 hk10 hv10 hC=>?_)
  ·replace h:=h.1 hr10
   refine Yu (v:=.bool false) rfl rfl (dn (ZF5 (Z9 rfl rfl ?_)))
   refine ZGj (Zl (Zl (Z5 ?_)))
   refine Zd (sr (Zb (v:=v10) rfl (Zob hC 1 Zpm rfl rfl Tryz.func104 rfl rfl rfl rfl h fun xs10 w13 h hC=>dn (sr (Zb (v:=v10) rfl (Zc (v:=v10) rfl (dn (ZGd ?_))))))))
   exact Zj rfl (Zg rfl) ⟨xs10,v10,(ZG2 (Zvi v10)),rfl,h,(Jc (hC.getM 1 rfl)),(X3 hC 1 rfl),hC.below⟩ (.inl rfl)
  ·replace h:=h.2 q10 l11 hp10
   refine Yu (v:=.bool true) rfl rfl (dn (ZF5 (Z8 rfl rfl (ZF8 (Zd (ZGb (sr (Zc5 hC 0 0 q10 rfl rfl hn8 rfl hk10 hv10 (Yu (v:=.agg (ZF4 (ZF3 .i64 q10.1))) rfl rfl (Z1 hC (ZF3 .i64 ZGa) Js rfl fun b10 w14 hB_ hC=>Zo (v:=.agg (ZF4 (ZF3 .i64 q10.1))) hC 0 (ZF3 .i64 q10.1) (ZF3 .i64 q10.1) rfl ag110.size rfl rfl rfl rfl rfl (ZGe rfl) rfl fun w15 hC=>dn (Zm (Zb (v:=v10) rfl (Yb hC 0 (ZF3 .i64 q10.1) rfl ag110 rfl rfl rfl (Jk (sz:=8) hC [(0,.agg (ZF4 (ZF3 .i64 q10.1)))] ((EA .i64).encs [q10.1]) rfl (fun _=>Zpc q10.1 _) rfl (by decide) fun b11 w16 hB_ hC=>?_))))))))))))))
   obtain ⟨hm10,h⟩:=h
   refine Zap hC 3 Tryz.underlying128 Zpd rfl (by decide) (by decide) rfl (J5 (hC.getM 0 rfl)) (fun q hq=>ZG5 (E:=(EA .i64)) _ q hq) rfl rfl hm10 fun v11 w17 hC=>?_
   replace hC:=Jm hC 3 ((s10++[q10.1]).length) ((EA .i64).encs (s10++[q10.1])) rfl (by simp) (by first | (simp [ZGu]; done) | simp [ZGu,ZG6])
   refine Zc (v:=v11) rfl (done (Zs ?_))
   exact hK10 q10 l11 (s10++[q10.1]) _ _ hp10 ⟨v11,(some ent10),(slq rfl),(hC.xM [2,3] rfl)⟩ h
 ·skip
  exact⟨.slice (some ⟨b2,0,none⟩) 0 0,none,(slq rfl),hC⟩
end Go.Proofs.YtheenipahifleaaGreat
